/- Arguments that hold slices of slices: how they read, and that none is longer than a slice can be. Generic: no program is named. -/
import Derived.Test.YtknghnmcckjjbaaOp
namespace Go.Proofs.Ytknghnmcckjjbaa
open Go Go.RowKit
set_option linter.unusedVariables false

mutual
/-- No slice in it is longer than a slice can be. -/
def TB : T → Prop
  | .lit _ => True
  | .row _ n xs => n ≤ maxLen ∧ TBs xs
def TBs : List T → Prop
  | [] => True
  | x :: xs => TB x ∧ TBs xs
end
theorem TBs_append : ∀ {xs ys : List T}, TBs xs → TBs ys → TBs (xs ++ ys)
  | [], ys, _, h => h
  | x :: xs, ys, h, k => ⟨h.1, TBs_append h.2 k⟩
theorem TBs_left : ∀ {xs ys : List T}, TBs (xs ++ ys) → TBs xs
  | [], ys, _ => trivial
  | x :: xs, ys, h => ⟨h.1, TBs_left h.2⟩
theorem TBs_right : ∀ {xs ys : List T}, TBs (xs ++ ys) → TBs ys
  | [], ys, h => h
  | x :: xs, ys, h => TBs_right (xs := xs) h.2
theorem TB_row {E : Type} [Dat E] {l : List E} (h : TB (rowT l)) : l.length ≤ maxLen ∧ ∀ x ∈ l, TBs (Dat.tree x) := by
  refine ⟨h.1, ?_⟩
  have h2 : TBs (l.flatMap Dat.tree) := h.2
  clear h
  induction l with
  | nil => intro x hx; simp at hx
  | cons y l ih =>
    rw [List.flatMap_cons] at h2
    intro x hx
    rcases List.mem_cons.1 hx with rfl | hx
    · exact TBs_left h2
    · exact ih (TBs_right h2) x hx
theorem TBs_lits : ∀ {ts : List T} {vs : List Value}, T.lits ts = some vs → TBs ts
  | [], _, _ => trivial
  | .lit u :: ts, vs, h => by
    cases hh : T.lits ts with
    | none => simp [T.lits, hh] at h
    | some q => exact ⟨trivial, TBs_lits hh⟩
  | .row .. :: ts, vs, h => by simp [T.lits] at h
/-- Scalars alone. -/
theorem exB {K : Type} [Dat K] [Flat K] {w : World} {cs : List Value} (h : ∃ y : K, RdTs (fun _ => ¬ False) w (Dat.tree y) cs) : ∃ y : K, RdTs (fun _ => ¬ False) w (Dat.tree y) cs ∧ TBs (Dat.tree y) := by
  obtain ⟨y, h⟩ := h
  exact ⟨y, h, TBs_lits (Flat.ok y)⟩
section
variable {H : Type} {enc : TypeId × Value → H} {P : Program} {w : World} {base : Nat} {spare : Nat → Bool} {held : Bool}

/-- A slice whose elements read as data. -/
theorem opQ_slice {E : Type} [Dat E] {t e : TypeId} {fuel : Nat} {cs : List Value} {x : DataW H × List MemPlace} (ht : P.underlying t = some (.slice e)) (hc : P.cellsOf e = Dat.size E)
    (h : DataW.trod enc P w base spare held fuel t cs = some x) (el : ∀ m cs' x', DataW.trod enc P w base spare held m e cs' = some x' → ∃ y : E, RdTs (fun _ => ¬ False) w (Dat.tree y) cs' ∧ TBs (Dat.tree y)) :
    ∃ (a : Option Addr) (c : Nat) (l : List E), cs = [.slice a l.length c] ∧ TB (rowT l) ∧ RdT (fun _ => ¬ False) w (rowT l) (.slice a l.length c) := by
  rcases Go.Deep.open_slice ht h with ⟨rfl, _⟩ | ⟨a, len, cap, m, n, D, Pl, rfl, _, hl, hm, hmm, _, hel⟩
  · exact ⟨none, 0, [], rfl, ⟨Nat.zero_le _, trivial⟩, rd_nil _ _⟩
  · have hlm : len ≤ m := by rw [hmm]; split <;> omega
    have h1 : ∀ i, i < len → ∃ (y : E) (cs' : List Value), w.cells? base (a.add (i * Dat.size E)) (Dat.size E) = some cs' ∧ RdTs (fun _ => ¬ False) w (Dat.tree y) cs' ∧ TBs (Dat.tree y) := fun i hi => by
      obtain ⟨cs', h2, h3⟩ := hel i (by omega)
      obtain ⟨y, hy⟩ := el _ _ _ h3
      exact ⟨y, cs', by rw [← hc]; exact h2, hy⟩
    have h2 : ∀ k, k ≤ len → ∃ (l : List E) (X : List (List Value)), l.length = k ∧ X.length = k ∧ (∀ i c, X[i]? = some c → w.cells? base (a.add (i * Dat.size E)) (Dat.size E) = some c) ∧ RdTs (fun _ => ¬ False) w (l.flatMap Dat.tree) X.flatten ∧ TBs (l.flatMap Dat.tree) := by
      intro k
      induction k with
      | zero => exact fun _ => ⟨[], [], rfl, rfl, fun i y hy => by simp at hy, by simp [RdTs], by simp [TBs]⟩
      | succ k ih =>
        intro hk
        obtain ⟨l, X, hl1, hX1, hX2, hr, htb⟩ := ih (by omega)
        obtain ⟨y, cs', hy1, hy2, hy3⟩ := h1 k (by omega)
        refine ⟨l ++ [y], X ++ [cs'], by simp [hl1], by simp [hX1], fun i z hz => ?_, ?_, ?_⟩
        · rw [List.getElem?_append] at hz
          split at hz
          · exact hX2 i z hz
          · have : i - X.length = 0 := by
              have := (List.getElem?_eq_some_iff.1 hz).1
              simp at this; omega
            rw [this] at hz
            simp at hz
            subst hz
            rw [show i = k from by omega]
            exact hy1
        · rw [List.flatMap_append, List.flatten_append]
          exact hr.join (by simpa using hy2)
        · rw [List.flatMap_append]; exact TBs_append htb (by simpa using hy3)
    obtain ⟨l, X, hl1, hX1, hX2, hr, htb⟩ := h2 len (Nat.le_refl _)
    refine ⟨some a, cap, l, by rw [hl1], ⟨by rw [hl1]; exact Nat.le_trans hl hm, htb⟩, ?_⟩
    have hrd := rd_of_rows (w := w) (base := base) (a := a) (len := len) (Dat.pos (E := E)) (fun i => match X[i]? with | some y => y | none => []) (fun i hi => by
      have hx : X[i]? = some X[i] := List.getElem?_eq_getElem (by omega)
      rw [hx]
      exact hX2 i _ hx)
    have e : (List.range len).flatMap (fun i => match X[i]? with | some y => y | none => []) = X.flatten := by
      rw [← hX1]
      clear hrd hX1 hX2 h1 hel hr htb
      induction X with
      | nil => rfl
      | cons y X ih =>
        rw [List.length_cons, List.range_succ_eq_map, List.flatMap_cons, List.flatMap_map]
        simp only [List.getElem?_cons_zero, List.getElem?_cons_succ, List.flatten_cons]
        rw [ih]
    rw [e] at hrd
    simp only [rowT, RdT]
    refine ⟨flat_len l, some a, cap, by rw [hl1], by rw [hl1]; exact hl, ?_⟩
    by_cases h0 : l.length = 0
    · exact .inl h0
    · obtain ⟨b, o, ha, hcell⟩ := hrd.2 (by omega)
      have hX0 : 0 < X.flatten.length := by rw [hrd.1]; exact Nat.mul_pos (by omega) (Dat.pos (E := E))
      exact .inr ⟨b, o, X.flatten, ha, id, World.block_lt_of_cell? w _ (hcell 0 _ (List.getElem?_eq_getElem hX0)), hcell, hr⟩

theorem opQ_one {E : Type} [Dat E] {K : Type} [Dat K] (mk : List E → K) (hmk : ∀ l, Dat.tree (mk l) = [rowT l]) {t e s : TypeId} {f0 : Field} {fuel : Nat} {cs : List Value} {x : DataW H × List MemPlace} (ht : P.underlying t = some (.struct #[f0])) (ho : f0.offset = 0) (hs : f0.type = s) (hct : P.cellsOf t = 1) (hcs : P.cellsOf s = 1)
    (hsu : P.underlying s = some (.slice e)) (hce : P.cellsOf e = Dat.size E) (h : DataW.trod enc P w base spare held fuel t cs = some x) (el : ∀ m cs' x', DataW.trod enc P w base spare held m e cs' = some x' → ∃ y : E, RdTs (fun _ => ¬ False) w (Dat.tree y) cs' ∧ TBs (Dat.tree y)) :
    ∃ y : K, RdTs (fun _ => ¬ False) w (Dat.tree y) cs ∧ TBs (Dat.tree y) := by
  obtain ⟨y0, n, hl, h0⟩ := trod_struct1' ht h
  rw [hct] at hl
  match cs, hl with
  | [c0], _ =>
    rw [ho, hs, hcs] at h0
    obtain ⟨a, c, l, e1, tb, hr⟩ := opQ_slice hsu hce h0 el
    refine ⟨mk l, ?_⟩
    simp only [List.drop_zero, List.take_succ_cons, List.take_zero, List.cons.injEq, and_true] at e1
    rw [hmk, e1]
    simp only [RdTs, TBs]
    exact ⟨⟨_, [], rfl, hr, rfl⟩, tb, trivial⟩
theorem opQ_two {E1 E2 : Type} [Dat E1] [Dat E2] {K : Type} [Dat K] (mk : List E1 → List E2 → K) (hmk : ∀ l m, Dat.tree (mk l m) = [rowT l, rowT m]) {t e1 s1 e2 s2 : TypeId} {f0 f1 : Field} {fuel : Nat} {cs : List Value} {x : DataW H × List MemPlace} (ht : P.underlying t = some (.struct #[f0, f1]))
    (ho : (f0.offset, f1.offset) = (0, 1)) (hs : (f0.type, f1.type) = (s1, s2)) (hct : P.cellsOf t = 2) (hcs1 : P.cellsOf s1 = 1) (hcs2 : P.cellsOf s2 = 1)
    (hsu1 : P.underlying s1 = some (.slice e1)) (hce1 : P.cellsOf e1 = Dat.size E1) (hsu2 : P.underlying s2 = some (.slice e2)) (hce2 : P.cellsOf e2 = Dat.size E2) (h : DataW.trod enc P w base spare held fuel t cs = some x)
    (el1 : ∀ m cs' x', DataW.trod enc P w base spare held m e1 cs' = some x' → ∃ y : E1, RdTs (fun _ => ¬ False) w (Dat.tree y) cs' ∧ TBs (Dat.tree y)) (el2 : ∀ m cs' x', DataW.trod enc P w base spare held m e2 cs' = some x' → ∃ y : E2, RdTs (fun _ => ¬ False) w (Dat.tree y) cs' ∧ TBs (Dat.tree y)) :
    ∃ y : K, RdTs (fun _ => ¬ False) w (Dat.tree y) cs ∧ TBs (Dat.tree y) := by
  obtain ⟨y0, y1, n, _, hl, h0, h1⟩ := Go.ChangeShapes.trod_struct2 ht h
  simp only [Prod.mk.injEq] at ho hs
  rw [hct] at hl
  match cs, hl with
  | [c0, c1], _ =>
    rw [ho.1, hs.1, hcs1] at h0
    rw [ho.2, hs.2, hcs2] at h1
    obtain ⟨a, c, l, q1, tb1, hr1⟩ := opQ_slice hsu1 hce1 h0 el1
    obtain ⟨a2, c2, l2, q2, tb2, hr2⟩ := opQ_slice hsu2 hce2 h1 el2
    refine ⟨mk l l2, ?_⟩
    simp only [List.drop_zero, List.drop_succ_cons, List.take_succ_cons, List.take_zero, List.cons.injEq, and_true] at q1 q2
    rw [hmk, q1, q2]
    simp only [RdTs, TBs]
    exact ⟨⟨_, _, rfl, hr1, _, [], rfl, hr2, rfl⟩, tb1, tb2, trivial⟩
/-- A slice as an argument. -/
theorem argQ_slice {r : Reach} {b0 : Nat} {E : Type} [Dat E] {t e : TypeId} {v : Value} {d : DataW H} {p : List MemPlace} (ht : P.underlying t = some (.slice e)) (hc : P.cellsOf e = Dat.size E)
    (hv : Value.okWide P w r b0 t v) (h : DataW.Trod enc P w base spare held t v d p) (el : ∀ m cs' x', DataW.trod enc P w base spare held m e cs' = some x' → ∃ y : E, RdTs (fun _ => ¬ False) w (Dat.tree y) cs' ∧ TBs (Dat.tree y)) :
    ∃ (a : Option Addr) (c : Nat) (l : List E), v = .slice a l.length c ∧ TB (rowT l) ∧ RdT (fun _ => ¬ False) w (rowT l) (.slice a l.length c) := by
  obtain ⟨fuel, hf⟩ := h
  obtain ⟨a, c, l, h1, h2, h3⟩ := opQ_slice ht hc hf el
  refine ⟨a, c, l, ?_, h2, h3⟩
  unfold Value.okWide at hv
  rw [ht] at hv
  cases v with
  | agg cs => simp [Cell.okWide, Cell.ok, ht] at hv
  | _ => simp [Value.cells] at h1 ⊢ <;> exact h1
end
end Go.Proofs.Ytknghnmcckjjbaa
