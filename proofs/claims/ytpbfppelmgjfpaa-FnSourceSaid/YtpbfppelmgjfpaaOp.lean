/- A law's arguments as data trees. Generic: no program is named. -/
import Derived.Test.YtpbfppelmgjfpaaSo
import Derived.Test.YtpbfppelmgjfpaaOpen
namespace Go.Proofs.Ytpbfppelmgjfpaa
open Go Go.RowKit
set_option linter.unusedVariables false

section
variable {H : Type} {enc : TypeId × Value → H} {P : Program} {w : World} {base : Nat} {spare : Nat → Bool} {held : Bool}

theorem RdTs_flat {E : Type} [Dat E] [Flat E] {A : Foot} (x : E) : RdTs A w (Dat.tree x) (Flat.cells x) := (lits_rd (Flat.ok x)).2 rfl

/-- A slice whose elements read as data. -/
theorem opT_slice {E : Type} [Dat E] {t e : TypeId} {fuel : Nat} {cs : List Value} {x : DataW H × List MemPlace} (ht : P.underlying t = some (.slice e)) (hc : P.cellsOf e = Dat.size E)
    (h : DataW.trod enc P w base spare held fuel t cs = some x) (el : ∀ m cs' x', DataW.trod enc P w base spare held m e cs' = some x' → ∃ y : E, RdTs (fun _ => ¬ False) w (Dat.tree y) cs') :
    ∃ (a : Option Addr) (c : Nat) (l : List E), cs = [.slice a l.length c] ∧ l.length ≤ maxLen ∧ RdT (fun _ => ¬ False) w (rowT l) (.slice a l.length c) := by
  rcases Go.Deep.open_slice ht h with ⟨rfl, _⟩ | ⟨a, len, cap, m, n, D, Pl, rfl, _, hl, hm, hmm, _, hel⟩
  · exact ⟨none, 0, [], rfl, Nat.zero_le _, rd_nil _ _⟩
  · have hlm : len ≤ m := by rw [hmm]; split <;> omega
    have h1 : ∀ i, i < len → ∃ (y : E) (cs' : List Value), w.cells? base (a.add (i * Dat.size E)) (Dat.size E) = some cs' ∧ RdTs (fun _ => ¬ False) w (Dat.tree y) cs' := fun i hi => by
      obtain ⟨cs', h2, h3⟩ := hel i (by omega)
      obtain ⟨y, hy⟩ := el _ _ _ h3
      exact ⟨y, cs', by rw [← hc]; exact h2, hy⟩
    have h2 : ∀ k, k ≤ len → ∃ (l : List E) (X : List (List Value)), l.length = k ∧ X.length = k ∧ (∀ i c, X[i]? = some c → w.cells? base (a.add (i * Dat.size E)) (Dat.size E) = some c) ∧ RdTs (fun _ => ¬ False) w (l.flatMap Dat.tree) X.flatten := by
      intro k
      induction k with
      | zero => exact fun _ => ⟨[], [], rfl, rfl, fun i y hy => by simp at hy, by simp [RdTs]⟩
      | succ k ih =>
        intro hk
        obtain ⟨l, X, hl1, hX1, hX2, hr⟩ := ih (by omega)
        obtain ⟨y, cs', hy1, hy2⟩ := h1 k (by omega)
        refine ⟨l ++ [y], X ++ [cs'], by simp [hl1], by simp [hX1], fun i z hz => ?_, ?_⟩
        · rw [List.getElem?_append] at hz
          split at hz
          · exact hX2 i z hz
          · have : i - X.length = 0 := by
              have := (List.getElem?_eq_some_iff.1 hz).1
              simp at this; omega
            rw [this] at hz
            simp at hz
            subst hz
            rw [show i = k from by omega]
            exact hy1
        · rw [List.flatMap_append, List.flatten_append]
          exact hr.join (by simpa using hy2)
    obtain ⟨l, X, hl1, hX1, hX2, hr⟩ := h2 len (Nat.le_refl _)
    refine ⟨some a, cap, l, by rw [hl1], by rw [hl1]; exact Nat.le_trans hl hm, ?_⟩
    have hrd := rd_of_rows (w := w) (base := base) (a := a) (len := len) (Dat.pos (E := E)) (fun i => match X[i]? with | some y => y | none => []) (fun i hi => by
      have hx : X[i]? = some X[i] := List.getElem?_eq_getElem (by omega)
      rw [hx]
      exact hX2 i _ hx)
    have e : (List.range len).flatMap (fun i => match X[i]? with | some y => y | none => []) = X.flatten := by
      rw [← hX1]
      clear hrd hX1 hX2 h1 hel hr
      induction X with
      | nil => rfl
      | cons y X ih =>
        rw [List.length_cons, List.range_succ_eq_map, List.flatMap_cons, List.flatMap_map]
        simp only [List.getElem?_cons_zero, List.getElem?_cons_succ, List.flatten_cons]
        rw [ih]
    rw [e] at hrd
    simp only [rowT, RdT]
    refine ⟨flat_len l, some a, cap, by rw [hl1], by rw [hl1]; exact hl, ?_⟩
    by_cases h0 : l.length = 0
    · exact .inl h0
    · obtain ⟨b, o, ha, hcell⟩ := hrd.2 (by omega)
      have hX0 : 0 < X.flatten.length := by rw [hrd.1]; exact Nat.mul_pos (by omega) (Dat.pos (E := E))
      exact .inr ⟨b, o, X.flatten, ha, id, World.block_lt_of_cell? w _ (hcell 0 _ (List.getElem?_eq_getElem hX0)), hcell, hr⟩

theorem opE_u8 {t : TypeId} {fuel : Nat} {cs : List Value} {x : DataW H × List MemPlace} (ht : P.underlying t = some (.int .u8)) (h : DataW.trod enc P w base spare held fuel t cs = some x) : ∃ y : UInt8, RdTs (fun _ => ¬ False) w (Dat.tree y) cs := by
  obtain ⟨n, rfl, _, hn⟩ := DataW.trod_int ht h
  have hb : 0 ≤ n ∧ n ≤ 255 := by simpa [Lit.wf, IntKind.min, IntKind.max, IntKind.bits, IntKind.signed] using hn
  refine ⟨UInt8.ofNat n.toNat, ?_⟩
  have e : ((UInt8.ofNat n.toNat).toNat : Int) = n := by rw [UInt8.toNat_ofNat']; omega
  have := RdTs_flat (w := w) (A := fun _ => ¬ False) (UInt8.ofNat n.toNat)
  simp only [Flat.cells, e] at this
  exact this
variable {TI : TypeId}
/-- A slice as an argument. -/
theorem arg_slice {r : Reach} {b0 : Nat} {E : Type} [Dat E] {t e : TypeId} {v : Value} {d : DataW H} {p : List MemPlace} (ht : P.underlying t = some (.slice e)) (hc : P.cellsOf e = Dat.size E)
    (hv : Value.okWide P w r b0 t v) (h : DataW.Trod enc P w base spare held t v d p) (el : ∀ m cs' x', DataW.trod enc P w base spare held m e cs' = some x' → ∃ y : E, RdTs (fun _ => ¬ False) w (Dat.tree y) cs') :
    ∃ (a : Option Addr) (c : Nat) (l : List E), v = .slice a l.length c ∧ l.length ≤ maxLen ∧ RdT (fun _ => ¬ False) w (rowT l) (.slice a l.length c) := by
  obtain ⟨fuel, hf⟩ := h
  obtain ⟨a, c, l, h1, h2, h3⟩ := opT_slice ht hc hf el
  refine ⟨a, c, l, ?_, h2, h3⟩
  unfold Value.okWide at hv
  rw [ht] at hv
  cases v with
  | agg cs => simp [Cell.okWide, Cell.ok, ht] at hv
  | _ => simp [Value.cells] at h1 ⊢ <;> exact h1
end
end Go.Proofs.Ytpbfppelmgjfpaa
