/- A law's arguments as data trees. Generic: no program is named. -/
import Derived.Test.YtknghnmcckjjbaaSo
import Derived.Test.YtknghnmcckjjbaaOpen
namespace Go.Proofs.Ytknghnmcckjjbaa
open Go Go.RowKit
set_option linter.unusedVariables false

section
variable {H : Type} {enc : TypeId × Value → H} {P : Program} {w : World} {base : Nat} {spare : Nat → Bool} {held : Bool}

theorem RdTs_flat {E : Type} [Dat E] [Flat E] {A : Foot} (x : E) : RdTs A w (Dat.tree x) (Flat.cells x) := (lits_rd (Flat.ok x)).2 rfl

/-- A slice whose elements read as data. -/
theorem opT_slice {E : Type} [Dat E] {t e : TypeId} {fuel : Nat} {cs : List Value} {x : DataW H × List MemPlace} (ht : P.underlying t = some (.slice e)) (hc : P.cellsOf e = Dat.size E)
    (h : DataW.trod enc P w base spare held fuel t cs = some x) (el : ∀ m cs' x', DataW.trod enc P w base spare held m e cs' = some x' → ∃ y : E, RdTs (fun _ => ¬ False) w (Dat.tree y) cs') :
    ∃ (a : Option Addr) (c : Nat) (l : List E), cs = [.slice a l.length c] ∧ l.length ≤ maxLen ∧ RdT (fun _ => ¬ False) w (rowT l) (.slice a l.length c) := by
  rcases Go.Deep.open_slice ht h with ⟨rfl, _⟩ | ⟨a, len, cap, m, n, D, Pl, rfl, _, hl, hm, hmm, _, hel⟩
  · exact ⟨none, 0, [], rfl, Nat.zero_le _, rd_nil _ _⟩
  · have hlm : len ≤ m := by rw [hmm]; split <;> omega
    have h1 : ∀ i, i < len → ∃ (y : E) (cs' : List Value), w.cells? base (a.add (i * Dat.size E)) (Dat.size E) = some cs' ∧ RdTs (fun _ => ¬ False) w (Dat.tree y) cs' := fun i hi => by
      obtain ⟨cs', h2, h3⟩ := hel i (by omega)
      obtain ⟨y, hy⟩ := el _ _ _ h3
      exact ⟨y, cs', by rw [← hc]; exact h2, hy⟩
    have h2 : ∀ k, k ≤ len → ∃ (l : List E) (X : List (List Value)), l.length = k ∧ X.length = k ∧ (∀ i c, X[i]? = some c → w.cells? base (a.add (i * Dat.size E)) (Dat.size E) = some c) ∧ RdTs (fun _ => ¬ False) w (l.flatMap Dat.tree) X.flatten := by
      intro k
      induction k with
      | zero => exact fun _ => ⟨[], [], rfl, rfl, fun i y hy => by simp at hy, by simp [RdTs]⟩
      | succ k ih =>
        intro hk
        obtain ⟨l, X, hl1, hX1, hX2, hr⟩ := ih (by omega)
        obtain ⟨y, cs', hy1, hy2⟩ := h1 k (by omega)
        refine ⟨l ++ [y], X ++ [cs'], by simp [hl1], by simp [hX1], fun i z hz => ?_, ?_⟩
        · rw [List.getElem?_append] at hz
          split at hz
          · exact hX2 i z hz
          · have : i - X.length = 0 := by
              have := (List.getElem?_eq_some_iff.1 hz).1
              simp at this; omega
            rw [this] at hz
            simp at hz
            subst hz
            rw [show i = k from by omega]
            exact hy1
        · rw [List.flatMap_append, List.flatten_append]
          exact hr.join (by simpa using hy2)
    obtain ⟨l, X, hl1, hX1, hX2, hr⟩ := h2 len (Nat.le_refl _)
    refine ⟨some a, cap, l, by rw [hl1], by rw [hl1]; exact Nat.le_trans hl hm, ?_⟩
    have hrd := rd_of_rows (w := w) (base := base) (a := a) (len := len) (Dat.pos (E := E)) (fun i => match X[i]? with | some y => y | none => []) (fun i hi => by
      have hx : X[i]? = some X[i] := List.getElem?_eq_getElem (by omega)
      rw [hx]
      exact hX2 i _ hx)
    have e : (List.range len).flatMap (fun i => match X[i]? with | some y => y | none => []) = X.flatten := by
      rw [← hX1]
      clear hrd hX1 hX2 h1 hel hr
      induction X with
      | nil => rfl
      | cons y X ih =>
        rw [List.length_cons, List.range_succ_eq_map, List.flatMap_cons, List.flatMap_map]
        simp only [List.getElem?_cons_zero, List.getElem?_cons_succ, List.flatten_cons]
        rw [ih]
    rw [e] at hrd
    simp only [rowT, RdT]
    refine ⟨flat_len l, some a, cap, by rw [hl1], by rw [hl1]; exact hl, ?_⟩
    by_cases h0 : l.length = 0
    · exact .inl h0
    · obtain ⟨b, o, ha, hcell⟩ := hrd.2 (by omega)
      have hX0 : 0 < X.flatten.length := by rw [hrd.1]; exact Nat.mul_pos (by omega) (Dat.pos (E := E))
      exact .inr ⟨b, o, X.flatten, ha, id, World.block_lt_of_cell? w _ (hcell 0 _ (List.getElem?_eq_getElem hX0)), hcell, hr⟩

theorem opE_int {t : TypeId} {fuel : Nat} {cs : List Value} {x : DataW H × List MemPlace} (ht : P.underlying t = some (.int .i64)) (h : DataW.trod enc P w base spare held fuel t cs = some x) : ∃ y : Int, RdTs (fun _ => ¬ False) w (Dat.tree y) cs := by
  obtain ⟨n, rfl, _⟩ := op_int ht h
  exact ⟨n, RdTs_flat n⟩
variable {TI : TypeId}
theorem opE_rec4 {t : TypeId} {f0 f1 f2 f3 : Field} {fuel : Nat} {cs : List Value} {x : DataW H × List MemPlace} (ht : P.underlying t = some (.struct #[f0, f1, f2, f3])) (ho : (f0.offset, f1.offset, f2.offset, f3.offset) = (0, 1, 2, 3)) (hI : (f0.type, f1.type, f2.type, f3.type) = (TI, TI, TI, TI)) (hT : P.underlying TI = some (.int .i64)) (hc : P.cellsOf TI = 1) (hct : P.cellsOf t = 4)
    (h : DataW.trod enc P w base spare held fuel t cs = some x) : ∃ y : I4, RdTs (fun _ => ¬ False) w (Dat.tree y) cs := by
  obtain ⟨y, rfl, _⟩ := op_rec4 ht ho hI hT hc hct h
  exact ⟨y, RdTs_flat y⟩
/-- A struct of one field. -/
theorem trod_struct1' {t : TypeId} {f0 : Field} {fuel : Nat} {cs : List Value} {x : DataW H × List MemPlace} (ht : P.underlying t = some (.struct #[f0])) (h : DataW.trod enc P w base spare held fuel t cs = some x) :
    ∃ y0 n, cs.length = P.cellsOf t ∧ DataW.trod enc P w base spare held n f0.type ((cs.drop f0.offset).take (P.cellsOf f0.type)) = some y0 := by
  obtain ⟨xs, n, _, rfl, hl, hlen, hf⟩ := DataW.trod_struct ht h
  match xs, hlen with
  | [y0], _ => exact ⟨y0, n, hl, by simpa using hf 0 f0 rfl⟩
end
end Go.Proofs.Ytknghnmcckjjbaa
