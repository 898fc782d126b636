/- Reading a law's arguments: from the form's own reading to cells. Generic: no program is named. -/
import Derived.Test.YtknghnmcckjjbaaRd
import Derived.ProofKit
import Derived.Deep.Slices
import Derived.Deep.Strs
import Derived.Lib.SmallJoins
namespace Go.Proofs.Ytknghnmcckjjbaa
open Go Go.RowKit

section
variable {H : Type} {enc : TypeId × Value → H} {P : Program} {w : World} {base : Nat} {spare : Nat → Bool} {held : Bool}

theorem rd_of_rows {a : Addr} {size len : Nat} (hs : 0 < size) (X : Nat → List Value) (h : ∀ i, i < len → w.cells? base (a.add (i * size)) size = some (X i)) :
    Rd w size (some a) len ((List.range len).flatMap X) := by
  have hX : ∀ i, i < len → (X i).length = size ∧ ∀ j, j < size → w.cell? ((a.add (i * size)).add j) = (X i)[j]? := fun i hi => by
    obtain ⟨_, h1, h2⟩ := World.cells?_some (h i hi)
    exact ⟨h1, h2⟩
  have hlen : ∀ k, k ≤ len → ((List.range k).flatMap X).length = k * size := by
    intro k
    induction k with
    | zero => simp
    | succ k ih =>
      intro hk
      rw [List.range_succ, List.flatMap_append, List.length_append, ih (by omega), Nat.succ_mul]
      simp [(hX k (by omega)).1]
  refine ⟨hlen len (Nat.le_refl _), fun hn => ?_⟩
  have hspot : a.spot = none := by
    have h0 := (hX 0 hn).2 0 hs
    have hx : (X 0)[0]? = some ((X 0)[0]'(by rw [(hX 0 hn).1]; exact hs)) := List.getElem?_eq_getElem _
    rw [hx] at h0
    simp only [Nat.zero_mul, Addr.add, if_true] at h0
    cases hsp : a.spot with
    | none => rfl
    | some s =>
      unfold World.cell? at h0
      split at h0
      · simp [hsp] at h0
      · cases h0
  obtain ⟨b, o, sp⟩ := a
  simp only at hspot
  subst hspot
  refine ⟨b, o, rfl, ?_⟩
  have key : ∀ k, k ≤ len → ∀ j u, ((List.range k).flatMap X)[j]? = some u → w.cell? ⟨b, o + j, none⟩ = some u := by
    intro k
    induction k with
    | zero => intro _ j u hu; simp at hu
    | succ k ih =>
      intro hk j u hu
      rw [List.range_succ, List.flatMap_append, List.getElem?_append] at hu
      split at hu
      · exact ih (by omega) j u hu
      · rename_i hj
        rw [hlen k (by omega)] at hj hu
        simp only [List.flatMap_cons, List.flatMap_nil, List.append_nil] at hu
        have hjs : j - k * size < size := by have := (List.getElem?_eq_some_iff.1 hu).1; rw [(hX k (by omega)).1] at this; exact this
        have := (hX k (by omega)).2 (j - k * size) hjs
        rw [Go.Deep.add_add, Addr.add_lit, hu] at this
        rw [← this]
        congr 2
        omega
  exact key len (Nat.le_refl _)

theorem op_int {t : TypeId} {fuel : Nat} {cs : List Value} {x : DataW H × List MemPlace} (ht : P.underlying t = some (.int .i64)) (h : DataW.trod enc P w base spare held fuel t cs = some x) :
    ∃ n : Int, cs = [.int .i64 n] ∧ -9223372036854775808 ≤ n ∧ n ≤ 9223372036854775807 := by
  obtain ⟨n, rfl, _, hn⟩ := DataW.trod_int ht h
  refine ⟨n, rfl, ?_⟩
  simpa [Lit.wf, IntKind.min, IntKind.max, IntKind.bits, IntKind.signed] using hn

variable {TI : TypeId}

theorem op_rec4 {t : TypeId} {f0 f1 f2 f3 : Field} {fuel : Nat} {cs : List Value} {x : DataW H × List MemPlace} (ht : P.underlying t = some (.struct #[f0, f1, f2, f3])) (ho : (f0.offset, f1.offset, f2.offset, f3.offset) = (0, 1, 2, 3))
    (hI : (f0.type, f1.type, f2.type, f3.type) = (TI, TI, TI, TI)) (hT : P.underlying TI = some (.int .i64)) (hc : P.cellsOf TI = 1) (hct : P.cellsOf t = 4)
    (h : DataW.trod enc P w base spare held fuel t cs = some x) : ∃ y : I4, cs = y.cells ∧ (-9223372036854775808 ≤ y.a ∧ y.a ≤ 9223372036854775807) ∧ (-9223372036854775808 ≤ y.b ∧ y.b ≤ 9223372036854775807) ∧ (-9223372036854775808 ≤ y.c ∧ y.c ≤ 9223372036854775807) ∧ (-9223372036854775808 ≤ y.d ∧ y.d ≤ 9223372036854775807) := by
  obtain ⟨y0, y1, y2, y3, n, _, hl, h0, h1, h2, h3⟩ := Go.Joins.trod_struct4 ht h
  simp only [Prod.mk.injEq] at ho hI
  obtain ⟨o0, o1, o2, o3⟩ := ho
  obtain ⟨i0, i1, i2, i3⟩ := hI
  rw [hct] at hl
  match cs, hl with
  | [c0, c1, c2, c3], _ =>
    rw [o0, i0, hc] at h0
    obtain ⟨n0, e0, b0⟩ := op_int hT h0
    simp at e0
    rw [o1, i1, hc] at h1
    obtain ⟨n1, e1, b1⟩ := op_int hT h1
    simp at e1
    rw [o2, i2, hc] at h2
    obtain ⟨n2, e2, b2⟩ := op_int hT h2
    simp at e2
    rw [o3, i3, hc] at h3
    obtain ⟨n3, e3, b3⟩ := op_int hT h3
    simp at e3
    exact ⟨⟨n0, n1, n2, n3⟩, by simp [I4.cells, e0, e1, e2, e3], b0, b1, b2, b3⟩
end

end Go.Proofs.Ytknghnmcckjjbaa
