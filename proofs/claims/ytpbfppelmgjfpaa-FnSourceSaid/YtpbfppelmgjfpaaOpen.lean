/- Reading a law's arguments: from the form's own reading to cells. Generic: no program is named. -/
import Derived.Test.YtpbfppelmgjfpaaRd
import Derived.ProofKit
import Derived.Deep.Slices
import Derived.Deep.Strs
import Derived.Lib.SmallJoins
namespace Go.Proofs.Ytpbfppelmgjfpaa
open Go Go.RowKit

section
variable {H : Type} {enc : TypeId × Value → H} {P : Program} {w : World} {base : Nat} {spare : Nat → Bool} {held : Bool}

theorem rd_of_rows {a : Addr} {size len : Nat} (hs : 0 < size) (X : Nat → List Value) (h : ∀ i, i < len → w.cells? base (a.add (i * size)) size = some (X i)) :
    Rd w size (some a) len ((List.range len).flatMap X) := by
  have hX : ∀ i, i < len → (X i).length = size ∧ ∀ j, j < size → w.cell? ((a.add (i * size)).add j) = (X i)[j]? := fun i hi => by
    obtain ⟨_, h1, h2⟩ := World.cells?_some (h i hi)
    exact ⟨h1, h2⟩
  have hlen : ∀ k, k ≤ len → ((List.range k).flatMap X).length = k * size := by
    intro k
    induction k with
    | zero => simp
    | succ k ih =>
      intro hk
      rw [List.range_succ, List.flatMap_append, List.length_append, ih (by omega), Nat.succ_mul]
      simp [(hX k (by omega)).1]
  refine ⟨hlen len (Nat.le_refl _), fun hn => ?_⟩
  have hspot : a.spot = none := by
    have h0 := (hX 0 hn).2 0 hs
    have hx : (X 0)[0]? = some ((X 0)[0]'(by rw [(hX 0 hn).1]; exact hs)) := List.getElem?_eq_getElem _
    rw [hx] at h0
    simp only [Nat.zero_mul, Addr.add, if_true] at h0
    cases hsp : a.spot with
    | none => rfl
    | some s =>
      unfold World.cell? at h0
      split at h0
      · simp [hsp] at h0
      · cases h0
  obtain ⟨b, o, sp⟩ := a
  simp only at hspot
  subst hspot
  refine ⟨b, o, rfl, ?_⟩
  have key : ∀ k, k ≤ len → ∀ j u, ((List.range k).flatMap X)[j]? = some u → w.cell? ⟨b, o + j, none⟩ = some u := by
    intro k
    induction k with
    | zero => intro _ j u hu; simp at hu
    | succ k ih =>
      intro hk j u hu
      rw [List.range_succ, List.flatMap_append, List.getElem?_append] at hu
      split at hu
      · exact ih (by omega) j u hu
      · rename_i hj
        rw [hlen k (by omega)] at hj hu
        simp only [List.flatMap_cons, List.flatMap_nil, List.append_nil] at hu
        have hjs : j - k * size < size := by have := (List.getElem?_eq_some_iff.1 hu).1; rw [(hX k (by omega)).1] at this; exact this
        have := (hX k (by omega)).2 (j - k * size) hjs
        rw [Go.Deep.add_add, Addr.add_lit, hu] at this
        rw [← this]
        congr 2
        omega
  exact key len (Nat.le_refl _)

variable {TI : TypeId}

end

end Go.Proofs.Ytpbfppelmgjfpaa
