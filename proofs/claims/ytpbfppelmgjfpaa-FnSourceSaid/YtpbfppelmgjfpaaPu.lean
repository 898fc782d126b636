/- Plain lemmas on lists for the laws. Generic: no program is named. -/
import Derived.Test.YtpbfppelmgjfpaaSd
namespace Go.Proofs.Ytpbfppelmgjfpaa
open Go Go.RowKit
set_option linter.unusedVariables false
set_option linter.unusedSimpArgs false
section
variable {E : Type}
theorem at?_nat (l : List E) (n : Nat) : at? l (n : Int) = l[n]? := by simp [at?]
theorem at?_lt {l : List E} {n : Nat} (h : n < l.length) : at? l (n : Int) = some l[n] := by rw [at?_nat, List.getElem?_eq_getElem h]
theorem at?_some_iff {l : List E} {i : Int} (h : 0 ≤ i ∧ i < (l.length : Int)) : ∃ x, at? l i = some x := by
  obtain ⟨n, rfl⟩ := Int.eq_ofNat_of_zero_le h.1
  exact ⟨l[n]'(by omega), at?_lt (by omega)⟩
theorem at?_mid {A : List E} {n : Nat} (h : A.length = n) (e : E) (B : List E) : at? (A ++ e :: B) (n : Int) = some e := by
  rw [at?_nat, ← h]; simp
theorem set_mid {A : List E} {n : Nat} (h : A.length = n) (e e' : E) (B : List E) : (A ++ e :: B).set (n : Int).toNat e' = A ++ e' :: B := by
  rw [Int.toNat_natCast, ← h]; simp
theorem drop_cons {l : List E} {n : Nat} (h : n < l.length) : l.drop n = l[n] :: l.drop (n + 1) := List.drop_eq_getElem_cons h
theorem drop_end {l : List E} {n : Nat} (h : ¬ n < l.length) : l.drop n = [] := List.drop_eq_nil_of_le (by omega)
end
theorem cast_succ (n : Nat) : ((n : Int) + 1) = ((n + 1 : Nat) : Int) := rfl
theorem lt_cast {n m : Nat} (h : n < m) : (n : Int) < (m : Int) := by omega
theorem ge_cast {n m : Nat} (h : ¬ n < m) : ¬ (n : Int) < (m : Int) := by omega
theorem in64_succ {n m : Nat} (h : n < m) (hm : m ≤ 9223372036854775807) : in64 ((n : Int) + 1) := by unfold in64; omega
theorem in64_of {x : Int} (h1 : -4611686018427387904 ≤ x) (h2 : x ≤ 4611686018427387904) : in64 x := by unfold in64; omega
def inB (x lo hi : Int) : Bool := decide (lo ≤ x) && decide (x ≤ hi)
theorem inB_true {x lo hi : Int} : inB x lo hi = true ↔ lo ≤ x ∧ x ≤ hi := by simp [inB]

end Go.Proofs.Ytpbfppelmgjfpaa
