/- What the functions on memories do, in plain Lean. -/
import Derived.Test.YtmhdjnmfioaciaaHp
import Derived.Test.YtmhdjnmfioaciaaG3
namespace Go.Proofs.Ytmhdjnmfioaciaa
open Go Go.RowKit
set_option linter.unusedVariables false
set_option linter.unusedSimpArgs false

theorem p_within (fuel : Nat) (x lo hi : Int) : m_impl_within fuel x lo hi = some (inB x lo hi) := by
  unfold m_impl_within inB; split <;> simp_all <;> omega
theorem p_l1In (fuel : Nat) (x lo hi : Int) : m_spec_l1In fuel x lo hi = some (inB x lo hi) := by
  unfold m_spec_l1In inB; split <;> simp_all <;> omega
theorem p_isValue (fuel : Nat) (x : Int) : m_impl_isValue fuel x = some (inB x 0 65535) := by simp [m_impl_isValue, p_within]
theorem p_isCell (fuel : Nat) (x : Int) : m_impl_isCell fuel x = some (inB x 0 7) := by simp [m_impl_isCell, p_within]
theorem p_isOwner (fuel : Nat) (x : Int) : m_impl_isOwner fuel x = some (inB x 1 99) := by simp [m_impl_isOwner, p_within]
theorem p_l3Val (fuel : Nat) (x : Int) : m_spec_l3Val fuel x = some (inB x 0 65535) := by simp [m_spec_l3Val, p_l1In]
theorem p_l3Cell (fuel : Nat) (x : Int) : m_spec_l3Cell fuel x = some (inB x 0 7) := by simp [m_spec_l3Cell, p_l1In]

/-! Lists of values. -/
def valsB (l : List Int) : Bool := l.all fun x => inB x 0 65535
theorem p_areValues_L (fuel : Nat) (x : List Int) (hl : x.length ≤ 4611686018427387904) : ∀ K n, n ≤ x.length → x.length < n + K →
    m_impl_areValues_L0 fuel x K (n : Int) = some (if valsB (x.drop n) = true then .brk () else .ret false) := by
  intro K
  induction K with
  | zero => intro n h1 h2; omega
  | succ K ih =>
    intro n h1 h2
    rw [m_impl_areValues_L0]
    by_cases h : n < x.length
    · rw [drop_cons h]
      have := ih (n + 1) (by omega) (by omega)
      simp only [if_pos (lt_cast h), at?_lt h, Option.bind_some, p_isValue, if_pos (in64_succ h (show x.length ≤ _ by omega)), valsB, List.all_cons]
      by_cases e : inB x[n] 0 65535 = true
      · simp only [e, if_true, Bool.true_and]; exact this
      · simp [Bool.eq_false_iff.2 e]
    · rw [if_neg (ge_cast h), drop_end h]; rfl
theorem p_areValues (fuel : Nat) (x : List Int) (n : Int) (hl : x.length ≤ 4611686018427387904) (hf : x.length < fuel) : m_impl_areValues fuel x n = some (valsB x && decide ((x.length : Int) = n)) := by
  unfold m_impl_areValues
  have := p_areValues_L fuel x hl fuel 0 (by omega) (by omega)
  simp only [List.drop_zero] at this
  erw [this]
  cases valsB x <;> simp [contL, un1]
theorem p_l3Vals_L (fuel : Nat) (x : List Int) (hl : x.length ≤ 4611686018427387904) : ∀ K n, n ≤ x.length → x.length < n + K →
    m_spec_l3Vals_L0 fuel x K (n : Int) = some (if valsB (x.drop n) = true then .brk () else .ret false) := by
  intro K
  induction K with
  | zero => intro n h1 h2; omega
  | succ K ih =>
    intro n h1 h2
    rw [m_spec_l3Vals_L0]
    by_cases h : n < x.length
    · rw [drop_cons h]
      have := ih (n + 1) (by omega) (by omega)
      simp only [if_pos (lt_cast h), at?_lt h, Option.bind_some, p_l3Val, if_pos (in64_succ h (show x.length ≤ _ by omega)), valsB, List.all_cons]
      by_cases e : inB x[n] 0 65535 = true
      · simp only [e, if_true, Bool.true_and]; exact this
      · simp [Bool.eq_false_iff.2 e]
    · rw [if_neg (ge_cast h), drop_end h]; rfl
theorem p_l3Vals (fuel : Nat) (x : List Int) (hl : x.length ≤ 4611686018427387904) (hf : x.length < fuel) : m_spec_l3Vals fuel x = some (valsB x && decide ((x.length : Int) = 8)) := by
  unfold m_spec_l3Vals
  have := p_l3Vals_L fuel x hl fuel 0 (by omega) (by omega)
  simp only [List.drop_zero] at this
  by_cases h8 : (x.length : Int) = 8
  · rw [if_pos h8]
    erw [this]
    cases valsB x <;> simp [contL, un1, h8]
  · rw [if_neg h8]; simp [h8]

/-! Memories. -/
def wordB (k : Int) (w : I3) : Bool := inB w.a 0 65535 && inB w.b 0 k && inB w.c 0 99
def memB (k : Int) (l : List I3) : Bool := decide ((l.length : Int) = 8) && inB k 0 1000000 && l.all (wordB k)
theorem p_MemOk_L (fuel : Nat) (k : Int) (x : List I3) (hl : x.length ≤ 4611686018427387904) : ∀ K n, n ≤ x.length → x.length < n + K →
    m_impl_MemOk_L0 fuel k x K (n : Int) = some (if (x.drop n).all (wordB k) = true then .brk () else .ret false) := by
  intro K
  induction K with
  | zero => intro n h1 h2; omega
  | succ K ih =>
    intro n h1 h2
    rw [m_impl_MemOk_L0]
    by_cases h : n < x.length
    · rw [drop_cons h]
      have := ih (n + 1) (by omega) (by omega)
      simp only [if_pos (lt_cast h), at?_lt h, Option.bind_some, p_isValue, p_within, if_pos (in64_succ h (show x.length ≤ _ by omega)), List.all_cons, wordB]
      by_cases e1 : inB x[n].a 0 65535 = true <;> by_cases e2 : inB x[n].b 0 k = true <;> by_cases e3 : inB x[n].c 0 99 = true <;> simp only [e1, e2, e3, Bool.eq_false_iff.2, if_true, Bool.true_and, Bool.false_and, Bool.false_eq_true, if_false, Bool.and_false] <;> first | exact this | simp
    · rw [if_neg (ge_cast h), drop_end h]; rfl
theorem p_MemOk (fuel : Nat) (k : Int) (x : List I3) (hl : x.length ≤ 4611686018427387904) (hf : x.length < fuel) : m_impl_MemOk fuel k x = some (memB k x) := by
  unfold m_impl_MemOk memB
  have := p_MemOk_L fuel k x hl fuel 0 (by omega) (by omega)
  simp only [List.drop_zero] at this
  erw [this]
  cases x.all (wordB k) <;> simp [contL, un1, p_within]
  split <;> simp_all
theorem p_SMemOk_L (fuel : Nat) (k : Int) (x : List I3) (hl : x.length ≤ 4611686018427387904) : ∀ K n, n ≤ x.length → x.length < n + K →
    m_spec_MemOk_L0 fuel k x K (n : Int) = some (if (x.drop n).all (wordB k) = true then .brk () else .ret false) := by
  intro K
  induction K with
  | zero => intro n h1 h2; omega
  | succ K ih =>
    intro n h1 h2
    rw [m_spec_MemOk_L0]
    by_cases h : n < x.length
    · rw [drop_cons h]
      have := ih (n + 1) (by omega) (by omega)
      simp only [if_pos (lt_cast h), at?_lt h, Option.bind_some, p_l3Val, p_l1In, if_pos (in64_succ h (show x.length ≤ _ by omega)), List.all_cons, wordB]
      by_cases e1 : inB x[n].a 0 65535 = true <;> by_cases e2 : inB x[n].b 0 k = true <;> by_cases e3 : inB x[n].c 0 99 = true <;> simp only [e1, e2, e3, Bool.eq_false_iff.2, if_true, Bool.true_and, Bool.false_and, Bool.false_eq_true, if_false, Bool.and_false] <;> first | exact this | simp
    · rw [if_neg (ge_cast h), drop_end h]; rfl
theorem p_SMemOk (fuel : Nat) (k : Int) (x : List I3) (hl : x.length ≤ 4611686018427387904) (hf : x.length < fuel) : m_spec_MemOk fuel k x = some (memB k x) := by
  unfold m_spec_MemOk memB
  have := p_SMemOk_L fuel k x hl fuel 0 (by omega) (by omega)
  simp only [List.drop_zero] at this
  by_cases h8 : (x.length : Int) = 8
  · rw [if_pos h8, p_l1In]
    simp only [Option.bind_some, h8, decide_true, Bool.true_and]
    cases inB k 0 1000000 with
    | false => simp
    | true =>
      simp only [if_true, Bool.true_and]
      erw [this]
      cases x.all (wordB k) <;> simp [contL, un1]
  · rw [if_neg h8]; simp [h8]
theorem memB_len {k : Int} {l : List I3} (h : memB k l = true) : l.length = 8 := by
  simp only [memB, Bool.and_eq_true, decide_eq_true_eq] at h; omega
theorem p_copyMem (fuel : Nat) (k : Int) (x : List I3) (hl : x.length ≤ 1048576) : m_impl_copyMem fuel k x = some (k, x) := by
  unfold m_impl_copyMem; rw [if_pos (by simp; omega)]; simp
theorem p_l3Copy (fuel : Nat) (k : Int) (x : List I3) (hl : x.length ≤ 1048576) : m_spec_l3Copy fuel k x = some (k, x) := by
  unfold m_spec_l3Copy; rw [if_pos (by simp; omega)]; simp

/-! Of the laws' helpers on memories. -/
theorem p_szWordS (fuel : Nat) (x : List I3) (q : Int) (hl : x.length ≤ maxLen) (hq : 0 ≤ q ∧ q ≤ 1048576) : m_laws_szWordS fuel x q = some (if q < (x.length : Int) then -1 else q - (x.length : Int)) := by
  unfold maxLen at hl
  unfold m_laws_szWordS
  rw [if_pos (by unfold in64; omega)]
  by_cases h : q < x.length
  · rw [if_pos h, if_pos (by omega)]
  · rw [if_neg h, if_neg (by omega)]
theorem p_szMem (fuel : Nat) (k : Int) (x : List I3) (hl : x.length ≤ maxLen) : m_laws_szMem fuel k x 1048576 = some (if (1048576 : Int) < (x.length : Int) then -1 else 1048576 - (x.length : Int)) := by
  unfold m_laws_szMem
  rw [p_szWordS fuel x _ hl (by omega)]
  simp only [Option.bind_some]
  by_cases h : (1048576 : Int) < (x.length : Int)
  · simp [h]
  · simp only [if_neg h]
    rw [if_neg (by omega)]
theorem p_toMem (fuel : Nat) (k : Int) (x : List I3) (hl : x.length ≤ 1048576) (hf : x.length < fuel) : m_laws_toMem fuel k x = some (k, x) := by
  simp [m_laws_toMem, p_toWordS fuel x hl hf]
theorem p_eqMem (fuel : Nat) (k k' : Int) (x y : List I3) (hl : x.length ≤ 1048576) (hf : x.length < fuel) : m_laws_eqMem fuel k x k' y = some (decide (k = k' ∧ x = y)) := by
  unfold m_laws_eqMem
  rw [p_eqWordS fuel x y (by omega) hf]
  by_cases h1 : k = k' <;> by_cases h2 : x = y <;> simp [h1, h2]
theorem p_markMem (fuel : Nat) (k : Int) (x : List I3) (hl : x.length ≤ 1048576) (hf : x.length < fuel) (k0 : Int) (h0 : 0 ≤ k0 ∧ k0 ≤ 1099511627776) : m_laws_markMem fuel k x k0 = some (k0 + 3 * (x.length : Int), seq3 k0 x.length) := by
  simp [m_laws_markMem, p_markWordS fuel x hl hf k0 h0, bind2]
theorem p_heldMem (fuel : Nat) (k : Int) (n : Nat) (hl : n ≤ 1048576) (hf : n < fuel) (k0 : Int) (h0 : 0 ≤ k0 ∧ k0 ≤ 1099511627776) : m_laws_heldMem fuel k (seq3 k0 n) k0 = some (k0 + 3 * (n : Int)) := by
  simp only [m_laws_heldMem, p_heldWordS fuel n hl hf k0 h0, Option.bind_some]
  rw [if_neg (by omega)]
end Go.Proofs.Ytmhdjnmfioaciaa
