/- What the functions on things do, in plain Lean, and the laws on them. -/
import Derived.Test.YtknghnmcckjjbaaHp
namespace Go.Proofs.Ytknghnmcckjjbaa
open Go Go.RowKit
set_option linter.unusedVariables false
set_option linter.unusedSimpArgs false

theorem p_within (fuel : Nat) (x lo hi : Int) : m_impl_within fuel x lo hi = some (inB x lo hi) := by
  unfold m_impl_within inB; split <;> simp_all <;> omega
theorem p_l1In (fuel : Nat) (x lo hi : Int) : m_spec_l1In fuel x lo hi = some (inB x lo hi) := by
  unfold m_spec_l1In inB; split <;> simp_all <;> omega
theorem p_isValue (fuel : Nat) (x : Int) : m_impl_isValue fuel x = some (inB x 0 65535) := by simp [m_impl_isValue, p_within]
theorem p_l3Val (fuel : Nat) (x : Int) : m_spec_l3Val fuel x = some (inB x 0 65535) := by simp [m_spec_l3Val, p_l1In]
theorem p_l7Ints_L (fuel : Nat) (x y : List Int) (hl : x.length ≤ 4611686018427387904) (he : x.length = y.length) : ∀ K n, n ≤ x.length → x.length < n + K →
    m_spec_l7Ints_L0 fuel x y K (n : Int) = some (if x.drop n = y.drop n then .brk () else .ret false) := by
  intro K
  induction K with
  | zero => intro n h1 h2; omega
  | succ K ih =>
    intro n h1 h2
    rw [m_spec_l7Ints_L0]
    by_cases h : n < x.length
    · have h' : n < y.length := by omega
      rw [drop_cons h, drop_cons h']
      have := ih (n + 1) (by omega) (by omega)
      simp only [if_pos (lt_cast h), at?_lt h, at?_lt h', Option.bind_some, if_pos (in64_succ h (show x.length ≤ _ by omega)), List.cons.injEq]
      by_cases e : x[n] = y[n]
      · simp only [e, if_true, true_and]; exact this
      · simp [e]
    · rw [if_neg (ge_cast h), drop_end h, drop_end (by omega)]
      simp
theorem p_l7Ints (fuel : Nat) (x y : List Int) (hl : x.length ≤ 4611686018427387904) (hf : x.length < fuel) : m_spec_l7Ints fuel x y = some (decide (x = y)) := by
  unfold m_spec_l7Ints
  by_cases he : x.length = y.length
  · rw [if_pos (by omega)]
    have := p_l7Ints_L fuel x y hl he fuel 0 (by omega) (by omega)
    simp only [List.drop_zero, Int.natCast_zero] at this
    erw [this]
    by_cases e : x = y <;> simp [e, contL, un1]
  · rw [if_neg (by omega)]
    have : x ≠ y := fun e => he (by rw [e])
    simp [this]
theorem p_Equal_L (fuel : Nat) (x y : List Int) (hl : x.length ≤ 4611686018427387904) (he : x.length = y.length) : ∀ K n, n ≤ x.length → x.length < n + K →
    m_slices_Equal___int_int__L0 fuel x y K (n : Int) = some (if x.drop n = y.drop n then .brk () else .ret false) := by
  intro K
  induction K with
  | zero => intro n h1 h2; omega
  | succ K ih =>
    intro n h1 h2
    rw [m_slices_Equal___int_int__L0]
    by_cases h : n < x.length
    · have h' : n < y.length := by omega
      rw [drop_cons h, drop_cons h']
      have := ih (n + 1) (by omega) (by omega)
      simp only [if_pos (lt_cast h), at?_lt h, at?_lt h', Option.bind_some, if_pos (in64_succ h (show x.length ≤ _ by omega)), List.cons.injEq]
      by_cases e : x[n] = y[n]
      · simp only [e, if_true, true_and]; exact this
      · simp [e]
    · rw [if_neg (ge_cast h), drop_end h, drop_end (by omega)]
      simp
theorem p_Equal (fuel : Nat) (x y : List Int) (hl : x.length ≤ 4611686018427387904) (hf : x.length < fuel) : m_slices_Equal___int_int_ fuel x y = some (decide (x = y)) := by
  unfold m_slices_Equal___int_int_
  by_cases he : x.length = y.length
  · rw [if_pos (by omega)]
    have := p_Equal_L fuel x y hl he fuel 0 (by omega) (by omega)
    simp only [List.drop_zero, Int.natCast_zero] at this
    erw [this]
    by_cases e : x = y <;> simp [e, contL, un1]
  · rw [if_neg (by omega)]
    have : x ≠ y := fun e => he (by rw [e])
    simp [this]
def valsB (l : List Int) : Bool := l.all fun x => inB x 0 65535
theorem p_areValues_L (fuel : Nat) (x : List Int) (hl : x.length ≤ 4611686018427387904) : ∀ K n, n ≤ x.length → x.length < n + K →
    m_impl_areValues_L0 fuel x K (n : Int) = some (if valsB (x.drop n) = true then .brk () else .ret false) := by
  intro K
  induction K with
  | zero => intro n h1 h2; omega
  | succ K ih =>
    intro n h1 h2
    rw [m_impl_areValues_L0]
    by_cases h : n < x.length
    · rw [drop_cons h]
      have := ih (n + 1) (by omega) (by omega)
      simp only [if_pos (lt_cast h), at?_lt h, Option.bind_some, p_isValue, if_pos (in64_succ h (show x.length ≤ _ by omega)), valsB, List.all_cons]
      by_cases e : inB x[n] 0 65535 = true
      · simp only [e, if_true, Bool.true_and]; exact this
      · simp [Bool.eq_false_iff.2 e]
    · rw [if_neg (ge_cast h), drop_end h]; rfl
theorem p_areValues (fuel : Nat) (x : List Int) (n : Int) (hl : x.length ≤ 4611686018427387904) (hf : x.length < fuel) : m_impl_areValues fuel x n = some (valsB x && decide ((x.length : Int) = n)) := by
  unfold m_impl_areValues
  have := p_areValues_L fuel x hl fuel 0 (by omega) (by omega)
  simp only [List.drop_zero] at this
  erw [this]
  cases valsB x <;> simp [contL, un1]
theorem p_l3Vals_L (fuel : Nat) (x : List Int) (hl : x.length ≤ 4611686018427387904) : ∀ K n, n ≤ x.length → x.length < n + K →
    m_spec_l3Vals_L0 fuel x K (n : Int) = some (if valsB (x.drop n) = true then .brk () else .ret false) := by
  intro K
  induction K with
  | zero => intro n h1 h2; omega
  | succ K ih =>
    intro n h1 h2
    rw [m_spec_l3Vals_L0]
    by_cases h : n < x.length
    · rw [drop_cons h]
      have := ih (n + 1) (by omega) (by omega)
      simp only [if_pos (lt_cast h), at?_lt h, Option.bind_some, p_l3Val, if_pos (in64_succ h (show x.length ≤ _ by omega)), valsB, List.all_cons]
      by_cases e : inB x[n] 0 65535 = true
      · simp only [e, if_true, Bool.true_and]; exact this
      · simp [Bool.eq_false_iff.2 e]
    · rw [if_neg (ge_cast h), drop_end h]; rfl
theorem p_l3Vals (fuel : Nat) (x : List Int) (hl : x.length ≤ 4611686018427387904) (hf : x.length < fuel) : m_spec_l3Vals fuel x = some (valsB x && decide ((x.length : Int) = 8)) := by
  unfold m_spec_l3Vals
  have := p_l3Vals_L fuel x hl fuel 0 (by omega) (by omega)
  simp only [List.drop_zero] at this
  by_cases h8 : (x.length : Int) = 8
  · rw [if_pos h8]
    erw [this]
    cases valsB x <;> simp [contL, un1, h8]
  · rw [if_neg h8]; simp [h8]
def mapB (l : List Int) : Bool := l.all fun x => inB x 0 65536
theorem p_isMap_L (fuel : Nat) (x : List Int) (hl : x.length ≤ 4611686018427387904) : ∀ K n, n ≤ x.length → x.length < n + K →
    m_impl_isMap_L0 fuel x K (n : Int) = some (if mapB (x.drop n) = true then .brk () else .ret false) := by
  intro K
  induction K with
  | zero => intro n h1 h2; omega
  | succ K ih =>
    intro n h1 h2
    rw [m_impl_isMap_L0]
    by_cases h : n < x.length
    · rw [drop_cons h]
      have := ih (n + 1) (by omega) (by omega)
      simp only [if_pos (lt_cast h), at?_lt h, Option.bind_some, p_within, if_pos (in64_succ h (show x.length ≤ _ by omega)), mapB, List.all_cons]
      by_cases e : inB x[n] 0 65536 = true
      · simp only [e, if_true, Bool.true_and]; exact this
      · simp [Bool.eq_false_iff.2 e]
    · rw [if_neg (ge_cast h), drop_end h]; rfl
theorem p_SMap_L (fuel : Nat) (x : List Int) (hl : x.length ≤ 4611686018427387904) : ∀ K n, n ≤ x.length → x.length < n + K →
    m_spec_ThingsOk_L0 fuel x K (n : Int) = some (if mapB (x.drop n) = true then .brk () else .ret false) := by
  intro K
  induction K with
  | zero => intro n h1 h2; omega
  | succ K ih =>
    intro n h1 h2
    rw [m_spec_ThingsOk_L0]
    by_cases h : n < x.length
    · rw [drop_cons h]
      have := ih (n + 1) (by omega) (by omega)
      simp only [if_pos (lt_cast h), at?_lt h, Option.bind_some, p_l1In, if_pos (in64_succ h (show x.length ≤ _ by omega)), mapB, List.all_cons]
      by_cases e : inB x[n] 0 65536 = true
      · simp only [e, if_true, Bool.true_and]; exact this
      · simp [Bool.eq_false_iff.2 e]
    · rw [if_neg (ge_cast h), drop_end h]; rfl

theorem p_isMap (fuel : Nat) (x : List Int) (hl : x.length ≤ 4611686018427387904) (hf : x.length < fuel) : m_impl_isMap fuel x = some (mapB x && decide ((x.length : Int) = 8)) := by
  unfold m_impl_isMap
  have := p_isMap_L fuel x hl fuel 0 (by omega) (by omega)
  simp only [List.drop_zero] at this
  erw [this]
  cases mapB x <;> simp [contL, un1]
def thB (x y : List Int) (k : Int) : Bool := valsB x && decide ((x.length : Int) = 8) && (mapB y && decide ((y.length : Int) = 8)) && inB k 0 65535
theorem p_ThingsOk (fuel : Nat) (x y : List Int) (k : Int) (hl : x.length ≤ 1048576) (hm : y.length ≤ 1048576) (hf : x.length < fuel) (hg : y.length < fuel) : m_impl_ThingsOk fuel x y k = some (thB x y k) := by
  unfold m_impl_ThingsOk thB
  simp only [p_areValues fuel x _ (by omega) hf, p_isMap fuel y (by omega) hg, p_isValue, Option.bind_some]
  cases (valsB x && decide ((x.length : Int) = 8)) <;> cases (mapB y && decide ((y.length : Int) = 8)) <;> simp
theorem p_SThingsOk (fuel : Nat) (x y : List Int) (k : Int) (hl : x.length ≤ 1048576) (hm : y.length ≤ 1048576) (hf : x.length < fuel) (hg : y.length < fuel) : m_spec_ThingsOk fuel x y k = some (thB x y k) := by
  unfold m_spec_ThingsOk thB
  have := p_SMap_L fuel y (by omega) fuel 0 (by omega) (by omega)
  simp only [List.drop_zero] at this
  simp only [p_l3Vals fuel x (by omega) hf, p_l3Val, Option.bind_some]
  cases (valsB x && decide ((x.length : Int) = 8)) with
  | false => simp
  | true =>
    by_cases h8 : (y.length : Int) = 8
    · simp only [h8, if_true, decide_true, Bool.and_true, Bool.true_and]
      cases inB k 0 65535 with
      | false => simp
      | true =>
        simp only [if_true, Bool.and_true]
        erw [this]
        cases mapB y <;> simp [contL, un1]
    · simp [h8]
theorem p_SameThings (fuel : Nat) (x y : List Int) (k : Int) (x' y' : List Int) (k' : Int) (hl : x.length ≤ 1048576) (hm : y.length ≤ 1048576) (hf : x.length < fuel) (hg : y.length < fuel) : m_impl_SameThings fuel x y k x' y' k' = some (decide (x = x') && decide (y = y') && decide (k = k')) := by
  unfold m_impl_SameThings
  simp only [p_Equal fuel x x' (by omega) hf, p_Equal fuel y y' (by omega) hg, Option.bind_some]
  by_cases h1 : x = x' <;> by_cases h2 : y = y' <;> simp [h1, h2]
theorem p_SSameThings (fuel : Nat) (x y : List Int) (k : Int) (x' y' : List Int) (k' : Int) (hl : x.length ≤ 1048576) (hm : y.length ≤ 1048576) (hf : x.length < fuel) (hg : y.length < fuel) : m_spec_SameThings fuel x y k x' y' k' = some (decide (x = x') && decide (y = y') && decide (k = k')) := by
  unfold m_spec_SameThings
  simp only [p_l7Ints fuel x x' (by omega) hf, p_l7Ints fuel y y' (by omega) hg, Option.bind_some]
  by_cases h1 : x = x' <;> by_cases h2 : y = y' <;> simp [h1, h2]

/-! The laws' helpers. -/
theorem p_szIntS (fuel : Nat) (x : List Int) (q : Int) (hl : x.length ≤ maxLen) (hq : 0 ≤ q ∧ q ≤ 1048576) : m_laws_szIntS fuel x q = some (if q < (x.length : Int) then -1 else q - (x.length : Int)) := by
  unfold maxLen at hl
  unfold m_laws_szIntS
  rw [if_pos (by unfold in64; omega)]
  by_cases h : q < x.length
  · rw [if_pos h, if_pos (by omega)]
  · rw [if_neg h, if_neg (by omega)]
theorem p_szThings (fuel : Nat) (x y : List Int) (k q : Int) (hl : x.length ≤ maxLen) (hm : y.length ≤ maxLen) (hq : 0 ≤ q ∧ q ≤ 1048576) : m_laws_szThings fuel x y k q = some (if q < (x.length : Int) + (y.length : Int) then -1 else q - (x.length : Int) - (y.length : Int)) := by
  unfold m_laws_szThings
  rw [p_szIntS fuel x q hl hq]
  simp only [Option.bind_some]
  by_cases h : q < (x.length : Int)
  · simp only [if_pos h]; rw [if_pos (by omega), if_pos (by omega)]
  · simp only [if_neg h]
    rw [if_neg (by omega), p_szIntS fuel y _ hm (by omega)]
    simp only [Option.bind_some]
    by_cases h' : q - (x.length : Int) < (y.length : Int)
    · simp only [if_pos h']; rw [if_pos (by omega), if_pos (by omega)]
    · simp only [if_neg h']; rw [if_neg (by omega), if_neg (by omega)]
theorem p_toThings (fuel : Nat) (x y : List Int) (k : Int) (hl : x.length ≤ 1048576) (hm : y.length ≤ 1048576) (hf : x.length < fuel) (hg : y.length < fuel) : m_laws_toThings fuel x y k = some (x, y, k) := by
  simp [m_laws_toThings, p_toIntS fuel x hl hf, p_toIntS fuel y hm hg]
theorem p_eqThings (fuel : Nat) (x y : List Int) (k : Int) (x' y' : List Int) (k' : Int) (hl : x.length ≤ 1048576) (hm : y.length ≤ 1048576) (hf : x.length < fuel) (hg : y.length < fuel) : m_laws_eqThings fuel x y k x' y' k' = some (decide (x = x' ∧ y = y' ∧ k = k')) := by
  unfold m_laws_eqThings
  simp only [p_eqIntS fuel x x' (by omega) hf, p_eqIntS fuel y y' (by omega) hg, Option.bind_some]
  by_cases h1 : x = x' <;> by_cases h2 : y = y' <;> by_cases h3 : k = k' <;> simp [h1, h2, h3]
theorem pure_FnExactThingsOk {x y : List Int} {k : Int} (hx : x.length ≤ maxLen) (hy : y.length ≤ maxLen) (_ : in64 k) : ∃ fuel, m_laws_FnExactThingsOk fuel x y k = some true := by
  refine ⟨x.length + y.length + 1, ?_⟩
  generalize hF : x.length + y.length + 1 = F
  unfold m_laws_FnExactThingsOk
  rw [p_szThings _ _ _ _ _ hx hy (by omega)]
  by_cases hs : (1048576 : Int) < (x.length : Int) + (y.length : Int)
  · simp [hs]
  · have hx' : x.length ≤ 1048576 := by omega
    have hy' : y.length ≤ 1048576 := by omega
    simp only [if_neg hs, Option.bind_some, bind3, p_toThings F x y k hx' hy' (by omega) (by omega), p_ThingsOk F x y k hx' hy' (by omega) (by omega), p_SThingsOk F x y k hx' hy' (by omega) (by omega), p_eqThings F x y k x y k hx' hy' (by omega) (by omega), and_self, decide_true, if_true, beq_self_eq_true, show ¬ (1048576 - (x.length : Int) - (y.length : Int) < 0) by omega, if_false]
theorem pure_FnExactSameThings {x y : List Int} {k : Int} {x' y' : List Int} {k' : Int} (hx : x.length ≤ maxLen) (hy : y.length ≤ maxLen) (_ : in64 k) (hx' : x'.length ≤ maxLen) (hy' : y'.length ≤ maxLen) (_ : in64 k') : ∃ fuel, m_laws_FnExactSameThings fuel x y k x' y' k' = some true := by
  refine ⟨x.length + y.length + x'.length + y'.length + 1, ?_⟩
  generalize hF : x.length + y.length + x'.length + y'.length + 1 = F
  unfold m_laws_FnExactSameThings
  rw [p_szThings _ _ _ _ _ hx hy (by omega)]
  by_cases hs : (1048576 : Int) < (x.length : Int) + (y.length : Int)
  · simp [hs]
  · simp only [if_neg hs, Option.bind_some, show ¬ (1048576 - (x.length : Int) - (y.length : Int) < 0) by omega, if_false]
    rw [p_szThings _ _ _ _ _ hx' hy' (by omega)]
    by_cases hs' : 1048576 - (x.length : Int) - (y.length : Int) < (x'.length : Int) + (y'.length : Int)
    · simp [hs']
    · have a1 : x.length ≤ 1048576 := by omega
      have a2 : y.length ≤ 1048576 := by omega
      have a3 : x'.length ≤ 1048576 := by omega
      have a4 : y'.length ≤ 1048576 := by omega
      simp only [if_neg hs', Option.bind_some, bind3, p_toThings F x y k a1 a2 (by omega) (by omega), p_toThings F x' y' k' a3 a4 (by omega) (by omega), p_SameThings F x y k x' y' k' a1 a2 (by omega) (by omega), p_SSameThings F x y k x' y' k' a1 a2 (by omega) (by omega), p_eqThings F x y k x y k a1 a2 (by omega) (by omega), p_eqThings F x' y' k' x' y' k' a3 a4 (by omega) (by omega), and_self, decide_true, if_true, beq_self_eq_true, show ¬ (1048576 - (x.length : Int) - (y.length : Int) - (x'.length : Int) - (y'.length : Int) < 0) by omega, if_false]
end Go.Proofs.Ytknghnmcckjjbaa
