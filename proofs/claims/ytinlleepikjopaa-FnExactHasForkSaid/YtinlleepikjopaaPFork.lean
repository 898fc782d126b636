/- FnExactHasFork, in plain Lean. -/
import Derived.Test.YtinlleepikjopaaHpK
namespace Go.Proofs.Ytinlleepikjopaa
open Go Go.RowKit
set_option linter.unusedVariables false
set_option linter.unusedSimpArgs false

theorem p_SHasFork_L (fuel : Nat) (x : List I4) (hl : x.length ≤ 1048576) : ∀ K n, n ≤ x.length → x.length < n + K →
    m_spec_HasFork_L0 fuel x K (n : Int) = some (if ((x.drop n).all fun o => !decide (o.a = 11)) = true then .brk () else .ret true) := by
  intro K
  induction K with
  | zero => intro n h1 h2; omega
  | succ K ih =>
    intro n h1 h2
    rw [m_spec_HasFork_L0]
    by_cases h : n < x.length
    · rw [drop_cons h]
      have := ih (n + 1) (by omega) (by omega)
      simp only [if_pos (lt_cast h), at?_lt h, Option.bind_some, if_pos (in64_succ h (show x.length ≤ _ by omega)), List.all_cons]
      by_cases e2 : x[n].a = 11
      · simp [e2]
      · simp only [if_neg e2, decide_eq_false e2, Bool.not_false, Bool.true_and]; exact this
    · rw [if_neg (ge_cast h), drop_end h]; rfl
def forkB (x : List I4) : Bool := !(x.all fun o => !decide (o.a = 11))
theorem p_SHasFork (fuel : Nat) (x : List I4) (hl : x.length ≤ 1048576) (hf : x.length < fuel) : m_spec_HasFork fuel x = some (forkB x) := by
  unfold m_spec_HasFork forkB
  have := p_SHasFork_L fuel x hl fuel 0 (by omega) (by omega)
  simp only [List.drop_zero] at this
  erw [this]
  cases x.all fun o => !decide (o.a = 11) <;> simp [contL, un1]
theorem p_Index_L (fuel : Nat) (x : List I4) (hl : x.length ≤ 1048576) : ∀ K n, n ≤ x.length → x.length < n + K →
    ∃ r, m_slices_IndexFunc___impl_Op_impl_Op__69_L0 fuel x K (n : Int) = some r ∧ (if ((x.drop n).all fun o => !decide (o.a = 11)) = true then r = .brk () else ∃ j : Int, 0 ≤ j ∧ r = .ret j) := by
  intro K
  induction K with
  | zero => intro n h1 h2; omega
  | succ K ih =>
    intro n h1 h2
    rw [m_slices_IndexFunc___impl_Op_impl_Op__69_L0]
    by_cases h : n < x.length
    · rw [drop_cons h]
      have := ih (n + 1) (by omega) (by omega)
      simp only [if_pos (lt_cast h), at?_lt h, Option.bind_some, m_impl_HasFork_1, if_pos (in64_succ h (show x.length ≤ _ by omega)), List.all_cons]
      by_cases e2 : x[n].a = 11
      · exact ⟨.ret n, by simp [e2], by simp [e2]⟩
      · simp only [decide_eq_false e2, Bool.false_eq_true, if_false, Bool.not_false, Bool.true_and]; exact this
    · exact ⟨.brk (), by rw [if_neg (ge_cast h)], by rw [drop_end h]; rfl⟩
theorem p_HasFork (fuel : Nat) (x : List I4) (hl : x.length ≤ 1048576) (hf : x.length < fuel) : m_impl_HasFork fuel x = some (forkB x) := by
  unfold m_impl_HasFork m_slices_ContainsFunc___impl_Op_impl_Op__69 m_slices_IndexFunc___impl_Op_impl_Op__69 forkB
  obtain ⟨r, h1, h2⟩ := p_Index_L fuel x hl fuel 0 (by omega) (by omega)
  simp only [List.drop_zero] at h2
  erw [h1]
  cases hb : x.all fun o => !decide (o.a = 11) with
  | true => rw [hb] at h2; simp only [if_true] at h2; subst h2; simp [contL, un1]
  | false =>
    rw [hb] at h2; simp only [Bool.false_eq_true, if_false] at h2
    obtain ⟨j, h0, rfl⟩ := h2
    simp [contL, h0]
theorem p_szOpS (fuel : Nat) (x : List I4) (q : Int) (hl : x.length ≤ maxLen) (hq : 0 ≤ q ∧ q ≤ 1048576) : m_laws_szOpS fuel x q = some (if q < (x.length : Int) then -1 else q - (x.length : Int)) := by
  unfold maxLen at hl
  unfold m_laws_szOpS
  rw [if_pos (by unfold in64; omega)]
  by_cases h : q < x.length
  · rw [if_pos h, if_pos (by omega)]
  · rw [if_neg h, if_neg (by omega)]
theorem pure_FnExactHasFork {l : List I4} (hl : l.length ≤ maxLen) : ∃ fuel, m_laws_FnExactHasFork fuel l = some true := by
  refine ⟨l.length + 1, ?_⟩
  unfold m_laws_FnExactHasFork
  rw [p_szOpS _ _ _ hl (by omega)]
  by_cases hs : (1048576 : Int) < (l.length : Int)
  · simp [hs]
  · have hl' : l.length ≤ 1048576 := by omega
    generalize hF : l.length + 1 = F
    simp only [hs, if_false, Option.bind_some, p_toOpS F l hl' (by omega), p_HasFork F l hl' (by omega), p_SHasFork F l hl' (by omega), p_eqOpS F l l (by omega) (by omega), decide_true, if_true, beq_self_eq_true, show ¬ (1048576 - (l.length : Int) < 0) by omega]
end Go.Proofs.Ytinlleepikjopaa
