/- Things and programs. -/
import Derived.Test.YtknghnmcckjjbaaPFk
import Derived.Test.YtknghnmcckjjbaaS5
namespace Go.Proofs.Ytknghnmcckjjbaa
open Go Go.RowKit
set_option linter.unusedVariables false
set_option linter.unusedSimpArgs false

theorem p_Index_L (fuel : Nat) (x : List I4) (hl : x.length ≤ 1048576) : ∀ K n, n ≤ x.length → x.length < n + K →
    ∃ r, m_slices_IndexFunc___impl_Op_impl_Op__125_L0 fuel x K (n : Int) = some r ∧ (if ((x.drop n).all fun o => !decide (o.a = 11)) = true then r = .brk () else ∃ j : Int, 0 ≤ j ∧ r = .ret j) := by
  intro K
  induction K with
  | zero => intro n h1 h2; omega
  | succ K ih =>
    intro n h1 h2
    rw [m_slices_IndexFunc___impl_Op_impl_Op__125_L0]
    by_cases h : n < x.length
    · rw [drop_cons h]
      have := ih (n + 1) (by omega) (by omega)
      simp only [if_pos (lt_cast h), at?_lt h, Option.bind_some, m_impl_HasFork_1, if_pos (in64_succ h (show x.length ≤ _ by omega)), List.all_cons]
      by_cases e2 : x[n].a = 11
      · exact ⟨.ret n, by simp [e2], by simp [e2]⟩
      · simp only [decide_eq_false e2, Bool.false_eq_true, if_false, Bool.not_false, Bool.true_and]; exact this
    · exact ⟨.brk (), by rw [if_neg (ge_cast h)], by rw [drop_end h]; rfl⟩
theorem p_HasFork (fuel : Nat) (x : List I4) (hl : x.length ≤ 1048576) (hf : x.length < fuel) : m_impl_HasFork fuel x = some (forkB x) := by
  unfold m_impl_HasFork m_slices_ContainsFunc___impl_Op_impl_Op__125 m_slices_IndexFunc___impl_Op_impl_Op__125 forkB
  obtain ⟨r, h1, h2⟩ := p_Index_L fuel x hl fuel 0 (by omega) (by omega)
  simp only [List.drop_zero] at h2
  erw [h1]
  cases hb : x.all fun o => !decide (o.a = 11) with
  | true => rw [hb] at h2; simp only [if_true] at h2; subst h2; simp [contL, un1]
  | false =>
    rw [hb] at h2; simp only [Bool.false_eq_true, if_false] at h2
    obtain ⟨j, h0, rfl⟩ := h2
    simp [contL, h0]

/-- Bounds on the parts of a row of children. -/
def KB (fuel : Nat) (x : List KidD) : Prop := ∀ k ∈ x, k.code.length ≤ 1048576 ∧ k.code.length < fuel
/-! Copies. -/
/-! Sizes. -/
/-! Whether a program is one. -/
theorem p_Prog_L (fuel : Nat) (x : List KidD) (hl : x.length ≤ 1048576) (hk : KB fuel x) : ∀ K n, n ≤ x.length → x.length < n + K →
    m_impl_ProgOk_L0 fuel x K (n : Int) = some (if ((x.drop n).all fun k => kidB k.code) = true then .brk () else .ret false) := by
  intro K
  induction K with
  | zero => intro n h1 h2; omega
  | succ K ih =>
    intro n h1 h2
    rw [m_impl_ProgOk_L0]
    by_cases h : n < x.length
    · have hb := hk _ (List.getElem_mem h)
      rw [drop_cons h]
      have := ih (n + 1) (by omega) (by omega)
      simp only [if_pos (lt_cast h), at?_lt h, Option.bind_some, p_KidOk fuel x[n].code hb.1 hb.2, if_pos (in64_succ h (show x.length ≤ _ by omega)), List.all_cons]
      by_cases e : kidB x[n].code = true
      · simp only [e, if_true, Bool.true_and]; exact this
      · simp [Bool.eq_false_iff.2 e]
    · rw [if_neg (ge_cast h), drop_end h]; rfl
theorem p_SProg_L (fuel : Nat) (x : List KidD) (hl : x.length ≤ 1048576) (hk : KB fuel x) : ∀ K n, n ≤ x.length → x.length < n + K →
    m_spec_ProgOk_L0 fuel x K (n : Int) = some (if ((x.drop n).all fun k => kidB k.code) = true then .brk () else .ret false) := by
  intro K
  induction K with
  | zero => intro n h1 h2; omega
  | succ K ih =>
    intro n h1 h2
    rw [m_spec_ProgOk_L0]
    by_cases h : n < x.length
    · have hb := hk _ (List.getElem_mem h)
      rw [drop_cons h]
      have := ih (n + 1) (by omega) (by omega)
      simp only [if_pos (lt_cast h), at?_lt h, Option.bind_some, p_SKidOk fuel x[n].code hb.1 hb.2, if_pos (in64_succ h (show x.length ≤ _ by omega)), List.all_cons]
      by_cases e : kidB x[n].code = true
      · simp only [e, if_true, Bool.true_and]; exact this
      · simp [Bool.eq_false_iff.2 e]
    · rw [if_neg (ge_cast h), drop_end h]; rfl
open Classical in
noncomputable def progB (c : List I4) (x : List KidD) : Bool := decide (CodeP c) && decide ((x.length : Int) ≤ 3) && (forkB c == decide (0 < (x.length : Int))) && x.all fun k => kidB k.code
open Classical in
theorem p_ProgOk (fuel : Nat) (c : List I4) (x : List KidD) (hc : c.length ≤ 1048576) (hcf : c.length < fuel) (hl : x.length ≤ 1048576) (hk : KB fuel x) (hf : x.length < fuel) : m_impl_ProgOk fuel c x = some (progB c x) := by
  unfold m_impl_ProgOk progB
  have := p_Prog_L fuel x hl hk fuel 0 (by omega) (by omega)
  simp only [List.drop_zero] at this
  erw [this]
  simp only [p_CodeOk fuel c hc hcf, p_HasFork fuel c hc hcf]
  cases x.all fun k => kidB k.code with
  | false => simp [contL]
  | true =>
    simp only [if_true, Option.bind_some, contL, un1, Bool.and_true]
    by_cases h1 : CodeP c <;> by_cases h2 : (x.length : Int) ≤ 3 <;> simp [h1, h2]
open Classical in
theorem p_SProgOk (fuel : Nat) (c : List I4) (x : List KidD) (hc : c.length ≤ 1048576) (hcf : c.length < fuel) (hl : x.length ≤ 1048576) (hk : KB fuel x) (hf : x.length < fuel) : m_spec_ProgOk fuel c x = some (progB c x) := by
  unfold m_spec_ProgOk progB
  have := p_SProg_L fuel x hl hk fuel 0 (by omega) (by omega)
  simp only [List.drop_zero] at this
  simp only [p_SCodeOk fuel c hc hcf, p_SHasFork fuel c hc hcf, Option.bind_some]
  by_cases h1 : CodeP c
  · by_cases h2 : 3 < (x.length : Int)
    · have h3 : ¬ (x.length : Int) ≤ 3 := by omega
      simp only [decide_eq_true h1, if_true, if_pos h2, decide_eq_false h3, Bool.and_false, Bool.false_and]
    · have h3 : (x.length : Int) ≤ 3 := by omega
      simp only [decide_eq_true h1, if_true, if_neg h2, decide_eq_true h3, Bool.true_and]
      cases hq : (forkB c == decide (0 < (x.length : Int))) with
      | false => simp
      | true =>
        simp only [if_true, Bool.true_and]
        erw [this]
        cases x.all fun k => kidB k.code <;> simp [contL, un1]
  · simp only [decide_eq_false h1, Bool.false_eq_true, if_false, Bool.false_and]

/-! The marks of a program. -/
end Go.Proofs.Ytknghnmcckjjbaa
