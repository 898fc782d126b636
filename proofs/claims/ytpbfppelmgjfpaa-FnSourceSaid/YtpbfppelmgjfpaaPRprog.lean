/- Programs read from text, in plain Lean. -/
import Derived.Test.YtpbfppelmgjfpaaPRcode
import Derived.Test.YtpbfppelmgjfpaaG4
import Derived.Test.YtpbfppelmgjfpaaOq
namespace Go.Proofs.Ytpbfppelmgjfpaa
open Go Go.RowKit
set_option linter.unusedVariables false
set_option linter.unusedSimpArgs false

/-! Children. -/
def kidO (o : I4) : Bool := !decide (o.a = 11) && !decide (tchF o.a o.b o.c o.d = 2)
theorem p_Kid_L (fuel : Nat) (x : List I4) (hl : x.length ≤ 1048576) : ∀ K n, n ≤ x.length → x.length < n + K →
    m_impl_KidOk_L0 fuel x K (n : Int) = some (if (x.drop n).all kidO = true then .brk () else .ret false) := by
  intro K
  induction K with
  | zero => intro n h1 h2; omega
  | succ K ih =>
    intro n h1 h2
    rw [m_impl_KidOk_L0]
    by_cases h : n < x.length
    · rw [drop_cons h]
      have := ih (n + 1) (by omega) (by omega)
      simp only [if_pos (lt_cast h), at?_lt h, Option.bind_some, p_Touches, if_pos (in64_succ h (show x.length ≤ _ by omega)), List.all_cons, kidO]
      by_cases e1 : x[n].a = 11
      · simp [e1]
      · by_cases e2 : tchF x[n].a x[n].b x[n].c x[n].d = 2
        · simp [e1, e2]
        · simp only [if_neg e1, if_neg e2, decide_eq_false e1, decide_eq_false e2, Bool.not_false, Bool.true_and]; exact this
    · rw [if_neg (ge_cast h), drop_end h]; rfl
theorem p_SKid_L (fuel : Nat) (x : List I4) (hl : x.length ≤ 1048576) : ∀ K n, n ≤ x.length → x.length < n + K →
    m_spec_KidOk_L0 fuel x K (n : Int) = some (if ((x.drop n).all fun o => !decide (tchF o.a o.b o.c o.d = 2)) = true then .brk () else .ret false) := by
  intro K
  induction K with
  | zero => intro n h1 h2; omega
  | succ K ih =>
    intro n h1 h2
    rw [m_spec_KidOk_L0]
    by_cases h : n < x.length
    · rw [drop_cons h]
      have := ih (n + 1) (by omega) (by omega)
      simp only [if_pos (lt_cast h), at?_lt h, Option.bind_some, p_STouches, if_pos (in64_succ h (show x.length ≤ _ by omega)), List.all_cons]
      by_cases e2 : tchF x[n].a x[n].b x[n].c x[n].d = 2
      · simp [e2]
      · simp only [if_neg e2, decide_eq_false e2, Bool.not_false, Bool.true_and]; exact this
    · rw [if_neg (ge_cast h), drop_end h]; rfl
theorem p_SHasFork_L (fuel : Nat) (x : List I4) (hl : x.length ≤ 1048576) : ∀ K n, n ≤ x.length → x.length < n + K →
    m_spec_HasFork_L0 fuel x K (n : Int) = some (if ((x.drop n).all fun o => !decide (o.a = 11)) = true then .brk () else .ret true) := by
  intro K
  induction K with
  | zero => intro n h1 h2; omega
  | succ K ih =>
    intro n h1 h2
    rw [m_spec_HasFork_L0]
    by_cases h : n < x.length
    · rw [drop_cons h]
      have := ih (n + 1) (by omega) (by omega)
      simp only [if_pos (lt_cast h), at?_lt h, Option.bind_some, if_pos (in64_succ h (show x.length ≤ _ by omega)), List.all_cons]
      by_cases e2 : x[n].a = 11
      · simp [e2]
      · simp only [if_neg e2, decide_eq_false e2, Bool.not_false, Bool.true_and]; exact this
    · rw [if_neg (ge_cast h), drop_end h]; rfl
def forkB (x : List I4) : Bool := !(x.all fun o => !decide (o.a = 11))
theorem p_SHasFork (fuel : Nat) (x : List I4) (hl : x.length ≤ 1048576) (hf : x.length < fuel) : m_spec_HasFork fuel x = some (forkB x) := by
  unfold m_spec_HasFork forkB
  have := p_SHasFork_L fuel x hl fuel 0 (by omega) (by omega)
  simp only [List.drop_zero] at this
  erw [this]
  cases x.all fun o => !decide (o.a = 11) <;> simp [contL, un1]
theorem kid_all (x : List I4) : x.all kidO = (!forkB x && x.all fun o => !decide (tchF o.a o.b o.c o.d = 2)) := by
  unfold forkB
  rw [Bool.not_not]
  induction x with
  | nil => rfl
  | cons o x ih =>
    rw [List.all_cons, List.all_cons, List.all_cons, ih, kidO]
    cases decide (o.a = 11) <;> cases decide (tchF o.a o.b o.c o.d = 2) <;> simp
open Classical in
noncomputable def kidB (x : List I4) : Bool := decide (CodeP x) && x.all kidO
open Classical in
theorem p_KidOk (fuel : Nat) (x : List I4) (hl : x.length ≤ 1048576) (hf : x.length < fuel) : m_impl_KidOk fuel x = some (kidB x) := by
  unfold m_impl_KidOk kidB
  have := p_Kid_L fuel x hl fuel 0 (by omega) (by omega)
  simp only [List.drop_zero] at this
  erw [this]
  simp only [p_CodeOk fuel x hl hf]
  cases x.all kidO <;> simp [contL, un1]
open Classical in
theorem p_SKidOk (fuel : Nat) (x : List I4) (hl : x.length ≤ 1048576) (hf : x.length < fuel) : m_spec_KidOk fuel x = some (kidB x) := by
  unfold m_spec_KidOk kidB
  have := p_SKid_L fuel x hl fuel 0 (by omega) (by omega)
  simp only [List.drop_zero] at this
  simp only [p_SCodeOk fuel x hl hf, p_SHasFork fuel x hl hf, Option.bind_some, kid_all]
  by_cases hC : CodeP x
  · simp only [decide_eq_true hC, if_true, Bool.true_and]
    cases hk : forkB x with
    | true => simp
    | false =>
      simp only [Bool.false_eq_true, if_false, Bool.not_false, Bool.true_and]
      erw [this]
      cases x.all fun o => !decide (tchF o.a o.b o.c o.d = 2) <;> simp [contL, un1]
  · simp only [decide_eq_false hC, Bool.false_eq_true, if_false, Bool.false_and]

/-! Results. -/
theorem p_Index_L (fuel : Nat) (x : List I4) (hl : x.length ≤ 1048576) : ∀ K n, n ≤ x.length → x.length < n + K →
    ∃ r, m_slices_IndexFunc___impl_Op_impl_Op__102_L0 fuel x K (n : Int) = some r ∧ (if ((x.drop n).all fun o => !decide (o.a = 11)) = true then r = .brk () else ∃ j : Int, 0 ≤ j ∧ r = .ret j) := by
  intro K
  induction K with
  | zero => intro n h1 h2; omega
  | succ K ih =>
    intro n h1 h2
    rw [m_slices_IndexFunc___impl_Op_impl_Op__102_L0]
    by_cases h : n < x.length
    · rw [drop_cons h]
      have := ih (n + 1) (by omega) (by omega)
      simp only [if_pos (lt_cast h), at?_lt h, Option.bind_some, m_impl_HasFork_1, if_pos (in64_succ h (show x.length ≤ _ by omega)), List.all_cons]
      by_cases e2 : x[n].a = 11
      · exact ⟨.ret n, by simp [e2], by simp [e2]⟩
      · simp only [decide_eq_false e2, Bool.false_eq_true, if_false, Bool.not_false, Bool.true_and]; exact this
    · exact ⟨.brk (), by rw [if_neg (ge_cast h)], by rw [drop_end h]; rfl⟩
theorem p_HasFork (fuel : Nat) (x : List I4) (hl : x.length ≤ 1048576) (hf : x.length < fuel) : m_impl_HasFork fuel x = some (forkB x) := by
  unfold m_impl_HasFork m_slices_ContainsFunc___impl_Op_impl_Op__102 m_slices_IndexFunc___impl_Op_impl_Op__102 forkB
  obtain ⟨r, h1, h2⟩ := p_Index_L fuel x hl fuel 0 (by omega) (by omega)
  simp only [List.drop_zero] at h2
  erw [h1]
  cases hb : x.all fun o => !decide (o.a = 11) with
  | true => rw [hb] at h2; simp only [if_true] at h2; subst h2; simp [contL, un1]
  | false =>
    rw [hb] at h2; simp only [Bool.false_eq_true, if_false] at h2
    obtain ⟨j, h0, rfl⟩ := h2
    simp [contL, h0]

theorem l4 (x y : I4) : ([x.a, x.b, x.c, x.d] = [y.a, y.b, y.c, y.d]) = (x = y) := by
  cases x; cases y; simp
theorem kid_eq (x y : KidD) : (x.code = y.code) = (x = y) := by cases x; cases y; simp
theorem p_l5Same_L (fuel : Nat) (x y : List I4) (hl : x.length ≤ 4611686018427387904) (he : x.length = y.length) : ∀ K n, n ≤ x.length → x.length < n + K →
    m_spec_l5Same_L0 fuel x y K (n : Int) = some (if x.drop n = y.drop n then .brk () else .ret false) := by
  intro K
  induction K with
  | zero => intro n h1 h2; omega
  | succ K ih =>
    intro n h1 h2
    rw [m_spec_l5Same_L0]
    by_cases h : n < x.length
    · have h' : n < y.length := by omega
      rw [drop_cons h, drop_cons h']
      have := ih (n + 1) (by omega) (by omega)
      simp only [if_pos (lt_cast h), at?_lt h, at?_lt h', Option.bind_some, if_pos (in64_succ h (show x.length ≤ _ by omega)), l4]
      simp only [List.cons.injEq]
      by_cases e : x[n] = y[n]
      · simp only [e, if_true, true_and]; exact this
      · simp [e]
    · rw [if_neg (ge_cast h), drop_end h, drop_end (by omega)]
      simp
theorem p_l5Same (fuel : Nat) (x y : List I4) (hl : x.length ≤ 4611686018427387904) (hf : x.length < fuel) : m_spec_l5Same fuel x y = some (decide (x = y)) := by
  unfold m_spec_l5Same
  by_cases he : x.length = y.length
  · rw [if_pos (by omega)]
    have := p_l5Same_L fuel x y hl he fuel 0 (by omega) (by omega)
    simp only [List.drop_zero, Int.natCast_zero] at this
    erw [this]
    by_cases e : x = y <;> simp [e, contL, un1]
  · rw [if_neg (by omega)]
    have : x ≠ y := fun e => he (by rw [e])
    simp [this]

/-- Bounds on the parts of a row of children. -/
def KB (fuel : Nat) (x : List KidD) : Prop := ∀ k ∈ x, k.code.length ≤ 1048576 ∧ k.code.length < fuel
theorem p_SSame_L (fuel : Nat) (x y : List KidD) (hl : x.length ≤ 1048576) (hk : KB fuel x) (he : x.length = y.length) : ∀ K n, n ≤ x.length → x.length < n + K →
    m_spec_SameProg_L0 fuel x y K (n : Int) = some (if x.drop n = y.drop n then .brk () else .ret false) := by
  intro K
  induction K with
  | zero => intro n h1 h2; omega
  | succ K ih =>
    intro n h1 h2
    rw [m_spec_SameProg_L0]
    by_cases h : n < x.length
    · have h' : n < y.length := by omega
      have hb := hk _ (List.getElem_mem h)
      rw [drop_cons h, drop_cons h']
      have := ih (n + 1) (by omega) (by omega)
      simp only [if_pos (lt_cast h), at?_lt h, at?_lt h', Option.bind_some, p_l5Same fuel x[n].code y[n].code (by omega) hb.2, decide_eq_true_eq, kid_eq, if_pos (in64_succ h (show x.length ≤ _ by omega)), List.cons.injEq]
      by_cases e : x[n] = y[n]
      · simp only [e, if_true, true_and]; exact this
      · simp [e]
    · rw [if_neg (ge_cast h), drop_end h, drop_end (by omega)]
      simp

theorem p_SSameProg (fuel : Nat) (c : List I4) (x : List KidD) (c' : List I4) (y : List KidD) (hc : c.length ≤ 1048576) (hcf : c.length < fuel) (hl : x.length ≤ 1048576) (hk : KB fuel x) (hf : x.length < fuel) : m_spec_SameProg fuel c x c' y = some (decide (c = c') && decide (x = y)) := by
  unfold m_spec_SameProg
  simp only [p_l5Same fuel c c' (by omega) hcf, Option.bind_some]
  by_cases h : c = c'
  · simp only [h, decide_true, if_true, Bool.true_and]
    by_cases he : x.length = y.length
    · rw [if_pos (by omega)]
      have := p_SSame_L fuel x y hl hk he fuel 0 (by omega) (by omega)
      simp only [List.drop_zero, Int.natCast_zero] at this
      erw [this]
      by_cases e : x = y <;> simp [e, contL, un1]
    · rw [if_neg (by omega)]
      have : x ≠ y := fun e => he (by rw [e])
      simp [this]
  · simp [h]
/-! Sizes. -/
/-! Whether a program is one. -/
theorem p_Prog_L (fuel : Nat) (x : List KidD) (hl : x.length ≤ 1048576) (hk : KB fuel x) : ∀ K n, n ≤ x.length → x.length < n + K →
    m_impl_ProgOk_L0 fuel x K (n : Int) = some (if ((x.drop n).all fun k => kidB k.code) = true then .brk () else .ret false) := by
  intro K
  induction K with
  | zero => intro n h1 h2; omega
  | succ K ih =>
    intro n h1 h2
    rw [m_impl_ProgOk_L0]
    by_cases h : n < x.length
    · have hb := hk _ (List.getElem_mem h)
      rw [drop_cons h]
      have := ih (n + 1) (by omega) (by omega)
      simp only [if_pos (lt_cast h), at?_lt h, Option.bind_some, p_KidOk fuel x[n].code hb.1 hb.2, if_pos (in64_succ h (show x.length ≤ _ by omega)), List.all_cons]
      by_cases e : kidB x[n].code = true
      · simp only [e, if_true, Bool.true_and]; exact this
      · simp [Bool.eq_false_iff.2 e]
    · rw [if_neg (ge_cast h), drop_end h]; rfl
theorem p_SProg_L (fuel : Nat) (x : List KidD) (hl : x.length ≤ 1048576) (hk : KB fuel x) : ∀ K n, n ≤ x.length → x.length < n + K →
    m_spec_ProgOk_L0 fuel x K (n : Int) = some (if ((x.drop n).all fun k => kidB k.code) = true then .brk () else .ret false) := by
  intro K
  induction K with
  | zero => intro n h1 h2; omega
  | succ K ih =>
    intro n h1 h2
    rw [m_spec_ProgOk_L0]
    by_cases h : n < x.length
    · have hb := hk _ (List.getElem_mem h)
      rw [drop_cons h]
      have := ih (n + 1) (by omega) (by omega)
      simp only [if_pos (lt_cast h), at?_lt h, Option.bind_some, p_SKidOk fuel x[n].code hb.1 hb.2, if_pos (in64_succ h (show x.length ≤ _ by omega)), List.all_cons]
      by_cases e : kidB x[n].code = true
      · simp only [e, if_true, Bool.true_and]; exact this
      · simp [Bool.eq_false_iff.2 e]
    · rw [if_neg (ge_cast h), drop_end h]; rfl
open Classical in
noncomputable def progB (c : List I4) (x : List KidD) : Bool := decide (CodeP c) && decide ((x.length : Int) ≤ 3) && (forkB c == decide (0 < (x.length : Int))) && x.all fun k => kidB k.code
open Classical in
theorem p_ProgOk (fuel : Nat) (c : List I4) (x : List KidD) (hc : c.length ≤ 1048576) (hcf : c.length < fuel) (hl : x.length ≤ 1048576) (hk : KB fuel x) (hf : x.length < fuel) : m_impl_ProgOk fuel c x = some (progB c x) := by
  unfold m_impl_ProgOk progB
  have := p_Prog_L fuel x hl hk fuel 0 (by omega) (by omega)
  simp only [List.drop_zero] at this
  erw [this]
  simp only [p_CodeOk fuel c hc hcf, p_HasFork fuel c hc hcf]
  cases x.all fun k => kidB k.code with
  | false => simp [contL]
  | true =>
    simp only [if_true, Option.bind_some, contL, un1, Bool.and_true]
    by_cases h1 : CodeP c <;> by_cases h2 : (x.length : Int) ≤ 3 <;> simp [h1, h2]
open Classical in
theorem p_SProgOk (fuel : Nat) (c : List I4) (x : List KidD) (hc : c.length ≤ 1048576) (hcf : c.length < fuel) (hl : x.length ≤ 1048576) (hk : KB fuel x) (hf : x.length < fuel) : m_spec_ProgOk fuel c x = some (progB c x) := by
  unfold m_spec_ProgOk progB
  have := p_SProg_L fuel x hl hk fuel 0 (by omega) (by omega)
  simp only [List.drop_zero] at this
  simp only [p_SCodeOk fuel c hc hcf, p_SHasFork fuel c hc hcf, Option.bind_some]
  by_cases h1 : CodeP c
  · by_cases h2 : 3 < (x.length : Int)
    · have h3 : ¬ (x.length : Int) ≤ 3 := by omega
      simp only [decide_eq_true h1, if_true, if_pos h2, decide_eq_false h3, Bool.and_false, Bool.false_and]
    · have h3 : (x.length : Int) ≤ 3 := by omega
      simp only [decide_eq_true h1, if_true, if_neg h2, decide_eq_true h3, Bool.true_and]
      cases hq : (forkB c == decide (0 < (x.length : Int))) with
      | false => simp
      | true =>
        simp only [if_true, Bool.true_and]
        erw [this]
        cases x.all fun k => kidB k.code <;> simp [contL, un1]
  · simp only [decide_eq_false h1, Bool.false_eq_true, if_false, Bool.false_and]


/-! Code as text. -/
theorem s_Code_L (F : Nat) (x : List I4) (hl : x.length ≤ 24) (hf : 65536 < F) : ∀ (K n : Nat) (z : Str), z.length ≤ n * 200001 → n ≤ x.length → x.length < n + K →
    ∃ r, m_impl_ShowCode_L0 F x K z (n : Int) = some r ∧ m_spec_ShowCode_L0 F x K z (n : Int) = some r ∧ r.length ≤ x.length * 200001 := by
  intro K
  induction K with
  | zero => intro n z h1 h2 h3; omega
  | succ K ih =>
    intro n z hz h1 h2
    rw [m_impl_ShowCode_L0, m_spec_ShowCode_L0]
    by_cases h : n < x.length
    · obtain ⟨s, e1, e2, e3⟩ := s_ShowOp F x[n].a x[n].b x[n].c x[n].d hf
      have i1 : ((z.length + s.length : Nat) : Int) ≤ 9223372036854775807 := by omega
      have i2 : (((z ++ s).length + ([10] : List Nat).length : Nat) : Int) ≤ 9223372036854775807 := by simp; omega
      rw [if_pos (lt_cast h), if_pos (lt_cast h), at?_lt h, Option.bind_some, Option.bind_some, e1, e2, Option.bind_some, Option.bind_some, if_pos i1, if_pos i1, if_pos i2, if_pos i2, if_pos (in64_succ h (show x.length ≤ _ by omega)), if_pos (in64_succ h (show x.length ≤ _ by omega)), cast_succ]
      exact ih (n + 1) _ (by simp; omega) (by omega) (by omega)
    · rw [if_neg (ge_cast h), if_neg (ge_cast h)]
      exact ⟨z, rfl, rfl, by have : n = x.length := by omega
                             subst this; exact hz⟩
open Classical in
theorem s_ShowCode (F : Nat) (x : List I4) (hl : x.length ≤ 1048576) (hx : x.length < F) (hf : 65536 < F) : ∃ r, m_impl_ShowCode F x = some r ∧ m_spec_ShowCode F x = some r ∧ r.length ≤ 24 * 200001 := by
  unfold m_impl_ShowCode m_spec_ShowCode
  rw [p_CodeOk F x hl hx, p_SCodeOk F x hl hx]
  simp only [Option.bind_some, decide_eq_true_eq]
  by_cases h : CodeP x
  · obtain ⟨r, e1, e2, e3⟩ := s_Code_L F x h.1 hf F 0 [] (by simp) (by omega) (by have := h.1; omega)
    simp only [Int.natCast_zero] at e1 e2
    refine ⟨r, by rw [if_pos h, e1, Option.bind_some], by rw [if_pos h, e2, Option.bind_some], ?_⟩
    exact Nat.le_trans e3 (Nat.mul_le_mul_right 200001 h.1)
  · exact ⟨[], by rw [if_neg h], by rw [if_neg h], by simp⟩

/-! Programs as text. -/
theorem s_Prog_L (F : Nat) (x : List KidD) (hl : x.length ≤ 3) (hk : KB F x) (hf : 65536 < F) : ∀ (K n : Nat) (z : Str), z.length ≤ (n + 1) * 5000000 → n ≤ x.length → x.length < n + K →
    ∃ r, m_impl_ShowProg_L0 F x K z (n : Int) = some r ∧ m_spec_ShowProg_L0 F x K z (n : Int) = some r := by
  intro K
  induction K with
  | zero => intro n z h1 h2 h3; omega
  | succ K ih =>
    intro n z hz h1 h2
    rw [m_impl_ShowProg_L0, m_spec_ShowProg_L0]
    by_cases h : n < x.length
    · have hb := hk _ (List.getElem_mem h)
      obtain ⟨s, e1, e2, e3⟩ := s_ShowCode F x[n].code hb.1 hb.2 hf
      have i1 : ((z.length + ([107, 105, 100, 10] : List Nat).length : Nat) : Int) ≤ 9223372036854775807 := by simp; omega
      have i2 : (((z ++ ([107, 105, 100, 10] : Str)).length + s.length : Nat) : Int) ≤ 9223372036854775807 := by simp; omega
      rw [if_pos (lt_cast h), if_pos (lt_cast h), at?_lt h, Option.bind_some, Option.bind_some, if_pos i1, if_pos i1, e1, e2, Option.bind_some, Option.bind_some, if_pos i2, if_pos i2, if_pos (in64_succ h (show x.length ≤ _ by omega)), if_pos (in64_succ h (show x.length ≤ _ by omega)), cast_succ]
      exact ih (n + 1) _ (by simp; omega) (by omega) (by omega)
    · rw [if_neg (ge_cast h), if_neg (ge_cast h)]
      exact ⟨z, rfl, rfl⟩
theorem progB_len {c : List I4} {x : List KidD} (h : progB c x = true) : x.length ≤ 3 := by
  simp only [progB, Bool.and_eq_true, decide_eq_true_eq] at h
  omega
theorem s_ShowProg (F : Nat) (c : List I4) (x : List KidD) (hc : c.length ≤ 1048576) (hcf : c.length < F) (hl : x.length ≤ 1048576) (hk : KB F x) (hx : x.length < F) (hf : 65536 < F) : ∃ r, m_impl_ShowProg F c x = some r ∧ m_spec_ShowProg F c x = some r := by
  unfold m_impl_ShowProg m_spec_ShowProg
  rw [p_ProgOk F c x hc hcf hl hk hx, p_SProgOk F c x hc hcf hl hk hx, Option.bind_some, Option.bind_some]
  by_cases h : progB c x = true
  · rw [if_pos h, if_pos h]
    obtain ⟨s, e1, e2, e3⟩ := s_ShowCode F c hc hcf hf
    rw [e1, e2, Option.bind_some, Option.bind_some]
    have h3 := progB_len h
    obtain ⟨r, f1, f2⟩ := s_Prog_L F x h3 hk hf F 0 s (by omega) (by omega) (by omega)
    simp only [Int.natCast_zero] at f1 f2
    exact ⟨r, by rw [f1, Option.bind_some], by rw [f2, Option.bind_some]⟩
  · rw [if_neg h, if_neg h]; exact ⟨[], rfl, rfl⟩

/-! Programs read from text: the lines gathered, and the text cut. -/
def kidW : Str := [107, 105, 100]
def grp : List Str → Str → List Str
  | [], cur => [cur]
  | t :: ls, cur => if t = kidW then cur :: grp ls [] else grp ls ((cur ++ t) ++ [10])
theorem grp_ne : ∀ (ls : List Str) (cur : Str), grp ls cur ≠ []
  | [], cur => by simp [grp]
  | t :: ls, cur => by
    simp only [grp]
    split
    · simp
    · exact grp_ne ls _
def sumL : List Str → Nat
  | [] => 0
  | t :: ls => t.length + 1 + sumL ls
theorem grp_len : ∀ (ls : List Str) (cur : Str), (grp ls cur).length ≤ ls.length + 1 ∧ ∀ p ∈ grp ls cur, p.length ≤ cur.length + sumL ls
  | [], cur => by simp [grp, sumL]
  | t :: ls, cur => by
    simp only [grp, sumL]
    split
    · obtain ⟨h1, h2⟩ := grp_len ls []
      refine ⟨by simp; exact h1, fun p hp => ?_⟩
      rcases List.mem_cons.1 hp with rfl | hp
      · omega
      · have := h2 p hp; simp at this; omega
    · obtain ⟨h1, h2⟩ := grp_len ls ((cur ++ t) ++ [10])
      refine ⟨by rw [List.length_cons]; omega, fun p hp => ?_⟩
      have := h2 p hp
      simp at this; omega
theorem p_Grp_L (F : Nat) (ls : List Str) (hl : ls.length ≤ 1048577) : ∀ (K n : Nat) (A : List Str) (cur : Str), n ≤ ls.length → ls.length < n + K → A.length ≤ n → cur.length + sumL (ls.drop n) ≤ 1048576 →
    m_impl_ReadProg_L0 F (mk1 ls) K (mk1 (A ++ [cur])) (n : Int) = some (mk1 (A ++ grp (ls.drop n) cur)) := by
  intro K
  induction K with
  | zero => intro n A cur h1 h2 h3 h4; omega
  | succ K ih =>
    intro n A cur h1 h2 h3 h4
    rw [m_impl_ReadProg_L0]
    have hml : (mk1 ls).length = ls.length := by simp [mk1]
    by_cases h : n < ls.length
    · have hm : n < (mk1 ls).length := by omega
      have hat : at? (mk1 ls) (n : Int) = some ⟨ls[n]⟩ := by rw [at?_lt hm]; simp [mk1]
      have i2 : in64 ((n : Int) + 1) := in64_of (by omega) (by omega)
      rw [drop_cons h] at h4 ⊢
      simp only [sumL] at h4
      rw [if_pos (lt_cast hm), hat, Option.bind_some]
      have hA : ((mk1 (A ++ [cur])).length : Int) - 1 = ((mk1 A).length : Int) := by simp [mk1]
      have hal : (mk1 A).length = A.length := by simp [mk1]
      by_cases hk : ls[n] = kidW
      · have hk' : (⟨ls[n]⟩ : SE).s = [107, 105, 100] := hk
        have i1 : (mk1 (A ++ [cur])).length + 1 ≤ 17179869184 := by simp [mk1]; omega
        rw [if_pos hk', if_pos i1, Option.bind_some, if_pos i2, cast_succ]
        have := ih (n + 1) (A ++ [cur]) [] (by omega) (by omega) (by simp; omega) (by simp; omega)
        rw [grp, if_pos hk]
        simp only [mk1, List.map_append, List.map_cons, List.map_nil, List.append_assoc] at this ⊢
        exact this
      · have hk' : ¬ (⟨ls[n]⟩ : SE).s = [107, 105, 100] := hk
        have i3 : in64 ((mk1 A).length : Int) := in64_of (by omega) (by omega)
        have e1 : mk1 (A ++ [cur]) = mk1 A ++ ⟨cur⟩ :: [] := by simp [mk1]
        have i4 : ((cur.length + (ls[n]).length : Nat) : Int) ≤ 9223372036854775807 := by omega
        have i5 : (((cur ++ ls[n]).length + ([10] : List Nat).length : Nat) : Int) ≤ 9223372036854775807 := by simp; omega
        rw [if_neg hk', hA, if_pos i3, if_pos i3, e1, at?_mid rfl, Option.bind_some, if_pos i4, if_pos i5, Option.bind_some, if_pos i2, cast_succ, set_mid rfl]
        have := ih (n + 1) A ((cur ++ ls[n]) ++ [10]) (by omega) (by omega) (by omega) (by simp; omega)
        rw [grp, if_neg hk]
        simp only [mk1, List.map_append, List.map_cons, List.map_nil, List.append_assoc] at this ⊢
        exact this
    · rw [if_neg (ge_cast (by omega)), drop_end h]; rfl
/-! The reference's cut. -/
def isKid : Str → Bool
  | 107 :: 105 :: 100 :: 10 :: _ => true
  | _ => false
theorem isKid_take (s : Str) : isKid s = true ↔ s.take 4 = [107, 105, 100, 10] := by
  constructor
  · intro h
    unfold isKid at h
    split at h
    · rfl
    · cases h
  · intro h
    match s with
    | [] => simp at h
    | [_] => simp at h
    | [_, _] => simp at h
    | [_, _, _] => simp at h
    | a :: b :: c :: d :: s =>
      simp only [List.take_succ_cons, List.take_zero, List.cons.injEq, and_true] at h
      obtain ⟨rfl, rfl, rfl, rfl⟩ := h
      rfl
def gq : Str → Bool → Nat → Str → List Str
  | cur, _, _, [] => [cur]
  | cur, b, 0, c :: s => if (b && isKid (c :: s)) = true then cur :: gq [] false 3 s else gq (cur ++ [c]) (decide (c = 10)) 0 s
  | cur, _, m + 1, c :: s => gq cur (decide (c = 10)) m s
/-- Within the word that cuts. -/
def inK : Nat → Str → Prop
  | 0, _ => True
  | 1, s => ∃ t, s = 10 :: t
  | 2, s => ∃ t, s = 100 :: 10 :: t
  | 3, s => ∃ t, s = 105 :: 100 :: 10 :: t
  | _, _ => False
theorem inK_not {m : Nat} {s : Str} (h : inK (m + 1) s) : isKid s = false ∧ m < s.length ∧ (∀ c t, s = c :: t → inK m t) := by
  match m, h with
  | 0, ⟨t, h⟩ => subst h; exact ⟨rfl, by simp, fun c t' _ => trivial⟩
  | 1, ⟨t, h⟩ => subst h; exact ⟨rfl, by simp, fun c t' h' => by simp only [List.cons.injEq] at h'; exact ⟨t, h'.2.symm⟩⟩
  | 2, ⟨t, h⟩ => subst h; exact ⟨rfl, by simp, fun c t' h' => by simp only [List.cons.injEq] at h'; exact ⟨t, h'.2.symm⟩⟩
theorem isKid_len {s : Str} (h : isKid s = true) : ∃ t, s = 107 :: 105 :: 100 :: 10 :: t := by
  unfold isKid at h
  split at h
  · exact ⟨_, rfl⟩
  · cases h
theorem gq_short : ∀ (s cur : Str) (b : Bool) (m : Nat), s.length < 4 → m ≤ s.length → gq cur b m s = [cur ++ s.drop m]
  | [], cur, b, m, h1, h2 => by simp [gq]
  | c :: s, cur, b, 0, h1, h2 => by
    have : isKid (c :: s) = false := Bool.eq_false_iff.2 fun h => by obtain ⟨t, ht⟩ := isKid_len h; rw [ht] at h1; simp at h1; omega
    rw [gq, this, Bool.and_false, if_neg (by simp), gq_short s _ _ 0 (by simp at h1; omega) (by omega)]
    simp
  | c :: s, cur, b, m + 1, h1, h2 => by
    rw [gq, gq_short s _ _ m (by simp at h1; omega) (by simpa using h2)]
    simp
theorem gq_len : ∀ (s cur : Str) (b : Bool) (m : Nat), 0 < (gq cur b m s).length ∧ (gq cur b m s).length ≤ s.length + 1
  | [], cur, b, m => by simp [gq]
  | c :: s, cur, b, 0 => by
    rw [gq]
    split
    · have := gq_len s [] false 3; simp; omega
    · have := gq_len s (cur ++ [c]) (decide (c = 10)) 0; simp; omega
  | c :: s, cur, b, m + 1 => by rw [gq]; have := gq_len s cur (decide (c = 10)) m; simp; omega
theorem gq_part_len : ∀ (s cur : Str) (b : Bool) (m : Nat), ∀ p ∈ gq cur b m s, p.length ≤ cur.length + s.length
  | [], cur, b, m, p, hp => by simp [gq] at hp; subst hp; simp
  | c :: s, cur, b, 0, p, hp => by
    rw [gq] at hp
    split at hp
    · rcases List.mem_cons.1 hp with rfl | hp
      · omega
      · have := gq_part_len s [] false 3 p hp; simp at this ⊢; omega
    · have := gq_part_len s _ _ 0 p hp; simp at this ⊢; omega
  | c :: s, cur, b, m + 1, p, hp => by rw [gq] at hp; have := gq_part_len s _ _ m p hp; simp; omega
theorem gq_last : ∀ (s cur : Str) (b : Bool) (m : Nat), s ≠ [] → s.getLast? ≠ some 10 → inK m s → ∃ l p, gq cur b m s = l ++ [p] ∧ p ≠ [] ∧ p.getLast? = s.getLast?
  | [], cur, b, m, h, _, _ => absurd rfl h
  | c :: s, cur, b, 0, h, hl, hk => by
    rw [gq]
    split
    · rename_i hh
      simp only [Bool.and_eq_true] at hh
      obtain ⟨t, ht⟩ := isKid_len hh.2
      simp only [List.cons.injEq] at ht
      obtain ⟨rfl, rfl⟩ := ht
      obtain ⟨l, p, h1, h2, h3⟩ := gq_last (105 :: 100 :: 10 :: t) [] false 3 (by simp) (by simpa using hl) ⟨t, rfl⟩
      exact ⟨cur :: l, p, by rw [h1]; rfl, h2, by rw [h3]; simp⟩
    · by_cases hs : s = []
      · subst hs
        exact ⟨[], cur ++ [c], by simp [gq], by simp, by simp⟩
      · have e : (c :: s).getLast? = s.getLast? := by
          cases s with
          | nil => exact absurd rfl hs
          | cons d s => simp
        obtain ⟨l, p, h1, h2, h3⟩ := gq_last s (cur ++ [c]) (decide (c = 10)) 0 hs (by rw [← e]; exact hl) trivial
        exact ⟨l, p, h1, h2, by rw [h3, e]⟩
  | c :: s, cur, b, m + 1, h, hl, hk => by
    rw [gq]
    obtain ⟨_, k2, k3⟩ := inK_not hk
    by_cases hs : s = []
    · subst hs
      simp only [List.length_cons, List.length_nil] at k2
      have : m = 0 := by omega
      subst this
      obtain ⟨t, ht⟩ := hk
      simp only [List.cons.injEq] at ht
      rw [ht.1] at hl
      simp at hl
    · have e : (c :: s).getLast? = s.getLast? := by
        cases s with
        | nil => exact absurd rfl hs
        | cons d s => simp
      obtain ⟨l, p, h1, h2, h3⟩ := gq_last s cur (decide (c = 10)) m hs (by rw [← e]; exact hl) (k3 c s rfl)
      exact ⟨l, p, h1, h2, by rw [h3, e]⟩
/-- A whole line. -/
theorem gq_in : ∀ (t s cur : Str), (∀ c ∈ t, ¬ c = 10) → gq cur false 0 (t ++ 10 :: s) = gq ((cur ++ t) ++ [10]) true 0 s
  | [], s, cur, h => by rw [List.nil_append, gq, Bool.false_and, if_neg (by simp)]; simp
  | c :: t, s, cur, h => by
    rw [List.cons_append, gq, Bool.false_and, if_neg (by simp), decide_eq_false (h c (by simp)), gq_in t s _ (fun d hd => h d (List.mem_cons_of_mem _ hd))]
    simp
theorem gq_line (t s cur : Str) (h : ∀ c ∈ t, ¬ c = 10) : gq cur true 0 (t ++ 10 :: s) = if t = kidW then cur :: gq [] true 0 s else gq ((cur ++ t) ++ [10]) true 0 s := by
  by_cases hk : t = kidW
  · subst hk
    rw [if_pos rfl]
    show gq cur true 0 (107 :: 105 :: 100 :: 10 :: s) = _
    rw [gq, if_pos (show (true && isKid (107 :: 105 :: 100 :: 10 :: s)) = true from rfl), gq, gq, gq]
    rfl
  · rw [if_neg hk]
    cases t with
    | nil =>
      rw [List.nil_append, gq, if_neg (by simp [isKid])]
      simp
    | cons c t =>
      have hn : isKid (c :: (t ++ 10 :: s)) = false := Bool.eq_false_iff.2 fun hh => by
        obtain ⟨u, hu⟩ := isKid_len hh
        simp only [List.cons.injEq] at hu
        obtain ⟨rfl, hu⟩ := hu
        match t, hu, h, hk with
        | [], hu, h, hk => simp at hu
        | [b], hu, h, hk => simp at hu
        | [b, d], hu, h, hk =>
          simp only [List.cons_append, List.nil_append, List.cons.injEq] at hu
          obtain ⟨rfl, rfl, _⟩ := hu
          exact hk rfl
        | b :: d :: e :: t, hu, h, hk =>
          simp only [List.cons_append, List.cons.injEq] at hu
          exact h e (by simp) hu.2.2.1
      rw [List.cons_append, gq, hn, Bool.and_false, if_neg (by simp), decide_eq_false (h c (by simp)), gq_in t s _ (fun d hd => h d (List.mem_cons_of_mem _ hd))]
      simp
/-- A text out of lines. -/
def unl : List Str → Str
  | [] => []
  | t :: ls => t ++ 10 :: unl ls
theorem gq_unl : ∀ (ls : List Str) (cur : Str), (∀ t ∈ ls, ∀ c ∈ t, ¬ c = 10) → gq cur true 0 (unl ls) = grp ls cur
  | [], cur, _ => by simp [unl, gq, grp]
  | t :: ls, cur, h => by
    rw [unl, gq_line t _ cur (h t (by simp)), grp, gq_unl ls _ (fun t' h' => h t' (List.mem_cons_of_mem _ h')), gq_unl ls _ (fun t' h' => h t' (List.mem_cons_of_mem _ h'))]
theorem unl_snoc : ∀ (ls : List Str) (p : Str), unl (ls ++ [p]) = unl ls ++ (p ++ [10])
  | [], p => by simp [unl]
  | t :: ls, p => by rw [List.cons_append, unl, unl_snoc ls p, unl]; simp
theorem unl_spl (c : UInt8) (hc : c = 10) : ∀ s : Str, unl (spl c s) = s ++ [10]
  | [] => by simp [spl, unl]
  | x :: s => by
    subst hc
    by_cases h : x = 10
    · subst h; rw [spl_cons_eq, unl, unl_spl 10 rfl s]; rfl
    · rw [spl_cons_ne h]
      have ih := unl_spl 10 rfl s
      cases hs : spl 10 s with
      | nil => exact absurd hs (spl_ne 10 s)
      | cons p t =>
        rw [hs, unl] at ih
        simp only [consH, unl]
        rw [List.append_assoc, ih]; rfl
theorem sumL_unl : ∀ ls : List Str, sumL ls = (unl ls).length
  | [] => rfl
  | t :: ls => by simp [sumL, unl, sumL_unl ls]; omega
theorem linF_unl {x : Str} {ls : List Str} (h : linF x = some ls) : unl ls = x ∧ ∀ t ∈ ls, ∀ c ∈ t, ¬ c = 10 := by
  unfold linF at h
  split at h
  · simp only [Option.some.injEq] at h; subst h; rename_i hx; subst hx; exact ⟨rfl, by simp⟩
  · split at h
    · rename_i h0 h1
      simp only [Option.some.injEq] at h
      subst h
      refine ⟨?_, fun t ht => spl_free t ht⟩
      rw [unl_spl 10 rfl]
      rcases last_cases x with hx | ⟨s, d, hx⟩
      · exact absurd hx h0
      · rw [hx] at h1 ⊢
        simp at h1 ⊢
        exact h1.symm
    · cases h
theorem bM2 {α β γ δ : Type} (a : α) (b : β) (f : α → β → Option (Lp γ δ)) : ((some (Lp.brk (a, b))).bind <| contM <| un2 f) = f a b := rfl
/-- The reference's loop: the parts, or too many of them. -/
theorem p_Cut_L (F : Nat) (x : Str) (hx : x.length ≤ 1048576) : ∀ (K n f : Nat) (A : List Str) (b : Bool) (m : Nat), n ≤ x.length → x.length < n + K → A.length ≤ 3 →
    (b = true ↔ (n = 0 ∨ ∃ h : n - 1 < x.length, 0 < n ∧ x[n - 1] = 10)) → inK m (x.drop n) → (m = 0 → f ≤ n) → (0 < m → f = n + m) → f ≤ x.length →
    (3 < (A ++ gq ((x.drop f).take (n - f)) b m (x.drop n)).length - 1 ∧ m_spec_ReadProg_L0 F x K (mk1 A) (f : Int) (n : Int) = some (.ret ([], [], false))) ∨
    (∃ B, ∃ g : Nat, m_spec_ReadProg_L0 F x K (mk1 A) (f : Int) (n : Int) = some (.brk (mk1 B, (g : Int))) ∧ g ≤ x.length ∧ B.length ≤ 3 ∧ B ++ [x.drop g] = A ++ gq ((x.drop f).take (n - f)) b m (x.drop n)) := by
  intro K
  induction K with
  | zero => intro n f A b m h1 h2; omega
  | succ K ih =>
    intro n f A b m h1 h2 h3 h4 h5 h6 h7 h8
    have j1 : in64 ((n : Int) + 4) := in64_of (by omega) (by omega)
    rw [m_spec_ReadProg_L0, if_pos j1]
    by_cases h : n + 4 ≤ x.length
    · have hn : n < x.length := by omega
      have j2 : 0 ≤ (n : Int) ∧ (n : Int) ≤ (n : Int) + 4 ∧ (n : Int) + 4 ≤ (x.length : Int) := by omega
      have j3 : in64 ((n : Int) + 1) := in64_of (by omega) (by omega)
      have hsub : sub x (n : Int) ((n : Int) + 4) = (x.drop n).take 4 := by
        have := sub_nat x n (n + 4)
        rw [show ((n + 4 : Nat) : Int) = (n : Int) + 4 by omega] at this
        rw [this]; congr 1; omega
      have hb' : ∀ (c : UInt8), x[n] = c → ((decide (c = 10) = true) ↔ (n + 1 = 0 ∨ ∃ h : n + 1 - 1 < x.length, 0 < n + 1 ∧ x[n + 1 - 1] = 10)) := fun c hc => by
        subst hc
        simp only [Nat.add_sub_cancel, decide_eq_true_eq]
        exact ⟨fun q => .inr ⟨hn, by omega, q⟩, fun q => by rcases q with q | ⟨_, _, q⟩; · omega
                                                            · exact q⟩
      rw [if_pos (show (n : Int) + 4 ≤ (x.length : Int) by omega), if_pos j1, if_pos j2, hsub]
      -- what this place does
      by_cases hcut : b = true ∧ isKid (x.drop n) = true
      · obtain ⟨hb, hk⟩ := hcut
        have hm0 : m = 0 := by
          rcases Nat.eq_zero_or_pos m with q | q
          · exact q
          · obtain ⟨m', rfl⟩ : ∃ m', m = m' + 1 := ⟨m - 1, by omega⟩
            have := (inK_not h5).1
            rw [hk] at this; cases this
        subst hm0
        have hfn := h6 rfl
        have hsubc : sub x (f : Int) (n : Int) = (x.drop f).take (n - f) := sub_nat x f n
        have j4 : 0 ≤ (f : Int) ∧ (f : Int) ≤ (n : Int) ∧ (n : Int) ≤ (x.length : Int) := by omega
        have hml : (mk1 A).length = A.length := by simp [mk1]
        have j5 : (mk1 A).length + 1 ≤ 17179869184 := by omega
        have hg : gq ((x.drop f).take (n - f)) b 0 (x.drop n) = ((x.drop f).take (n - f)) :: gq [] false 3 (x.drop (n + 1)) := by
          rw [drop_cons hn, gq, ← drop_cons hn, hb, hk]; rfl
        have hbody : ∀ T : Option (Lp (List SE × Int) (List I4 × List KidD × Bool)), T = (if 3 < (((mk1 A) ++ ([(⟨sub x (f : Int) (n : Int)⟩ : SE)] : List SE)).length : Int) then some (.ret (([] : List I4), ([] : List KidD), false)) else some (.brk ((mk1 A) ++ ([(⟨sub x (f : Int) (n : Int)⟩ : SE)] : List SE), (n : Int) + 4))) →
            (3 < (A ++ gq ((x.drop f).take (n - f)) b 0 (x.drop n)).length - 1 ∧ (T.bind <| contM <| un2 fun z6 z7 => if in64 ((n : Int) + 1) then m_spec_ReadProg_L0 F x K z6 z7 ((n : Int) + 1) else none) = some (.ret ([], [], false))) ∨
            (∃ B, ∃ g : Nat, (T.bind <| contM <| un2 fun z6 z7 => if in64 ((n : Int) + 1) then m_spec_ReadProg_L0 F x K z6 z7 ((n : Int) + 1) else none) = some (.brk (mk1 B, (g : Int))) ∧ g ≤ x.length ∧ B.length ≤ 3 ∧ B ++ [x.drop g] = A ++ gq ((x.drop f).take (n - f)) b 0 (x.drop n)) := by
          intro T hT
          have hlen : (((mk1 A) ++ ([(⟨sub x (f : Int) (n : Int)⟩ : SE)] : List SE)).length : Int) = (A.length : Int) + 1 := by simp [mk1]
          rw [hT, hlen]
          by_cases h3' : 3 < (A.length : Int) + 1
          · rw [if_pos h3']
            refine .inl ⟨?_, rfl⟩
            rw [hg]
            have := (gq_len (x.drop (n + 1)) [] false 3).1
            simp only [List.length_append, List.length_cons]
            omega
          · rw [if_neg h3']
            rw [bM2, if_pos j3, cast_succ]
            obtain ⟨t, ht⟩ := isKid_len hk
            have hd1 : x.drop (n + 1) = 105 :: 100 :: 10 :: t := by
              rw [drop_cons hn] at ht; simp only [List.cons.injEq] at ht; exact ht.2
            have hx0 : x[n] = 107 := by rw [drop_cons hn] at ht; simp only [List.cons.injEq] at ht; exact ht.1
            have e1 : mk1 A ++ ([(⟨sub x (f : Int) (n : Int)⟩ : SE)] : List SE) = mk1 (A ++ [(x.drop f).take (n - f)]) := by rw [hsubc]; simp [mk1]
            have e2 : (n : Int) + 4 = ((n + 4 : Nat) : Int) := by omega
            rw [e1, e2, hg]
            have := ih (n + 1) (n + 4) (A ++ [(x.drop f).take (n - f)]) false 3 (by omega) (by omega) (by simp; omega) (by
              rw [← hb' 107 hx0]; simp) (by rw [hd1]; exact ⟨t, rfl⟩) (by omega) (by omega) (by omega)
            rw [show n + 1 - (n + 4) = 0 by omega, List.take_zero, List.append_assoc] at this
            exact this
        rw [if_pos ((isKid_take _).1 hk)]
        rcases h4.1 hb with h0 | ⟨h0, h00, h01⟩
        · rw [if_pos (by omega), if_pos j4, if_pos j5, if_pos j1]
          exact hbody _ rfl
        · have hnn : ¬ ((n : Int) = 0) := by omega
          have j6 : in64 ((n : Int) - 1) := in64_of (by omega) (by omega)
          have e3 : (n : Int) - 1 = ((n - 1 : Nat) : Int) := by omega
          have j7 : (((x[n - 1]).toNat : Nat) : Int) = 10 := by rw [h01]; rfl
          rw [if_neg hnn, if_pos j6, e3, at?_lt h0, Option.bind_some, if_pos j7, if_pos j4, if_pos j5, if_pos j1]
          exact hbody _ rfl
      · -- nothing is cut here
        have hnone : ∀ T : Option (Lp (List SE × Int) (List I4 × List KidD × Bool)), T = some (.brk (mk1 A, (f : Int))) →
            (3 < (A ++ gq ((x.drop f).take (n - f)) b m (x.drop n)).length - 1 ∧ (T.bind <| contM <| un2 fun z6 z7 => if in64 ((n : Int) + 1) then m_spec_ReadProg_L0 F x K z6 z7 ((n : Int) + 1) else none) = some (.ret ([], [], false))) ∨
            (∃ B, ∃ g : Nat, (T.bind <| contM <| un2 fun z6 z7 => if in64 ((n : Int) + 1) then m_spec_ReadProg_L0 F x K z6 z7 ((n : Int) + 1) else none) = some (.brk (mk1 B, (g : Int))) ∧ g ≤ x.length ∧ B.length ≤ 3 ∧ B ++ [x.drop g] = A ++ gq ((x.drop f).take (n - f)) b m (x.drop n)) := by
          intro T hT
          rw [hT]
          rw [bM2, if_pos j3, cast_succ]
          cases m with
          | zero =>
            have hfn := h6 rfl
            have hg : gq ((x.drop f).take (n - f)) b 0 (x.drop n) = gq ((x.drop f).take (n + 1 - f)) (decide (x[n] = 10)) 0 (x.drop (n + 1)) := by
              have hne : ¬ ((b && isKid (x.drop n)) = true) := by rw [Bool.and_eq_true]; exact hcut
              have hs : (x.drop f).take (n + 1 - f) = (x.drop f).take (n - f) ++ [x[n]] := by
                have := sub_succ hfn hn
                rw [sub_nat, sub_nat] at this
                exact this
              rw [hs]
              rw [drop_cons hn] at hne ⊢
              rw [gq, if_neg hne]
            rw [hg]
            exact ih (n + 1) f A _ 0 (by omega) (by omega) h3 (hb' _ rfl) trivial (by omega) (by omega) h8
          | succ m =>
            obtain ⟨k1, k2, k3⟩ := inK_not h5
            have hf := h7 (by omega)
            have hg : gq ((x.drop f).take (n - f)) b (m + 1) (x.drop n) = gq ((x.drop f).take (n + 1 - f)) (decide (x[n] = 10)) m (x.drop (n + 1)) := by
              rw [show n - f = 0 by omega, show n + 1 - f = 0 by omega, List.take_zero, drop_cons hn, gq]
            rw [hg]
            exact ih (n + 1) f A _ m (by omega) (by omega) h3 (hb' _ rfl) (k3 _ _ (drop_cons hn)) (by omega) (by omega) h8
        by_cases hk : isKid (x.drop n) = true
        · have hb : ¬ b = true := fun q => hcut ⟨q, hk⟩
          have hb2 : ¬ (n = 0 ∨ ∃ h : n - 1 < x.length, 0 < n ∧ x[n - 1] = 10) := fun q => hb (h4.2 q)
          have hn0 : ¬ n = 0 := fun q => hb2 (.inl q)
          have h0 : n - 1 < x.length := by omega
          have j6 : in64 ((n : Int) - 1) := in64_of (by omega) (by omega)
          have e3 : (n : Int) - 1 = ((n - 1 : Nat) : Int) := by omega
          have j7 : ¬ (((x[n - 1]).toNat : Nat) : Int) = 10 := fun q => hb2 (.inr ⟨h0, by omega, UInt8.toNat_inj.1 (by show (x[n - 1]).toNat = 10; omega)⟩)
          rw [if_pos ((isKid_take _).1 hk), if_neg (show ¬ (n : Int) = 0 by omega), if_pos j6, e3, at?_lt h0, Option.bind_some, if_neg j7]
          exact hnone _ rfl
        · rw [if_neg (fun q => hk ((isKid_take _).2 q))]
          exact hnone _ rfl
    · rw [if_neg (by omega)]
      refine .inr ⟨A, f, rfl, h8, h3, ?_⟩
      have hml : m ≤ (x.drop n).length := by
        cases m with
        | zero => omega
        | succ m => have := (inK_not h5).2.1; omega
      rw [gq_short _ _ _ _ (by simp; omega) hml]
      congr 2
      cases m with
      | zero =>
        have hfn := h6 rfl
        rw [List.drop_zero]
        have : x.drop n = (x.drop f).drop (n - f) := by rw [List.drop_drop]; congr 1; omega
        rw [this, List.take_append_drop]
      | succ m =>
        have hf := h7 (by omega)
        rw [show n - f = 0 by omega, List.take_zero, List.nil_append, List.drop_drop, hf]

/-! The parts, read one by one. -/
def RC (F : Nat) : List KidD → List Str → Prop
  | [], [] => True
  | k :: l, s :: t => m_impl_ReadCode F s = some (k.code, true) ∧ RC F l t
  | _, _ => False
theorem RC_len {F : Nat} : ∀ {C : List KidD} {ps : List Str}, RC F C ps → C.length = ps.length
  | [], [], _ => rfl
  | k :: l, s :: t, h => by simp [RC_len h.2]
theorem RC_all {F : Nat} : ∀ {C : List KidD} {ps : List Str}, RC F C ps → ∀ s ∈ ps, ∃ l, m_impl_ReadCode F s = some (l, true)
  | [], [], _, s, hs => by cases hs
  | k :: l, s :: t, h, s', hs => by
    rcases List.mem_cons.1 hs with rfl | hs
    · exact ⟨_, h.1⟩
    · exact RC_all h.2 s' hs
theorem ReadCode_right {F : Nat} {s : Str} {l : List I4} (hs : s.length ≤ 1048576) (hf : 1000000001 < F) (h : m_impl_ReadCode F s = some (l, true)) : CodeP l ∧ ∃ ls, linF s = some ls ∧ Sh F l ls ∧ m_spec_ReadCode F s = some (l, true) := by
  rcases s_ReadCode F s hs hf with ⟨l', ls, e1, e2, e3, e4, e5, _⟩ | ⟨e1, _⟩
  · rw [e1] at h
    simp only [Option.some.injEq, Prod.mk.injEq, and_true] at h
    subst h
    exact ⟨e3, ls, e4, e5, e2⟩
  · rw [e1] at h; simp at h
theorem RC_KB {F : Nat} (hf : 1000000001 < F) : ∀ {C : List KidD} {ps : List Str}, (∀ w ∈ ps, w.length ≤ 1048576) → RC F C ps → KB F C
  | [], [], _, _ => fun k hk => by cases hk
  | k :: l, s :: t, hw, h => by
    intro k' hk
    rcases List.mem_cons.1 hk with rfl | hk
    · have := (ReadCode_right (hw s (by simp)) hf h.1).1.1
      exact ⟨by omega, by omega⟩
    · exact RC_KB hf (fun w hw' => hw w (List.mem_cons_of_mem _ hw')) h.2 k' hk
theorem bL2 {α β δ : Type} (a : α) (b : β) (f : α → β → Option δ) : ((some (Lp.brk (a, b))).bind <| contL <| un2 f) = f a b := rfl
theorem bM2r {α β γ δ : Type} (r : δ) (f : α → β → Option (Lp γ δ)) : ((some (Lp.ret r)).bind <| contM <| un2 f) = some (.ret r) := rfl
theorem bb2 {α β δ : Type} (a : α) (b : β) (f : α → β → Option δ) : bind2 (some (a, b)) f = f a b := rfl
theorem s_Parts_L (F : Nat) (ps : List Str) (x0 : Str) (z1 : List SE) (z2 : Int) (hz : z1 ++ ([(⟨sub x0 z2 (x0.length : Int)⟩ : SE)] : List SE) = mk1 ps) (hl : ps.length ≤ 1048577) (hw : ∀ w ∈ ps, w.length ≤ 1048576) (hf : 1000000001 < F) :
    ∀ (K n : Nat) (c : List I4) (A : List KidD), 1 ≤ n → n ≤ ps.length → ps.length < n + K → A.length ≤ n →
    (∃ C, m_impl_ReadProg_L1 F (mk1 ps) K c A (n : Int) = some (.brk (c, A ++ C)) ∧ m_spec_ReadProg_L1 F x0 z1 z2 K c A (n : Int) = some (.brk (c, A ++ C)) ∧ RC F C (ps.drop n)) ∨
    (m_impl_ReadProg_L1 F (mk1 ps) K c A (n : Int) = some (.ret ([], [], false)) ∧ m_spec_ReadProg_L1 F x0 z1 z2 K c A (n : Int) = some (.ret ([], [], false))) := by
  intro K
  induction K with
  | zero => intro n c A h0 h1 h2; omega
  | succ K ih =>
    intro n c A h0 h1 h2 h3
    rw [m_impl_ReadProg_L1, m_spec_ReadProg_L1, hz]
    have hml : (mk1 ps).length = ps.length := by simp [mk1]
    by_cases h : n < ps.length
    · have hm : n < (mk1 ps).length := by omega
      have hat : at? (mk1 ps) (n : Int) = some ⟨ps[n]⟩ := by rw [at?_lt hm]; simp [mk1]
      have i1 : in64 ((n : Int) + 1) := in64_of (by omega) (by omega)
      have i2 : A.length + 1 ≤ 17179869184 := by omega
      have hn0 : ¬ (n : Int) = 0 := by omega
      rw [if_pos (lt_cast hm), if_pos (lt_cast hm), hat, Option.bind_some, Option.bind_some]
      have hwn := hw _ (List.getElem_mem h)
      rcases s_ReadCode F ps[n] hwn hf with ⟨l, ls, e1, e2, e3, e4, e5, _⟩ | ⟨e1, e2⟩
      · rw [e1, e2, bb2, if_pos rfl, if_neg hn0, if_pos i2, bM2, bM2, if_pos i1, if_pos i1, cast_succ]
        rcases ih (n + 1) c (A ++ [⟨l⟩]) (by omega) (by omega) (by omega) (by simp; omega) with ⟨C, f1, f2, f3⟩ | ⟨f1, f2⟩
        · refine .inl ⟨⟨l⟩ :: C, by rw [f1, List.append_assoc]; rfl, by rw [f2, List.append_assoc]; rfl, ?_⟩
          rw [drop_cons h]
          exact ⟨e1, f3⟩
        · exact .inr ⟨f1, f2⟩
      · have hb : ¬ (false = true) := by simp
        rw [e1, e2, bb2, if_neg hb, bM2r, bM2r]
        exact .inr ⟨rfl, rfl⟩
    · rw [if_neg (ge_cast (by omega)), if_neg (ge_cast (by omega)), drop_end h]
      exact .inl ⟨[], by simp, by simp, trivial⟩
/-- All parts. -/
theorem s_Parts (F : Nat) (p : Str) (ps : List Str) (x0 : Str) (z1 : List SE) (z2 : Int) (hz : z1 ++ ([(⟨sub x0 z2 (x0.length : Int)⟩ : SE)] : List SE) = mk1 (p :: ps)) (hl : (p :: ps).length ≤ 1048577) (hw : ∀ w ∈ p :: ps, w.length ≤ 1048576) (hf : 1000000001 < F) :
    (∃ c C, m_impl_ReadProg_L1 F (mk1 (p :: ps)) F [] [] 0 = some (.brk (c, C)) ∧ m_spec_ReadProg_L1 F x0 z1 z2 F [] [] 0 = some (.brk (c, C)) ∧ m_impl_ReadCode F p = some (c, true) ∧ RC F C ps) ∨
    (m_impl_ReadProg_L1 F (mk1 (p :: ps)) F [] [] 0 = some (.ret ([], [], false)) ∧ m_spec_ReadProg_L1 F x0 z1 z2 F [] [] 0 = some (.ret ([], [], false))) := by
  have hL := s_Parts_L F (p :: ps) x0 z1 z2 hz hl hw hf
  obtain ⟨k, hk⟩ : ∃ k, F = k + 1 := ⟨F - 1, by omega⟩
  have e : ∀ K, K = k + 1 → ((∃ c C, m_impl_ReadProg_L1 F (mk1 (p :: ps)) K [] [] 0 = some (.brk (c, C)) ∧ m_spec_ReadProg_L1 F x0 z1 z2 K [] [] 0 = some (.brk (c, C)) ∧ m_impl_ReadCode F p = some (c, true) ∧ RC F C ps) ∨
    (m_impl_ReadProg_L1 F (mk1 (p :: ps)) K [] [] 0 = some (.ret ([], [], false)) ∧ m_spec_ReadProg_L1 F x0 z1 z2 K [] [] 0 = some (.ret ([], [], false)))) := by
    intro K hK
    subst hK
    rw [m_impl_ReadProg_L1, m_spec_ReadProg_L1, hz]
    have hpos : (0 : Int) < ((mk1 (p :: ps)).length : Int) := by simp [mk1]
    have hat : at? (mk1 (p :: ps)) 0 = some ⟨p⟩ := rfl
    have i1 : in64 ((0 : Int) + 1) := by decide
    rw [if_pos hpos, if_pos hpos, hat, Option.bind_some, Option.bind_some]
    rcases s_ReadCode F p (hw p (by simp)) hf with ⟨l, ls, e1, e2, e3, e4, e5, _⟩ | ⟨e1, e2⟩
    · rw [e1, e2, bb2, if_pos rfl, if_pos rfl, bM2, bM2, if_pos i1, if_pos i1]
      rcases hL k 1 l [] (by omega) (by simp) (by simp at hl ⊢; omega) (by simp) with ⟨C, f1, f2, f3⟩ | ⟨f1, f2⟩
      · exact .inl ⟨l, C, f1, f2, rfl, f3⟩
      · exact .inr ⟨f1, f2⟩
    · have hb : ¬ (false = true) := by simp
      rw [e1, e2, bb2, if_neg hb, bM2r, bM2r]
      exact .inr ⟨rfl, rfl⟩
  exact e F hk
theorem sumL_ge : ∀ ls : List Str, ls.length ≤ sumL ls
  | [] => Nat.le_refl _
  | t :: ls => by simp only [sumL, List.length_cons]; have := sumL_ge ls; omega
/-- Programs: what is read is right, and its parts are read as code; or nothing is read on either side. -/
theorem s_ReadProg (F : Nat) (x : Str) (hx : x.length ≤ 1048576) (hf : 1000000001 < F) :
    (∃ c C ls p ps, m_impl_ReadProg F x = some (c, C, true) ∧ m_spec_ReadProg F x = some (c, C, true) ∧ progB c C = true ∧ linF x = some ls ∧ grp ls [] = p :: ps ∧ m_impl_ReadCode F p = some (c, true) ∧ RC F C ps ∧ KB F C ∧ c.length ≤ 24) ∨
    (m_impl_ReadProg F x = some ([], [], false) ∧ m_spec_ReadProg F x = some ([], [], false)) := by
  have hcut := p_Cut_L F x hx F 0 0 [] true 0 (by omega) (by omega) (by simp) (by simp) trivial (by omega) (by omega) (by omega)
  simp only [Int.natCast_zero, List.drop_zero, Nat.sub_self, List.take_zero, List.nil_append] at hcut
  have hpl := gq_part_len x [] true 0
  have hgl := gq_len x [] true 0
  simp only [List.length_nil, Nat.zero_add] at hpl
  have emk : (mk1 [] : List SE) = [] := rfl
  rw [emk] at hcut
  unfold m_impl_ReadProg m_spec_ReadProg
  rw [p_lines F x hx (by omega)]
  have hb : ¬ (false = true) := by simp
  -- the reference, once the parts are known
  have hspec : ∀ (p : Str) (ps : List Str), gq [] true 0 x = p :: ps → ∀ B, ∀ g : Nat, g ≤ x.length → B.length ≤ 3 → B ++ [x.drop g] = gq [] true 0 x →
      mk1 B ++ ([(⟨sub x (g : Int) (x.length : Int)⟩ : SE)] : List SE) = mk1 (p :: ps) := by
    intro p ps h1 B g h2 h3 h4
    rw [sub_end, ← h1, ← h4]; simp [mk1]
  cases hl : linF x with
  | none =>
    refine .inr ⟨by rw [bb2, if_neg hb], ?_⟩
    have hx0 : x ≠ [] := by
      intro h0
      rw [h0] at hl
      simp [linF] at hl
    have hlast : x.getLast? ≠ some 10 := by
      intro h0
      unfold linF at hl
      rw [if_neg hx0, if_pos h0] at hl
      cases hl
    rcases hcut with ⟨_, e⟩ | ⟨B, g, e1, e2, e3, e4⟩
    · rw [e]; rfl
    · obtain ⟨l, q, q1, q2, q3⟩ := gq_last x [] true 0 hx0 hlast trivial
      have j1 : 0 ≤ (g : Int) ∧ (g : Int) ≤ (x.length : Int) ∧ (x.length : Int) ≤ (x.length : Int) := by omega
      have j2 : (mk1 B).length + 1 ≤ 17179869184 := by simp [mk1]; omega
      rw [e1, bL2, if_pos j1, if_pos j2]
      cases hg : gq [] true 0 x with
      | nil => rw [hg] at hgl; simp at hgl
      | cons p ps =>
        have hz := hspec p ps hg B g e2 e3 e4
        rw [hg] at hpl hgl
        have hall : ∀ w ∈ p :: ps, w.length ≤ 1048576 := fun w hw => Nat.le_trans (hpl w hw) hx
        rcases s_Parts F p ps x (mk1 B) (g : Int) hz (by omega) hall hf with ⟨c, C, f1, f2, f3, f4⟩ | ⟨f1, f2⟩
        · exfalso
          have hq : q ∈ p :: ps := by rw [← hg, q1]; simp
          have : ∃ l, m_impl_ReadCode F q = some (l, true) := by
            rcases List.mem_cons.1 hq with h | h
            · exact ⟨c, by rw [h]; exact f3⟩
            · exact RC_all f4 q h
          obtain ⟨l', hl'⟩ := this
          obtain ⟨_, ls, h1, _⟩ := ReadCode_right (hall q hq) hf hl'
          unfold linF at h1
          rw [if_neg q2, if_neg (by rw [q3]; exact hlast)] at h1
          cases h1
        · rw [f2]; rfl
  | some ls =>
    obtain ⟨u1, u2⟩ := linF_unl hl
    have hsum : sumL ls = x.length := by rw [sumL_unl, u1]
    have hlen := sumL_ge ls
    have hgrp : gq [] true 0 x = grp ls [] := by rw [← gq_unl ls [] u2, u1]
    have e0 := p_Grp_L F ls (by omega) F 0 [] [] (by omega) (by omega) (by simp) (by simp; omega)
    simp only [Int.natCast_zero, List.drop_zero, List.nil_append] at e0
    have e0' : m_impl_ReadProg_L0 F (mk1 ls) F ([(⟨[]⟩ : SE)] : List SE) 0 = some (mk1 (grp ls [])) := e0
    rw [bb2, if_pos rfl, e0', Option.bind_some]
    cases hg : grp ls [] with
    | nil => exact absurd hg (grp_ne _ _)
    | cons p ps =>
      rw [hgrp, hg] at hpl hgl hcut
      have hall : ∀ w ∈ p :: ps, w.length ≤ 1048576 := fun w hw => Nat.le_trans (hpl w hw) hx
      have prog : ∀ c C, m_impl_ReadCode F p = some (c, true) → RC F C ps → c.length ≤ 24 ∧ KB F C ∧ C.length = ps.length ∧ m_impl_ProgOk F c C = some (progB c C) ∧ m_spec_ProgOk F c C = some (progB c C) := by
        intro c C h1 h2
        have hc := (ReadCode_right (hall p (by simp)) hf h1).1.1
        have hk := RC_KB hf (fun w hw => hall w (List.mem_cons_of_mem _ hw)) h2
        have hlC := RC_len h2
        simp only [List.length_cons] at hgl
        exact ⟨hc, hk, hlC, p_ProgOk F c C (by omega) (by omega) (by omega) hk (by omega), p_SProgOk F c C (by omega) (by omega) (by omega) hk (by omega)⟩
      rcases hcut with ⟨e5, e⟩ | ⟨B, g, e1, e2, e3, e4⟩
      · -- too many parts
        refine .inr ⟨?_, by rw [e]; rfl⟩
        have hz : mk1 (p :: ps).dropLast ++ ([(⟨sub ((p :: ps).getLast (by simp)) 0 (((p :: ps).getLast (by simp)).length : Int)⟩ : SE)] : List SE) = mk1 (p :: ps) := by
          have : sub ((p :: ps).getLast (by simp)) 0 (((p :: ps).getLast (by simp)).length : Int) = (p :: ps).getLast (by simp) := by
            have := sub_end ((p :: ps).getLast (by simp)) 0
            rw [Int.natCast_zero, List.drop_zero] at this
            exact this
          rw [this]
          have h2 : (p :: ps).dropLast ++ [(p :: ps).getLast (by simp)] = p :: ps := List.dropLast_concat_getLast (by simp)
          calc mk1 (p :: ps).dropLast ++ [(⟨(p :: ps).getLast (by simp)⟩ : SE)] = mk1 ((p :: ps).dropLast ++ [(p :: ps).getLast (by simp)]) := by simp [mk1]
            _ = mk1 (p :: ps) := by rw [h2]
        rcases s_Parts F p ps _ _ 0 hz (by omega) hall hf with ⟨c, C, f1, f2, f3, f4⟩ | ⟨f1, f2⟩
        · obtain ⟨g1, g2, g3, g4, g5⟩ := prog c C f3 f4
          rw [f1, bL2, g4, Option.bind_some]
          have : ¬ progB c C = true := fun q => by
            have := progB_len q
            simp only [List.length_cons] at e5
            omega
          rw [if_neg this]
        · rw [f1]; rfl
      · have hz : mk1 B ++ ([(⟨sub x (g : Int) (x.length : Int)⟩ : SE)] : List SE) = mk1 (p :: ps) := by rw [sub_end, ← e4]; simp [mk1]
        have j1 : 0 ≤ (g : Int) ∧ (g : Int) ≤ (x.length : Int) ∧ (x.length : Int) ≤ (x.length : Int) := by omega
        have j2 : (mk1 B).length + 1 ≤ 17179869184 := by simp [mk1]; omega
        rw [e1, bL2, if_pos j1, if_pos j2]
        rcases s_Parts F p ps x (mk1 B) (g : Int) hz (by omega) hall hf with ⟨c, C, f1, f2, f3, f4⟩ | ⟨f1, f2⟩
        · obtain ⟨g1, g2, g3, g4, g5⟩ := prog c C f3 f4
          rw [f1, f2, bL2, bL2, g4, g5, Option.bind_some]
          by_cases hp : progB c C = true
          · rw [if_pos hp]
            exact .inl ⟨c, C, ls, p, ps, rfl, rfl, hp, rfl, hg, f3, f4, g2, g1⟩
          · rw [if_neg hp]
            exact .inr ⟨rfl, rfl⟩
        · rw [f1, f2]; exact .inr ⟨rfl, rfl⟩
/-! The marks of a program. -/
end Go.Proofs.Ytpbfppelmgjfpaa
