/- The laws on operations and code, in plain Lean: what the two sides do agrees. -/
import Derived.Test.YtinlleepikjopaaPOps
namespace Go.Proofs.Ytinlleepikjopaa
open Go Go.RowKit
set_option linter.unusedVariables false
set_option linter.unusedSimpArgs false

/-! Children. -/
def kidO (o : I4) : Bool := !decide (o.a = 11) && !decide (tchF o.a o.b o.c o.d = 2)
theorem p_Kid_L (fuel : Nat) (x : List I4) (hl : x.length ≤ 1048576) : ∀ K n, n ≤ x.length → x.length < n + K →
    m_impl_KidOk_L0 fuel x K (n : Int) = some (if (x.drop n).all kidO = true then .brk () else .ret false) := by
  intro K
  induction K with
  | zero => intro n h1 h2; omega
  | succ K ih =>
    intro n h1 h2
    rw [m_impl_KidOk_L0]
    by_cases h : n < x.length
    · rw [drop_cons h]
      have := ih (n + 1) (by omega) (by omega)
      simp only [if_pos (lt_cast h), at?_lt h, Option.bind_some, p_Touches, if_pos (in64_succ h (show x.length ≤ _ by omega)), List.all_cons, kidO]
      by_cases e1 : x[n].a = 11
      · simp [e1]
      · by_cases e2 : tchF x[n].a x[n].b x[n].c x[n].d = 2
        · simp [e1, e2]
        · simp only [if_neg e1, if_neg e2, decide_eq_false e1, decide_eq_false e2, Bool.not_false, Bool.true_and]; exact this
    · rw [if_neg (ge_cast h), drop_end h]; rfl
theorem p_SKid_L (fuel : Nat) (x : List I4) (hl : x.length ≤ 1048576) : ∀ K n, n ≤ x.length → x.length < n + K →
    m_spec_KidOk_L0 fuel x K (n : Int) = some (if ((x.drop n).all fun o => !decide (tchF o.a o.b o.c o.d = 2)) = true then .brk () else .ret false) := by
  intro K
  induction K with
  | zero => intro n h1 h2; omega
  | succ K ih =>
    intro n h1 h2
    rw [m_spec_KidOk_L0]
    by_cases h : n < x.length
    · rw [drop_cons h]
      have := ih (n + 1) (by omega) (by omega)
      simp only [if_pos (lt_cast h), at?_lt h, Option.bind_some, p_STouches, if_pos (in64_succ h (show x.length ≤ _ by omega)), List.all_cons]
      by_cases e2 : tchF x[n].a x[n].b x[n].c x[n].d = 2
      · simp [e2]
      · simp only [if_neg e2, decide_eq_false e2, Bool.not_false, Bool.true_and]; exact this
    · rw [if_neg (ge_cast h), drop_end h]; rfl
theorem p_SHasFork_L (fuel : Nat) (x : List I4) (hl : x.length ≤ 1048576) : ∀ K n, n ≤ x.length → x.length < n + K →
    m_spec_HasFork_L0 fuel x K (n : Int) = some (if ((x.drop n).all fun o => !decide (o.a = 11)) = true then .brk () else .ret true) := by
  intro K
  induction K with
  | zero => intro n h1 h2; omega
  | succ K ih =>
    intro n h1 h2
    rw [m_spec_HasFork_L0]
    by_cases h : n < x.length
    · rw [drop_cons h]
      have := ih (n + 1) (by omega) (by omega)
      simp only [if_pos (lt_cast h), at?_lt h, Option.bind_some, if_pos (in64_succ h (show x.length ≤ _ by omega)), List.all_cons]
      by_cases e2 : x[n].a = 11
      · simp [e2]
      · simp only [if_neg e2, decide_eq_false e2, Bool.not_false, Bool.true_and]; exact this
    · rw [if_neg (ge_cast h), drop_end h]; rfl
def forkB (x : List I4) : Bool := !(x.all fun o => !decide (o.a = 11))
theorem p_SHasFork (fuel : Nat) (x : List I4) (hl : x.length ≤ 1048576) (hf : x.length < fuel) : m_spec_HasFork fuel x = some (forkB x) := by
  unfold m_spec_HasFork forkB
  have := p_SHasFork_L fuel x hl fuel 0 (by omega) (by omega)
  simp only [List.drop_zero] at this
  erw [this]
  cases x.all fun o => !decide (o.a = 11) <;> simp [contL, un1]
theorem kid_all (x : List I4) : x.all kidO = (!forkB x && x.all fun o => !decide (tchF o.a o.b o.c o.d = 2)) := by
  unfold forkB
  rw [Bool.not_not]
  induction x with
  | nil => rfl
  | cons o x ih =>
    rw [List.all_cons, List.all_cons, List.all_cons, ih, kidO]
    cases decide (o.a = 11) <;> cases decide (tchF o.a o.b o.c o.d = 2) <;> simp
open Classical in
noncomputable def kidB (x : List I4) : Bool := decide (CodeP x) && x.all kidO
open Classical in
theorem p_KidOk (fuel : Nat) (x : List I4) (hl : x.length ≤ 1048576) (hf : x.length < fuel) : m_impl_KidOk fuel x = some (kidB x) := by
  unfold m_impl_KidOk kidB
  have := p_Kid_L fuel x hl fuel 0 (by omega) (by omega)
  simp only [List.drop_zero] at this
  erw [this]
  simp only [p_CodeOk fuel x hl hf]
  cases x.all kidO <;> simp [contL, un1]
open Classical in
theorem p_SKidOk (fuel : Nat) (x : List I4) (hl : x.length ≤ 1048576) (hf : x.length < fuel) : m_spec_KidOk fuel x = some (kidB x) := by
  unfold m_spec_KidOk kidB
  have := p_SKid_L fuel x hl fuel 0 (by omega) (by omega)
  simp only [List.drop_zero] at this
  simp only [p_SCodeOk fuel x hl hf, p_SHasFork fuel x hl hf, Option.bind_some, kid_all]
  by_cases hC : CodeP x
  · simp only [decide_eq_true hC, if_true, Bool.true_and]
    cases hk : forkB x with
    | true => simp
    | false =>
      simp only [Bool.false_eq_true, if_false, Bool.not_false, Bool.true_and]
      erw [this]
      cases x.all fun o => !decide (tchF o.a o.b o.c o.d = 2) <;> simp [contL, un1]
  · simp only [decide_eq_false hC, Bool.false_eq_true, if_false, Bool.false_and]

/-! Results. -/
def valsB (l : List Int) : Bool := l.all fun x => inB x 0 65535
theorem p_areValues_L (fuel : Nat) (x : List Int) (hl : x.length ≤ 4611686018427387904) : ∀ K n, n ≤ x.length → x.length < n + K →
    m_impl_areValues_L0 fuel x K (n : Int) = some (if valsB (x.drop n) = true then .brk () else .ret false) := by
  intro K
  induction K with
  | zero => intro n h1 h2; omega
  | succ K ih =>
    intro n h1 h2
    rw [m_impl_areValues_L0]
    by_cases h : n < x.length
    · rw [drop_cons h]
      have := ih (n + 1) (by omega) (by omega)
      simp only [if_pos (lt_cast h), at?_lt h, Option.bind_some, p_isValue, if_pos (in64_succ h (show x.length ≤ _ by omega)), valsB, List.all_cons]
      by_cases e : inB x[n] 0 65535 = true
      · simp only [e, if_true, Bool.true_and]; exact this
      · simp [Bool.eq_false_iff.2 e]
    · rw [if_neg (ge_cast h), drop_end h]; rfl
theorem p_areValues (fuel : Nat) (x : List Int) (n : Int) (hl : x.length ≤ 4611686018427387904) (hf : x.length < fuel) : m_impl_areValues fuel x n = some (valsB x && decide ((x.length : Int) = n)) := by
  unfold m_impl_areValues
  have := p_areValues_L fuel x hl fuel 0 (by omega) (by omega)
  simp only [List.drop_zero] at this
  erw [this]
  cases valsB x <;> simp [contL, un1]
theorem p_l4Regs_L (fuel : Nat) (x : List Int) (hl : x.length ≤ 4611686018427387904) : ∀ K n, n ≤ x.length → x.length < n + K →
    m_spec_l4Regs_L0 fuel x K (n : Int) = some (if valsB (x.drop n) = true then .brk () else .ret false) := by
  intro K
  induction K with
  | zero => intro n h1 h2; omega
  | succ K ih =>
    intro n h1 h2
    rw [m_spec_l4Regs_L0]
    by_cases h : n < x.length
    · rw [drop_cons h]
      have := ih (n + 1) (by omega) (by omega)
      simp only [if_pos (lt_cast h), at?_lt h, Option.bind_some, p_l3Val, if_pos (in64_succ h (show x.length ≤ _ by omega)), valsB, List.all_cons]
      by_cases e : inB x[n] 0 65535 = true
      · simp only [e, if_true, Bool.true_and]; exact this
      · simp [Bool.eq_false_iff.2 e]
    · rw [if_neg (ge_cast h), drop_end h]; rfl
theorem p_l4Regs (fuel : Nat) (x : List Int) (hl : x.length ≤ 4611686018427387904) (hf : x.length < fuel) : m_spec_l4Regs fuel x = some (valsB x && decide ((x.length : Int) = 4)) := by
  unfold m_spec_l4Regs
  have := p_l4Regs_L fuel x hl fuel 0 (by omega) (by omega)
  simp only [List.drop_zero] at this
  by_cases h8 : (x.length : Int) = 4
  · rw [if_pos h8]
    erw [this]
    cases valsB x <;> simp [contL, un1, h8]
  · rw [if_neg h8]; simp [h8]
theorem val_at {x : List Int} {i : Int} (hv : valsB x = true) (h4 : x.length = 4) (hi : inB i 0 3 = true) : ∃ v, at? x i = some v ∧ 0 ≤ v ∧ v ≤ 65535 := by
  rw [inB_true] at hi
  obtain ⟨v, h⟩ := at?_some_iff (l := x) (i := i) (by omega)
  obtain ⟨h0, h1⟩ := at?_some h
  have := List.all_eq_true.1 hv v (List.mem_of_getElem? h1)
  exact ⟨v, h, inB_true.1 this⟩
theorem at_setI {l : List Int} {i x y : Int} (h : at? l i = some x) : at? (l.set i.toNat y) i = some y := by
  obtain ⟨h0, h1⟩ := at?_some h
  unfold at?
  rw [if_pos h0, List.getElem?_set_self (List.getElem?_eq_some_iff.1 h1).1]
theorem s_Calc (fuel : Nat) (a b c d : Int) (x : List Int) (hl : x.length ≤ 1048576) (hf : x.length < fuel) :
    ∃ l' r, m_impl_Calc fuel a b c d x = some (l', r) ∧ m_spec_Calc fuel a b c d x = some (l', r) ∧ l'.length = x.length := by
  unfold m_impl_Calc m_spec_Calc m_impl_copyInts
  rw [if_pos (show ([] : List Int).length + x.length ≤ 17179869184 by simp; omega), if_pos (show ([] : List Int).length + x.length ≤ 17179869184 by simp; omega)]
  simp only [p_OpOk, p_SOpOk, p_areValues fuel x _ (by omega) hf, p_l4Regs fuel x (by omega) hf, Option.bind_some, List.nil_append]
  by_cases hop : opB a b c d = true
  · simp only [if_pos hop]
    by_cases h4 : 4 < a
    · simp only [if_pos h4]
      by_cases hv : (valsB x && decide ((x.length : Int) = 4)) = true
      · simp only [if_pos hv]; exact ⟨_, _, rfl, rfl, rfl⟩
      · simp only [if_neg hv]; exact ⟨_, _, rfl, rfl, rfl⟩
    · simp only [if_neg h4]
      by_cases hv : (valsB x && decide ((x.length : Int) = 4)) = true
      · simp only [if_pos hv]
        simp only [Bool.and_eq_true, decide_eq_true_eq] at hv
        by_cases h1 : a = 1
        · subst h1
          simp [opB] at hop
          obtain ⟨v, hb, _, _⟩ := val_at hv.1 (by omega) hop.1.1
          simp only [if_true, hb, Option.bind_some]
          exact ⟨_, _, rfl, rfl, by simp⟩
        · have hr : (inB b 0 3 = true ∧ inB c 0 3 = true) ∧ inB d 0 3 = true := by
            by_cases h2 : a = 2
            · subst h2; simp [opB] at hop; exact hop
            by_cases h3 : a = 3
            · subst h3; simp [opB] at hop; exact hop
            by_cases h4' : a = 4
            · subst h4'; simp [opB] at hop; exact hop
            · exfalso; simp only [opB] at hop
              simp only [if_neg h1, if_neg (show ¬ (a = 2 ∨ a = 3 ∨ a = 4) by omega), if_neg (show ¬ a = 5 by omega), if_neg (show ¬ a = 6 by omega), if_neg (show ¬ a = 7 by omega), if_neg (show ¬ (a = 8 ∨ a = 15 ∨ a = 16) by omega), if_neg (show ¬ (a = 9 ∨ a = 10 ∨ a = 11) by omega), if_neg (show ¬ a = 12 by omega), if_neg (show ¬ a = 13 by omega), if_neg (show ¬ a = 14 by omega)] at hop
              cases hop
          obtain ⟨u, hb, _, _⟩ := val_at hv.1 (by omega) hr.1.1
          obtain ⟨v, hc, _, _⟩ := val_at hv.1 (by omega) hr.1.2
          obtain ⟨w, hd, _, _⟩ := val_at hv.1 (by omega) hr.2
          have i1 : in64 (v + w) := in64_of (by omega) (by omega)
          have i2 : in64 (v - w) := in64_of (by omega) (by omega)
          have i3 : in64 (v - w + 65536) := in64_of (by omega) (by omega)
          have nz : (65536 : Int) ≠ 0 := by decide
          simp only [if_neg h1, hb, hc, hd, Option.bind_some, if_pos i1, if_pos i2, if_pos i3, if_pos nz, at_setI hb]
          by_cases h2 : a = 2
          · simp only [if_pos h2, Option.bind_some]; exact ⟨_, _, rfl, rfl, by simp⟩
          · by_cases h3 : a = 3
            · simp only [if_neg h2, if_pos h3, Option.bind_some]; exact ⟨_, _, rfl, rfl, by simp⟩
            · simp only [if_neg h2, if_neg h3]
              by_cases hvw : v < w
              · simp only [if_pos hvw, Option.bind_some]; exact ⟨_, _, rfl, rfl, by simp⟩
              · simp only [if_neg hvw, Option.bind_some]; exact ⟨_, _, rfl, rfl, by simp⟩
      · simp only [if_neg hv]; exact ⟨_, _, rfl, rfl, rfl⟩
  · simp only [if_neg hop]; exact ⟨_, _, rfl, rfl, rfl⟩

/-! The laws. -/
theorem pure_FnExactOpOk {a b c d : Int} (_ : in64 a) (_ : in64 b) (_ : in64 c) (_ : in64 d) : ∃ fuel, m_laws_FnExactOpOk fuel a b c d = some true := by
  refine ⟨0, ?_⟩
  unfold m_laws_FnExactOpOk
  simp only [p_toOp, bind4, Option.bind_some, p_OpOk, p_SOpOk, beq_self_eq_true, if_true]
theorem pure_FnExactTouches {a b c d : Int} (_ : in64 a) (_ : in64 b) (_ : in64 c) (_ : in64 d) : ∃ fuel, m_laws_FnExactTouches fuel a b c d = some true := by
  refine ⟨0, ?_⟩
  unfold m_laws_FnExactTouches
  simp only [p_toOp, bind4, Option.bind_some, p_Touches, p_STouches, if_true]
theorem p_szOpS (fuel : Nat) (x : List I4) (q : Int) (hl : x.length ≤ maxLen) (hq : 0 ≤ q ∧ q ≤ 1048576) : m_laws_szOpS fuel x q = some (if q < (x.length : Int) then -1 else q - (x.length : Int)) := by
  unfold maxLen at hl
  unfold m_laws_szOpS
  rw [if_pos (by unfold in64; omega)]
  by_cases h : q < x.length
  · rw [if_pos h, if_pos (by omega)]
  · rw [if_neg h, if_neg (by omega)]
theorem pure_FnExactDepthAt {l : List I4} {c : Int} (hl : l.length ≤ maxLen) (_ : in64 c) : ∃ fuel, m_laws_FnExactDepthAt fuel l c = some true := by
  refine ⟨l.length + 1, ?_⟩
  unfold m_laws_FnExactDepthAt
  rw [p_szOpS _ _ _ hl (by omega)]
  by_cases hs : (1048576 : Int) < (l.length : Int)
  · simp [hs]
  · have hl' : l.length ≤ 1048576 := by omega
    generalize hF : l.length + 1 = F
    simp only [hs, if_false, Option.bind_some, p_toOpS F l hl' (by omega), p_DepthAt F l c hl' (by omega), p_SDepthAt F l c hl' (by omega), p_eqOpS F l l (by omega) (by omega), decide_true, if_true, show ¬ (1048576 - (l.length : Int) < 0) by omega]
theorem pure_FnExactEndOf {l : List I4} {c : Int} (hl : l.length ≤ maxLen) (_ : in64 c) : ∃ fuel, m_laws_FnExactEndOf fuel l c = some true := by
  refine ⟨l.length + 1, ?_⟩
  unfold m_laws_FnExactEndOf
  rw [p_szOpS _ _ _ hl (by omega)]
  by_cases hs : (1048576 : Int) < (l.length : Int)
  · simp [hs]
  · have hl' : l.length ≤ 1048576 := by omega
    generalize hF : l.length + 1 = F
    obtain ⟨r, h1, h2⟩ := s_EndOf F l c hl' (by omega)
    simp only [hs, if_false, Option.bind_some, p_toOpS F l hl' (by omega), h1, h2, p_eqOpS F l l (by omega) (by omega), decide_true, if_true, show ¬ (1048576 - (l.length : Int) < 0) by omega]
theorem pure_FnExactCodeOk {l : List I4} (hl : l.length ≤ maxLen) : ∃ fuel, m_laws_FnExactCodeOk fuel l = some true := by
  refine ⟨l.length + 1, ?_⟩
  unfold m_laws_FnExactCodeOk
  rw [p_szOpS _ _ _ hl (by omega)]
  by_cases hs : (1048576 : Int) < (l.length : Int)
  · simp [hs]
  · have hl' : l.length ≤ 1048576 := by omega
    generalize hF : l.length + 1 = F
    simp only [hs, if_false, Option.bind_some, p_toOpS F l hl' (by omega), p_CodeOk F l hl' (by omega), p_SCodeOk F l hl' (by omega), p_eqOpS F l l (by omega) (by omega), decide_true, beq_self_eq_true, if_true, show ¬ (1048576 - (l.length : Int) < 0) by omega]
theorem pure_FnExactKidOk {l : List I4} (hl : l.length ≤ maxLen) : ∃ fuel, m_laws_FnExactKidOk fuel l = some true := by
  refine ⟨l.length + 1, ?_⟩
  unfold m_laws_FnExactKidOk
  rw [p_szOpS _ _ _ hl (by omega)]
  by_cases hs : (1048576 : Int) < (l.length : Int)
  · simp [hs]
  · have hl' : l.length ≤ 1048576 := by omega
    generalize hF : l.length + 1 = F
    simp only [hs, if_false, Option.bind_some, p_toOpS F l hl' (by omega), p_KidOk F l hl' (by omega), p_SKidOk F l hl' (by omega), p_eqOpS F l l (by omega) (by omega), decide_true, beq_self_eq_true, if_true, show ¬ (1048576 - (l.length : Int) < 0) by omega]
theorem pure_FnExactCalc {a b c d : Int} {x : List Int} (_ : in64 a) (_ : in64 b) (_ : in64 c) (_ : in64 d) (hl : x.length ≤ maxLen) : ∃ fuel, m_laws_FnExactCalc fuel a b c d x = some true := by
  refine ⟨x.length + 1, ?_⟩
  unfold m_laws_FnExactCalc
  by_cases hs : (1048576 : Int) < (x.length : Int)
  · simp [hs]
  · have hl' : x.length ≤ 1048576 := by omega
    generalize hF : x.length + 1 = F
    obtain ⟨l', r, h1, h2, h3⟩ := s_Calc F a b c d x hl' (by omega)
    simp only [hs, if_false, Option.bind_some, bind2, bind4, p_toOp, p_toIntS F x hl' (by omega), h1, h2]
    have e1 := fun b => p_eqIntS F l' b (by omega) (by omega)
    have e2 := fun b => p_eqIntS F x b (by omega) (by omega)
    have e3 := p_markIntS F x hl' (by omega) 1 (by omega)
    have e4 := p_markIntS F l' (by omega) (by omega) 1 (by omega)
    have e5 := p_heldIntS F l'.length (by omega) (by omega) 1 (by omega)
    simp only [e1, e2, e3, e4, e5, and_self, decide_true, if_true, Option.bind_some, beq_self_eq_true, show ¬ (1 + (x.length : Int) < 0) by omega, show ¬ (1 + (l'.length : Int) < 0) by omega, if_false]
end Go.Proofs.Ytinlleepikjopaa
