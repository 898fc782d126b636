/- Things and programs. -/
import Derived.Test.YtknghnmcckjjbaaPFk
import Derived.Test.YtknghnmcckjjbaaS5
namespace Go.Proofs.Ytknghnmcckjjbaa
open Go Go.RowKit
set_option linter.unusedVariables false
set_option linter.unusedSimpArgs false

theorem p_Index_L (fuel : Nat) (x : List I4) (hl : x.length ≤ 1048576) : ∀ K n, n ≤ x.length → x.length < n + K →
    ∃ r, m_slices_IndexFunc___impl_Op_impl_Op__125_L0 fuel x K (n : Int) = some r ∧ (if ((x.drop n).all fun o => !decide (o.a = 11)) = true then r = .brk () else ∃ j : Int, 0 ≤ j ∧ r = .ret j) := by
  intro K
  induction K with
  | zero => intro n h1 h2; omega
  | succ K ih =>
    intro n h1 h2
    rw [m_slices_IndexFunc___impl_Op_impl_Op__125_L0]
    by_cases h : n < x.length
    · rw [drop_cons h]
      have := ih (n + 1) (by omega) (by omega)
      simp only [if_pos (lt_cast h), at?_lt h, Option.bind_some, m_impl_HasFork_1, if_pos (in64_succ h (show x.length ≤ _ by omega)), List.all_cons]
      by_cases e2 : x[n].a = 11
      · exact ⟨.ret n, by simp [e2], by simp [e2]⟩
      · simp only [decide_eq_false e2, Bool.false_eq_true, if_false, Bool.not_false, Bool.true_and]; exact this
    · exact ⟨.brk (), by rw [if_neg (ge_cast h)], by rw [drop_end h]; rfl⟩
theorem p_HasFork (fuel : Nat) (x : List I4) (hl : x.length ≤ 1048576) (hf : x.length < fuel) : m_impl_HasFork fuel x = some (forkB x) := by
  unfold m_impl_HasFork m_slices_ContainsFunc___impl_Op_impl_Op__125 m_slices_IndexFunc___impl_Op_impl_Op__125 forkB
  obtain ⟨r, h1, h2⟩ := p_Index_L fuel x hl fuel 0 (by omega) (by omega)
  simp only [List.drop_zero] at h2
  erw [h1]
  cases hb : x.all fun o => !decide (o.a = 11) with
  | true => rw [hb] at h2; simp only [if_true] at h2; subst h2; simp [contL, un1]
  | false =>
    rw [hb] at h2; simp only [Bool.false_eq_true, if_false] at h2
    obtain ⟨j, h0, rfl⟩ := h2
    simp [contL, h0]

theorem kid_eq (x y : KidD) : (x.code = y.code) = (x = y) := by cases x; cases y; simp
/-- Bounds on the parts of a row of children. -/
def KB (fuel : Nat) (x : List KidD) : Prop := ∀ k ∈ x, k.code.length ≤ 1048576 ∧ k.code.length < fuel
theorem p_eqKid (fuel : Nat) (x y : List I4) (hl : x.length ≤ 4611686018427387904) (hf : x.length < fuel) : m_laws_eqKid fuel x y = some (decide (x = y)) := by
  unfold m_laws_eqKid
  rw [p_eqOpS fuel x y hl hf]
  by_cases h : x = y <;> simp [h]
theorem p_eqKidS_L (fuel : Nat) (x y : List KidD) (hl : x.length ≤ 1048576) (hk : KB fuel x) (he : x.length = y.length) : ∀ K n, n ≤ x.length → x.length < n + K →
    m_laws_eqKidS_L0 fuel x y K (n : Int) = some (if x.drop n = y.drop n then .brk () else .ret false) := by
  intro K
  induction K with
  | zero => intro n h1 h2; omega
  | succ K ih =>
    intro n h1 h2
    rw [m_laws_eqKidS_L0]
    by_cases h : n < x.length
    · have h' : n < y.length := by omega
      have hb := hk _ (List.getElem_mem h)
      rw [drop_cons h, drop_cons h']
      have := ih (n + 1) (by omega) (by omega)
      simp only [if_pos (lt_cast h), at?_lt h, at?_lt h', Option.bind_some, p_eqKid fuel x[n].code y[n].code (by omega) hb.2, decide_eq_true_eq, kid_eq, if_pos (in64_succ h (show x.length ≤ _ by omega)), List.cons.injEq]
      by_cases e : x[n] = y[n]
      · simp only [e, if_true, true_and]; exact this
      · simp [e]
    · rw [if_neg (ge_cast h), drop_end h, drop_end (by omega)]
      simp
theorem p_eqKidS (fuel : Nat) (x y : List KidD) (hl : x.length ≤ 1048576) (hk : KB fuel x) (hf : x.length < fuel) : m_laws_eqKidS fuel x y = some (decide (x = y)) := by
  unfold m_laws_eqKidS
  by_cases he : x.length = y.length
  · rw [if_pos (by omega)]
    have := p_eqKidS_L fuel x y hl hk he fuel 0 (by omega) (by omega)
    simp only [List.drop_zero, Int.natCast_zero] at this
    erw [this]
    by_cases e : x = y <;> simp [e, contL, un1]
  · rw [if_neg (by omega)]
    have : x ≠ y := fun e => he (by rw [e])
    simp [this]
theorem p_eqProg (fuel : Nat) (c : List I4) (x : List KidD) (c' : List I4) (y : List KidD) (hc : c.length ≤ 1048576) (hcf : c.length < fuel) (hl : x.length ≤ 1048576) (hk : KB fuel x) (hf : x.length < fuel) : m_laws_eqProg fuel c x c' y = some (decide (c = c' ∧ x = y)) := by
  unfold m_laws_eqProg
  simp only [p_eqOpS fuel c c' (by omega) hcf, p_eqKidS fuel x y hl hk hf, Option.bind_some]
  by_cases h : c = c' <;> by_cases h2 : x = y <;> simp [h, h2]

/-! Copies. -/
theorem p_toKidS_L (fuel : Nat) (x : List KidD) (hl : x.length ≤ 1048576) (hk : KB fuel x) : ∀ K n, n ≤ x.length → x.length < n + K → ∀ B : List KidD, B.length = x.length - n →
    m_laws_toKidS_L0 fuel x K (x.take n ++ B) (n : Int) = some x := by
  intro K
  induction K with
  | zero => intro n h1 h2; omega
  | succ K ih =>
    intro n h1 h2 B hB
    rw [m_laws_toKidS_L0]
    have hA : (x.take n).length = n := by simp; omega
    by_cases h : n < x.length
    · have hb := hk _ (List.getElem_mem h)
      cases B with
      | nil => simp at hB; omega
      | cons e B =>
        simp only [if_pos (lt_cast h), at?_lt h, Option.bind_some, m_laws_toKid, p_toOpS fuel x[n].code hb.1 hb.2, at?_mid hA, set_mid hA, if_pos (in64_succ h (show x.length ≤ _ by omega))]
        have := ih (n + 1) (by omega) (by omega) B (by simp at hB; omega)
        rw [take_snoc' h, List.append_assoc] at this
        exact this
    · rw [if_neg (ge_cast h)]
      have : B = [] := List.eq_nil_of_length_eq_zero (by omega)
      subst this
      rw [List.append_nil, List.take_of_length_le (by omega)]
theorem p_toKidS (fuel : Nat) (x : List KidD) (hl : x.length ≤ 1048576) (hk : KB fuel x) (hf : x.length < fuel) : m_laws_toKidS fuel x = some x := by
  unfold m_laws_toKidS
  rw [if_pos (by omega)]
  have := p_toKidS_L fuel x hl hk fuel 0 (by omega) (by omega) (List.replicate x.length ⟨[]⟩) (by simp)
  simp only [List.take_zero, List.nil_append, Int.natCast_zero] at this
  simp only [Int.toNat_natCast]
  erw [this]
  rfl
theorem p_toProg (fuel : Nat) (c : List I4) (x : List KidD) (hc : c.length ≤ 1048576) (hcf : c.length < fuel) (hl : x.length ≤ 1048576) (hk : KB fuel x) (hf : x.length < fuel) : m_laws_toProg fuel c x = some (c, x) := by
  simp [m_laws_toProg, p_toOpS fuel c hc hcf, p_toKidS fuel x hl hk hf]

/-! Sizes. -/
def szS : List KidD → Int
  | [] => 0
  | k :: l => (k.code.length : Int) + szS l
theorem szS_pos : ∀ x, 0 ≤ szS x
  | [] => by simp [szS]
  | k :: l => by have := szS_pos l; simp only [szS]; omega
theorem szS_mem : ∀ (x : List KidD) (k : KidD), k ∈ x → (k.code.length : Int) ≤ szS x
  | [], k, h => by simp at h
  | y :: l, k, h => by
    have hp := szS_pos l
    rcases List.mem_cons.1 h with rfl | h
    · simp only [szS]; omega
    · have := szS_mem l k h; simp only [szS]; omega
theorem p_szKid (fuel : Nat) (c : List I4) (q : Int) (hl : c.length ≤ maxLen) (hq : 0 ≤ q ∧ q ≤ 1048576) : m_laws_szKid fuel c q = some (if q < (c.length : Int) then -1 else q - (c.length : Int)) := by
  unfold m_laws_szKid
  rw [p_szOpS fuel c q hl hq]
  simp only [Option.bind_some]
  by_cases h : q < (c.length : Int)
  · simp [h]
  · simp only [if_neg h]; rw [if_neg (by omega)]
theorem p_szKidS_L (fuel : Nat) (x : List KidD) (hl : x.length ≤ 1048576) (hm : ∀ k ∈ x, k.code.length ≤ maxLen) : ∀ K n (q : Int), 0 ≤ q ∧ q ≤ 1048576 → n ≤ x.length → x.length < n + K →
    m_laws_szKidS_L0 fuel x K q (n : Int) = some (if q < szS (x.drop n) then .ret (-1) else .brk (q - szS (x.drop n))) := by
  intro K
  induction K with
  | zero => intro n q hq h1 h2; omega
  | succ K ih =>
    intro n q hq h1 h2
    rw [m_laws_szKidS_L0]
    by_cases h : n < x.length
    · have hb := hm _ (List.getElem_mem h)
      have hp := szS_pos (x.drop (n + 1))
      have hz : szS (x[n] :: x.drop (n + 1)) = (x[n].code.length : Int) + szS (x.drop (n + 1)) := rfl
      rw [drop_cons h, hz]
      simp only [if_pos (lt_cast h), at?_lt h, Option.bind_some, p_szKid fuel x[n].code q hb hq, if_pos (in64_succ h (show x.length ≤ _ by omega))]
      by_cases e : q < (x[n].code.length : Int)
      · simp only [if_pos e]; rw [if_pos (show (-1 : Int) < 0 by omega), if_pos (show q < (x[n].code.length : Int) + szS (x.drop (n + 1)) by omega)]
      · simp only [if_neg e]
        rw [if_neg (by omega)]
        erw [ih (n + 1) (q - (x[n].code.length : Int)) (by omega) (by omega) (by omega)]
        by_cases e2 : q - (x[n].code.length : Int) < szS (x.drop (n + 1))
        · rw [if_pos e2, if_pos (by omega)]
        · rw [if_neg e2, if_neg (by omega)]
          congr 2; omega
    · rw [if_neg (ge_cast h), drop_end h, show szS [] = 0 from rfl, if_neg (by omega), Int.sub_zero]
theorem p_szKidS (fuel : Nat) (x : List KidD) (q : Int) (hx : x.length ≤ maxLen) (hm : ∀ k ∈ x, k.code.length ≤ maxLen) (hq : 0 ≤ q ∧ q ≤ 1048576) (hf : 1048576 < fuel) : m_laws_szKidS fuel x q = some (if q < (x.length : Int) + szS x then -1 else q - (x.length : Int) - szS x) := by
  have hp := szS_pos x
  unfold m_laws_szKidS
  unfold maxLen at hx
  rw [if_pos (by unfold in64; omega)]
  by_cases h : q - (x.length : Int) < 0
  · rw [if_pos h, if_pos (by omega)]
  · rw [if_neg h]
    have := p_szKidS_L fuel x (by omega) hm fuel 0 (q - (x.length : Int)) (by omega) (by omega) (by omega)
    simp only [List.drop_zero] at this
    erw [this]
    by_cases e : q - (x.length : Int) < szS x
    · rw [if_pos e, if_pos (by omega)]; rfl
    · rw [if_neg e, if_neg (by omega)]; rfl
theorem p_szProg (fuel : Nat) (c : List I4) (x : List KidD) (q : Int) (hc : c.length ≤ maxLen) (hx : x.length ≤ maxLen) (hm : ∀ k ∈ x, k.code.length ≤ maxLen) (hq : 0 ≤ q ∧ q ≤ 1048576) (hf : 1048576 < fuel) :
    m_laws_szProg fuel c x q = some (if q < (c.length : Int) + ((x.length : Int) + szS x) then -1 else q - (c.length : Int) - (x.length : Int) - szS x) := by
  have hp := szS_pos x
  unfold m_laws_szProg
  rw [p_szOpS fuel c q hc hq]
  simp only [Option.bind_some]
  by_cases h : q < (c.length : Int)
  · simp only [if_pos h]; rw [if_pos (by omega), if_pos (by omega)]
  · simp only [if_neg h]
    rw [if_neg (by omega), p_szKidS fuel x _ hx hm (by omega) hf]
    simp only [Option.bind_some]
    by_cases e : q - (c.length : Int) < (x.length : Int) + szS x
    · simp only [if_pos e]; rw [if_pos (by omega), if_pos (by omega)]
    · simp only [if_neg e]; rw [if_neg (by omega), if_neg (by omega)]
theorem KB_of {fuel : Nat} {x : List KidD} (h : szS x ≤ 1048576) (hf : 1048576 < fuel) : KB fuel x := fun k hk => by
  have := szS_mem x k hk
  omega
theorem kids_max {x : List KidD} (h : TB (rowT x)) : x.length ≤ maxLen ∧ ∀ k ∈ x, k.code.length ≤ maxLen :=
  ⟨(TB_row h).1, fun k hk => ((TB_row h).2 k hk).1.1⟩

/-! Whether a program is one. -/
theorem p_Prog_L (fuel : Nat) (x : List KidD) (hl : x.length ≤ 1048576) (hk : KB fuel x) : ∀ K n, n ≤ x.length → x.length < n + K →
    m_impl_ProgOk_L0 fuel x K (n : Int) = some (if ((x.drop n).all fun k => kidB k.code) = true then .brk () else .ret false) := by
  intro K
  induction K with
  | zero => intro n h1 h2; omega
  | succ K ih =>
    intro n h1 h2
    rw [m_impl_ProgOk_L0]
    by_cases h : n < x.length
    · have hb := hk _ (List.getElem_mem h)
      rw [drop_cons h]
      have := ih (n + 1) (by omega) (by omega)
      simp only [if_pos (lt_cast h), at?_lt h, Option.bind_some, p_KidOk fuel x[n].code hb.1 hb.2, if_pos (in64_succ h (show x.length ≤ _ by omega)), List.all_cons]
      by_cases e : kidB x[n].code = true
      · simp only [e, if_true, Bool.true_and]; exact this
      · simp [Bool.eq_false_iff.2 e]
    · rw [if_neg (ge_cast h), drop_end h]; rfl
theorem p_SProg_L (fuel : Nat) (x : List KidD) (hl : x.length ≤ 1048576) (hk : KB fuel x) : ∀ K n, n ≤ x.length → x.length < n + K →
    m_spec_ProgOk_L0 fuel x K (n : Int) = some (if ((x.drop n).all fun k => kidB k.code) = true then .brk () else .ret false) := by
  intro K
  induction K with
  | zero => intro n h1 h2; omega
  | succ K ih =>
    intro n h1 h2
    rw [m_spec_ProgOk_L0]
    by_cases h : n < x.length
    · have hb := hk _ (List.getElem_mem h)
      rw [drop_cons h]
      have := ih (n + 1) (by omega) (by omega)
      simp only [if_pos (lt_cast h), at?_lt h, Option.bind_some, p_SKidOk fuel x[n].code hb.1 hb.2, if_pos (in64_succ h (show x.length ≤ _ by omega)), List.all_cons]
      by_cases e : kidB x[n].code = true
      · simp only [e, if_true, Bool.true_and]; exact this
      · simp [Bool.eq_false_iff.2 e]
    · rw [if_neg (ge_cast h), drop_end h]; rfl
open Classical in
noncomputable def progB (c : List I4) (x : List KidD) : Bool := decide (CodeP c) && decide ((x.length : Int) ≤ 3) && (forkB c == decide (0 < (x.length : Int))) && x.all fun k => kidB k.code
open Classical in
theorem p_ProgOk (fuel : Nat) (c : List I4) (x : List KidD) (hc : c.length ≤ 1048576) (hcf : c.length < fuel) (hl : x.length ≤ 1048576) (hk : KB fuel x) (hf : x.length < fuel) : m_impl_ProgOk fuel c x = some (progB c x) := by
  unfold m_impl_ProgOk progB
  have := p_Prog_L fuel x hl hk fuel 0 (by omega) (by omega)
  simp only [List.drop_zero] at this
  erw [this]
  simp only [p_CodeOk fuel c hc hcf, p_HasFork fuel c hc hcf]
  cases x.all fun k => kidB k.code with
  | false => simp [contL]
  | true =>
    simp only [if_true, Option.bind_some, contL, un1, Bool.and_true]
    by_cases h1 : CodeP c <;> by_cases h2 : (x.length : Int) ≤ 3 <;> simp [h1, h2]
open Classical in
theorem p_SProgOk (fuel : Nat) (c : List I4) (x : List KidD) (hc : c.length ≤ 1048576) (hcf : c.length < fuel) (hl : x.length ≤ 1048576) (hk : KB fuel x) (hf : x.length < fuel) : m_spec_ProgOk fuel c x = some (progB c x) := by
  unfold m_spec_ProgOk progB
  have := p_SProg_L fuel x hl hk fuel 0 (by omega) (by omega)
  simp only [List.drop_zero] at this
  simp only [p_SCodeOk fuel c hc hcf, p_SHasFork fuel c hc hcf, Option.bind_some]
  by_cases h1 : CodeP c
  · by_cases h2 : 3 < (x.length : Int)
    · have h3 : ¬ (x.length : Int) ≤ 3 := by omega
      simp only [decide_eq_true h1, if_true, if_pos h2, decide_eq_false h3, Bool.and_false, Bool.false_and]
    · have h3 : (x.length : Int) ≤ 3 := by omega
      simp only [decide_eq_true h1, if_true, if_neg h2, decide_eq_true h3, Bool.true_and]
      cases hq : (forkB c == decide (0 < (x.length : Int))) with
      | false => simp
      | true =>
        simp only [if_true, Bool.true_and]
        erw [this]
        cases x.all fun k => kidB k.code <;> simp [contL, un1]
  · simp only [decide_eq_false h1, Bool.false_eq_true, if_false, Bool.false_and]

theorem bb2 {α β δ : Type} (a : α) (b : β) (f : α → β → Option δ) : bind2 (some (a, b)) f = f a b := rfl
/-! The marks of a program. -/
def markF : Int → List KidD → List KidD × Int
  | k, [] => ([], k)
  | k, c :: t => (⟨seq4 k c.code.length⟩ :: (markF (k + 4 * (c.code.length : Int)) t).1, (markF (k + 4 * (c.code.length : Int)) t).2)
end Go.Proofs.Ytknghnmcckjjbaa
