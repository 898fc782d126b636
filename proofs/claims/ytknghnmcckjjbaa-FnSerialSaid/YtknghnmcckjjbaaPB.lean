/- What the functions on operations, code and things do. -/
import Derived.Test.YtknghnmcckjjbaaHp
import Derived.Test.YtknghnmcckjjbaaOq
namespace Go.Proofs.Ytknghnmcckjjbaa
open Go Go.RowKit
set_option linter.unusedVariables false
set_option linter.unusedSimpArgs false

theorem p_within (fuel : Nat) (x lo hi : Int) : m_impl_within fuel x lo hi = some (inB x lo hi) := by
  unfold m_impl_within inB; split <;> simp_all <;> omega
theorem p_l1In (fuel : Nat) (x lo hi : Int) : m_spec_l1In fuel x lo hi = some (inB x lo hi) := by
  unfold m_spec_l1In inB; split <;> simp_all <;> omega
theorem p_isValue (fuel : Nat) (x : Int) : m_impl_isValue fuel x = some (inB x 0 65535) := by simp [m_impl_isValue, p_within]
theorem p_isCell (fuel : Nat) (x : Int) : m_impl_isCell fuel x = some (inB x 0 7) := by simp [m_impl_isCell, p_within]
theorem p_isKey (fuel : Nat) (x : Int) : m_impl_isKey fuel x = some (inB x 0 7) := by simp [m_impl_isKey, p_within]
theorem p_isReg (fuel : Nat) (x : Int) : m_impl_isReg fuel x = some (inB x 0 3) := by simp [m_impl_isReg, p_within]
theorem p_l3Val (fuel : Nat) (x : Int) : m_spec_l3Val fuel x = some (inB x 0 65535) := by simp [m_spec_l3Val, p_l1In]
theorem p_l3Cell (fuel : Nat) (x : Int) : m_spec_l3Cell fuel x = some (inB x 0 7) := by simp [m_spec_l3Cell, p_l1In]
theorem p_l4Reg (fuel : Nat) (x : Int) : m_spec_l4Reg fuel x = some (inB x 0 3) := by simp [m_spec_l4Reg, p_l1In]

/-! One operation. -/
def opB (a b c d : Int) : Bool :=
  if a = 1 then inB b 0 3 && inB c 0 65535 && decide (d = 0)
  else if a = 2 ∨ a = 3 ∨ a = 4 then inB b 0 3 && inB c 0 3 && inB d 0 3
  else if a = 5 then inB b 0 3 && inB c 0 7 && decide (d = 0)
  else if a = 6 then inB b 0 7 && inB c 0 3 && decide (d = 0)
  else if a = 7 then inB b 0 3 && inB c 1 20 && decide (d = 0)
  else if a = 8 ∨ a = 15 ∨ a = 16 then inB b 0 3 && decide (c = 0) && decide (d = 0)
  else if a = 9 ∨ a = 10 ∨ a = 11 then decide (b = 0) && decide (c = 0) && decide (d = 0)
  else if a = 12 then inB b 0 7 && inB c 0 3 && inB d 0 3
  else if a = 13 then inB b 0 3 && inB c 0 7 && decide (d = 0)
  else if a = 14 then inB b 0 7 && inB c 0 3 && decide (d = 0)
  else false
theorem p_SOpOk (fuel : Nat) (a b c d : Int) : m_spec_OpOk fuel a b c d = some (opB a b c d) := by
  unfold m_spec_OpOk opB
  simp only [p_l4Reg, p_l3Val, p_l3Cell, p_l1In, Option.bind_some]
  by_cases h1 : a = 1
  · simp only [h1, if_true]; cases inB b 0 3 <;> cases inB c 0 65535 <;> simp [contL]
  by_cases h2 : a = 2
  · subst h2; cases inB b 0 3 <;> cases inB c 0 3 <;> simp [contL]
  by_cases h3 : a = 3
  · subst h3; cases inB b 0 3 <;> cases inB c 0 3 <;> simp [contL]
  by_cases h4 : a = 4
  · subst h4; cases inB b 0 3 <;> cases inB c 0 3 <;> simp [contL]
  by_cases h5 : a = 5
  · subst h5; cases inB b 0 3 <;> cases inB c 0 7 <;> simp [contL]
  by_cases h6 : a = 6
  · subst h6; cases inB b 0 7 <;> cases inB c 0 3 <;> simp [contL]
  by_cases h7 : a = 7
  · subst h7; cases inB b 0 3 <;> cases inB c 1 20 <;> simp [contL]
  by_cases h8 : a = 8
  · subst h8; cases inB b 0 3 <;> by_cases hc : c = 0 <;> simp [contL, hc]
  by_cases h9 : a = 9
  · subst h9; by_cases hb : b = 0 <;> by_cases hc : c = 0 <;> simp [contL, hc, hb]
  by_cases h10 : a = 10
  · subst h10; by_cases hb : b = 0 <;> by_cases hc : c = 0 <;> simp [contL, hc, hb]
  by_cases h11 : a = 11
  · subst h11; by_cases hb : b = 0 <;> by_cases hc : c = 0 <;> simp [contL, hc, hb]
  by_cases h12 : a = 12
  · subst h12; cases inB b 0 7 <;> cases inB c 0 3 <;> simp [contL]
  by_cases h13 : a = 13
  · subst h13; cases inB b 0 3 <;> cases inB c 0 7 <;> simp [contL]
  by_cases h14 : a = 14
  · subst h14; cases inB b 0 7 <;> cases inB c 0 3 <;> simp [contL]
  by_cases h15 : a = 15
  · subst h15; cases inB b 0 3 <;> by_cases hc : c = 0 <;> simp [contL, hc]
  by_cases h16 : a = 16
  · subst h16; cases inB b 0 3 <;> by_cases hc : c = 0 <;> simp [contL, hc]
  simp [h1, h2, h3, h4, h5, h6, h7, h8, h9, h10, h11, h12, h13, h14, h15, h16, contL, un1]
theorem p_OpOk (fuel : Nat) (a b c d : Int) : m_impl_OpOk fuel a b c d = some (opB a b c d) := by
  rw [← p_SOpOk fuel a b c d]
  unfold m_impl_OpOk m_spec_OpOk
  simp only [p_isReg, p_isValue, p_isCell, p_isKey, p_within, p_l4Reg, p_l3Val, p_l3Cell, p_l1In]
def opC (o : I4) : Bool := opB o.a o.b o.c o.d
theorem opC7 {o : I4} (h : opC o = true) (h7 : o.a = 7) : 1 ≤ o.c ∧ o.c ≤ 20 := by
  simp [opC, opB, h7, inB] at h; omega
def tchF (a b c d : Int) : Int := if opB a b c d = true then (if a = 5 ∨ a = 6 then 1 else if a = 12 ∨ a = 13 ∨ a = 14 ∨ a = 15 ∨ a = 16 then 2 else 0) else 0
theorem p_STouches (fuel : Nat) (a b c d : Int) : m_spec_Touches fuel a b c d = some (tchF a b c d) := by
  unfold m_spec_Touches tchF
  simp only [p_SOpOk, Option.bind_some]
  by_cases h : opB a b c d = true
  · simp only [h, if_true]
    by_cases h5 : a = 5
    · subst h5; simp [contL]
    by_cases h6 : a = 6
    · subst h6; simp [contL]
    by_cases h12 : a = 12
    · subst h12; simp [contL]
    by_cases h13 : a = 13
    · subst h13; simp [contL]
    by_cases h14 : a = 14
    · subst h14; simp [contL]
    by_cases h15 : a = 15
    · subst h15; simp [contL]
    by_cases h16 : a = 16
    · subst h16; simp [contL]
    simp [h5, h6, h12, h13, h14, h15, h16, contL, un1]
  · simp [h]
theorem p_Touches (fuel : Nat) (a b c d : Int) : m_impl_Touches fuel a b c d = some (tchF a b c d) := by
  rw [← p_STouches fuel a b c d]
  unfold m_impl_Touches m_spec_Touches
  simp only [p_OpOk, p_SOpOk]

/-! Depths. -/
def opn (o : I4) : Int := if o.a = 8 then 1 else if o.a = 9 then -1 else 0
theorem opn_b (o : I4) : -1 ≤ opn o ∧ opn o ≤ 1 := by unfold opn; split <;> (try split) <;> omega
def dF (l : List I4) : Nat → Int
  | 0 => 0
  | n + 1 => dF l n + (match l[n]? with | some o => opn o | none => 0)
theorem dF_zero (l : List I4) : dF l 0 = 0 := rfl
theorem dF_succ {l : List I4} {n : Nat} (h : n < l.length) : dF l (n + 1) = dF l n + opn l[n] := by
  simp [dF, List.getElem?_eq_getElem h]
theorem dF_b (l : List I4) (n : Nat) : -(n : Int) ≤ dF l n ∧ dF l n ≤ (n : Int) := by
  induction n with
  | zero => simp [dF]
  | succ n ih =>
    rw [dF]
    cases h : l[n]? with
    | none => simp only []; omega
    | some o => have := opn_b o; simp only []; omega
theorem p_opens (fuel : Nat) (o : I4) : m_impl_opens fuel o.a o.b o.c o.d = some (opn o) := by
  unfold m_impl_opens opn; split <;> (try split) <;> rfl
/-- The first step of the reference's two: up where a block begins. -/
theorem s_up {a z : Int} (h1 : -1048578 ≤ z ∧ z ≤ 1048578) : (if a = 8 then (if in64 (z + 1) then some (z + 1) else none) else some z) = some (z + (if a = 8 then 1 else 0)) := by
  rw [if_pos (in64_of (by omega) (by omega) : in64 (z + 1))]; split <;> simp
theorem s_down {a z : Int} (h1 : -1048578 ≤ z ∧ z ≤ 1048578) : (if a = 9 then (if in64 (z - 1) then some (z - 1) else none) else some z) = some (z + (if a = 9 then -1 else 0)) := by
  rw [if_pos (in64_of (by omega) (by omega) : in64 (z - 1))]; split <;> simp <;> omega
theorem s_sum (o : I4) (z : Int) : z + (if o.a = 8 then 1 else 0) + (if o.a = 9 then -1 else 0) = z + opn o := by
  unfold opn; split <;> split <;> simp_all
theorem up_b (o : I4) (z : Int) : z ≤ z + (if o.a = 8 then 1 else 0) ∧ z + (if o.a = 8 then 1 else 0) ≤ z + 1 := by split <;> omega

theorem p_DepthAt_L (fuel : Nat) (x : List I4) (m : Int) (hl : x.length ≤ 1048576) : ∀ K n, n ≤ x.length → x.length < n + K →
    m_impl_DepthAt_L0 fuel x m K (dF x (min n m.toNat)) (n : Int) = some (dF x (min x.length m.toNat)) := by
  intro K
  induction K with
  | zero => intro n h1 h2; omega
  | succ K ih =>
    intro n h1 h2
    rw [m_impl_DepthAt_L0]
    by_cases h : n < x.length
    · have := ih (n + 1) (by omega) (by omega)
      by_cases hm : (n : Int) < m
      · have e1 : min n m.toNat = n := by omega
        have e2 : min (n + 1) m.toNat = n + 1 := by omega
        rw [e2, dF_succ h] at this
        have hb := dF_b x n
        have ho := opn_b x[n]
        simp only [if_pos (lt_cast h), if_pos hm, at?_lt h, Option.bind_some, p_opens, e1, if_pos (in64_of (by omega) (by omega) : in64 (dF x n + opn x[n])), if_pos (in64_succ h (show x.length ≤ _ by omega))]
        exact this
      · have e1 : min n m.toNat = m.toNat := by omega
        have e2 : min (n + 1) m.toNat = m.toNat := by omega
        rw [e2] at this
        simp only [if_pos (lt_cast h), if_neg hm, at?_lt h, Option.bind_some, e1, if_pos (in64_succ h (show x.length ≤ _ by omega))]
        exact this
    · have e : n = x.length := by omega
      rw [if_neg (ge_cast h), e]
theorem p_DepthAt (fuel : Nat) (x : List I4) (m : Int) (hl : x.length ≤ 1048576) (hf : x.length < fuel) : m_impl_DepthAt fuel x m = some (dF x (min x.length m.toNat)) := by
  unfold m_impl_DepthAt
  have := p_DepthAt_L fuel x m hl fuel 0 (by omega) (by omega)
  simp only [Nat.zero_min, dF_zero] at this
  erw [this]; rfl

/-! Ends. -/
theorem s_End_L (fuel : Nat) (x : List I4) (hl : x.length ≤ 1048576) : ∀ (K n : Nat) (z : Int), -(n : Int) ≤ z → z ≤ (n : Int) → n ≤ x.length → x.length < n + K →
    ∃ r, m_impl_EndOf_L0 fuel x K z (n : Int) = some r ∧ m_spec_EndOf_L0 fuel x K z (n : Int) = some r := by
  intro K
  induction K with
  | zero => intro n z h3 h4 h1 h2; omega
  | succ K ih =>
    intro n z h3 h4 h1 h2
    rw [m_impl_EndOf_L0, m_spec_EndOf_L0]
    by_cases h : n < x.length
    · have hu := up_b x[n] z
      have ho := opn_b x[n]
      obtain ⟨r, e1, e2⟩ := ih (n + 1) (z + opn x[n]) (by omega) (by omega) (by omega) (by omega)
      simp only [if_pos (lt_cast h), at?_lt h, Option.bind_some, p_opens, s_up (show -1048578 ≤ z ∧ z ≤ 1048578 by omega), s_down (show -1048578 ≤ z + (if x[n].a = 8 then 1 else 0) ∧ z + (if x[n].a = 8 then 1 else 0) ≤ 1048578 by omega), s_sum, if_pos (in64_of (by omega) (by omega) : in64 (z + opn x[n])), if_pos (in64_succ h (show x.length ≤ _ by omega))]
      by_cases h0 : z + opn x[n] = 0
      · simp only [if_pos h0]; exact ⟨_, rfl, rfl⟩
      · simp only [if_neg h0]; exact ⟨r, e1, e2⟩
    · simp only [if_neg (ge_cast h)]; exact ⟨_, rfl, rfl⟩
theorem s_EndOf (fuel : Nat) (x : List I4) (i : Int) (hl : x.length ≤ 1048576) (hf : x.length < fuel) :
    ∃ r, m_impl_EndOf fuel x i = some r ∧ m_spec_EndOf fuel x i = some r := by
  unfold m_impl_EndOf m_spec_EndOf
  rw [if_pos (in64_of (by omega) (by omega))]
  simp only [p_within, Option.bind_some]
  by_cases h0 : i < 0
  · have : ¬ inB i 0 ((x.length : Int) - 1) = true := by rw [inB_true]; omega
    exact ⟨-1, by simp [this], by simp [h0]⟩
  · by_cases h1 : (x.length : Int) ≤ i
    · have : ¬ inB i 0 ((x.length : Int) - 1) = true := by rw [inB_true]; omega
      exact ⟨-1, by simp [this], by simp [h0, h1]⟩
    · have : inB i 0 ((x.length : Int) - 1) = true := by rw [inB_true]; omega
      obtain ⟨n, rfl⟩ : ∃ n : Nat, i = (n : Int) := ⟨i.toNat, by omega⟩
      have h : n < x.length := by omega
      obtain ⟨r, e1, e2⟩ := s_End_L fuel x hl fuel n 0 (by omega) (by omega) (by omega) (by omega)
      simp only [this, if_true, if_neg h0, if_neg h1, at?_lt h, Option.bind_some, e1, e2]
      by_cases h8 : x[n].a = 8
      · simp only [if_pos h8]
        cases r with
        | brk u => exact ⟨_, rfl, rfl⟩
        | ret v => exact ⟨_, rfl, rfl⟩
      · simp only [if_neg h8]; exact ⟨_, rfl, rfl⟩

/-! Code. -/
theorem dec_eq {p q : Prop} {a : Decidable p} {b : Decidable q} (h : p ↔ q) : @decide p a = @decide q b := decide_eq_decide.2 h
theorem dec_no {p : Prop} {a : Decidable p} (h : ¬ p) : @decide p a = false := decide_eq_false h
theorem dec_yes {p : Prop} {a : Decidable p} (h : p) : @decide p a = true := decide_eq_true h
def Al (n L : Nat) (P : Nat → Prop) : Prop := ∀ m, n ≤ m → m < L → P m
theorem al_end {n L : Nat} {P : Nat → Prop} (h : ¬ n < L) : Al n L P := fun m h1 h2 => absurd h2 (by omega)
theorem al_cons {n L : Nat} {P : Nat → Prop} (h : n < L) : Al n L P ↔ (P n ∧ Al (n + 1) L P) :=
  ⟨fun H => ⟨H n (Nat.le_refl _) h, fun m h1 h2 => H m (by omega) h2⟩, fun H m h1 h2 => by
    by_cases e : m = n
    · subst e; exact H.1
    · exact H.2 m (by omega) h2⟩
open Classical in
/-- The implementation's balance from a place on. -/
theorem p_Bal_L (fuel : Nat) (x : List I4) (hl : x.length ≤ 1048576) : ∀ K n, n ≤ x.length → x.length < n + K →
    m_impl_isBalanced_L0 fuel x K (dF x n) (n : Int) = some (if Al n x.length (fun m => 0 ≤ dF x (m + 1)) then .brk (dF x x.length) else .ret false) := by
  intro K
  induction K with
  | zero => intro n h1 h2; omega
  | succ K ih =>
    intro n h1 h2
    rw [m_impl_isBalanced_L0]
    by_cases h : n < x.length
    · have hb := dF_b x n
      have ho := opn_b x[n]
      have := ih (n + 1) (by omega) (by omega)
      simp only [if_pos (lt_cast h), at?_lt h, Option.bind_some, p_opens, if_pos (in64_of (by omega) (by omega) : in64 (dF x n + opn x[n])), if_pos (in64_succ h (show x.length ≤ _ by omega)), al_cons h]
      rw [← dF_succ h]
      by_cases h0 : dF x (n + 1) < 0
      · rw [if_pos h0, if_neg (fun q => by omega)]
      · rw [if_neg h0]
        erw [this]
        by_cases hA : Al (n + 1) x.length (fun m => 0 ≤ dF x (m + 1))
        · rw [if_pos hA, if_pos ⟨by omega, hA⟩]
        · rw [if_neg hA, if_neg (fun q => hA q.2)]
    · have e : n = x.length := by omega
      rw [if_neg (ge_cast h), if_pos (al_end h), e]
def Bal (x : List I4) : Prop := Al 0 x.length (fun m => 0 ≤ dF x (m + 1)) ∧ dF x x.length = 0
open Classical in
theorem p_Bal (fuel : Nat) (x : List I4) (hl : x.length ≤ 1048576) (hf : x.length < fuel) : m_impl_isBalanced fuel x = some (decide (Bal x)) := by
  unfold m_impl_isBalanced
  have := p_Bal_L fuel x hl fuel 0 (by omega) (by omega)
  simp only [dF_zero] at this
  erw [this]
  by_cases hA : Al 0 x.length (fun m => 0 ≤ dF x (m + 1))
  · simp only [if_pos hA, Option.bind_some, contL, un1]
    congr 1
    exact dec_eq ⟨fun q => ⟨hA, q⟩, fun q => q.2⟩
  · simp only [if_neg hA, Option.bind_some, contL]
    congr 1
    exact (dec_no (fun q => hA q.1)).symm

/-- What a jump passes over, in the reference: the same balance, of a part. -/
theorem subl_len {x : List I4} {i j : Nat} (h : i ≤ j) (hj : j ≤ x.length) : (subl x (i : Int) (j : Int)).length = j - i := by simp [subl]; omega
theorem subl_at {x : List I4} {i j n : Nat} (hj : j ≤ x.length) (h : i + n < j) : (subl x (i : Int) (j : Int))[n]? = x[i + n]? := by
  simp only [subl, Int.toNat_natCast]
  rw [List.getElem?_take_of_lt (by omega), List.getElem?_drop]
open Classical in
theorem p_Skip_L (fuel : Nat) (x : List I4) (hl : x.length ≤ 1048576) (p j : Nat) (e : I4) (hj : j ≤ x.length) (hc : ((p : Int) + 1) + e.c = (j : Int)) (hp : p + 1 ≤ j) : ∀ K n, p + 1 + n ≤ j → j < p + 1 + n + K →
    m_spec_l5Skip_L0 fuel x (p : Int) e K (dF (subl x ((p + 1 : Nat) : Int) (j : Int)) n) ((p + 1 + n : Nat) : Int) =
      some (if Al n (subl x ((p + 1 : Nat) : Int) (j : Int)).length (fun m => 0 ≤ dF (subl x ((p + 1 : Nat) : Int) (j : Int)) (m + 1)) then .brk (dF (subl x ((p + 1 : Nat) : Int) (j : Int)) (subl x ((p + 1 : Nat) : Int) (j : Int)).length) else .ret false) := by
  have hL : (subl x ((p + 1 : Nat) : Int) (j : Int)).length = j - (p + 1) := subl_len hp hj
  have hat : ∀ n, p + 1 + n < j → (subl x ((p + 1 : Nat) : Int) (j : Int))[n]? = x[p + 1 + n]? := fun n h => subl_at hj h
  generalize subl x ((p + 1 : Nat) : Int) (j : Int) = y at hL hat
  intro K
  induction K with
  | zero => intro n h1 h2; omega
  | succ K ih =>
    intro n h1 h2
    rw [m_spec_l5Skip_L0, hc]
    by_cases h : p + 1 + n < j
    · have hy : n < y.length := by omega
      have hx : p + 1 + n < x.length := by omega
      have hxy : x[p + 1 + n] = y[n] := by
        have := hat n h
        rw [List.getElem?_eq_getElem hy, List.getElem?_eq_getElem hx] at this
        exact (Option.some.inj this).symm
      have hb := dF_b y n
      have ho := opn_b y[n]
      have hu := up_b y[n] (dF y n)
      have := ih (n + 1) (by omega) (by omega)
      simp only [if_pos (lt_cast h), at?_lt hx, hxy, Option.bind_some, s_up (show -1048578 ≤ dF y n ∧ dF y n ≤ 1048578 by omega), s_down (show -1048578 ≤ dF y n + (if y[n].a = 8 then 1 else 0) ∧ dF y n + (if y[n].a = 8 then 1 else 0) ≤ 1048578 by omega), s_sum, al_cons hy]
      rw [← dF_succ hy]
      by_cases h0 : dF y (n + 1) < 0
      · rw [if_pos h0, if_neg (fun q => by omega)]; rfl
      · rw [if_neg h0]
        simp only [Option.bind_some, contM, un1, if_pos (in64_succ hx (show x.length ≤ _ by omega))]
        erw [this]
        by_cases hA : Al (n + 1) y.length (fun m => 0 ≤ dF y (m + 1))
        · rw [if_pos hA, if_pos ⟨by omega, hA⟩]
        · rw [if_neg hA, if_neg (fun q => hA q.2)]
    · have e : n = y.length := by omega
      rw [if_neg (ge_cast h), if_pos (al_end (by omega)), e]
/-- Whether a jump's part is well within the code and balanced. -/
def SkipOk (x : List I4) (n : Nat) (c : Int) : Prop := (n : Int) + 1 + c ≤ (x.length : Int) ∧ Bal (subl x ((n + 1 : Nat) : Int) ((n : Int) + 1 + c))
open Classical in
theorem p_Skip (fuel : Nat) (x : List I4) (n : Nat) (hl : x.length ≤ 1048576) (hf : x.length < fuel) (h : n < x.length) (hc : 1 ≤ x[n].c ∧ x[n].c ≤ 20) :
    m_spec_l5Skip fuel x (n : Int) = some (decide (SkipOk x n x[n].c)) := by
  unfold m_spec_l5Skip
  have i1 : in64 ((n : Int) + 1) := in64_of (by omega) (by omega)
  have i2 : in64 ((n : Int) + 1 + x[n].c) := in64_of (by omega) (by omega)
  simp only [if_pos i1, at?_lt h, Option.bind_some, if_pos i2]
  by_cases hj : (x.length : Int) < (n : Int) + 1 + x[n].c
  · rw [if_pos hj]
    congr 1
    exact (dec_no (fun q => by have := q.1; omega)).symm
  · rw [if_neg hj]
    obtain ⟨j, hj'⟩ : ∃ j : Nat, (n : Int) + 1 + x[n].c = (j : Int) := ⟨((n : Int) + 1 + x[n].c).toNat, by omega⟩
    have := p_Skip_L fuel x hl n j x[n] (by omega) hj' (by omega) fuel 0 (by omega) (by omega)
    simp only [dF_zero] at this
    erw [this]
    unfold SkipOk Bal
    rw [hj']
    by_cases hA : Al 0 (subl x ((n + 1 : Nat) : Int) (j : Int)).length (fun m => 0 ≤ dF (subl x ((n + 1 : Nat) : Int) (j : Int)) (m + 1))
    · simp only [if_pos hA, Option.bind_some, contL, un1]
      congr 1
      exact dec_eq ⟨fun q => ⟨by omega, hA, q⟩, fun q => q.2.2⟩
    · simp only [if_neg hA, Option.bind_some, contL]
      congr 1
      exact (dec_no (fun q => hA q.2.1)).symm
def fF (l : List I4) : Nat → Int
  | 0 => 0
  | n + 1 => fF l n + (match l[n]? with | some o => if o.a = 11 then 1 else 0 | none => 0)
theorem fF_zero (l : List I4) : fF l 0 = 0 := rfl
theorem fF_succ {l : List I4} {n : Nat} (h : n < l.length) : fF l (n + 1) = fF l n + (if l[n].a = 11 then 1 else 0) := by
  simp [fF, List.getElem?_eq_getElem h]
theorem fF_b (l : List I4) (n : Nat) : 0 ≤ fF l n ∧ fF l n ≤ (n : Int) := by
  induction n with
  | zero => simp [fF]
  | succ n ih =>
    rw [fF]
    cases h : l[n]? with
    | none => simp only []; omega
    | some o => simp only []; split <;> omega
def CodeS (x : List I4) (n : Nat) (o : I4) : Prop := opC o = true ∧ (o.a = 7 → SkipOk x n o.c) ∧ (o.a = 11 → fF x (n + 1) ≤ 1 ∧ dF x n = 0)
def CodeP (x : List I4) : Prop := x.length ≤ 24 ∧ Bal x ∧ Al 0 x.length fun m => ∀ h : m < x.length, CodeS x m x[m]
open Classical in
theorem p_Code_L (fuel : Nat) (x : List I4) (hl : x.length ≤ 24) (hf : x.length < fuel) : ∀ K n, n ≤ x.length → x.length < n + K →
    m_impl_CodeOk_L0 fuel x K (fF x n) (n : Int) = some (if Al n x.length (fun m => ∀ h : m < x.length, CodeS x m x[m]) then .brk () else .ret false) := by
  intro K
  induction K with
  | zero => intro n h1 h2; omega
  | succ K ih =>
    intro n h1 h2
    rw [m_impl_CodeOk_L0]
    by_cases h : n < x.length
    · have := ih (n + 1) (by omega) (by omega)
      have hfb := fF_b x n
      have hi := in64_succ h (show x.length ≤ _ by omega)
      have key : ∀ (z : Int) (b : Bool), (b = true ↔ CodeS x n x[n]) → (b = true → z = fF x (n + 1)) → ((some (if b = true then Lp.brk z else Lp.ret false) : Option (Lp Int Bool)).bind <| contM <| un1 fun z3 => if in64 ((n : Int) + 1) then m_impl_CodeOk_L0 fuel x K z3 ((n : Int) + 1) else none) = some (if Al n x.length (fun m => ∀ h : m < x.length, CodeS x m x[m]) then .brk () else .ret false) := by
        intro z b hb hz
        rw [al_cons h]
        cases b with
        | false => simp only [Bool.false_eq_true, if_false]; rw [if_neg (fun q => by have := hb.2 (q.1 h); cases this)]; rfl
        | true =>
          have := hz rfl
          subst this
          simp only [if_true, Option.bind_some, contM, un1, if_pos hi]
          erw [ih (n + 1) (by omega) (by omega)]
          by_cases hA : Al (n + 1) x.length (fun m => ∀ h : m < x.length, CodeS x m x[m])
          · rw [if_pos hA, if_pos ⟨fun _ => hb.1 rfl, hA⟩]
          · rw [if_neg hA, if_neg (fun q => hA q.2)]
      simp only [if_pos (lt_cast h), at?_lt h, Option.bind_some, p_OpOk]
      refine Eq.trans (congrArg (fun q => Option.bind q _) ?_) (key (fF x (n + 1)) (decide (CodeS x n x[n])) (by simp) (fun _ => rfl))
      by_cases hop : opC x[n] = true
      · have hop' : opB x[n].a x[n].b x[n].c x[n].d = true := hop
        simp only [if_pos hop']
        by_cases h7 : x[n].a = 7
        · have hc := opC7 hop h7
          have e11 : ¬ x[n].a = 11 := by omega
          have i1 : in64 ((n : Int) + 1 + x[n].c) := in64_of (by omega) (by omega)
          simp only [if_pos h7, if_pos hi, if_pos i1, fF_succ h, if_neg e11, Int.add_zero]
          by_cases hj : (x.length : Int) < (n : Int) + 1 + x[n].c
          · rw [if_pos hj, if_neg (by simp only [decide_eq_true_eq]; exact fun q => by have := (q.2.1 h7).1; omega)]
          · obtain ⟨j, hj'⟩ : ∃ j : Nat, (n : Int) + 1 + x[n].c = (j : Int) := ⟨((n : Int) + 1 + x[n].c).toNat, by omega⟩
            have hs : (subl x ((n + 1 : Nat) : Int) (j : Int)).length = j - (n + 1) := subl_len (by omega) (by omega)
            rw [if_neg hj, if_pos ⟨by omega, by omega, by omega⟩, hj', cast_succ, p_Bal fuel _ (by omega) (by omega)]
            simp only [Option.bind_some, decide_eq_true_eq]
            by_cases hB : Bal (subl x ((n + 1 : Nat) : Int) (j : Int))
            · rw [if_pos hB, if_pos ⟨hop, fun _ => ⟨by omega, by rw [hj']; exact hB⟩, fun q => absurd q e11⟩]
            · rw [if_neg hB, if_neg (fun q => hB (by have := (q.2.1 h7).2; rw [hj'] at this; exact this))]
        · by_cases h11 : x[n].a = 11
          · have hb := dF_b x n
            have i1 : in64 (fF x n + 1) := in64_of (by omega) (by omega)
            simp only [if_neg h7, if_pos h11, if_pos i1, fF_succ h, p_DepthAt fuel x (n : Int) (by omega) hf, Option.bind_some, Int.toNat_natCast, show min x.length n = n by omega, decide_eq_true_eq]
            by_cases hq : 1 < fF x n + 1
            · rw [if_pos hq, if_neg (fun q => by have := (q.2.2 h11).1; rw [fF_succ h, if_pos h11] at this; omega)]
            · rw [if_neg hq]
              by_cases hd : dF x n = 0
              · rw [if_pos hd, if_pos ⟨hop, fun q => absurd q h7, fun _ => ⟨by rw [fF_succ h, if_pos h11]; omega, hd⟩⟩]
              · rw [if_neg hd, if_neg (fun q => hd (q.2.2 h11).2)]
          · simp only [if_neg h7, if_neg h11, fF_succ h, Int.add_zero]
            rw [if_pos (by simp only [decide_eq_true_eq]; exact ⟨hop, fun q => absurd q h7, fun q => absurd q h11⟩)]
      · have hop' : ¬ opB x[n].a x[n].b x[n].c x[n].d = true := hop
        simp only [if_neg hop']
        rw [if_neg (by simp only [decide_eq_true_eq]; exact fun q => hop q.1)]
    · rw [if_neg (ge_cast h), if_pos (al_end h)]
open Classical in
theorem p_CodeOk (fuel : Nat) (x : List I4) (hl : x.length ≤ 1048576) (hf : x.length < fuel) : m_impl_CodeOk fuel x = some (decide (CodeP x)) := by
  unfold m_impl_CodeOk
  by_cases h24 : 24 < (x.length : Int)
  · rw [if_pos h24]; congr 1; exact (dec_no (fun q => by have := q.1; omega)).symm
  · rw [if_neg h24, p_Bal fuel x hl hf]
    simp only [Option.bind_some, decide_eq_true_eq]
    by_cases hB : Bal x
    · rw [if_pos hB]
      have := p_Code_L fuel x (by omega) hf fuel 0 (by omega) (by omega)
      simp only [fF_zero] at this
      erw [this]
      by_cases hA : Al 0 x.length (fun m => ∀ h : m < x.length, CodeS x m x[m])
      · simp only [if_pos hA, Option.bind_some, contL, un1]
        congr 1; exact (dec_yes ⟨by omega, hB, hA⟩).symm
      · simp only [if_neg hA, Option.bind_some, contL]
        congr 1; exact (dec_no (fun q => hA q.2.2)).symm
    · rw [if_neg hB]; congr 1; exact (dec_no (fun q => hB q.2.1)).symm
/-- The reference's one pass: each operation, and no more ends than beginnings so far. -/
def CodeT (x : List I4) (n : Nat) : Prop := (∀ h : n < x.length, CodeS x n x[n]) ∧ 0 ≤ dF x (n + 1)
open Classical in
theorem p_SCode_L (fuel : Nat) (x : List I4) (hl : x.length ≤ 24) (hf : x.length < fuel) : ∀ K n, 0 ≤ dF x n → n ≤ x.length → x.length < n + K →
    m_spec_CodeOk_L0 fuel x K (dF x n) (fF x n) (n : Int) = some (if Al n x.length (CodeT x) then .brk (dF x x.length) else .ret false) := by
  intro K
  induction K with
  | zero => intro n h0 h1 h2; omega
  | succ K ih =>
    intro n h0 h1 h2
    rw [m_spec_CodeOk_L0]
    by_cases h : n < x.length
    · have hfb := fF_b x n
      have hb := dF_b x n
      have hi := in64_succ h (show x.length ≤ _ by omega)
      have key : ∀ (b : Bool), (b = true ↔ CodeT x n) → ((some (if b = true then Lp.brk (dF x (n + 1), fF x (n + 1)) else Lp.ret false) : Option (Lp (Int × Int) Bool)).bind <| contM <| un2 fun z5 z6 => if in64 ((n : Int) + 1) then m_spec_CodeOk_L0 fuel x K z5 z6 ((n : Int) + 1) else none) = some (if Al n x.length (CodeT x) then .brk (dF x x.length) else .ret false) := by
        intro b hb
        rw [al_cons h]
        cases b with
        | false => simp only [Bool.false_eq_true, if_false]; rw [if_neg (fun q => by have := hb.2 q.1; cases this)]; rfl
        | true =>
          simp only [if_true, Option.bind_some, contM, un2, if_pos hi]
          erw [ih (n + 1) (hb.1 rfl).2 (by omega) (by omega)]
          by_cases hA : Al (n + 1) x.length (CodeT x)
          · rw [if_pos hA, if_pos ⟨hb.1 rfl, hA⟩]
          · rw [if_neg hA, if_neg (fun q => hA q.2)]
      simp only [if_pos (lt_cast h), at?_lt h, Option.bind_some, p_SOpOk]
      refine Eq.trans (congrArg (fun q => Option.bind q _) ?_) (key (decide (CodeT x n)) (by simp))
      simp only [decide_eq_true_eq]
      by_cases hop : opC x[n] = true
      · have hop' : opB x[n].a x[n].b x[n].c x[n].d = true := hop
        simp only [if_pos hop']
        have i1 : in64 (dF x n + 1) := in64_of (by omega) (by omega)
        have i2 : in64 (dF x n - 1) := in64_of (by omega) (by omega)
        have i3 : in64 (fF x n + 1) := in64_of (by omega) (by omega)
        have fin : ∀ (P : Prop) (d f : Int), (P ↔ CodeS x n x[n]) → (P → d = dF x (n + 1) ∧ f = fF x (n + 1)) → ((some (if P then Lp.brk (d, f) else Lp.ret false) : Option (Lp (Int × Int) Bool)).bind <| contM <| un2 fun z7 z8 => if z7 < 0 then some (Lp.ret false) else some (Lp.brk (z7, z8))) = some (if CodeT x n then Lp.brk (dF x (n + 1), fF x (n + 1)) else Lp.ret false) := by
          intro P d f hP hdf
          by_cases hp : P
          · obtain ⟨rfl, rfl⟩ := hdf hp
            simp only [if_pos hp, Option.bind_some, contM, un2]
            by_cases hn : dF x (n + 1) < 0
            · rw [if_pos hn, if_neg (fun q => by have := q.2; omega)]
            · rw [if_neg hn, if_pos ⟨fun _ => hP.1 hp, by omega⟩]
          · simp only [if_neg hp, Option.bind_some, contM]
            rw [if_neg (fun q => hp (hP.2 (q.1 h)))]
        have dn : dF x (n + 1) = dF x n + opn x[n] := dF_succ h
        have fn : fF x (n + 1) = fF x n + (if x[n].a = 11 then 1 else 0) := fF_succ h
        by_cases h8 : x[n].a = 8
        · have := fin True (dF x n + 1) (fF x n) (by simp [CodeS, hop, h8]) (fun _ => ⟨by rw [dn]; simp [opn, h8], by rw [fn]; simp [h8]⟩)
          simp only [if_true] at this
          simp only [if_pos h8, if_pos i1]; exact this
        by_cases h9 : x[n].a = 9
        · have := fin True (dF x n - 1) (fF x n) (by simp [CodeS, hop, h9]) (fun _ => ⟨by rw [dn]; simp [opn, h9]; omega, by rw [fn]; simp [h9]⟩)
          simp only [if_true] at this
          simp only [if_neg h8, if_pos h9, if_pos i2]; exact this
        by_cases h7 : x[n].a = 7
        · have hc := opC7 hop h7
          have := fin (SkipOk x n x[n].c) (dF x n) (fF x n) (by simp [CodeS, hop, h7]) (fun _ => ⟨by rw [dn]; simp [opn, h7], by rw [fn]; simp [h7]⟩)
          simp only [if_neg h8, if_neg h9, if_pos h7, p_Skip fuel x n (by omega) hf h hc, Option.bind_some, decide_eq_true_eq]
          rw [← this]
          by_cases hS : SkipOk x n x[n].c
          · rw [if_pos hS, if_pos hS]
          · rw [if_neg hS, if_neg hS]
        by_cases h11 : x[n].a = 11
        · have := fin (dF x n = 0 ∧ fF x n + 1 ≤ 1) (dF x n) (fF x n + 1) (by simp [CodeS, hop, h11, fn]; omega) (fun _ => ⟨by rw [dn]; simp [opn, h11], by rw [fn]; simp [h11]⟩)
          simp only [if_neg h8, if_neg h9, if_neg h7, if_pos h11, if_pos i3]
          rw [← this]
          by_cases hd : 0 < dF x n
          · rw [if_pos hd, if_neg (fun q => by omega)]
          · rw [if_neg hd]
            by_cases hq : 1 < fF x n + 1
            · rw [if_pos hq, if_neg (fun q => by omega)]
            · rw [if_neg hq, if_pos ⟨by omega, by omega⟩]
        · have := fin True (dF x n) (fF x n) (by simp [CodeS, hop, h7, h11]) (fun _ => ⟨by rw [dn]; simp [opn, h8, h9], by rw [fn]; simp [h11]⟩)
          simp only [if_true] at this
          simp only [if_neg h8, if_neg h9, if_neg h7, if_neg h11]; exact this
      · have hop' : ¬ opB x[n].a x[n].b x[n].c x[n].d = true := hop
        simp only [if_neg hop']
        rw [if_neg (fun q => hop (q.1 h).1)]
    · have e : n = x.length := by omega
      rw [if_neg (ge_cast h), if_pos (al_end h), e]
open Classical in
theorem p_SCodeOk (fuel : Nat) (x : List I4) (hl : x.length ≤ 1048576) (hf : x.length < fuel) : m_spec_CodeOk fuel x = some (decide (CodeP x)) := by
  unfold m_spec_CodeOk
  by_cases h24 : 24 < (x.length : Int)
  · rw [if_pos h24]; congr 1; exact (dec_no (fun q => by have := q.1; omega)).symm
  · rw [if_neg h24]
    have := p_SCode_L fuel x (by omega) hf fuel 0 (by simp [dF]) (by omega) (by omega)
    simp only [fF_zero, dF_zero] at this
    erw [this]
    by_cases hA : Al 0 x.length (CodeT x)
    · simp only [if_pos hA, Option.bind_some, contL, un1]
      congr 1
      exact dec_eq ⟨fun q => ⟨by omega, ⟨fun m h1 h2 => (hA m h1 h2).2, q⟩, fun m h1 h2 => (hA m h1 h2).1⟩, fun q => q.2.1.2⟩
    · simp only [if_neg hA, Option.bind_some, contL]
      congr 1
      exact (dec_no (fun q => hA (fun m h1 h2 => ⟨q.2.2 m h1 h2, q.2.1.1 m h1 h2⟩))).symm

/-! Children. -/
def kidO (o : I4) : Bool := !decide (o.a = 11) && !decide (tchF o.a o.b o.c o.d = 2)
theorem p_Kid_L (fuel : Nat) (x : List I4) (hl : x.length ≤ 1048576) : ∀ K n, n ≤ x.length → x.length < n + K →
    m_impl_KidOk_L0 fuel x K (n : Int) = some (if (x.drop n).all kidO = true then .brk () else .ret false) := by
  intro K
  induction K with
  | zero => intro n h1 h2; omega
  | succ K ih =>
    intro n h1 h2
    rw [m_impl_KidOk_L0]
    by_cases h : n < x.length
    · rw [drop_cons h]
      have := ih (n + 1) (by omega) (by omega)
      simp only [if_pos (lt_cast h), at?_lt h, Option.bind_some, p_Touches, if_pos (in64_succ h (show x.length ≤ _ by omega)), List.all_cons, kidO]
      by_cases e1 : x[n].a = 11
      · simp [e1]
      · by_cases e2 : tchF x[n].a x[n].b x[n].c x[n].d = 2
        · simp [e1, e2]
        · simp only [if_neg e1, if_neg e2, decide_eq_false e1, decide_eq_false e2, Bool.not_false, Bool.true_and]; exact this
    · rw [if_neg (ge_cast h), drop_end h]; rfl
theorem p_SKid_L (fuel : Nat) (x : List I4) (hl : x.length ≤ 1048576) : ∀ K n, n ≤ x.length → x.length < n + K →
    m_spec_KidOk_L0 fuel x K (n : Int) = some (if ((x.drop n).all fun o => !decide (tchF o.a o.b o.c o.d = 2)) = true then .brk () else .ret false) := by
  intro K
  induction K with
  | zero => intro n h1 h2; omega
  | succ K ih =>
    intro n h1 h2
    rw [m_spec_KidOk_L0]
    by_cases h : n < x.length
    · rw [drop_cons h]
      have := ih (n + 1) (by omega) (by omega)
      simp only [if_pos (lt_cast h), at?_lt h, Option.bind_some, p_STouches, if_pos (in64_succ h (show x.length ≤ _ by omega)), List.all_cons]
      by_cases e2 : tchF x[n].a x[n].b x[n].c x[n].d = 2
      · simp [e2]
      · simp only [if_neg e2, decide_eq_false e2, Bool.not_false, Bool.true_and]; exact this
    · rw [if_neg (ge_cast h), drop_end h]; rfl
theorem p_SHasFork_L (fuel : Nat) (x : List I4) (hl : x.length ≤ 1048576) : ∀ K n, n ≤ x.length → x.length < n + K →
    m_spec_HasFork_L0 fuel x K (n : Int) = some (if ((x.drop n).all fun o => !decide (o.a = 11)) = true then .brk () else .ret true) := by
  intro K
  induction K with
  | zero => intro n h1 h2; omega
  | succ K ih =>
    intro n h1 h2
    rw [m_spec_HasFork_L0]
    by_cases h : n < x.length
    · rw [drop_cons h]
      have := ih (n + 1) (by omega) (by omega)
      simp only [if_pos (lt_cast h), at?_lt h, Option.bind_some, if_pos (in64_succ h (show x.length ≤ _ by omega)), List.all_cons]
      by_cases e2 : x[n].a = 11
      · simp [e2]
      · simp only [if_neg e2, decide_eq_false e2, Bool.not_false, Bool.true_and]; exact this
    · rw [if_neg (ge_cast h), drop_end h]; rfl
def forkB (x : List I4) : Bool := !(x.all fun o => !decide (o.a = 11))
theorem p_SHasFork (fuel : Nat) (x : List I4) (hl : x.length ≤ 1048576) (hf : x.length < fuel) : m_spec_HasFork fuel x = some (forkB x) := by
  unfold m_spec_HasFork forkB
  have := p_SHasFork_L fuel x hl fuel 0 (by omega) (by omega)
  simp only [List.drop_zero] at this
  erw [this]
  cases x.all fun o => !decide (o.a = 11) <;> simp [contL, un1]
theorem kid_all (x : List I4) : x.all kidO = (!forkB x && x.all fun o => !decide (tchF o.a o.b o.c o.d = 2)) := by
  unfold forkB
  rw [Bool.not_not]
  induction x with
  | nil => rfl
  | cons o x ih =>
    rw [List.all_cons, List.all_cons, List.all_cons, ih, kidO]
    cases decide (o.a = 11) <;> cases decide (tchF o.a o.b o.c o.d = 2) <;> simp
open Classical in
noncomputable def kidB (x : List I4) : Bool := decide (CodeP x) && x.all kidO
open Classical in
theorem p_KidOk (fuel : Nat) (x : List I4) (hl : x.length ≤ 1048576) (hf : x.length < fuel) : m_impl_KidOk fuel x = some (kidB x) := by
  unfold m_impl_KidOk kidB
  have := p_Kid_L fuel x hl fuel 0 (by omega) (by omega)
  simp only [List.drop_zero] at this
  erw [this]
  simp only [p_CodeOk fuel x hl hf]
  cases x.all kidO <;> simp [contL, un1]
open Classical in
theorem p_SKidOk (fuel : Nat) (x : List I4) (hl : x.length ≤ 1048576) (hf : x.length < fuel) : m_spec_KidOk fuel x = some (kidB x) := by
  unfold m_spec_KidOk kidB
  have := p_SKid_L fuel x hl fuel 0 (by omega) (by omega)
  simp only [List.drop_zero] at this
  simp only [p_SCodeOk fuel x hl hf, p_SHasFork fuel x hl hf, Option.bind_some, kid_all]
  by_cases hC : CodeP x
  · simp only [decide_eq_true hC, if_true, Bool.true_and]
    cases hk : forkB x with
    | true => simp
    | false =>
      simp only [Bool.false_eq_true, if_false, Bool.not_false, Bool.true_and]
      erw [this]
      cases x.all fun o => !decide (tchF o.a o.b o.c o.d = 2) <;> simp [contL, un1]
  · simp only [decide_eq_false hC, Bool.false_eq_true, if_false, Bool.false_and]

/-! Results. -/
def valsB (l : List Int) : Bool := l.all fun x => inB x 0 65535
theorem p_areValues_L (fuel : Nat) (x : List Int) (hl : x.length ≤ 4611686018427387904) : ∀ K n, n ≤ x.length → x.length < n + K →
    m_impl_areValues_L0 fuel x K (n : Int) = some (if valsB (x.drop n) = true then .brk () else .ret false) := by
  intro K
  induction K with
  | zero => intro n h1 h2; omega
  | succ K ih =>
    intro n h1 h2
    rw [m_impl_areValues_L0]
    by_cases h : n < x.length
    · rw [drop_cons h]
      have := ih (n + 1) (by omega) (by omega)
      simp only [if_pos (lt_cast h), at?_lt h, Option.bind_some, p_isValue, if_pos (in64_succ h (show x.length ≤ _ by omega)), valsB, List.all_cons]
      by_cases e : inB x[n] 0 65535 = true
      · simp only [e, if_true, Bool.true_and]; exact this
      · simp [Bool.eq_false_iff.2 e]
    · rw [if_neg (ge_cast h), drop_end h]; rfl
theorem p_areValues (fuel : Nat) (x : List Int) (n : Int) (hl : x.length ≤ 4611686018427387904) (hf : x.length < fuel) : m_impl_areValues fuel x n = some (valsB x && decide ((x.length : Int) = n)) := by
  unfold m_impl_areValues
  have := p_areValues_L fuel x hl fuel 0 (by omega) (by omega)
  simp only [List.drop_zero] at this
  erw [this]
  cases valsB x <;> simp [contL, un1]
theorem p_l4Regs_L (fuel : Nat) (x : List Int) (hl : x.length ≤ 4611686018427387904) : ∀ K n, n ≤ x.length → x.length < n + K →
    m_spec_l4Regs_L0 fuel x K (n : Int) = some (if valsB (x.drop n) = true then .brk () else .ret false) := by
  intro K
  induction K with
  | zero => intro n h1 h2; omega
  | succ K ih =>
    intro n h1 h2
    rw [m_spec_l4Regs_L0]
    by_cases h : n < x.length
    · rw [drop_cons h]
      have := ih (n + 1) (by omega) (by omega)
      simp only [if_pos (lt_cast h), at?_lt h, Option.bind_some, p_l3Val, if_pos (in64_succ h (show x.length ≤ _ by omega)), valsB, List.all_cons]
      by_cases e : inB x[n] 0 65535 = true
      · simp only [e, if_true, Bool.true_and]; exact this
      · simp [Bool.eq_false_iff.2 e]
    · rw [if_neg (ge_cast h), drop_end h]; rfl
theorem p_l4Regs (fuel : Nat) (x : List Int) (hl : x.length ≤ 4611686018427387904) (hf : x.length < fuel) : m_spec_l4Regs fuel x = some (valsB x && decide ((x.length : Int) = 4)) := by
  unfold m_spec_l4Regs
  have := p_l4Regs_L fuel x hl fuel 0 (by omega) (by omega)
  simp only [List.drop_zero] at this
  by_cases h8 : (x.length : Int) = 4
  · rw [if_pos h8]
    erw [this]
    cases valsB x <;> simp [contL, un1, h8]
  · rw [if_neg h8]; simp [h8]
theorem val_at {x : List Int} {i : Int} (hv : valsB x = true) (h4 : x.length = 4) (hi : inB i 0 3 = true) : ∃ v, at? x i = some v ∧ 0 ≤ v ∧ v ≤ 65535 := by
  rw [inB_true] at hi
  obtain ⟨v, h⟩ := at?_some_iff (l := x) (i := i) (by omega)
  obtain ⟨h0, h1⟩ := at?_some h
  have := List.all_eq_true.1 hv v (List.mem_of_getElem? h1)
  exact ⟨v, h, inB_true.1 this⟩
theorem at_setI {l : List Int} {i x y : Int} (h : at? l i = some x) : at? (l.set i.toNat y) i = some y := by
  obtain ⟨h0, h1⟩ := at?_some h
  unfold at?
  rw [if_pos h0, List.getElem?_set_self (List.getElem?_eq_some_iff.1 h1).1]
theorem s_Calc (fuel : Nat) (a b c d : Int) (x : List Int) (hl : x.length ≤ 1048576) (hf : x.length < fuel) :
    ∃ l' r, m_impl_Calc fuel a b c d x = some (l', r) ∧ m_spec_Calc fuel a b c d x = some (l', r) ∧ l'.length = x.length := by
  unfold m_impl_Calc m_spec_Calc m_impl_copyInts
  rw [if_pos (show ([] : List Int).length + x.length ≤ 17179869184 by simp; omega), if_pos (show ([] : List Int).length + x.length ≤ 17179869184 by simp; omega)]
  simp only [p_OpOk, p_SOpOk, p_areValues fuel x _ (by omega) hf, p_l4Regs fuel x (by omega) hf, Option.bind_some, List.nil_append]
  by_cases hop : opB a b c d = true
  · simp only [if_pos hop]
    by_cases h4 : 4 < a
    · simp only [if_pos h4]
      by_cases hv : (valsB x && decide ((x.length : Int) = 4)) = true
      · simp only [if_pos hv]; exact ⟨_, _, rfl, rfl, rfl⟩
      · simp only [if_neg hv]; exact ⟨_, _, rfl, rfl, rfl⟩
    · simp only [if_neg h4]
      by_cases hv : (valsB x && decide ((x.length : Int) = 4)) = true
      · simp only [if_pos hv]
        simp only [Bool.and_eq_true, decide_eq_true_eq] at hv
        by_cases h1 : a = 1
        · subst h1
          simp [opB] at hop
          obtain ⟨v, hb, _, _⟩ := val_at hv.1 (by omega) hop.1.1
          simp only [if_true, hb, Option.bind_some]
          exact ⟨_, _, rfl, rfl, by simp⟩
        · have hr : (inB b 0 3 = true ∧ inB c 0 3 = true) ∧ inB d 0 3 = true := by
            by_cases h2 : a = 2
            · subst h2; simp [opB] at hop; exact hop
            by_cases h3 : a = 3
            · subst h3; simp [opB] at hop; exact hop
            by_cases h4' : a = 4
            · subst h4'; simp [opB] at hop; exact hop
            · exfalso; simp only [opB] at hop
              simp only [if_neg h1, if_neg (show ¬ (a = 2 ∨ a = 3 ∨ a = 4) by omega), if_neg (show ¬ a = 5 by omega), if_neg (show ¬ a = 6 by omega), if_neg (show ¬ a = 7 by omega), if_neg (show ¬ (a = 8 ∨ a = 15 ∨ a = 16) by omega), if_neg (show ¬ (a = 9 ∨ a = 10 ∨ a = 11) by omega), if_neg (show ¬ a = 12 by omega), if_neg (show ¬ a = 13 by omega), if_neg (show ¬ a = 14 by omega)] at hop
              cases hop
          obtain ⟨u, hb, _, _⟩ := val_at hv.1 (by omega) hr.1.1
          obtain ⟨v, hc, _, _⟩ := val_at hv.1 (by omega) hr.1.2
          obtain ⟨w, hd, _, _⟩ := val_at hv.1 (by omega) hr.2
          have i1 : in64 (v + w) := in64_of (by omega) (by omega)
          have i2 : in64 (v - w) := in64_of (by omega) (by omega)
          have i3 : in64 (v - w + 65536) := in64_of (by omega) (by omega)
          have nz : (65536 : Int) ≠ 0 := by decide
          simp only [if_neg h1, hb, hc, hd, Option.bind_some, if_pos i1, if_pos i2, if_pos i3, if_pos nz, at_setI hb]
          by_cases h2 : a = 2
          · simp only [if_pos h2, Option.bind_some]; exact ⟨_, _, rfl, rfl, by simp⟩
          · by_cases h3 : a = 3
            · simp only [if_neg h2, if_pos h3, Option.bind_some]; exact ⟨_, _, rfl, rfl, by simp⟩
            · simp only [if_neg h2, if_neg h3]
              by_cases hvw : v < w
              · simp only [if_pos hvw, Option.bind_some]; exact ⟨_, _, rfl, rfl, by simp⟩
              · simp only [if_neg hvw, Option.bind_some]; exact ⟨_, _, rfl, rfl, by simp⟩
      · simp only [if_neg hv]; exact ⟨_, _, rfl, rfl, rfl⟩
  · simp only [if_neg hop]; exact ⟨_, _, rfl, rfl, rfl⟩

theorem p_l3Vals_L (fuel : Nat) (x : List Int) (hl : x.length ≤ 4611686018427387904) : ∀ K n, n ≤ x.length → x.length < n + K →
    m_spec_l3Vals_L0 fuel x K (n : Int) = some (if valsB (x.drop n) = true then .brk () else .ret false) := by
  intro K
  induction K with
  | zero => intro n h1 h2; omega
  | succ K ih =>
    intro n h1 h2
    rw [m_spec_l3Vals_L0]
    by_cases h : n < x.length
    · rw [drop_cons h]
      have := ih (n + 1) (by omega) (by omega)
      simp only [if_pos (lt_cast h), at?_lt h, Option.bind_some, p_l3Val, if_pos (in64_succ h (show x.length ≤ _ by omega)), valsB, List.all_cons]
      by_cases e : inB x[n] 0 65535 = true
      · simp only [e, if_true, Bool.true_and]; exact this
      · simp [Bool.eq_false_iff.2 e]
    · rw [if_neg (ge_cast h), drop_end h]; rfl
theorem p_l3Vals (fuel : Nat) (x : List Int) (hl : x.length ≤ 4611686018427387904) (hf : x.length < fuel) : m_spec_l3Vals fuel x = some (valsB x && decide ((x.length : Int) = 8)) := by
  unfold m_spec_l3Vals
  have := p_l3Vals_L fuel x hl fuel 0 (by omega) (by omega)
  simp only [List.drop_zero] at this
  by_cases h8 : (x.length : Int) = 8
  · rw [if_pos h8]
    erw [this]
    cases valsB x <;> simp [contL, un1, h8]
  · rw [if_neg h8]; simp [h8]
def mapB (l : List Int) : Bool := l.all fun x => inB x 0 65536
theorem p_isMap_L (fuel : Nat) (x : List Int) (hl : x.length ≤ 4611686018427387904) : ∀ K n, n ≤ x.length → x.length < n + K →
    m_impl_isMap_L0 fuel x K (n : Int) = some (if mapB (x.drop n) = true then .brk () else .ret false) := by
  intro K
  induction K with
  | zero => intro n h1 h2; omega
  | succ K ih =>
    intro n h1 h2
    rw [m_impl_isMap_L0]
    by_cases h : n < x.length
    · rw [drop_cons h]
      have := ih (n + 1) (by omega) (by omega)
      simp only [if_pos (lt_cast h), at?_lt h, Option.bind_some, p_within, if_pos (in64_succ h (show x.length ≤ _ by omega)), mapB, List.all_cons]
      by_cases e : inB x[n] 0 65536 = true
      · simp only [e, if_true, Bool.true_and]; exact this
      · simp [Bool.eq_false_iff.2 e]
    · rw [if_neg (ge_cast h), drop_end h]; rfl
theorem p_SMap_L (fuel : Nat) (x : List Int) (hl : x.length ≤ 4611686018427387904) : ∀ K n, n ≤ x.length → x.length < n + K →
    m_spec_ThingsOk_L0 fuel x K (n : Int) = some (if mapB (x.drop n) = true then .brk () else .ret false) := by
  intro K
  induction K with
  | zero => intro n h1 h2; omega
  | succ K ih =>
    intro n h1 h2
    rw [m_spec_ThingsOk_L0]
    by_cases h : n < x.length
    · rw [drop_cons h]
      have := ih (n + 1) (by omega) (by omega)
      simp only [if_pos (lt_cast h), at?_lt h, Option.bind_some, p_l1In, if_pos (in64_succ h (show x.length ≤ _ by omega)), mapB, List.all_cons]
      by_cases e : inB x[n] 0 65536 = true
      · simp only [e, if_true, Bool.true_and]; exact this
      · simp [Bool.eq_false_iff.2 e]
    · rw [if_neg (ge_cast h), drop_end h]; rfl

theorem p_isMap (fuel : Nat) (x : List Int) (hl : x.length ≤ 4611686018427387904) (hf : x.length < fuel) : m_impl_isMap fuel x = some (mapB x && decide ((x.length : Int) = 8)) := by
  unfold m_impl_isMap
  have := p_isMap_L fuel x hl fuel 0 (by omega) (by omega)
  simp only [List.drop_zero] at this
  erw [this]
  cases mapB x <;> simp [contL, un1]
def thB (x y : List Int) (k : Int) : Bool := valsB x && decide ((x.length : Int) = 8) && (mapB y && decide ((y.length : Int) = 8)) && inB k 0 65535
theorem p_ThingsOk (fuel : Nat) (x y : List Int) (k : Int) (hl : x.length ≤ 1048576) (hm : y.length ≤ 1048576) (hf : x.length < fuel) (hg : y.length < fuel) : m_impl_ThingsOk fuel x y k = some (thB x y k) := by
  unfold m_impl_ThingsOk thB
  simp only [p_areValues fuel x _ (by omega) hf, p_isMap fuel y (by omega) hg, p_isValue, Option.bind_some]
  cases (valsB x && decide ((x.length : Int) = 8)) <;> cases (mapB y && decide ((y.length : Int) = 8)) <;> simp
theorem p_SThingsOk (fuel : Nat) (x y : List Int) (k : Int) (hl : x.length ≤ 1048576) (hm : y.length ≤ 1048576) (hf : x.length < fuel) (hg : y.length < fuel) : m_spec_ThingsOk fuel x y k = some (thB x y k) := by
  unfold m_spec_ThingsOk thB
  have := p_SMap_L fuel y (by omega) fuel 0 (by omega) (by omega)
  simp only [List.drop_zero] at this
  simp only [p_l3Vals fuel x (by omega) hf, p_l3Val, Option.bind_some]
  cases (valsB x && decide ((x.length : Int) = 8)) with
  | false => simp
  | true =>
    by_cases h8 : (y.length : Int) = 8
    · simp only [h8, if_true, decide_true, Bool.and_true, Bool.true_and]
      cases inB k 0 65535 with
      | false => simp
      | true =>
        simp only [if_true, Bool.and_true]
        erw [this]
        cases mapB y <;> simp [contL, un1]
    · simp [h8]
/-! The laws' helpers. -/
/-! Where a block ends. -/
theorem bL1r {α δ : Type} (r : δ) (f : α → Option δ) : ((some (Lp.ret r)).bind <| contL <| un1 f) = some r := rfl
theorem bL1 {α δ : Type} (a : α) (f : α → Option δ) : ((some (Lp.brk a)).bind <| contL <| un1 f) = f a := rfl
theorem bM1 {α γ δ : Type} (a : α) (f : α → Option (Lp γ δ)) : ((some (Lp.brk a)).bind <| contM <| un1 f) = f a := rfl
theorem bal_pos {x : List I4} (hB : Bal x) : ∀ n, n ≤ x.length → 0 ≤ dF x n := fun n hn => by
  cases n with
  | zero => exact Int.le_refl _
  | succ n => exact hB.1 n (Nat.zero_le _) (by omega)
end Go.Proofs.Ytknghnmcckjjbaa
