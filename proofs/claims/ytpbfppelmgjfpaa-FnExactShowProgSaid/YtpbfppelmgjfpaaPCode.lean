/- Code and programs as text, in plain Lean. -/
import Derived.Test.YtpbfppelmgjfpaaHpX
import Derived.Test.YtpbfppelmgjfpaaOq
namespace Go.Proofs.Ytpbfppelmgjfpaa
open Go Go.RowKit
set_option linter.unusedVariables false
set_option linter.unusedSimpArgs false



theorem p_within (fuel : Nat) (x lo hi : Int) : m_impl_within fuel x lo hi = some (inB x lo hi) := by
  unfold m_impl_within inB; split <;> simp_all <;> omega
theorem p_l1In (fuel : Nat) (x lo hi : Int) : m_spec_l1In fuel x lo hi = some (inB x lo hi) := by
  unfold m_spec_l1In inB; split <;> simp_all <;> omega
theorem p_isValue (fuel : Nat) (x : Int) : m_impl_isValue fuel x = some (inB x 0 65535) := by simp [m_impl_isValue, p_within]
theorem p_isCell (fuel : Nat) (x : Int) : m_impl_isCell fuel x = some (inB x 0 7) := by simp [m_impl_isCell, p_within]
theorem p_isKey (fuel : Nat) (x : Int) : m_impl_isKey fuel x = some (inB x 0 7) := by simp [m_impl_isKey, p_within]
theorem p_isReg (fuel : Nat) (x : Int) : m_impl_isReg fuel x = some (inB x 0 3) := by simp [m_impl_isReg, p_within]
theorem p_l3Val (fuel : Nat) (x : Int) : m_spec_l3Val fuel x = some (inB x 0 65535) := by simp [m_spec_l3Val, p_l1In]
theorem p_l3Cell (fuel : Nat) (x : Int) : m_spec_l3Cell fuel x = some (inB x 0 7) := by simp [m_spec_l3Cell, p_l1In]
theorem p_l4Reg (fuel : Nat) (x : Int) : m_spec_l4Reg fuel x = some (inB x 0 3) := by simp [m_spec_l4Reg, p_l1In]

/-! One operation. -/
def opB (a b c d : Int) : Bool :=
  if a = 1 then inB b 0 3 && inB c 0 65535 && decide (d = 0)
  else if a = 2 ∨ a = 3 ∨ a = 4 then inB b 0 3 && inB c 0 3 && inB d 0 3
  else if a = 5 then inB b 0 3 && inB c 0 7 && decide (d = 0)
  else if a = 6 then inB b 0 7 && inB c 0 3 && decide (d = 0)
  else if a = 7 then inB b 0 3 && inB c 1 20 && decide (d = 0)
  else if a = 8 ∨ a = 15 ∨ a = 16 then inB b 0 3 && decide (c = 0) && decide (d = 0)
  else if a = 9 ∨ a = 10 ∨ a = 11 then decide (b = 0) && decide (c = 0) && decide (d = 0)
  else if a = 12 then inB b 0 7 && inB c 0 3 && inB d 0 3
  else if a = 13 then inB b 0 3 && inB c 0 7 && decide (d = 0)
  else if a = 14 then inB b 0 7 && inB c 0 3 && decide (d = 0)
  else false
theorem p_SOpOk (fuel : Nat) (a b c d : Int) : m_spec_OpOk fuel a b c d = some (opB a b c d) := by
  unfold m_spec_OpOk opB
  simp only [p_l4Reg, p_l3Val, p_l3Cell, p_l1In, Option.bind_some]
  by_cases h1 : a = 1
  · simp only [h1, if_true]; cases inB b 0 3 <;> cases inB c 0 65535 <;> simp [contL]
  by_cases h2 : a = 2
  · subst h2; cases inB b 0 3 <;> cases inB c 0 3 <;> simp [contL]
  by_cases h3 : a = 3
  · subst h3; cases inB b 0 3 <;> cases inB c 0 3 <;> simp [contL]
  by_cases h4 : a = 4
  · subst h4; cases inB b 0 3 <;> cases inB c 0 3 <;> simp [contL]
  by_cases h5 : a = 5
  · subst h5; cases inB b 0 3 <;> cases inB c 0 7 <;> simp [contL]
  by_cases h6 : a = 6
  · subst h6; cases inB b 0 7 <;> cases inB c 0 3 <;> simp [contL]
  by_cases h7 : a = 7
  · subst h7; cases inB b 0 3 <;> cases inB c 1 20 <;> simp [contL]
  by_cases h8 : a = 8
  · subst h8; cases inB b 0 3 <;> by_cases hc : c = 0 <;> simp [contL, hc]
  by_cases h9 : a = 9
  · subst h9; by_cases hb : b = 0 <;> by_cases hc : c = 0 <;> simp [contL, hc, hb]
  by_cases h10 : a = 10
  · subst h10; by_cases hb : b = 0 <;> by_cases hc : c = 0 <;> simp [contL, hc, hb]
  by_cases h11 : a = 11
  · subst h11; by_cases hb : b = 0 <;> by_cases hc : c = 0 <;> simp [contL, hc, hb]
  by_cases h12 : a = 12
  · subst h12; cases inB b 0 7 <;> cases inB c 0 3 <;> simp [contL]
  by_cases h13 : a = 13
  · subst h13; cases inB b 0 3 <;> cases inB c 0 7 <;> simp [contL]
  by_cases h14 : a = 14
  · subst h14; cases inB b 0 7 <;> cases inB c 0 3 <;> simp [contL]
  by_cases h15 : a = 15
  · subst h15; cases inB b 0 3 <;> by_cases hc : c = 0 <;> simp [contL, hc]
  by_cases h16 : a = 16
  · subst h16; cases inB b 0 3 <;> by_cases hc : c = 0 <;> simp [contL, hc]
  simp [h1, h2, h3, h4, h5, h6, h7, h8, h9, h10, h11, h12, h13, h14, h15, h16, contL, un1]
theorem p_OpOk (fuel : Nat) (a b c d : Int) : m_impl_OpOk fuel a b c d = some (opB a b c d) := by
  rw [← p_SOpOk fuel a b c d]
  unfold m_impl_OpOk m_spec_OpOk
  simp only [p_isReg, p_isValue, p_isCell, p_isKey, p_within, p_l4Reg, p_l3Val, p_l3Cell, p_l1In]
def opC (o : I4) : Bool := opB o.a o.b o.c o.d
theorem opC7 {o : I4} (h : opC o = true) (h7 : o.a = 7) : 1 ≤ o.c ∧ o.c ≤ 20 := by
  simp [opC, opB, h7, inB] at h; omega
def tchF (a b c d : Int) : Int := if opB a b c d = true then (if a = 5 ∨ a = 6 then 1 else if a = 12 ∨ a = 13 ∨ a = 14 ∨ a = 15 ∨ a = 16 then 2 else 0) else 0
theorem p_STouches (fuel : Nat) (a b c d : Int) : m_spec_Touches fuel a b c d = some (tchF a b c d) := by
  unfold m_spec_Touches tchF
  simp only [p_SOpOk, Option.bind_some]
  by_cases h : opB a b c d = true
  · simp only [h, if_true]
    by_cases h5 : a = 5
    · subst h5; simp [contL]
    by_cases h6 : a = 6
    · subst h6; simp [contL]
    by_cases h12 : a = 12
    · subst h12; simp [contL]
    by_cases h13 : a = 13
    · subst h13; simp [contL]
    by_cases h14 : a = 14
    · subst h14; simp [contL]
    by_cases h15 : a = 15
    · subst h15; simp [contL]
    by_cases h16 : a = 16
    · subst h16; simp [contL]
    simp [h5, h6, h12, h13, h14, h15, h16, contL, un1]
  · simp [h]
theorem p_Touches (fuel : Nat) (a b c d : Int) : m_impl_Touches fuel a b c d = some (tchF a b c d) := by
  rw [← p_STouches fuel a b c d]
  unfold m_impl_Touches m_spec_Touches
  simp only [p_OpOk, p_SOpOk]

/-! Depths. -/
def opn (o : I4) : Int := if o.a = 8 then 1 else if o.a = 9 then -1 else 0
theorem opn_b (o : I4) : -1 ≤ opn o ∧ opn o ≤ 1 := by unfold opn; split <;> (try split) <;> omega
def dF (l : List I4) : Nat → Int
  | 0 => 0
  | n + 1 => dF l n + (match l[n]? with | some o => opn o | none => 0)
theorem dF_zero (l : List I4) : dF l 0 = 0 := rfl
theorem dF_succ {l : List I4} {n : Nat} (h : n < l.length) : dF l (n + 1) = dF l n + opn l[n] := by
  simp [dF, List.getElem?_eq_getElem h]
theorem dF_b (l : List I4) (n : Nat) : -(n : Int) ≤ dF l n ∧ dF l n ≤ (n : Int) := by
  induction n with
  | zero => simp [dF]
  | succ n ih =>
    rw [dF]
    cases h : l[n]? with
    | none => simp only []; omega
    | some o => have := opn_b o; simp only []; omega
theorem p_opens (fuel : Nat) (o : I4) : m_impl_opens fuel o.a o.b o.c o.d = some (opn o) := by
  unfold m_impl_opens opn; split <;> (try split) <;> rfl
/-- The first step of the reference's two: up where a block begins. -/
theorem s_up {a z : Int} (h1 : -1048578 ≤ z ∧ z ≤ 1048578) : (if a = 8 then (if in64 (z + 1) then some (z + 1) else none) else some z) = some (z + (if a = 8 then 1 else 0)) := by
  rw [if_pos (in64_of (by omega) (by omega) : in64 (z + 1))]; split <;> simp
theorem s_down {a z : Int} (h1 : -1048578 ≤ z ∧ z ≤ 1048578) : (if a = 9 then (if in64 (z - 1) then some (z - 1) else none) else some z) = some (z + (if a = 9 then -1 else 0)) := by
  rw [if_pos (in64_of (by omega) (by omega) : in64 (z - 1))]; split <;> simp <;> omega
theorem s_sum (o : I4) (z : Int) : z + (if o.a = 8 then 1 else 0) + (if o.a = 9 then -1 else 0) = z + opn o := by
  unfold opn; split <;> split <;> simp_all
theorem up_b (o : I4) (z : Int) : z ≤ z + (if o.a = 8 then 1 else 0) ∧ z + (if o.a = 8 then 1 else 0) ≤ z + 1 := by split <;> omega

theorem p_DepthAt_L (fuel : Nat) (x : List I4) (m : Int) (hl : x.length ≤ 1048576) : ∀ K n, n ≤ x.length → x.length < n + K →
    m_impl_DepthAt_L0 fuel x m K (dF x (min n m.toNat)) (n : Int) = some (dF x (min x.length m.toNat)) := by
  intro K
  induction K with
  | zero => intro n h1 h2; omega
  | succ K ih =>
    intro n h1 h2
    rw [m_impl_DepthAt_L0]
    by_cases h : n < x.length
    · have := ih (n + 1) (by omega) (by omega)
      by_cases hm : (n : Int) < m
      · have e1 : min n m.toNat = n := by omega
        have e2 : min (n + 1) m.toNat = n + 1 := by omega
        rw [e2, dF_succ h] at this
        have hb := dF_b x n
        have ho := opn_b x[n]
        simp only [if_pos (lt_cast h), if_pos hm, at?_lt h, Option.bind_some, p_opens, e1, if_pos (in64_of (by omega) (by omega) : in64 (dF x n + opn x[n])), if_pos (in64_succ h (show x.length ≤ _ by omega))]
        exact this
      · have e1 : min n m.toNat = m.toNat := by omega
        have e2 : min (n + 1) m.toNat = m.toNat := by omega
        rw [e2] at this
        simp only [if_pos (lt_cast h), if_neg hm, at?_lt h, Option.bind_some, e1, if_pos (in64_succ h (show x.length ≤ _ by omega))]
        exact this
    · have e : n = x.length := by omega
      rw [if_neg (ge_cast h), e]
theorem p_DepthAt (fuel : Nat) (x : List I4) (m : Int) (hl : x.length ≤ 1048576) (hf : x.length < fuel) : m_impl_DepthAt fuel x m = some (dF x (min x.length m.toNat)) := by
  unfold m_impl_DepthAt
  have := p_DepthAt_L fuel x m hl fuel 0 (by omega) (by omega)
  simp only [Nat.zero_min, dF_zero] at this
  erw [this]; rfl

/-! Code. -/
theorem dec_eq {p q : Prop} {a : Decidable p} {b : Decidable q} (h : p ↔ q) : @decide p a = @decide q b := decide_eq_decide.2 h
theorem dec_no {p : Prop} {a : Decidable p} (h : ¬ p) : @decide p a = false := decide_eq_false h
theorem dec_yes {p : Prop} {a : Decidable p} (h : p) : @decide p a = true := decide_eq_true h
def Al (n L : Nat) (P : Nat → Prop) : Prop := ∀ m, n ≤ m → m < L → P m
theorem al_end {n L : Nat} {P : Nat → Prop} (h : ¬ n < L) : Al n L P := fun m h1 h2 => absurd h2 (by omega)
theorem al_cons {n L : Nat} {P : Nat → Prop} (h : n < L) : Al n L P ↔ (P n ∧ Al (n + 1) L P) :=
  ⟨fun H => ⟨H n (Nat.le_refl _) h, fun m h1 h2 => H m (by omega) h2⟩, fun H m h1 h2 => by
    by_cases e : m = n
    · subst e; exact H.1
    · exact H.2 m (by omega) h2⟩
open Classical in
/-- The implementation's balance from a place on. -/
theorem p_Bal_L (fuel : Nat) (x : List I4) (hl : x.length ≤ 1048576) : ∀ K n, n ≤ x.length → x.length < n + K →
    m_impl_isBalanced_L0 fuel x K (dF x n) (n : Int) = some (if Al n x.length (fun m => 0 ≤ dF x (m + 1)) then .brk (dF x x.length) else .ret false) := by
  intro K
  induction K with
  | zero => intro n h1 h2; omega
  | succ K ih =>
    intro n h1 h2
    rw [m_impl_isBalanced_L0]
    by_cases h : n < x.length
    · have hb := dF_b x n
      have ho := opn_b x[n]
      have := ih (n + 1) (by omega) (by omega)
      simp only [if_pos (lt_cast h), at?_lt h, Option.bind_some, p_opens, if_pos (in64_of (by omega) (by omega) : in64 (dF x n + opn x[n])), if_pos (in64_succ h (show x.length ≤ _ by omega)), al_cons h]
      rw [← dF_succ h]
      by_cases h0 : dF x (n + 1) < 0
      · rw [if_pos h0, if_neg (fun q => by omega)]
      · rw [if_neg h0]
        erw [this]
        by_cases hA : Al (n + 1) x.length (fun m => 0 ≤ dF x (m + 1))
        · rw [if_pos hA, if_pos ⟨by omega, hA⟩]
        · rw [if_neg hA, if_neg (fun q => hA q.2)]
    · have e : n = x.length := by omega
      rw [if_neg (ge_cast h), if_pos (al_end h), e]
def Bal (x : List I4) : Prop := Al 0 x.length (fun m => 0 ≤ dF x (m + 1)) ∧ dF x x.length = 0
open Classical in
theorem p_Bal (fuel : Nat) (x : List I4) (hl : x.length ≤ 1048576) (hf : x.length < fuel) : m_impl_isBalanced fuel x = some (decide (Bal x)) := by
  unfold m_impl_isBalanced
  have := p_Bal_L fuel x hl fuel 0 (by omega) (by omega)
  simp only [dF_zero] at this
  erw [this]
  by_cases hA : Al 0 x.length (fun m => 0 ≤ dF x (m + 1))
  · simp only [if_pos hA, Option.bind_some, contL, un1]
    congr 1
    exact dec_eq ⟨fun q => ⟨hA, q⟩, fun q => q.2⟩
  · simp only [if_neg hA, Option.bind_some, contL]
    congr 1
    exact (dec_no (fun q => hA q.1)).symm

/-- What a jump passes over, in the reference: the same balance, of a part. -/
theorem subl_len {x : List I4} {i j : Nat} (h : i ≤ j) (hj : j ≤ x.length) : (subl x (i : Int) (j : Int)).length = j - i := by simp [subl]; omega
theorem subl_at {x : List I4} {i j n : Nat} (hj : j ≤ x.length) (h : i + n < j) : (subl x (i : Int) (j : Int))[n]? = x[i + n]? := by
  simp only [subl, Int.toNat_natCast]
  rw [List.getElem?_take_of_lt (by omega), List.getElem?_drop]
open Classical in
theorem p_Skip_L (fuel : Nat) (x : List I4) (hl : x.length ≤ 1048576) (p j : Nat) (e : I4) (hj : j ≤ x.length) (hc : ((p : Int) + 1) + e.c = (j : Int)) (hp : p + 1 ≤ j) : ∀ K n, p + 1 + n ≤ j → j < p + 1 + n + K →
    m_spec_l5Skip_L0 fuel x (p : Int) e K (dF (subl x ((p + 1 : Nat) : Int) (j : Int)) n) ((p + 1 + n : Nat) : Int) =
      some (if Al n (subl x ((p + 1 : Nat) : Int) (j : Int)).length (fun m => 0 ≤ dF (subl x ((p + 1 : Nat) : Int) (j : Int)) (m + 1)) then .brk (dF (subl x ((p + 1 : Nat) : Int) (j : Int)) (subl x ((p + 1 : Nat) : Int) (j : Int)).length) else .ret false) := by
  have hL : (subl x ((p + 1 : Nat) : Int) (j : Int)).length = j - (p + 1) := subl_len hp hj
  have hat : ∀ n, p + 1 + n < j → (subl x ((p + 1 : Nat) : Int) (j : Int))[n]? = x[p + 1 + n]? := fun n h => subl_at hj h
  generalize subl x ((p + 1 : Nat) : Int) (j : Int) = y at hL hat
  intro K
  induction K with
  | zero => intro n h1 h2; omega
  | succ K ih =>
    intro n h1 h2
    rw [m_spec_l5Skip_L0, hc]
    by_cases h : p + 1 + n < j
    · have hy : n < y.length := by omega
      have hx : p + 1 + n < x.length := by omega
      have hxy : x[p + 1 + n] = y[n] := by
        have := hat n h
        rw [List.getElem?_eq_getElem hy, List.getElem?_eq_getElem hx] at this
        exact (Option.some.inj this).symm
      have hb := dF_b y n
      have ho := opn_b y[n]
      have hu := up_b y[n] (dF y n)
      have := ih (n + 1) (by omega) (by omega)
      simp only [if_pos (lt_cast h), at?_lt hx, hxy, Option.bind_some, s_up (show -1048578 ≤ dF y n ∧ dF y n ≤ 1048578 by omega), s_down (show -1048578 ≤ dF y n + (if y[n].a = 8 then 1 else 0) ∧ dF y n + (if y[n].a = 8 then 1 else 0) ≤ 1048578 by omega), s_sum, al_cons hy]
      rw [← dF_succ hy]
      by_cases h0 : dF y (n + 1) < 0
      · rw [if_pos h0, if_neg (fun q => by omega)]; rfl
      · rw [if_neg h0]
        simp only [Option.bind_some, contM, un1, if_pos (in64_succ hx (show x.length ≤ _ by omega))]
        erw [this]
        by_cases hA : Al (n + 1) y.length (fun m => 0 ≤ dF y (m + 1))
        · rw [if_pos hA, if_pos ⟨by omega, hA⟩]
        · rw [if_neg hA, if_neg (fun q => hA q.2)]
    · have e : n = y.length := by omega
      rw [if_neg (ge_cast h), if_pos (al_end (by omega)), e]
/-- Whether a jump's part is well within the code and balanced. -/
def SkipOk (x : List I4) (n : Nat) (c : Int) : Prop := (n : Int) + 1 + c ≤ (x.length : Int) ∧ Bal (subl x ((n + 1 : Nat) : Int) ((n : Int) + 1 + c))
open Classical in
theorem p_Skip (fuel : Nat) (x : List I4) (n : Nat) (hl : x.length ≤ 1048576) (hf : x.length < fuel) (h : n < x.length) (hc : 1 ≤ x[n].c ∧ x[n].c ≤ 20) :
    m_spec_l5Skip fuel x (n : Int) = some (decide (SkipOk x n x[n].c)) := by
  unfold m_spec_l5Skip
  have i1 : in64 ((n : Int) + 1) := in64_of (by omega) (by omega)
  have i2 : in64 ((n : Int) + 1 + x[n].c) := in64_of (by omega) (by omega)
  simp only [if_pos i1, at?_lt h, Option.bind_some, if_pos i2]
  by_cases hj : (x.length : Int) < (n : Int) + 1 + x[n].c
  · rw [if_pos hj]
    congr 1
    exact (dec_no (fun q => by have := q.1; omega)).symm
  · rw [if_neg hj]
    obtain ⟨j, hj'⟩ : ∃ j : Nat, (n : Int) + 1 + x[n].c = (j : Int) := ⟨((n : Int) + 1 + x[n].c).toNat, by omega⟩
    have := p_Skip_L fuel x hl n j x[n] (by omega) hj' (by omega) fuel 0 (by omega) (by omega)
    simp only [dF_zero] at this
    erw [this]
    unfold SkipOk Bal
    rw [hj']
    by_cases hA : Al 0 (subl x ((n + 1 : Nat) : Int) (j : Int)).length (fun m => 0 ≤ dF (subl x ((n + 1 : Nat) : Int) (j : Int)) (m + 1))
    · simp only [if_pos hA, Option.bind_some, contL, un1]
      congr 1
      exact dec_eq ⟨fun q => ⟨by omega, hA, q⟩, fun q => q.2.2⟩
    · simp only [if_neg hA, Option.bind_some, contL]
      congr 1
      exact (dec_no (fun q => hA q.2.1)).symm
def fF (l : List I4) : Nat → Int
  | 0 => 0
  | n + 1 => fF l n + (match l[n]? with | some o => if o.a = 11 then 1 else 0 | none => 0)
theorem fF_zero (l : List I4) : fF l 0 = 0 := rfl
theorem fF_succ {l : List I4} {n : Nat} (h : n < l.length) : fF l (n + 1) = fF l n + (if l[n].a = 11 then 1 else 0) := by
  simp [fF, List.getElem?_eq_getElem h]
theorem fF_b (l : List I4) (n : Nat) : 0 ≤ fF l n ∧ fF l n ≤ (n : Int) := by
  induction n with
  | zero => simp [fF]
  | succ n ih =>
    rw [fF]
    cases h : l[n]? with
    | none => simp only []; omega
    | some o => simp only []; split <;> omega
def CodeS (x : List I4) (n : Nat) (o : I4) : Prop := opC o = true ∧ (o.a = 7 → SkipOk x n o.c) ∧ (o.a = 11 → fF x (n + 1) ≤ 1 ∧ dF x n = 0)
def CodeP (x : List I4) : Prop := x.length ≤ 24 ∧ Bal x ∧ Al 0 x.length fun m => ∀ h : m < x.length, CodeS x m x[m]
open Classical in
theorem p_Code_L (fuel : Nat) (x : List I4) (hl : x.length ≤ 24) (hf : x.length < fuel) : ∀ K n, n ≤ x.length → x.length < n + K →
    m_impl_CodeOk_L0 fuel x K (fF x n) (n : Int) = some (if Al n x.length (fun m => ∀ h : m < x.length, CodeS x m x[m]) then .brk () else .ret false) := by
  intro K
  induction K with
  | zero => intro n h1 h2; omega
  | succ K ih =>
    intro n h1 h2
    rw [m_impl_CodeOk_L0]
    by_cases h : n < x.length
    · have := ih (n + 1) (by omega) (by omega)
      have hfb := fF_b x n
      have hi := in64_succ h (show x.length ≤ _ by omega)
      have key : ∀ (z : Int) (b : Bool), (b = true ↔ CodeS x n x[n]) → (b = true → z = fF x (n + 1)) → ((some (if b = true then Lp.brk z else Lp.ret false) : Option (Lp Int Bool)).bind <| contM <| un1 fun z3 => if in64 ((n : Int) + 1) then m_impl_CodeOk_L0 fuel x K z3 ((n : Int) + 1) else none) = some (if Al n x.length (fun m => ∀ h : m < x.length, CodeS x m x[m]) then .brk () else .ret false) := by
        intro z b hb hz
        rw [al_cons h]
        cases b with
        | false => simp only [Bool.false_eq_true, if_false]; rw [if_neg (fun q => by have := hb.2 (q.1 h); cases this)]; rfl
        | true =>
          have := hz rfl
          subst this
          simp only [if_true, Option.bind_some, contM, un1, if_pos hi]
          erw [ih (n + 1) (by omega) (by omega)]
          by_cases hA : Al (n + 1) x.length (fun m => ∀ h : m < x.length, CodeS x m x[m])
          · rw [if_pos hA, if_pos ⟨fun _ => hb.1 rfl, hA⟩]
          · rw [if_neg hA, if_neg (fun q => hA q.2)]
      simp only [if_pos (lt_cast h), at?_lt h, Option.bind_some, p_OpOk]
      refine Eq.trans (congrArg (fun q => Option.bind q _) ?_) (key (fF x (n + 1)) (decide (CodeS x n x[n])) (by simp) (fun _ => rfl))
      by_cases hop : opC x[n] = true
      · have hop' : opB x[n].a x[n].b x[n].c x[n].d = true := hop
        simp only [if_pos hop']
        by_cases h7 : x[n].a = 7
        · have hc := opC7 hop h7
          have e11 : ¬ x[n].a = 11 := by omega
          have i1 : in64 ((n : Int) + 1 + x[n].c) := in64_of (by omega) (by omega)
          simp only [if_pos h7, if_pos hi, if_pos i1, fF_succ h, if_neg e11, Int.add_zero]
          by_cases hj : (x.length : Int) < (n : Int) + 1 + x[n].c
          · rw [if_pos hj, if_neg (by simp only [decide_eq_true_eq]; exact fun q => by have := (q.2.1 h7).1; omega)]
          · obtain ⟨j, hj'⟩ : ∃ j : Nat, (n : Int) + 1 + x[n].c = (j : Int) := ⟨((n : Int) + 1 + x[n].c).toNat, by omega⟩
            have hs : (subl x ((n + 1 : Nat) : Int) (j : Int)).length = j - (n + 1) := subl_len (by omega) (by omega)
            rw [if_neg hj, if_pos ⟨by omega, by omega, by omega⟩, hj', cast_succ, p_Bal fuel _ (by omega) (by omega)]
            simp only [Option.bind_some, decide_eq_true_eq]
            by_cases hB : Bal (subl x ((n + 1 : Nat) : Int) (j : Int))
            · rw [if_pos hB, if_pos ⟨hop, fun _ => ⟨by omega, by rw [hj']; exact hB⟩, fun q => absurd q e11⟩]
            · rw [if_neg hB, if_neg (fun q => hB (by have := (q.2.1 h7).2; rw [hj'] at this; exact this))]
        · by_cases h11 : x[n].a = 11
          · have hb := dF_b x n
            have i1 : in64 (fF x n + 1) := in64_of (by omega) (by omega)
            simp only [if_neg h7, if_pos h11, if_pos i1, fF_succ h, p_DepthAt fuel x (n : Int) (by omega) hf, Option.bind_some, Int.toNat_natCast, show min x.length n = n by omega, decide_eq_true_eq]
            by_cases hq : 1 < fF x n + 1
            · rw [if_pos hq, if_neg (fun q => by have := (q.2.2 h11).1; rw [fF_succ h, if_pos h11] at this; omega)]
            · rw [if_neg hq]
              by_cases hd : dF x n = 0
              · rw [if_pos hd, if_pos ⟨hop, fun q => absurd q h7, fun _ => ⟨by rw [fF_succ h, if_pos h11]; omega, hd⟩⟩]
              · rw [if_neg hd, if_neg (fun q => hd (q.2.2 h11).2)]
          · simp only [if_neg h7, if_neg h11, fF_succ h, Int.add_zero]
            rw [if_pos (by simp only [decide_eq_true_eq]; exact ⟨hop, fun q => absurd q h7, fun q => absurd q h11⟩)]
      · have hop' : ¬ opB x[n].a x[n].b x[n].c x[n].d = true := hop
        simp only [if_neg hop']
        rw [if_neg (by simp only [decide_eq_true_eq]; exact fun q => hop q.1)]
    · rw [if_neg (ge_cast h), if_pos (al_end h)]
open Classical in
theorem p_CodeOk (fuel : Nat) (x : List I4) (hl : x.length ≤ 1048576) (hf : x.length < fuel) : m_impl_CodeOk fuel x = some (decide (CodeP x)) := by
  unfold m_impl_CodeOk
  by_cases h24 : 24 < (x.length : Int)
  · rw [if_pos h24]; congr 1; exact (dec_no (fun q => by have := q.1; omega)).symm
  · rw [if_neg h24, p_Bal fuel x hl hf]
    simp only [Option.bind_some, decide_eq_true_eq]
    by_cases hB : Bal x
    · rw [if_pos hB]
      have := p_Code_L fuel x (by omega) hf fuel 0 (by omega) (by omega)
      simp only [fF_zero] at this
      erw [this]
      by_cases hA : Al 0 x.length (fun m => ∀ h : m < x.length, CodeS x m x[m])
      · simp only [if_pos hA, Option.bind_some, contL, un1]
        congr 1; exact (dec_yes ⟨by omega, hB, hA⟩).symm
      · simp only [if_neg hA, Option.bind_some, contL]
        congr 1; exact (dec_no (fun q => hA q.2.2)).symm
    · rw [if_neg hB]; congr 1; exact (dec_no (fun q => hB q.2.1)).symm
/-- The reference's one pass: each operation, and no more ends than beginnings so far. -/
def CodeT (x : List I4) (n : Nat) : Prop := (∀ h : n < x.length, CodeS x n x[n]) ∧ 0 ≤ dF x (n + 1)
open Classical in
theorem p_SCode_L (fuel : Nat) (x : List I4) (hl : x.length ≤ 24) (hf : x.length < fuel) : ∀ K n, 0 ≤ dF x n → n ≤ x.length → x.length < n + K →
    m_spec_CodeOk_L0 fuel x K (dF x n) (fF x n) (n : Int) = some (if Al n x.length (CodeT x) then .brk (dF x x.length) else .ret false) := by
  intro K
  induction K with
  | zero => intro n h0 h1 h2; omega
  | succ K ih =>
    intro n h0 h1 h2
    rw [m_spec_CodeOk_L0]
    by_cases h : n < x.length
    · have hfb := fF_b x n
      have hb := dF_b x n
      have hi := in64_succ h (show x.length ≤ _ by omega)
      have key : ∀ (b : Bool), (b = true ↔ CodeT x n) → ((some (if b = true then Lp.brk (dF x (n + 1), fF x (n + 1)) else Lp.ret false) : Option (Lp (Int × Int) Bool)).bind <| contM <| un2 fun z5 z6 => if in64 ((n : Int) + 1) then m_spec_CodeOk_L0 fuel x K z5 z6 ((n : Int) + 1) else none) = some (if Al n x.length (CodeT x) then .brk (dF x x.length) else .ret false) := by
        intro b hb
        rw [al_cons h]
        cases b with
        | false => simp only [Bool.false_eq_true, if_false]; rw [if_neg (fun q => by have := hb.2 q.1; cases this)]; rfl
        | true =>
          simp only [if_true, Option.bind_some, contM, un2, if_pos hi]
          erw [ih (n + 1) (hb.1 rfl).2 (by omega) (by omega)]
          by_cases hA : Al (n + 1) x.length (CodeT x)
          · rw [if_pos hA, if_pos ⟨hb.1 rfl, hA⟩]
          · rw [if_neg hA, if_neg (fun q => hA q.2)]
      simp only [if_pos (lt_cast h), at?_lt h, Option.bind_some, p_SOpOk]
      refine Eq.trans (congrArg (fun q => Option.bind q _) ?_) (key (decide (CodeT x n)) (by simp))
      simp only [decide_eq_true_eq]
      by_cases hop : opC x[n] = true
      · have hop' : opB x[n].a x[n].b x[n].c x[n].d = true := hop
        simp only [if_pos hop']
        have i1 : in64 (dF x n + 1) := in64_of (by omega) (by omega)
        have i2 : in64 (dF x n - 1) := in64_of (by omega) (by omega)
        have i3 : in64 (fF x n + 1) := in64_of (by omega) (by omega)
        have fin : ∀ (P : Prop) (d f : Int), (P ↔ CodeS x n x[n]) → (P → d = dF x (n + 1) ∧ f = fF x (n + 1)) → ((some (if P then Lp.brk (d, f) else Lp.ret false) : Option (Lp (Int × Int) Bool)).bind <| contM <| un2 fun z7 z8 => if z7 < 0 then some (Lp.ret false) else some (Lp.brk (z7, z8))) = some (if CodeT x n then Lp.brk (dF x (n + 1), fF x (n + 1)) else Lp.ret false) := by
          intro P d f hP hdf
          by_cases hp : P
          · obtain ⟨rfl, rfl⟩ := hdf hp
            simp only [if_pos hp, Option.bind_some, contM, un2]
            by_cases hn : dF x (n + 1) < 0
            · rw [if_pos hn, if_neg (fun q => by have := q.2; omega)]
            · rw [if_neg hn, if_pos ⟨fun _ => hP.1 hp, by omega⟩]
          · simp only [if_neg hp, Option.bind_some, contM]
            rw [if_neg (fun q => hp (hP.2 (q.1 h)))]
        have dn : dF x (n + 1) = dF x n + opn x[n] := dF_succ h
        have fn : fF x (n + 1) = fF x n + (if x[n].a = 11 then 1 else 0) := fF_succ h
        by_cases h8 : x[n].a = 8
        · have := fin True (dF x n + 1) (fF x n) (by simp [CodeS, hop, h8]) (fun _ => ⟨by rw [dn]; simp [opn, h8], by rw [fn]; simp [h8]⟩)
          simp only [if_true] at this
          simp only [if_pos h8, if_pos i1]; exact this
        by_cases h9 : x[n].a = 9
        · have := fin True (dF x n - 1) (fF x n) (by simp [CodeS, hop, h9]) (fun _ => ⟨by rw [dn]; simp [opn, h9]; omega, by rw [fn]; simp [h9]⟩)
          simp only [if_true] at this
          simp only [if_neg h8, if_pos h9, if_pos i2]; exact this
        by_cases h7 : x[n].a = 7
        · have hc := opC7 hop h7
          have := fin (SkipOk x n x[n].c) (dF x n) (fF x n) (by simp [CodeS, hop, h7]) (fun _ => ⟨by rw [dn]; simp [opn, h7], by rw [fn]; simp [h7]⟩)
          simp only [if_neg h8, if_neg h9, if_pos h7, p_Skip fuel x n (by omega) hf h hc, Option.bind_some, decide_eq_true_eq]
          rw [← this]
          by_cases hS : SkipOk x n x[n].c
          · rw [if_pos hS, if_pos hS]
          · rw [if_neg hS, if_neg hS]
        by_cases h11 : x[n].a = 11
        · have := fin (dF x n = 0 ∧ fF x n + 1 ≤ 1) (dF x n) (fF x n + 1) (by simp [CodeS, hop, h11, fn]; omega) (fun _ => ⟨by rw [dn]; simp [opn, h11], by rw [fn]; simp [h11]⟩)
          simp only [if_neg h8, if_neg h9, if_neg h7, if_pos h11, if_pos i3]
          rw [← this]
          by_cases hd : 0 < dF x n
          · rw [if_pos hd, if_neg (fun q => by omega)]
          · rw [if_neg hd]
            by_cases hq : 1 < fF x n + 1
            · rw [if_pos hq, if_neg (fun q => by omega)]
            · rw [if_neg hq, if_pos ⟨by omega, by omega⟩]
        · have := fin True (dF x n) (fF x n) (by simp [CodeS, hop, h7, h11]) (fun _ => ⟨by rw [dn]; simp [opn, h8, h9], by rw [fn]; simp [h11]⟩)
          simp only [if_true] at this
          simp only [if_neg h8, if_neg h9, if_neg h7, if_neg h11]; exact this
      · have hop' : ¬ opB x[n].a x[n].b x[n].c x[n].d = true := hop
        simp only [if_neg hop']
        rw [if_neg (fun q => hop (q.1 h).1)]
    · have e : n = x.length := by omega
      rw [if_neg (ge_cast h), if_pos (al_end h), e]
open Classical in
theorem p_SCodeOk (fuel : Nat) (x : List I4) (hl : x.length ≤ 1048576) (hf : x.length < fuel) : m_spec_CodeOk fuel x = some (decide (CodeP x)) := by
  unfold m_spec_CodeOk
  by_cases h24 : 24 < (x.length : Int)
  · rw [if_pos h24]; congr 1; exact (dec_no (fun q => by have := q.1; omega)).symm
  · rw [if_neg h24]
    have := p_SCode_L fuel x (by omega) hf fuel 0 (by simp [dF]) (by omega) (by omega)
    simp only [fF_zero, dF_zero] at this
    erw [this]
    by_cases hA : Al 0 x.length (CodeT x)
    · simp only [if_pos hA, Option.bind_some, contL, un1]
      congr 1
      exact dec_eq ⟨fun q => ⟨by omega, ⟨fun m h1 h2 => (hA m h1 h2).2, q⟩, fun m h1 h2 => (hA m h1 h2).1⟩, fun q => q.2.1.2⟩
    · simp only [if_neg hA, Option.bind_some, contL]
      congr 1
      exact (dec_no (fun q => hA (fun m h1 h2 => ⟨q.2.2 m h1 h2, q.2.1.1 m h1 h2⟩))).symm


/-! Numbers in decimal digits. -/
def digs (n : Nat) : Str := if h : n = 0 then [] else b8 (48 + ((n % 10 : Nat) : Int)) :: digs (n / 10)
termination_by n
decreasing_by omega
theorem digs_zero : digs 0 = [] := by rw [digs]; rfl
theorem digs_pos {n : Nat} (h : n ≠ 0) : digs n = b8 (48 + ((n % 10 : Nat) : Int)) :: digs (n / 10) := by rw [digs, dif_neg h]
theorem digs_len : ∀ n, (digs n).length ≤ n := by
  intro n
  induction n using Nat.strongRecOn with
  | ind n ih =>
    by_cases h : n = 0
    · subst h; rw [digs_zero]; exact Nat.le_refl _
    · rw [digs_pos h, List.length_cons]
      have := ih (n / 10) (by omega)
      omega
theorem tm (n : Nat) : ((n : Int)).tmod 10 = ((n % 10 : Nat) : Int) := by rw [Int.tmod_eq_emod_of_nonneg (by omega)]; omega
theorem td (n : Nat) : ((n : Int)).tdiv 10 = ((n / 10 : Nat) : Int) := by rw [Int.tdiv_eq_ediv_of_nonneg (by omega)]; omega
theorem p_DL (F : Nat) : ∀ K n (A : Str), n < K → A.length + n ≤ 1000000 → m_impl_Dec_L0 F K A (n : Int) = some (A ++ digs n) := by
  intro K
  induction K with
  | zero => intro n A h1 h2; omega
  | succ K ih =>
    intro n A h1 h2
    rw [m_impl_Dec_L0]
    by_cases h : n = 0
    · subst h; rw [if_pos (show ((0 : Nat) : Int) = 0 from rfl), digs_zero, List.append_nil]
    · have nz : (10 : Int) ≠ 0 := by decide
      have i1 : in64 (48 + ((n % 10 : Nat) : Int)) := in64_of (by omega) (by omega)
      have i2 : in64 ((n / 10 : Nat) : Int) := in64_of (by omega) (by omega)
      have i3 : A.length + 1 ≤ 17179869184 := by omega
      have e := ih (n / 10) (A ++ [b8 (48 + ((n % 10 : Nat) : Int))]) (by omega) (by simp; omega)
      rw [if_neg (by omega)]
      simp only [tm, td, if_pos nz, if_neg (show ¬ ((n % 10 : Nat) : Int) < 0 by omega), Option.bind_some, if_pos i1, if_pos i3, if_pos (And.intro nz i2)]
      rw [e, digs_pos h, List.append_assoc]; rfl
theorem p_SDL (F : Nat) : ∀ K n (s : Str), n < K → s.length + n ≤ 1000000 → m_spec_Dec_L0 F K (n : Int) s = some ((digs n).reverse ++ s) := by
  intro K
  induction K with
  | zero => intro n s h1 h2; omega
  | succ K ih =>
    intro n s h1 h2
    rw [m_spec_Dec_L0]
    by_cases h : n = 0
    · subst h; rw [if_pos (show ((0 : Nat) : Int) = 0 from rfl), digs_zero]; rfl
    · have nz : (10 : Int) ≠ 0 := by decide
      have i1 : in64 (48 + ((n % 10 : Nat) : Int)) := in64_of (by omega) (by omega)
      have i2 : in64 ((n / 10 : Nat) : Int) := in64_of (by omega) (by omega)
      have i3 : ((([b8 (48 + ((n % 10 : Nat) : Int))] : List UInt8).length + s.length : Nat) : Int) ≤ 9223372036854775807 := by simp; omega
      have e := ih (n / 10) ([b8 (48 + ((n % 10 : Nat) : Int))] ++ s) (by omega) (by simp; omega)
      rw [if_neg (by omega)]
      simp only [tm, td, if_pos nz, if_neg (show ¬ ((n % 10 : Nat) : Int) < 0 by omega), Option.bind_some, if_pos i1, if_pos i3, if_pos (And.intro nz i2)]
      rw [e, digs_pos h, List.reverse_cons, List.append_assoc]
theorem p_rev (F : Nat) (l : Str) (hl : l.length ≤ 1000000) : ∀ (K i : Nat) (z : Str), z.length = l.length → (∀ k, k < l.length → z[k]? = if k < i ∨ l.length ≤ k + i then l[l.length - 1 - k]? else l[k]?) → l.length < 2 * (i + K) → 2 * i ≤ l.length →
    m_impl_Dec_L1 F K z (i : Int) ((l.length : Int) - 1 - (i : Int)) = some l.reverse := by
  intro K
  induction K with
  | zero => intro i z h1 h2 h3 h4; omega
  | succ K ih =>
    intro i z hz hI h3 h4
    rw [m_impl_Dec_L1]
    by_cases h : 2 * i + 1 < l.length
    · have hj : (l.length : Int) - 1 - (i : Int) = ((l.length - 1 - i : Nat) : Int) := by omega
      rw [hj, if_pos (by omega)]
      have zi : i < z.length := by omega
      have zj : l.length - 1 - i < z.length := by omega
      obtain ⟨u, hu⟩ := at?_some_iff (l := z) (i := (i : Int)) (by omega)
      obtain ⟨v, hv⟩ := at?_some_iff (l := z) (i := ((l.length - 1 - i : Nat) : Int)) (by omega)
      obtain ⟨w, hw⟩ := at?_some_iff (l := z.set ((i : Int)).toNat v) (i := ((l.length - 1 - i : Nat) : Int)) (by rw [List.length_set]; omega)
      have hi : in64 ((i : Int) + 1) := in64_of (by omega) (by omega)
      have hk : in64 (((l.length - 1 - i : Nat) : Int) - 1) := in64_of (by omega) (by omega)
      rw [hv, Option.bind_some, hu, Option.bind_some, hw, Option.bind_some, if_pos hi, if_pos hk]
      have e1 : ((l.length - 1 - i : Nat) : Int) - 1 = (l.length : Int) - 1 - ((i + 1 : Nat) : Int) := by omega
      rw [e1, cast_succ, Int.toNat_natCast, Int.toNat_natCast]
      rw [at?_nat] at hu hv
      have ei : l[i]? = some u := by rw [← hu, hI i (by omega), if_neg (by omega)]
      have ej : l[l.length - 1 - i]? = some v := by rw [← hv, hI _ (by omega), if_neg (by omega)]
      refine ih (i + 1) _ (by simpa using hz) (fun k hk => ?_) (by omega) (by omega)
      rw [List.getElem?_set, List.getElem?_set]
      by_cases k1 : l.length - 1 - i = k
      · subst k1
        rw [if_pos rfl, if_pos (by rw [List.length_set]; exact zj), if_pos (.inr (by omega)), show l.length - 1 - (l.length - 1 - i) = i by omega, ei]
      · rw [if_neg k1]
        by_cases k2 : i = k
        · subst k2
          rw [if_pos rfl, if_pos zi, if_pos (.inl (by omega)), ej]
        · rw [if_neg k2, hI k hk]
          by_cases c : k < i ∨ l.length ≤ k + i
          · rw [if_pos c, if_pos (by omega)]
          · rw [if_neg c, if_neg (by omega)]
    · rw [if_neg (by omega)]
      congr 1
      refine List.ext_getElem? fun k => ?_
      by_cases hk : k < l.length
      · rw [hI k hk, List.getElem?_reverse hk]
        by_cases c : k < i ∨ l.length ≤ k + i
        · rw [if_pos c]
        · rw [if_neg c, show l.length - 1 - k = k by omega]
      · rw [List.getElem?_eq_none (by omega), List.getElem?_eq_none (by simp; omega)]
def decS (x : Int) : Str := if x = 0 then [48] else (digs x.toNat).reverse
theorem decS_len {x : Int} (h : 0 ≤ x ∧ x ≤ 65535) : (decS x).length ≤ 65535 := by
  unfold decS
  split
  · simp
  · have := digs_len x.toNat; simp; omega
theorem p_Dec (F : Nat) {x : Int} (h : 0 ≤ x ∧ x ≤ 65535) (hf : 65536 < F) : m_impl_Dec F x = some (decS x) := by
  unfold m_impl_Dec decS
  by_cases h0 : x = 0
  · rw [if_pos h0, if_pos h0]
  · obtain ⟨n, rfl⟩ := Int.eq_ofNat_of_zero_le h.1
    have hlen := digs_len n
    rw [if_neg h0, if_neg h0]
    have e1 := p_DL F F n [] (by omega) (by simp; omega)
    have e2 := p_rev F (digs n) (by omega) F 0 (digs n) rfl (fun k hk => by rw [if_neg (by omega)]) (by omega) (by omega)
    rw [List.nil_append] at e1
    rw [e1]
    simp only [Option.bind_some, if_neg (show ¬ (n : Int) < 0 by omega), if_pos (show in64 (((digs n).length : Int) - 1) from in64_of (by omega) (by omega)), Int.toNat_natCast]
    simp only [Int.natCast_zero, Int.sub_zero] at e2
    rw [e2]; rfl
theorem p_SDec (F : Nat) {x : Int} (h : 0 ≤ x ∧ x ≤ 65535) (hf : 65536 < F) : m_spec_Dec F x = some (decS x) := by
  unfold m_spec_Dec decS
  by_cases h0 : x = 0
  · rw [if_pos h0, if_pos h0]
  · obtain ⟨n, rfl⟩ := Int.eq_ofNat_of_zero_le h.1
    rw [if_neg h0, if_neg h0]
    have e1 := p_SDL F F n [] (by omega) (by simp; omega)
    rw [List.append_nil] at e1
    rw [e1]
    simp only [Option.bind_some, if_neg (show ¬ (n : Int) < 0 by omega), Int.toNat_natCast]

/-! An operation as text. -/
theorem opB_rng {a b c d : Int} (h : opB a b c d = true) : (1 ≤ a ∧ a ≤ 16) ∧ (0 ≤ b ∧ b ≤ 65535) ∧ (0 ≤ c ∧ c ≤ 65535) ∧ (0 ≤ d ∧ d ≤ 65535) := by
  unfold opB at h
  by_cases h1 : a = 1
  · simp [h1, inB] at h; omega
  by_cases h2 : a = 2 ∨ a = 3 ∨ a = 4
  · simp [h1, h2, inB] at h; omega
  by_cases h5 : a = 5
  · simp [h5, inB] at h; omega
  by_cases h6 : a = 6
  · simp [h6, inB] at h; omega
  by_cases h7 : a = 7
  · simp [h7, inB] at h; omega
  by_cases h8 : a = 8 ∨ a = 15 ∨ a = 16
  · simp only [if_neg h1, if_neg h2, if_neg h5, if_neg h6, if_neg h7, if_pos h8] at h; simp [inB] at h; omega
  by_cases h9 : a = 9 ∨ a = 10 ∨ a = 11
  · simp only [if_neg h1, if_neg h2, if_neg h5, if_neg h6, if_neg h7, if_neg h8, if_pos h9] at h; simp at h; omega
  by_cases h12 : a = 12
  · simp [h12, inB] at h; omega
  by_cases h13 : a = 13
  · simp [h13, inB] at h; omega
  by_cases h14 : a = 14
  · simp [h14, inB] at h; omega
  · simp only [if_neg h1, if_neg h2, if_neg h5, if_neg h6, if_neg h7, if_neg h8, if_neg h9, if_neg h12, if_neg h13, if_neg h14] at h; cases h
def nF (a : Int) : Int := if a = 2 ∨ a = 3 ∨ a = 4 ∨ a = 12 then 3 else if a = 8 ∨ a = 15 ∨ a = 16 then 1 else if a = 9 ∨ a = 10 ∨ a = 11 then 0 else 2
theorem nF_cases (a : Int) : nF a = 0 ∨ nF a = 1 ∨ nF a = 2 ∨ nF a = 3 := by unfold nF; split <;> (try split) <;> (try split) <;> simp
theorem p_l6Args (F : Nat) (a : Int) : m_spec_l6Args F a = some (nF a) := by
  unfold m_spec_l6Args nF
  by_cases h2 : a = 2
  · subst h2; simp [contL]
  by_cases h3 : a = 3
  · subst h3; simp [contL]
  by_cases h4 : a = 4
  · subst h4; simp [contL]
  by_cases h12 : a = 12
  · subst h12; simp [contL]
  by_cases h8 : a = 8
  · subst h8; simp [contL]
  by_cases h15 : a = 15
  · subst h15; simp [contL]
  by_cases h16 : a = 16
  · subst h16; simp [contL]
  by_cases h9 : a = 9
  · subst h9; simp [contL]
  by_cases h10 : a = 10
  · subst h10; simp [contL]
  by_cases h11 : a = 11
  · subst h11; simp [contL]
  simp [h2, h3, h4, h12, h8, h15, h16, h9, h10, h11, contL, un1]
theorem p_fieldsOf (F : Nat) (a : Int) : m_impl_fieldsOf F a = some (nF a) := by
  rw [← p_l6Args F a]; rfl
theorem at_cons {E : Type} (w : E) (ws : List E) {a : Int} (h : 1 ≤ a) : at? (w :: ws) a = at? ws (a - 1) := by
  obtain ⟨n, rfl⟩ : ∃ n : Nat, a = ((n + 1 : Nat) : Int) := ⟨(a - 1).toNat, by omega⟩
  rw [show ((n + 1 : Nat) : Int) - 1 = (n : Int) by omega, at?_nat, at?_nat, List.getElem?_cons_succ]
set_option maxRecDepth 100000 in
theorem p_mn (F : Nat) {a : Int} (h : 1 ≤ a ∧ a ≤ 16) : ∃ e : SE, m_impl_mnemonic F a = some e.s ∧ (m_spec_l6Words F).bind (fun y => at? y a) = some e ∧ e.s.length ≤ 5 := by
  unfold m_impl_mnemonic m_spec_l6Words
  rw [p_within]
  simp only [Option.bind_some, inB_true.2 h, if_true, if_pos (show in64 (a - 1) from in64_of (by omega) (by omega))]
  rw [at_cons _ _ h.1]
  have : a = 1 ∨ a = 2 ∨ a = 3 ∨ a = 4 ∨ a = 5 ∨ a = 6 ∨ a = 7 ∨ a = 8 ∨ a = 9 ∨ a = 10 ∨ a = 11 ∨ a = 12 ∨ a = 13 ∨ a = 14 ∨ a = 15 ∨ a = 16 := by omega
  rcases this with rfl | rfl | rfl | rfl | rfl | rfl | rfl | rfl | rfl | rfl | rfl | rfl | rfl | rfl | rfl | rfl <;> exact ⟨_, rfl, rfl, by decide⟩
def app (z : Str) (e : Int) : Str := (z ++ [32]) ++ decS e
theorem app_len {z : Str} {e : Int} (h : 0 ≤ e ∧ e ≤ 65535) : (app z e).length ≤ z.length + 65536 := by
  have := decS_len h
  simp [app]; omega
theorem p_loop (F : Nat) (b c d y : Int) (es : List Int) (hes : subl ([b, c, d] : List Int) 0 y = es) (hr : ∀ e ∈ es, 0 ≤ e ∧ e ≤ 65535) (hl : es.length ≤ 3) (hf : 65536 < F) : ∀ K n (z : Str), z.length ≤ 10 + n * 65536 → n ≤ es.length → es.length < n + K →
    m_impl_ShowOp_L0 F b c d y K z (n : Int) = some ((es.drop n).foldl app z) := by
  intro K
  induction K with
  | zero => intro n z h1 h2 h3; omega
  | succ K ih =>
    intro n z hz h1 h2
    rw [m_impl_ShowOp_L0, hes]
    by_cases h : n < es.length
    · have he := hr _ (List.getElem_mem h)
      have hd := decS_len he
      have ha := app_len (z := z) he
      have i1 : ((z.length + ([32] : List Nat).length : Nat) : Int) ≤ 9223372036854775807 := by simp; omega
      have i2 : (((z ++ [32]).length + (decS es[n]).length : Nat) : Int) ≤ 9223372036854775807 := by simp; omega
      rw [drop_cons h, List.foldl_cons]
      have := ih (n + 1) (app z es[n]) (by omega) (by omega) (by omega)
      simp only [if_pos (lt_cast h), at?_lt h, Option.bind_some, if_pos i1, p_Dec F he hf, if_pos i2, if_pos (in64_succ h (show es.length ≤ _ by omega))]
      exact this
    · rw [if_neg (ge_cast h), drop_end h]; rfl
theorem p_step (F : Nat) (z : Str) (e : Int) (he : 0 ≤ e ∧ e ≤ 65535) (hz : z.length ≤ 1000000) (hf : 65536 < F) :
    (if ((z.length + [32].length : Nat) : Int) ≤ 9223372036854775807 then
          (m_spec_Dec F e).bind fun y4 =>
          if (((z ++ [32]).length + y4.length : Nat) : Int) ≤ 9223372036854775807 then
            some ((z ++ [32]) ++ y4)
          else none
        else none) = some (app z e) := by
  have hd := decS_len he
  rw [if_pos (by simp; omega), p_SDec F he hf, Option.bind_some, if_pos (by simp; omega)]
  rfl
theorem s_ShowOp (F : Nat) (a b c d : Int) (hf : 65536 < F) : ∃ r, m_impl_ShowOp F a b c d = some r ∧ m_spec_ShowOp F a b c d = some r ∧ r.length ≤ 200000 := by
  unfold m_impl_ShowOp m_spec_ShowOp
  simp only [p_OpOk, p_SOpOk, Option.bind_some]
  by_cases hop : opB a b c d = true
  · obtain ⟨ha, hb, hc, hd⟩ := opB_rng hop
    obtain ⟨e, e1, e2, e3⟩ := p_mn F ha
    have lb := app_len (z := e.s) hb
    have lc := app_len (z := app e.s b) hc
    have ld := app_len (z := app (app e.s b) c) hd
    have db := decS_len hb
    have dc := decS_len hc
    have dd := decS_len hd
    simp only [if_pos hop, e1, Option.bind_some, p_fieldsOf, p_l6Args]
    have e2' : m_spec_l6Words F = some ([(⟨[]⟩ : SE), (⟨[115, 101, 116]⟩ : SE), (⟨[97, 100, 100]⟩ : SE), (⟨[115, 117, 98]⟩ : SE), (⟨[108, 101, 115, 115]⟩ : SE), (⟨[114, 101, 97, 100]⟩ : SE), (⟨[119, 114, 105, 116, 101]⟩ : SE), (⟨[115, 107, 105, 112]⟩ : SE), (⟨[98, 101, 103, 105, 110]⟩ : SE), (⟨[101, 110, 100]⟩ : SE), (⟨[97, 98, 111, 114, 116]⟩ : SE), (⟨[102, 111, 114, 107]⟩ : SE), (⟨[112, 117, 116]⟩ : SE), (⟨[103, 101, 116]⟩ : SE), (⟨[100, 114, 111, 112]⟩ : SE), (⟨[98, 117, 109, 112]⟩ : SE), (⟨[99, 111, 117, 110, 116]⟩ : SE)] : List SE) := rfl
    rw [e2'] at e2 ⊢
    simp only [Option.bind_some] at e2 ⊢
    rw [e2]
    simp only [Option.bind_some]
    rcases nF_cases a with h | h | h | h
    · refine ⟨e.s, ?_, ?_, by omega⟩
      · have := p_loop F b c d 0 [] rfl (by simp) (by simp) hf F 0 e.s (by omega) (by simp) (by simp; omega)
        simp only [Int.natCast_zero, List.drop_zero, List.foldl_cons, List.foldl_nil] at this
        rw [h, if_pos (by simp), this, Option.bind_some]
      · rw [h, if_neg (show ¬ (0 : Int) < 0 by omega), Option.bind_some, if_neg (show ¬ (1 : Int) < 0 by omega), Option.bind_some, if_neg (show ¬ (2 : Int) < 0 by omega), Option.bind_some]
    · refine ⟨app e.s b, ?_, ?_, by omega⟩
      · have := p_loop F b c d 1 [b] rfl (by simpa using hb) (by simp) hf F 0 e.s (by omega) (by simp) (by simp; omega)
        simp only [Int.natCast_zero, List.drop_zero, List.foldl_cons, List.foldl_nil] at this
        rw [h, if_pos (by simp), this, Option.bind_some]
      · rw [h, if_pos (show (0 : Int) < 1 by omega), p_step F e.s b hb (by omega) hf, Option.bind_some, if_neg (show ¬ (1 : Int) < 1 by omega), Option.bind_some, if_neg (show ¬ (2 : Int) < 1 by omega), Option.bind_some]
    · refine ⟨app (app e.s b) c, ?_, ?_, by omega⟩
      · have := p_loop F b c d 2 [b, c] rfl (by simp; exact ⟨hb, hc⟩) (by simp) hf F 0 e.s (by omega) (by simp) (by simp; omega)
        simp only [Int.natCast_zero, List.drop_zero, List.foldl_cons, List.foldl_nil] at this
        rw [h, if_pos (by simp), this, Option.bind_some]
      · rw [h, if_pos (show (0 : Int) < 2 by omega), p_step F e.s b hb (by omega) hf, Option.bind_some, if_pos (show (1 : Int) < 2 by omega), p_step F _ c hc (by omega) hf, Option.bind_some, if_neg (show ¬ (2 : Int) < 2 by omega), Option.bind_some]
    · refine ⟨app (app (app e.s b) c) d, ?_, ?_, by omega⟩
      · have := p_loop F b c d 3 [b, c, d] rfl (by simp; exact ⟨hb, hc, hd⟩) (by simp) hf F 0 e.s (by omega) (by simp) (by simp; omega)
        simp only [Int.natCast_zero, List.drop_zero, List.foldl_cons, List.foldl_nil] at this
        rw [h, if_pos (by simp), this, Option.bind_some]
      · rw [h, if_pos (show (0 : Int) < 3 by omega), p_step F e.s b hb (by omega) hf, Option.bind_some, if_pos (show (1 : Int) < 3 by omega), p_step F _ c hc (by omega) hf, Option.bind_some, if_pos (show (2 : Int) < 3 by omega), p_step F _ d hd (by omega) hf, Option.bind_some]
  · exact ⟨[], by simp only [if_neg hop], by simp only [if_neg hop], by simp⟩

/-! Code as text. -/
theorem s_Code_L (F : Nat) (x : List I4) (hl : x.length ≤ 24) (hf : 65536 < F) : ∀ (K n : Nat) (z : Str), z.length ≤ n * 200001 → n ≤ x.length → x.length < n + K →
    ∃ r, m_impl_ShowCode_L0 F x K z (n : Int) = some r ∧ m_spec_ShowCode_L0 F x K z (n : Int) = some r ∧ r.length ≤ x.length * 200001 := by
  intro K
  induction K with
  | zero => intro n z h1 h2 h3; omega
  | succ K ih =>
    intro n z hz h1 h2
    rw [m_impl_ShowCode_L0, m_spec_ShowCode_L0]
    by_cases h : n < x.length
    · obtain ⟨s, e1, e2, e3⟩ := s_ShowOp F x[n].a x[n].b x[n].c x[n].d hf
      have i1 : ((z.length + s.length : Nat) : Int) ≤ 9223372036854775807 := by omega
      have i2 : (((z ++ s).length + ([10] : List Nat).length : Nat) : Int) ≤ 9223372036854775807 := by simp; omega
      rw [if_pos (lt_cast h), if_pos (lt_cast h), at?_lt h, Option.bind_some, Option.bind_some, e1, e2, Option.bind_some, Option.bind_some, if_pos i1, if_pos i1, if_pos i2, if_pos i2, if_pos (in64_succ h (show x.length ≤ _ by omega)), if_pos (in64_succ h (show x.length ≤ _ by omega)), cast_succ]
      exact ih (n + 1) _ (by simp; omega) (by omega) (by omega)
    · rw [if_neg (ge_cast h), if_neg (ge_cast h)]
      exact ⟨z, rfl, rfl, by have : n = x.length := by omega
                             subst this; exact hz⟩
open Classical in
theorem s_ShowCode (F : Nat) (x : List I4) (hl : x.length ≤ 1048576) (hx : x.length < F) (hf : 65536 < F) : ∃ r, m_impl_ShowCode F x = some r ∧ m_spec_ShowCode F x = some r ∧ r.length ≤ 24 * 200001 := by
  unfold m_impl_ShowCode m_spec_ShowCode
  rw [p_CodeOk F x hl hx, p_SCodeOk F x hl hx]
  simp only [Option.bind_some, decide_eq_true_eq]
  by_cases h : CodeP x
  · obtain ⟨r, e1, e2, e3⟩ := s_Code_L F x h.1 hf F 0 [] (by simp) (by omega) (by have := h.1; omega)
    simp only [Int.natCast_zero] at e1 e2
    refine ⟨r, by rw [if_pos h, e1, Option.bind_some], by rw [if_pos h, e2, Option.bind_some], ?_⟩
    exact Nat.le_trans e3 (Nat.mul_le_mul_right 200001 h.1)
  · exact ⟨[], by rw [if_neg h], by rw [if_neg h], by simp⟩
theorem p_szOpS (fuel : Nat) (x : List I4) (q : Int) (hl : x.length ≤ maxLen) (hq : 0 ≤ q ∧ q ≤ 1048576) : m_laws_szOpS fuel x q = some (if q < (x.length : Int) then -1 else q - (x.length : Int)) := by
  unfold maxLen at hl
  unfold m_laws_szOpS
  rw [if_pos (by unfold in64; omega)]
  by_cases h : q < x.length
  · rw [if_pos h, if_pos (by omega)]
  · rw [if_neg h, if_neg (by omega)]
theorem pure_FnExactShowCode {l : List I4} (hl : l.length ≤ maxLen) : ∃ fuel, m_laws_FnExactShowCode fuel l = some true := by
  refine ⟨1048586, ?_⟩
  generalize hF : (1048586 : Nat) = F
  unfold m_laws_FnExactShowCode
  rw [p_szOpS _ _ _ hl (by omega)]
  by_cases hs : (1048576 : Int) < (l.length : Int)
  · simp [hs]
  · have hl' : l.length ≤ 1048576 := by omega
    obtain ⟨r, h1, h2, _⟩ := s_ShowCode F l hl' (by omega) (by omega)
    rw [if_neg hs, Option.bind_some, if_neg (show ¬ (1048576 - (l.length : Int) < 0) by omega), p_toOpS F l hl' (by omega), Option.bind_some, h2, Option.bind_some, Option.bind_some, h1, Option.bind_some, if_pos rfl, Option.bind_some, p_eqOpS F l l (by omega) (by omega), Option.bind_some, if_pos (by simp)]
end Go.Proofs.Ytpbfppelmgjfpaa
