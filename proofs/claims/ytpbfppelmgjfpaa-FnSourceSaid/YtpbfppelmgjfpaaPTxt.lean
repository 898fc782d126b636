/- Numbers, operations as text, in plain Lean. -/
import Derived.Test.YtpbfppelmgjfpaaPu
import Derived.Test.YtpbfppelmgjfpaaG2
import Derived.Laws.BitsLemmas
namespace Go.Proofs.Ytpbfppelmgjfpaa
open Go Go.RowKit
set_option linter.unusedVariables false
set_option linter.unusedSimpArgs false

theorem p_within (fuel : Nat) (x lo hi : Int) : m_impl_within fuel x lo hi = some (inB x lo hi) := by
  unfold m_impl_within inB; split <;> simp_all <;> omega
theorem p_l1In (fuel : Nat) (x lo hi : Int) : m_spec_l1In fuel x lo hi = some (inB x lo hi) := by
  unfold m_spec_l1In inB; split <;> simp_all <;> omega
theorem p_isValue (fuel : Nat) (x : Int) : m_impl_isValue fuel x = some (inB x 0 65535) := by simp [m_impl_isValue, p_within]
theorem p_isCell (fuel : Nat) (x : Int) : m_impl_isCell fuel x = some (inB x 0 7) := by simp [m_impl_isCell, p_within]
theorem p_isKey (fuel : Nat) (x : Int) : m_impl_isKey fuel x = some (inB x 0 7) := by simp [m_impl_isKey, p_within]
theorem p_isReg (fuel : Nat) (x : Int) : m_impl_isReg fuel x = some (inB x 0 3) := by simp [m_impl_isReg, p_within]
theorem p_l3Val (fuel : Nat) (x : Int) : m_spec_l3Val fuel x = some (inB x 0 65535) := by simp [m_spec_l3Val, p_l1In]
theorem p_l3Cell (fuel : Nat) (x : Int) : m_spec_l3Cell fuel x = some (inB x 0 7) := by simp [m_spec_l3Cell, p_l1In]
theorem p_l4Reg (fuel : Nat) (x : Int) : m_spec_l4Reg fuel x = some (inB x 0 3) := by simp [m_spec_l4Reg, p_l1In]

/-! One operation. -/
def opB (a b c d : Int) : Bool :=
  if a = 1 then inB b 0 3 && inB c 0 65535 && decide (d = 0)
  else if a = 2 ∨ a = 3 ∨ a = 4 then inB b 0 3 && inB c 0 3 && inB d 0 3
  else if a = 5 then inB b 0 3 && inB c 0 7 && decide (d = 0)
  else if a = 6 then inB b 0 7 && inB c 0 3 && decide (d = 0)
  else if a = 7 then inB b 0 3 && inB c 1 20 && decide (d = 0)
  else if a = 8 ∨ a = 15 ∨ a = 16 then inB b 0 3 && decide (c = 0) && decide (d = 0)
  else if a = 9 ∨ a = 10 ∨ a = 11 then decide (b = 0) && decide (c = 0) && decide (d = 0)
  else if a = 12 then inB b 0 7 && inB c 0 3 && inB d 0 3
  else if a = 13 then inB b 0 3 && inB c 0 7 && decide (d = 0)
  else if a = 14 then inB b 0 7 && inB c 0 3 && decide (d = 0)
  else false
theorem p_SOpOk (fuel : Nat) (a b c d : Int) : m_spec_OpOk fuel a b c d = some (opB a b c d) := by
  unfold m_spec_OpOk opB
  simp only [p_l4Reg, p_l3Val, p_l3Cell, p_l1In, Option.bind_some]
  by_cases h1 : a = 1
  · simp only [h1, if_true]; cases inB b 0 3 <;> cases inB c 0 65535 <;> simp [contL]
  by_cases h2 : a = 2
  · subst h2; cases inB b 0 3 <;> cases inB c 0 3 <;> simp [contL]
  by_cases h3 : a = 3
  · subst h3; cases inB b 0 3 <;> cases inB c 0 3 <;> simp [contL]
  by_cases h4 : a = 4
  · subst h4; cases inB b 0 3 <;> cases inB c 0 3 <;> simp [contL]
  by_cases h5 : a = 5
  · subst h5; cases inB b 0 3 <;> cases inB c 0 7 <;> simp [contL]
  by_cases h6 : a = 6
  · subst h6; cases inB b 0 7 <;> cases inB c 0 3 <;> simp [contL]
  by_cases h7 : a = 7
  · subst h7; cases inB b 0 3 <;> cases inB c 1 20 <;> simp [contL]
  by_cases h8 : a = 8
  · subst h8; cases inB b 0 3 <;> by_cases hc : c = 0 <;> simp [contL, hc]
  by_cases h9 : a = 9
  · subst h9; by_cases hb : b = 0 <;> by_cases hc : c = 0 <;> simp [contL, hc, hb]
  by_cases h10 : a = 10
  · subst h10; by_cases hb : b = 0 <;> by_cases hc : c = 0 <;> simp [contL, hc, hb]
  by_cases h11 : a = 11
  · subst h11; by_cases hb : b = 0 <;> by_cases hc : c = 0 <;> simp [contL, hc, hb]
  by_cases h12 : a = 12
  · subst h12; cases inB b 0 7 <;> cases inB c 0 3 <;> simp [contL]
  by_cases h13 : a = 13
  · subst h13; cases inB b 0 3 <;> cases inB c 0 7 <;> simp [contL]
  by_cases h14 : a = 14
  · subst h14; cases inB b 0 7 <;> cases inB c 0 3 <;> simp [contL]
  by_cases h15 : a = 15
  · subst h15; cases inB b 0 3 <;> by_cases hc : c = 0 <;> simp [contL, hc]
  by_cases h16 : a = 16
  · subst h16; cases inB b 0 3 <;> by_cases hc : c = 0 <;> simp [contL, hc]
  simp [h1, h2, h3, h4, h5, h6, h7, h8, h9, h10, h11, h12, h13, h14, h15, h16, contL, un1]
theorem p_OpOk (fuel : Nat) (a b c d : Int) : m_impl_OpOk fuel a b c d = some (opB a b c d) := by
  rw [← p_SOpOk fuel a b c d]
  unfold m_impl_OpOk m_spec_OpOk
  simp only [p_isReg, p_isValue, p_isCell, p_isKey, p_within, p_l4Reg, p_l3Val, p_l3Cell, p_l1In]
def opC (o : I4) : Bool := opB o.a o.b o.c o.d
theorem opC7 {o : I4} (h : opC o = true) (h7 : o.a = 7) : 1 ≤ o.c ∧ o.c ≤ 20 := by
  simp [opC, opB, h7, inB] at h; omega
def tchF (a b c d : Int) : Int := if opB a b c d = true then (if a = 5 ∨ a = 6 then 1 else if a = 12 ∨ a = 13 ∨ a = 14 ∨ a = 15 ∨ a = 16 then 2 else 0) else 0
/-! Depths. -/
def opn (o : I4) : Int := if o.a = 8 then 1 else if o.a = 9 then -1 else 0
theorem opn_b (o : I4) : -1 ≤ opn o ∧ opn o ≤ 1 := by unfold opn; split <;> (try split) <;> omega
def dF (l : List I4) : Nat → Int
  | 0 => 0
  | n + 1 => dF l n + (match l[n]? with | some o => opn o | none => 0)
theorem dF_zero (l : List I4) : dF l 0 = 0 := rfl
theorem dF_succ {l : List I4} {n : Nat} (h : n < l.length) : dF l (n + 1) = dF l n + opn l[n] := by
  simp [dF, List.getElem?_eq_getElem h]
theorem dF_b (l : List I4) (n : Nat) : -(n : Int) ≤ dF l n ∧ dF l n ≤ (n : Int) := by
  induction n with
  | zero => simp [dF]
  | succ n ih =>
    rw [dF]
    cases h : l[n]? with
    | none => simp only []; omega
    | some o => have := opn_b o; simp only []; omega
theorem p_opens (fuel : Nat) (o : I4) : m_impl_opens fuel o.a o.b o.c o.d = some (opn o) := by
  unfold m_impl_opens opn; split <;> (try split) <;> rfl
/-- The first step of the reference's two: up where a block begins. -/
theorem s_up {a z : Int} (h1 : -1048578 ≤ z ∧ z ≤ 1048578) : (if a = 8 then (if in64 (z + 1) then some (z + 1) else none) else some z) = some (z + (if a = 8 then 1 else 0)) := by
  rw [if_pos (in64_of (by omega) (by omega) : in64 (z + 1))]; split <;> simp
theorem s_down {a z : Int} (h1 : -1048578 ≤ z ∧ z ≤ 1048578) : (if a = 9 then (if in64 (z - 1) then some (z - 1) else none) else some z) = some (z + (if a = 9 then -1 else 0)) := by
  rw [if_pos (in64_of (by omega) (by omega) : in64 (z - 1))]; split <;> simp <;> omega
theorem s_sum (o : I4) (z : Int) : z + (if o.a = 8 then 1 else 0) + (if o.a = 9 then -1 else 0) = z + opn o := by
  unfold opn; split <;> split <;> simp_all
theorem up_b (o : I4) (z : Int) : z ≤ z + (if o.a = 8 then 1 else 0) ∧ z + (if o.a = 8 then 1 else 0) ≤ z + 1 := by split <;> omega

theorem p_DepthAt_L (fuel : Nat) (x : List I4) (m : Int) (hl : x.length ≤ 1048576) : ∀ K n, n ≤ x.length → x.length < n + K →
    m_impl_DepthAt_L0 fuel x m K (dF x (min n m.toNat)) (n : Int) = some (dF x (min x.length m.toNat)) := by
  intro K
  induction K with
  | zero => intro n h1 h2; omega
  | succ K ih =>
    intro n h1 h2
    rw [m_impl_DepthAt_L0]
    by_cases h : n < x.length
    · have := ih (n + 1) (by omega) (by omega)
      by_cases hm : (n : Int) < m
      · have e1 : min n m.toNat = n := by omega
        have e2 : min (n + 1) m.toNat = n + 1 := by omega
        rw [e2, dF_succ h] at this
        have hb := dF_b x n
        have ho := opn_b x[n]
        simp only [if_pos (lt_cast h), if_pos hm, at?_lt h, Option.bind_some, p_opens, e1, if_pos (in64_of (by omega) (by omega) : in64 (dF x n + opn x[n])), if_pos (in64_succ h (show x.length ≤ _ by omega))]
        exact this
      · have e1 : min n m.toNat = m.toNat := by omega
        have e2 : min (n + 1) m.toNat = m.toNat := by omega
        rw [e2] at this
        simp only [if_pos (lt_cast h), if_neg hm, at?_lt h, Option.bind_some, e1, if_pos (in64_succ h (show x.length ≤ _ by omega))]
        exact this
    · have e : n = x.length := by omega
      rw [if_neg (ge_cast h), e]
theorem p_DepthAt (fuel : Nat) (x : List I4) (m : Int) (hl : x.length ≤ 1048576) (hf : x.length < fuel) : m_impl_DepthAt fuel x m = some (dF x (min x.length m.toNat)) := by
  unfold m_impl_DepthAt
  have := p_DepthAt_L fuel x m hl fuel 0 (by omega) (by omega)
  simp only [Nat.zero_min, dF_zero] at this
  erw [this]; rfl

/-! Code. -/
theorem dec_eq {p q : Prop} {a : Decidable p} {b : Decidable q} (h : p ↔ q) : @decide p a = @decide q b := decide_eq_decide.2 h
theorem dec_no {p : Prop} {a : Decidable p} (h : ¬ p) : @decide p a = false := decide_eq_false h
theorem dec_yes {p : Prop} {a : Decidable p} (h : p) : @decide p a = true := decide_eq_true h
def Al (n L : Nat) (P : Nat → Prop) : Prop := ∀ m, n ≤ m → m < L → P m
theorem al_end {n L : Nat} {P : Nat → Prop} (h : ¬ n < L) : Al n L P := fun m h1 h2 => absurd h2 (by omega)
theorem al_cons {n L : Nat} {P : Nat → Prop} (h : n < L) : Al n L P ↔ (P n ∧ Al (n + 1) L P) :=
  ⟨fun H => ⟨H n (Nat.le_refl _) h, fun m h1 h2 => H m (by omega) h2⟩, fun H m h1 h2 => by
    by_cases e : m = n
    · subst e; exact H.1
    · exact H.2 m (by omega) h2⟩
open Classical in
/-- The implementation's balance from a place on. -/
theorem p_Bal_L (fuel : Nat) (x : List I4) (hl : x.length ≤ 1048576) : ∀ K n, n ≤ x.length → x.length < n + K →
    m_impl_isBalanced_L0 fuel x K (dF x n) (n : Int) = some (if Al n x.length (fun m => 0 ≤ dF x (m + 1)) then .brk (dF x x.length) else .ret false) := by
  intro K
  induction K with
  | zero => intro n h1 h2; omega
  | succ K ih =>
    intro n h1 h2
    rw [m_impl_isBalanced_L0]
    by_cases h : n < x.length
    · have hb := dF_b x n
      have ho := opn_b x[n]
      have := ih (n + 1) (by omega) (by omega)
      simp only [if_pos (lt_cast h), at?_lt h, Option.bind_some, p_opens, if_pos (in64_of (by omega) (by omega) : in64 (dF x n + opn x[n])), if_pos (in64_succ h (show x.length ≤ _ by omega)), al_cons h]
      rw [← dF_succ h]
      by_cases h0 : dF x (n + 1) < 0
      · rw [if_pos h0, if_neg (fun q => by omega)]
      · rw [if_neg h0]
        erw [this]
        by_cases hA : Al (n + 1) x.length (fun m => 0 ≤ dF x (m + 1))
        · rw [if_pos hA, if_pos ⟨by omega, hA⟩]
        · rw [if_neg hA, if_neg (fun q => hA q.2)]
    · have e : n = x.length := by omega
      rw [if_neg (ge_cast h), if_pos (al_end h), e]
def Bal (x : List I4) : Prop := Al 0 x.length (fun m => 0 ≤ dF x (m + 1)) ∧ dF x x.length = 0
open Classical in
theorem p_Bal (fuel : Nat) (x : List I4) (hl : x.length ≤ 1048576) (hf : x.length < fuel) : m_impl_isBalanced fuel x = some (decide (Bal x)) := by
  unfold m_impl_isBalanced
  have := p_Bal_L fuel x hl fuel 0 (by omega) (by omega)
  simp only [dF_zero] at this
  erw [this]
  by_cases hA : Al 0 x.length (fun m => 0 ≤ dF x (m + 1))
  · simp only [if_pos hA, Option.bind_some, contL, un1]
    congr 1
    exact dec_eq ⟨fun q => ⟨hA, q⟩, fun q => q.2⟩
  · simp only [if_neg hA, Option.bind_some, contL]
    congr 1
    exact (dec_no (fun q => hA q.1)).symm

/-- What a jump passes over, in the reference: the same balance, of a part. -/
theorem subl_len {x : List I4} {i j : Nat} (h : i ≤ j) (hj : j ≤ x.length) : (subl x (i : Int) (j : Int)).length = j - i := by simp [subl]; omega
theorem subl_at {x : List I4} {i j n : Nat} (hj : j ≤ x.length) (h : i + n < j) : (subl x (i : Int) (j : Int))[n]? = x[i + n]? := by
  simp only [subl, Int.toNat_natCast]
  rw [List.getElem?_take_of_lt (by omega), List.getElem?_drop]
open Classical in
theorem p_Skip_L (fuel : Nat) (x : List I4) (hl : x.length ≤ 1048576) (p j : Nat) (e : I4) (hj : j ≤ x.length) (hc : ((p : Int) + 1) + e.c = (j : Int)) (hp : p + 1 ≤ j) : ∀ K n, p + 1 + n ≤ j → j < p + 1 + n + K →
    m_spec_l5Skip_L0 fuel x (p : Int) e K (dF (subl x ((p + 1 : Nat) : Int) (j : Int)) n) ((p + 1 + n : Nat) : Int) =
      some (if Al n (subl x ((p + 1 : Nat) : Int) (j : Int)).length (fun m => 0 ≤ dF (subl x ((p + 1 : Nat) : Int) (j : Int)) (m + 1)) then .brk (dF (subl x ((p + 1 : Nat) : Int) (j : Int)) (subl x ((p + 1 : Nat) : Int) (j : Int)).length) else .ret false) := by
  have hL : (subl x ((p + 1 : Nat) : Int) (j : Int)).length = j - (p + 1) := subl_len hp hj
  have hat : ∀ n, p + 1 + n < j → (subl x ((p + 1 : Nat) : Int) (j : Int))[n]? = x[p + 1 + n]? := fun n h => subl_at hj h
  generalize subl x ((p + 1 : Nat) : Int) (j : Int) = y at hL hat
  intro K
  induction K with
  | zero => intro n h1 h2; omega
  | succ K ih =>
    intro n h1 h2
    rw [m_spec_l5Skip_L0, hc]
    by_cases h : p + 1 + n < j
    · have hy : n < y.length := by omega
      have hx : p + 1 + n < x.length := by omega
      have hxy : x[p + 1 + n] = y[n] := by
        have := hat n h
        rw [List.getElem?_eq_getElem hy, List.getElem?_eq_getElem hx] at this
        exact (Option.some.inj this).symm
      have hb := dF_b y n
      have ho := opn_b y[n]
      have hu := up_b y[n] (dF y n)
      have := ih (n + 1) (by omega) (by omega)
      simp only [if_pos (lt_cast h), at?_lt hx, hxy, Option.bind_some, s_up (show -1048578 ≤ dF y n ∧ dF y n ≤ 1048578 by omega), s_down (show -1048578 ≤ dF y n + (if y[n].a = 8 then 1 else 0) ∧ dF y n + (if y[n].a = 8 then 1 else 0) ≤ 1048578 by omega), s_sum, al_cons hy]
      rw [← dF_succ hy]
      by_cases h0 : dF y (n + 1) < 0
      · rw [if_pos h0, if_neg (fun q => by omega)]; rfl
      · rw [if_neg h0]
        simp only [Option.bind_some, contM, un1, if_pos (in64_succ hx (show x.length ≤ _ by omega))]
        erw [this]
        by_cases hA : Al (n + 1) y.length (fun m => 0 ≤ dF y (m + 1))
        · rw [if_pos hA, if_pos ⟨by omega, hA⟩]
        · rw [if_neg hA, if_neg (fun q => hA q.2)]
    · have e : n = y.length := by omega
      rw [if_neg (ge_cast h), if_pos (al_end (by omega)), e]
/-- Whether a jump's part is well within the code and balanced. -/
def SkipOk (x : List I4) (n : Nat) (c : Int) : Prop := (n : Int) + 1 + c ≤ (x.length : Int) ∧ Bal (subl x ((n + 1 : Nat) : Int) ((n : Int) + 1 + c))
open Classical in
theorem p_Skip (fuel : Nat) (x : List I4) (n : Nat) (hl : x.length ≤ 1048576) (hf : x.length < fuel) (h : n < x.length) (hc : 1 ≤ x[n].c ∧ x[n].c ≤ 20) :
    m_spec_l5Skip fuel x (n : Int) = some (decide (SkipOk x n x[n].c)) := by
  unfold m_spec_l5Skip
  have i1 : in64 ((n : Int) + 1) := in64_of (by omega) (by omega)
  have i2 : in64 ((n : Int) + 1 + x[n].c) := in64_of (by omega) (by omega)
  simp only [if_pos i1, at?_lt h, Option.bind_some, if_pos i2]
  by_cases hj : (x.length : Int) < (n : Int) + 1 + x[n].c
  · rw [if_pos hj]
    congr 1
    exact (dec_no (fun q => by have := q.1; omega)).symm
  · rw [if_neg hj]
    obtain ⟨j, hj'⟩ : ∃ j : Nat, (n : Int) + 1 + x[n].c = (j : Int) := ⟨((n : Int) + 1 + x[n].c).toNat, by omega⟩
    have := p_Skip_L fuel x hl n j x[n] (by omega) hj' (by omega) fuel 0 (by omega) (by omega)
    simp only [dF_zero] at this
    erw [this]
    unfold SkipOk Bal
    rw [hj']
    by_cases hA : Al 0 (subl x ((n + 1 : Nat) : Int) (j : Int)).length (fun m => 0 ≤ dF (subl x ((n + 1 : Nat) : Int) (j : Int)) (m + 1))
    · simp only [if_pos hA, Option.bind_some, contL, un1]
      congr 1
      exact dec_eq ⟨fun q => ⟨by omega, hA, q⟩, fun q => q.2.2⟩
    · simp only [if_neg hA, Option.bind_some, contL]
      congr 1
      exact (dec_no (fun q => hA q.2.1)).symm
def fF (l : List I4) : Nat → Int
  | 0 => 0
  | n + 1 => fF l n + (match l[n]? with | some o => if o.a = 11 then 1 else 0 | none => 0)
theorem fF_zero (l : List I4) : fF l 0 = 0 := rfl
theorem fF_succ {l : List I4} {n : Nat} (h : n < l.length) : fF l (n + 1) = fF l n + (if l[n].a = 11 then 1 else 0) := by
  simp [fF, List.getElem?_eq_getElem h]
theorem fF_b (l : List I4) (n : Nat) : 0 ≤ fF l n ∧ fF l n ≤ (n : Int) := by
  induction n with
  | zero => simp [fF]
  | succ n ih =>
    rw [fF]
    cases h : l[n]? with
    | none => simp only []; omega
    | some o => simp only []; split <;> omega
def CodeS (x : List I4) (n : Nat) (o : I4) : Prop := opC o = true ∧ (o.a = 7 → SkipOk x n o.c) ∧ (o.a = 11 → fF x (n + 1) ≤ 1 ∧ dF x n = 0)
def CodeP (x : List I4) : Prop := x.length ≤ 24 ∧ Bal x ∧ Al 0 x.length fun m => ∀ h : m < x.length, CodeS x m x[m]
open Classical in
theorem p_Code_L (fuel : Nat) (x : List I4) (hl : x.length ≤ 24) (hf : x.length < fuel) : ∀ K n, n ≤ x.length → x.length < n + K →
    m_impl_CodeOk_L0 fuel x K (fF x n) (n : Int) = some (if Al n x.length (fun m => ∀ h : m < x.length, CodeS x m x[m]) then .brk () else .ret false) := by
  intro K
  induction K with
  | zero => intro n h1 h2; omega
  | succ K ih =>
    intro n h1 h2
    rw [m_impl_CodeOk_L0]
    by_cases h : n < x.length
    · have := ih (n + 1) (by omega) (by omega)
      have hfb := fF_b x n
      have hi := in64_succ h (show x.length ≤ _ by omega)
      have key : ∀ (z : Int) (b : Bool), (b = true ↔ CodeS x n x[n]) → (b = true → z = fF x (n + 1)) → ((some (if b = true then Lp.brk z else Lp.ret false) : Option (Lp Int Bool)).bind <| contM <| un1 fun z3 => if in64 ((n : Int) + 1) then m_impl_CodeOk_L0 fuel x K z3 ((n : Int) + 1) else none) = some (if Al n x.length (fun m => ∀ h : m < x.length, CodeS x m x[m]) then .brk () else .ret false) := by
        intro z b hb hz
        rw [al_cons h]
        cases b with
        | false => simp only [Bool.false_eq_true, if_false]; rw [if_neg (fun q => by have := hb.2 (q.1 h); cases this)]; rfl
        | true =>
          have := hz rfl
          subst this
          simp only [if_true, Option.bind_some, contM, un1, if_pos hi]
          erw [ih (n + 1) (by omega) (by omega)]
          by_cases hA : Al (n + 1) x.length (fun m => ∀ h : m < x.length, CodeS x m x[m])
          · rw [if_pos hA, if_pos ⟨fun _ => hb.1 rfl, hA⟩]
          · rw [if_neg hA, if_neg (fun q => hA q.2)]
      simp only [if_pos (lt_cast h), at?_lt h, Option.bind_some, p_OpOk]
      refine Eq.trans (congrArg (fun q => Option.bind q _) ?_) (key (fF x (n + 1)) (decide (CodeS x n x[n])) (by simp) (fun _ => rfl))
      by_cases hop : opC x[n] = true
      · have hop' : opB x[n].a x[n].b x[n].c x[n].d = true := hop
        simp only [if_pos hop']
        by_cases h7 : x[n].a = 7
        · have hc := opC7 hop h7
          have e11 : ¬ x[n].a = 11 := by omega
          have i1 : in64 ((n : Int) + 1 + x[n].c) := in64_of (by omega) (by omega)
          simp only [if_pos h7, if_pos hi, if_pos i1, fF_succ h, if_neg e11, Int.add_zero]
          by_cases hj : (x.length : Int) < (n : Int) + 1 + x[n].c
          · rw [if_pos hj, if_neg (by simp only [decide_eq_true_eq]; exact fun q => by have := (q.2.1 h7).1; omega)]
          · obtain ⟨j, hj'⟩ : ∃ j : Nat, (n : Int) + 1 + x[n].c = (j : Int) := ⟨((n : Int) + 1 + x[n].c).toNat, by omega⟩
            have hs : (subl x ((n + 1 : Nat) : Int) (j : Int)).length = j - (n + 1) := subl_len (by omega) (by omega)
            rw [if_neg hj, if_pos ⟨by omega, by omega, by omega⟩, hj', cast_succ, p_Bal fuel _ (by omega) (by omega)]
            simp only [Option.bind_some, decide_eq_true_eq]
            by_cases hB : Bal (subl x ((n + 1 : Nat) : Int) (j : Int))
            · rw [if_pos hB, if_pos ⟨hop, fun _ => ⟨by omega, by rw [hj']; exact hB⟩, fun q => absurd q e11⟩]
            · rw [if_neg hB, if_neg (fun q => hB (by have := (q.2.1 h7).2; rw [hj'] at this; exact this))]
        · by_cases h11 : x[n].a = 11
          · have hb := dF_b x n
            have i1 : in64 (fF x n + 1) := in64_of (by omega) (by omega)
            simp only [if_neg h7, if_pos h11, if_pos i1, fF_succ h, p_DepthAt fuel x (n : Int) (by omega) hf, Option.bind_some, Int.toNat_natCast, show min x.length n = n by omega, decide_eq_true_eq]
            by_cases hq : 1 < fF x n + 1
            · rw [if_pos hq, if_neg (fun q => by have := (q.2.2 h11).1; rw [fF_succ h, if_pos h11] at this; omega)]
            · rw [if_neg hq]
              by_cases hd : dF x n = 0
              · rw [if_pos hd, if_pos ⟨hop, fun q => absurd q h7, fun _ => ⟨by rw [fF_succ h, if_pos h11]; omega, hd⟩⟩]
              · rw [if_neg hd, if_neg (fun q => hd (q.2.2 h11).2)]
          · simp only [if_neg h7, if_neg h11, fF_succ h, Int.add_zero]
            rw [if_pos (by simp only [decide_eq_true_eq]; exact ⟨hop, fun q => absurd q h7, fun q => absurd q h11⟩)]
      · have hop' : ¬ opB x[n].a x[n].b x[n].c x[n].d = true := hop
        simp only [if_neg hop']
        rw [if_neg (by simp only [decide_eq_true_eq]; exact fun q => hop q.1)]
    · rw [if_neg (ge_cast h), if_pos (al_end h)]
open Classical in
theorem p_CodeOk (fuel : Nat) (x : List I4) (hl : x.length ≤ 1048576) (hf : x.length < fuel) : m_impl_CodeOk fuel x = some (decide (CodeP x)) := by
  unfold m_impl_CodeOk
  by_cases h24 : 24 < (x.length : Int)
  · rw [if_pos h24]; congr 1; exact (dec_no (fun q => by have := q.1; omega)).symm
  · rw [if_neg h24, p_Bal fuel x hl hf]
    simp only [Option.bind_some, decide_eq_true_eq]
    by_cases hB : Bal x
    · rw [if_pos hB]
      have := p_Code_L fuel x (by omega) hf fuel 0 (by omega) (by omega)
      simp only [fF_zero] at this
      erw [this]
      by_cases hA : Al 0 x.length (fun m => ∀ h : m < x.length, CodeS x m x[m])
      · simp only [if_pos hA, Option.bind_some, contL, un1]
        congr 1; exact (dec_yes ⟨by omega, hB, hA⟩).symm
      · simp only [if_neg hA, Option.bind_some, contL]
        congr 1; exact (dec_no (fun q => hA q.2.2)).symm
    · rw [if_neg hB]; congr 1; exact (dec_no (fun q => hB q.2.1)).symm
/-- The reference's one pass: each operation, and no more ends than beginnings so far. -/
def CodeT (x : List I4) (n : Nat) : Prop := (∀ h : n < x.length, CodeS x n x[n]) ∧ 0 ≤ dF x (n + 1)
open Classical in
theorem p_SCode_L (fuel : Nat) (x : List I4) (hl : x.length ≤ 24) (hf : x.length < fuel) : ∀ K n, 0 ≤ dF x n → n ≤ x.length → x.length < n + K →
    m_spec_CodeOk_L0 fuel x K (dF x n) (fF x n) (n : Int) = some (if Al n x.length (CodeT x) then .brk (dF x x.length) else .ret false) := by
  intro K
  induction K with
  | zero => intro n h0 h1 h2; omega
  | succ K ih =>
    intro n h0 h1 h2
    rw [m_spec_CodeOk_L0]
    by_cases h : n < x.length
    · have hfb := fF_b x n
      have hb := dF_b x n
      have hi := in64_succ h (show x.length ≤ _ by omega)
      have key : ∀ (b : Bool), (b = true ↔ CodeT x n) → ((some (if b = true then Lp.brk (dF x (n + 1), fF x (n + 1)) else Lp.ret false) : Option (Lp (Int × Int) Bool)).bind <| contM <| un2 fun z5 z6 => if in64 ((n : Int) + 1) then m_spec_CodeOk_L0 fuel x K z5 z6 ((n : Int) + 1) else none) = some (if Al n x.length (CodeT x) then .brk (dF x x.length) else .ret false) := by
        intro b hb
        rw [al_cons h]
        cases b with
        | false => simp only [Bool.false_eq_true, if_false]; rw [if_neg (fun q => by have := hb.2 q.1; cases this)]; rfl
        | true =>
          simp only [if_true, Option.bind_some, contM, un2, if_pos hi]
          erw [ih (n + 1) (hb.1 rfl).2 (by omega) (by omega)]
          by_cases hA : Al (n + 1) x.length (CodeT x)
          · rw [if_pos hA, if_pos ⟨hb.1 rfl, hA⟩]
          · rw [if_neg hA, if_neg (fun q => hA q.2)]
      simp only [if_pos (lt_cast h), at?_lt h, Option.bind_some, p_SOpOk]
      refine Eq.trans (congrArg (fun q => Option.bind q _) ?_) (key (decide (CodeT x n)) (by simp))
      simp only [decide_eq_true_eq]
      by_cases hop : opC x[n] = true
      · have hop' : opB x[n].a x[n].b x[n].c x[n].d = true := hop
        simp only [if_pos hop']
        have i1 : in64 (dF x n + 1) := in64_of (by omega) (by omega)
        have i2 : in64 (dF x n - 1) := in64_of (by omega) (by omega)
        have i3 : in64 (fF x n + 1) := in64_of (by omega) (by omega)
        have fin : ∀ (P : Prop) (d f : Int), (P ↔ CodeS x n x[n]) → (P → d = dF x (n + 1) ∧ f = fF x (n + 1)) → ((some (if P then Lp.brk (d, f) else Lp.ret false) : Option (Lp (Int × Int) Bool)).bind <| contM <| un2 fun z7 z8 => if z7 < 0 then some (Lp.ret false) else some (Lp.brk (z7, z8))) = some (if CodeT x n then Lp.brk (dF x (n + 1), fF x (n + 1)) else Lp.ret false) := by
          intro P d f hP hdf
          by_cases hp : P
          · obtain ⟨rfl, rfl⟩ := hdf hp
            simp only [if_pos hp, Option.bind_some, contM, un2]
            by_cases hn : dF x (n + 1) < 0
            · rw [if_pos hn, if_neg (fun q => by have := q.2; omega)]
            · rw [if_neg hn, if_pos ⟨fun _ => hP.1 hp, by omega⟩]
          · simp only [if_neg hp, Option.bind_some, contM]
            rw [if_neg (fun q => hp (hP.2 (q.1 h)))]
        have dn : dF x (n + 1) = dF x n + opn x[n] := dF_succ h
        have fn : fF x (n + 1) = fF x n + (if x[n].a = 11 then 1 else 0) := fF_succ h
        by_cases h8 : x[n].a = 8
        · have := fin True (dF x n + 1) (fF x n) (by simp [CodeS, hop, h8]) (fun _ => ⟨by rw [dn]; simp [opn, h8], by rw [fn]; simp [h8]⟩)
          simp only [if_true] at this
          simp only [if_pos h8, if_pos i1]; exact this
        by_cases h9 : x[n].a = 9
        · have := fin True (dF x n - 1) (fF x n) (by simp [CodeS, hop, h9]) (fun _ => ⟨by rw [dn]; simp [opn, h9]; omega, by rw [fn]; simp [h9]⟩)
          simp only [if_true] at this
          simp only [if_neg h8, if_pos h9, if_pos i2]; exact this
        by_cases h7 : x[n].a = 7
        · have hc := opC7 hop h7
          have := fin (SkipOk x n x[n].c) (dF x n) (fF x n) (by simp [CodeS, hop, h7]) (fun _ => ⟨by rw [dn]; simp [opn, h7], by rw [fn]; simp [h7]⟩)
          simp only [if_neg h8, if_neg h9, if_pos h7, p_Skip fuel x n (by omega) hf h hc, Option.bind_some, decide_eq_true_eq]
          rw [← this]
          by_cases hS : SkipOk x n x[n].c
          · rw [if_pos hS, if_pos hS]
          · rw [if_neg hS, if_neg hS]
        by_cases h11 : x[n].a = 11
        · have := fin (dF x n = 0 ∧ fF x n + 1 ≤ 1) (dF x n) (fF x n + 1) (by simp [CodeS, hop, h11, fn]; omega) (fun _ => ⟨by rw [dn]; simp [opn, h11], by rw [fn]; simp [h11]⟩)
          simp only [if_neg h8, if_neg h9, if_neg h7, if_pos h11, if_pos i3]
          rw [← this]
          by_cases hd : 0 < dF x n
          · rw [if_pos hd, if_neg (fun q => by omega)]
          · rw [if_neg hd]
            by_cases hq : 1 < fF x n + 1
            · rw [if_pos hq, if_neg (fun q => by omega)]
            · rw [if_neg hq, if_pos ⟨by omega, by omega⟩]
        · have := fin True (dF x n) (fF x n) (by simp [CodeS, hop, h7, h11]) (fun _ => ⟨by rw [dn]; simp [opn, h8, h9], by rw [fn]; simp [h11]⟩)
          simp only [if_true] at this
          simp only [if_neg h8, if_neg h9, if_neg h7, if_neg h11]; exact this
      · have hop' : ¬ opB x[n].a x[n].b x[n].c x[n].d = true := hop
        simp only [if_neg hop']
        rw [if_neg (fun q => hop (q.1 h).1)]
    · have e : n = x.length := by omega
      rw [if_neg (ge_cast h), if_pos (al_end h), e]
open Classical in
theorem p_SCodeOk (fuel : Nat) (x : List I4) (hl : x.length ≤ 1048576) (hf : x.length < fuel) : m_spec_CodeOk fuel x = some (decide (CodeP x)) := by
  unfold m_spec_CodeOk
  by_cases h24 : 24 < (x.length : Int)
  · rw [if_pos h24]; congr 1; exact (dec_no (fun q => by have := q.1; omega)).symm
  · rw [if_neg h24]
    have := p_SCode_L fuel x (by omega) hf fuel 0 (by simp [dF]) (by omega) (by omega)
    simp only [fF_zero, dF_zero] at this
    erw [this]
    by_cases hA : Al 0 x.length (CodeT x)
    · simp only [if_pos hA, Option.bind_some, contL, un1]
      congr 1
      exact dec_eq ⟨fun q => ⟨by omega, ⟨fun m h1 h2 => (hA m h1 h2).2, q⟩, fun m h1 h2 => (hA m h1 h2).1⟩, fun q => q.2.1.2⟩
    · simp only [if_neg hA, Option.bind_some, contL]
      congr 1
      exact (dec_no (fun q => hA (fun m h1 h2 => ⟨q.2.2 m h1 h2, q.2.1.1 m h1 h2⟩))).symm

/-! Numbers in decimal digits. -/
def digs (n : Nat) : Str := if h : n = 0 then [] else b8 (48 + ((n % 10 : Nat) : Int)) :: digs (n / 10)
termination_by n
decreasing_by omega
theorem digs_zero : digs 0 = [] := by rw [digs]; rfl
theorem digs_pos {n : Nat} (h : n ≠ 0) : digs n = b8 (48 + ((n % 10 : Nat) : Int)) :: digs (n / 10) := by rw [digs, dif_neg h]
theorem digs_len : ∀ n, (digs n).length ≤ n := by
  intro n
  induction n using Nat.strongRecOn with
  | ind n ih =>
    by_cases h : n = 0
    · subst h; rw [digs_zero]; exact Nat.le_refl _
    · rw [digs_pos h, List.length_cons]
      have := ih (n / 10) (by omega)
      omega
theorem tm (n : Nat) : ((n : Int)).tmod 10 = ((n % 10 : Nat) : Int) := by rw [Int.tmod_eq_emod_of_nonneg (by omega)]; omega
theorem td (n : Nat) : ((n : Int)).tdiv 10 = ((n / 10 : Nat) : Int) := by rw [Int.tdiv_eq_ediv_of_nonneg (by omega)]; omega
theorem p_DL (F : Nat) : ∀ K n (A : Str), n < K → A.length + n ≤ 2000000000 → m_impl_Dec_L0 F K A (n : Int) = some (A ++ digs n) := by
  intro K
  induction K with
  | zero => intro n A h1 h2; omega
  | succ K ih =>
    intro n A h1 h2
    rw [m_impl_Dec_L0]
    by_cases h : n = 0
    · subst h; rw [if_pos (show ((0 : Nat) : Int) = 0 from rfl), digs_zero, List.append_nil]
    · have nz : (10 : Int) ≠ 0 := by decide
      have i1 : in64 (48 + ((n % 10 : Nat) : Int)) := in64_of (by omega) (by omega)
      have i2 : in64 ((n / 10 : Nat) : Int) := in64_of (by omega) (by omega)
      have i3 : A.length + 1 ≤ 17179869184 := by omega
      have e := ih (n / 10) (A ++ [b8 (48 + ((n % 10 : Nat) : Int))]) (by omega) (by simp; omega)
      rw [if_neg (by omega)]
      simp only [tm, td, if_pos nz, if_neg (show ¬ ((n % 10 : Nat) : Int) < 0 by omega), Option.bind_some, if_pos i1, if_pos i3, if_pos (And.intro nz i2)]
      rw [e, digs_pos h, List.append_assoc]; rfl
theorem p_SDL (F : Nat) : ∀ K n (s : Str), n < K → s.length + n ≤ 2000000000 → m_spec_Dec_L0 F K (n : Int) s = some ((digs n).reverse ++ s) := by
  intro K
  induction K with
  | zero => intro n s h1 h2; omega
  | succ K ih =>
    intro n s h1 h2
    rw [m_spec_Dec_L0]
    by_cases h : n = 0
    · subst h; rw [if_pos (show ((0 : Nat) : Int) = 0 from rfl), digs_zero]; rfl
    · have nz : (10 : Int) ≠ 0 := by decide
      have i1 : in64 (48 + ((n % 10 : Nat) : Int)) := in64_of (by omega) (by omega)
      have i2 : in64 ((n / 10 : Nat) : Int) := in64_of (by omega) (by omega)
      have i3 : ((([b8 (48 + ((n % 10 : Nat) : Int))] : List UInt8).length + s.length : Nat) : Int) ≤ 9223372036854775807 := by simp; omega
      have e := ih (n / 10) ([b8 (48 + ((n % 10 : Nat) : Int))] ++ s) (by omega) (by simp; omega)
      rw [if_neg (by omega)]
      simp only [tm, td, if_pos nz, if_neg (show ¬ ((n % 10 : Nat) : Int) < 0 by omega), Option.bind_some, if_pos i1, if_pos i3, if_pos (And.intro nz i2)]
      rw [e, digs_pos h, List.reverse_cons, List.append_assoc]
theorem p_rev (F : Nat) (l : Str) (hl : l.length ≤ 2000000000) : ∀ (K i : Nat) (z : Str), z.length = l.length → (∀ k, k < l.length → z[k]? = if k < i ∨ l.length ≤ k + i then l[l.length - 1 - k]? else l[k]?) → l.length < 2 * (i + K) → 2 * i ≤ l.length →
    m_impl_Dec_L1 F K z (i : Int) ((l.length : Int) - 1 - (i : Int)) = some l.reverse := by
  intro K
  induction K with
  | zero => intro i z h1 h2 h3 h4; omega
  | succ K ih =>
    intro i z hz hI h3 h4
    rw [m_impl_Dec_L1]
    by_cases h : 2 * i + 1 < l.length
    · have hj : (l.length : Int) - 1 - (i : Int) = ((l.length - 1 - i : Nat) : Int) := by omega
      rw [hj, if_pos (by omega)]
      have zi : i < z.length := by omega
      have zj : l.length - 1 - i < z.length := by omega
      obtain ⟨u, hu⟩ := at?_some_iff (l := z) (i := (i : Int)) (by omega)
      obtain ⟨v, hv⟩ := at?_some_iff (l := z) (i := ((l.length - 1 - i : Nat) : Int)) (by omega)
      obtain ⟨w, hw⟩ := at?_some_iff (l := z.set ((i : Int)).toNat v) (i := ((l.length - 1 - i : Nat) : Int)) (by rw [List.length_set]; omega)
      have hi : in64 ((i : Int) + 1) := in64_of (by omega) (by omega)
      have hk : in64 (((l.length - 1 - i : Nat) : Int) - 1) := in64_of (by omega) (by omega)
      rw [hv, Option.bind_some, hu, Option.bind_some, hw, Option.bind_some, if_pos hi, if_pos hk]
      have e1 : ((l.length - 1 - i : Nat) : Int) - 1 = (l.length : Int) - 1 - ((i + 1 : Nat) : Int) := by omega
      rw [e1, cast_succ, Int.toNat_natCast, Int.toNat_natCast]
      rw [at?_nat] at hu hv
      have ei : l[i]? = some u := by rw [← hu, hI i (by omega), if_neg (by omega)]
      have ej : l[l.length - 1 - i]? = some v := by rw [← hv, hI _ (by omega), if_neg (by omega)]
      refine ih (i + 1) _ (by simpa using hz) (fun k hk => ?_) (by omega) (by omega)
      rw [List.getElem?_set, List.getElem?_set]
      by_cases k1 : l.length - 1 - i = k
      · subst k1
        rw [if_pos rfl, if_pos (by rw [List.length_set]; exact zj), if_pos (.inr (by omega)), show l.length - 1 - (l.length - 1 - i) = i by omega, ei]
      · rw [if_neg k1]
        by_cases k2 : i = k
        · subst k2
          rw [if_pos rfl, if_pos zi, if_pos (.inl (by omega)), ej]
        · rw [if_neg k2, hI k hk]
          by_cases c : k < i ∨ l.length ≤ k + i
          · rw [if_pos c, if_pos (by omega)]
          · rw [if_neg c, if_neg (by omega)]
    · rw [if_neg (by omega)]
      congr 1
      refine List.ext_getElem? fun k => ?_
      by_cases hk : k < l.length
      · rw [hI k hk, List.getElem?_reverse hk]
        by_cases c : k < i ∨ l.length ≤ k + i
        · rw [if_pos c]
        · rw [if_neg c, show l.length - 1 - k = k by omega]
      · rw [List.getElem?_eq_none (by omega), List.getElem?_eq_none (by simp; omega)]

theorem tmn (n : Nat) : (-(n : Int)).tmod 10 = -((n % 10 : Nat) : Int) := by rw [Int.neg_tmod, tm]
theorem tdn (n : Nat) : (-(n : Int)).tdiv 10 = -((n / 10 : Nat) : Int) := by rw [Int.neg_tdiv, td]
theorem dg (n : Nat) : (if -((n % 10 : Nat) : Int) < 0 then (if in64 (0 - -((n % 10 : Nat) : Int)) then some (0 - -((n % 10 : Nat) : Int)) else none) else some (-((n % 10 : Nat) : Int))) = some ((n % 10 : Nat) : Int) := by
  by_cases h : -((n % 10 : Nat) : Int) < 0
  · rw [if_pos h, if_pos (in64_of (by omega) (by omega))]; congr 1; omega
  · rw [if_neg h]; congr 1; omega
theorem p_DLn (F : Nat) : ∀ K n (A : Str), n < K → A.length + n ≤ 2000000000 → m_impl_Dec_L0 F K A (-(n : Int)) = some (A ++ digs n) := by
  intro K
  induction K with
  | zero => intro n A h1 h2; omega
  | succ K ih =>
    intro n A h1 h2
    rw [m_impl_Dec_L0]
    by_cases h : n = 0
    · subst h; rw [if_pos (show -((0 : Nat) : Int) = 0 from rfl), digs_zero, List.append_nil]
    · have nz : (10 : Int) ≠ 0 := by decide
      have i1 : in64 (48 + ((n % 10 : Nat) : Int)) := in64_of (by omega) (by omega)
      have i2 : in64 (-((n / 10 : Nat) : Int)) := in64_of (by omega) (by omega)
      have i3 : A.length + 1 ≤ 17179869184 := by omega
      have e := ih (n / 10) (A ++ [b8 (48 + ((n % 10 : Nat) : Int))]) (by omega) (by simp; omega)
      rw [if_neg (by omega), if_pos nz, tmn, tdn, dg, Option.bind_some, if_pos i1, if_pos i3, Option.bind_some, if_pos ⟨nz, i2⟩, e, digs_pos h, List.append_assoc]; rfl
theorem p_SDLn (F : Nat) : ∀ K n (s : Str), n < K → s.length + n ≤ 2000000000 → m_spec_Dec_L0 F K (-(n : Int)) s = some ((digs n).reverse ++ s) := by
  intro K
  induction K with
  | zero => intro n s h1 h2; omega
  | succ K ih =>
    intro n s h1 h2
    rw [m_spec_Dec_L0]
    by_cases h : n = 0
    · subst h; rw [if_pos (show -((0 : Nat) : Int) = 0 from rfl), digs_zero]; rfl
    · have nz : (10 : Int) ≠ 0 := by decide
      have i1 : in64 (48 + ((n % 10 : Nat) : Int)) := in64_of (by omega) (by omega)
      have i2 : in64 (-((n / 10 : Nat) : Int)) := in64_of (by omega) (by omega)
      have i3 : ((([b8 (48 + ((n % 10 : Nat) : Int))] : List UInt8).length + s.length : Nat) : Int) ≤ 9223372036854775807 := by simp; omega
      have e := ih (n / 10) ([b8 (48 + ((n % 10 : Nat) : Int))] ++ s) (by omega) (by simp; omega)
      rw [if_neg (by omega), if_pos nz, tmn, tdn, dg, Option.bind_some, if_pos i1, if_pos i3, if_pos ⟨nz, i2⟩, e, digs_pos h, List.reverse_cons, List.append_assoc]
theorem digs_dig : ∀ n, ∀ c ∈ digs n, 48 ≤ c.toNat ∧ c.toNat ≤ 57 := by
  intro n
  induction n using Nat.strongRecOn with
  | ind n ih =>
    intro c hc
    by_cases h : n = 0
    · subst h; rw [digs_zero] at hc; simp at hc
    · rw [digs_pos h] at hc
      rcases List.mem_cons.1 hc with rfl | hc
      · have := b8_toNat (48 + ((n % 10 : Nat) : Int))
        rw [IntKind.wrap_u8] at this
        omega
      · exact ih (n / 10) (by omega) c hc
theorem digs_ne {n : Nat} (h : n ≠ 0) : digs n ≠ [] := by rw [digs_pos h]; simp

/-! The decimal of a number on both sides. -/
def decI (z : Int) : Str := if z = 0 then [48] else if z < 0 then 45 :: (digs z.natAbs).reverse else (digs z.natAbs).reverse
theorem p_DecI (F : Nat) {z : Int} (h : -1000000000 ≤ z ∧ z ≤ 1000000000) (hf : 1000000001 < F) : m_impl_Dec F z = some (decI z) := by
  unfold m_impl_Dec decI
  by_cases h0 : z = 0
  · rw [if_pos h0, if_pos h0]
  · rw [if_neg h0, if_neg h0]
    by_cases hn : z < 0
    · obtain ⟨n, rfl⟩ : ∃ n : Nat, z = -(n : Int) := ⟨z.natAbs, by omega⟩
      have hlen := digs_len n
      have e1 := p_DLn F F n [] (by omega) (by simp <;> omega)
      have e2 := p_rev F (digs n ++ [45]) (by simp <;> omega) F 0 (digs n ++ [45]) rfl (fun k hk => by rw [if_neg (by omega)]) (by simp <;> omega) (by omega)
      simp only [Int.natCast_zero, Int.sub_zero] at e2
      rw [List.nil_append] at e1
      rw [e1, Option.bind_some, if_pos hn, if_pos hn, if_pos (by omega), Option.bind_some, if_pos (in64_of (by simp <;> omega) (by simp <;> omega)), e2, Option.bind_some, List.reverse_append, show (-(n : Int)).natAbs = n by omega]
      rfl
    · obtain ⟨n, rfl⟩ : ∃ n : Nat, z = (n : Int) := ⟨z.natAbs, by omega⟩
      have hlen := digs_len n
      have e1 := p_DL F F n [] (by omega) (by simp <;> omega)
      have e2 := p_rev F (digs n) (by omega) F 0 (digs n) rfl (fun k hk => by rw [if_neg (by omega)]) (by omega) (by omega)
      simp only [Int.natCast_zero, Int.sub_zero] at e2
      rw [List.nil_append] at e1
      rw [e1, Option.bind_some, if_neg hn, if_neg hn, Option.bind_some, if_pos (in64_of (by omega) (by omega)), e2, Option.bind_some, show ((n : Int)).natAbs = n by omega]
theorem p_SDecI (F : Nat) {z : Int} (h : -1000000000 ≤ z ∧ z ≤ 1000000000) (hf : 1000000001 < F) : m_spec_Dec F z = some (decI z) := by
  unfold m_spec_Dec decI
  by_cases h0 : z = 0
  · rw [if_pos h0, if_pos h0]
  · rw [if_neg h0, if_neg h0]
    by_cases hn : z < 0
    · obtain ⟨n, rfl⟩ : ∃ n : Nat, z = -(n : Int) := ⟨z.natAbs, by omega⟩
      have hlen := digs_len n
      have e1 := p_SDLn F F n [] (by omega) (by simp <;> omega)
      rw [List.append_nil] at e1
      rw [e1, Option.bind_some, if_pos hn, if_pos hn, if_pos (by simp <;> omega), show (-(n : Int)).natAbs = n by omega]
      rfl
    · obtain ⟨n, rfl⟩ : ∃ n : Nat, z = (n : Int) := ⟨z.natAbs, by omega⟩
      have e1 := p_SDL F F n [] (by omega) (by simp <;> omega)
      rw [List.append_nil] at e1
      rw [e1, Option.bind_some, if_neg hn, if_neg hn, show ((n : Int)).natAbs = n by omega]
/-- What a decimal looks like: a sign perhaps, and digits, one at least. -/
theorem decI_form (z : Int) : ∃ s : Str, s ≠ [] ∧ (∀ c ∈ s, 48 ≤ c.toNat ∧ c.toNat ≤ 57) ∧ (decI z = s ∨ decI z = 45 :: s) := by
  unfold decI
  by_cases h0 : z = 0
  · exact ⟨[48], by simp, by simp, .inl (by rw [if_pos h0])⟩
  · have hd : ∀ c ∈ (digs z.natAbs).reverse, 48 ≤ c.toNat ∧ c.toNat ≤ 57 := fun c hc => digs_dig _ c (List.mem_reverse.1 hc)
    have hne : (digs z.natAbs).reverse ≠ [] := by simpa using digs_ne (n := z.natAbs) (by omega)
    rw [if_neg h0]
    by_cases hn : z < 0
    · exact ⟨_, hne, hd, .inr (by rw [if_pos hn])⟩
    · exact ⟨_, hne, hd, .inl (by rw [if_neg hn])⟩

/-! Reading. -/
def isD (c : UInt8) : Bool := decide (48 ≤ c.toNat) && decide (c.toNat ≤ 57)
def dvl : Int → Str → Int
  | z, [] => z
  | z, c :: s => if isD c = true then dvl (z * 10 + ((c.toNat : Int) - 48)) s else dvl z s
def cnt : Str → Int
  | [] => 0
  | c :: s => (if isD c = true then 1 else 0) + cnt s
def p10 : Nat → Int
  | 0 => 1
  | k + 1 => 10 * p10 k
theorem p10_mono {k : Nat} (h : k ≤ 11) : p10 k ≤ 100000000000 := by
  have : k = 0 ∨ k = 1 ∨ k = 2 ∨ k = 3 ∨ k = 4 ∨ k = 5 ∨ k = 6 ∨ k = 7 ∨ k = 8 ∨ k = 9 ∨ k = 10 ∨ k = 11 := by omega
  rcases this with rfl | rfl | rfl | rfl | rfl | rfl | rfl | rfl | rfl | rfl | rfl | rfl <;> decide
theorem b8_dig {c : UInt8} (h : 48 ≤ c.toNat ∧ c.toNat ≤ 57) : ((b8 ((c.toNat : Int) - 48)).toNat : Int) = (c.toNat : Int) - 48 := by
  rw [b8_toNat, IntKind.wrap_u8]; omega
/-- The reference's pass: every digit of the first eleven bytes counts. -/
theorem p_SRead_L (F : Nat) (x : Str) (hx : x.length ≤ 1048576) : ∀ (K n k : Nat) (z : Int), n ≤ x.length → n ≤ 11 → 11 < n + K → k ≤ n → 0 ≤ z ∧ z < p10 k →
    ∃ v w, m_spec_ReadDec_L0 F x K z (k : Int) (n : Int) = some (v, w) ∧ 0 ≤ v ∧ v < 100000000000 ∧ (x.length ≤ 11 → v = dvl z (x.drop n) ∧ w = (k : Int) + cnt (x.drop n)) ∧ (w ≤ 9 → v < 1000000000) := by
  intro K
  induction K with
  | zero => intro n k z h1 h2 h3 h4 h5; omega
  | succ K ih =>
    intro n k z h1 h2 h3 h4 h5
    have hp := p10_mono (k := k) (by omega)
    have hk9 : (k : Int) ≤ 9 → z < 1000000000 := by
      intro hk
      have : k ≤ 9 := by omega
      have : k = 0 ∨ k = 1 ∨ k = 2 ∨ k = 3 ∨ k = 4 ∨ k = 5 ∨ k = 6 ∨ k = 7 ∨ k = 8 ∨ k = 9 := by omega
      have hb : p10 k ≤ 1000000000 := by rcases this with rfl | rfl | rfl | rfl | rfl | rfl | rfl | rfl | rfl | rfl <;> decide
      omega
    rw [m_spec_ReadDec_L0]
    by_cases h : n < x.length
    · rw [if_pos (lt_cast h)]
      by_cases h11 : (n : Int) < 11
      · rw [if_pos h11]
        have hi : in64 ((n : Int) + 1) := in64_of (by omega) (by omega)
        by_cases hd : isD x[n] = true
        · have hd' : 48 ≤ x[n].toNat ∧ x[n].toNat ≤ 57 := by simpa [isD] using hd
          obtain ⟨v, w, e, q1, q2, q3, q4⟩ := ih (n + 1) (k + 1) (z * 10 + ((x[n].toNat : Int) - 48)) (by omega) (by omega) (by omega) (by omega) (by simp only [p10]; omega)
          refine ⟨v, w, ?_, q1, q2, fun hl => ?_, q4⟩
          · rw [at?_lt h]
            simp only [Option.bind_some, bind2, if_pos (show (48 : Int) ≤ (x[n].toNat : Int) by omega), if_pos (show (x[n].toNat : Int) ≤ 57 by omega), b8_dig hd']
            rw [if_pos (in64_of (by omega) (by omega)), if_pos (in64_of (by omega) (by omega)), if_pos (in64_of (by omega) (by omega)), Option.bind_some]
            simp only []
            rw [if_pos hi]
            exact e
          · obtain ⟨r1, r2⟩ := q3 hl
            rw [drop_cons h, dvl, cnt, if_pos hd, if_pos hd]
            exact ⟨r1, by rw [r2]; omega⟩
        · obtain ⟨v, w, e, q1, q2, q3, q4⟩ := ih (n + 1) k z (by omega) (by omega) (by omega) (by omega) h5
          refine ⟨v, w, ?_, q1, q2, fun hl => ?_, q4⟩
          · have hd' : ¬ (48 ≤ x[n].toNat ∧ x[n].toNat ≤ 57) := by simpa [isD] using hd
            rw [at?_lt h]
            simp only [Option.bind_some, bind2]
            by_cases h48 : (48 : Int) ≤ (x[n].toNat : Int)
            · rw [if_pos h48, if_neg (show ¬ (x[n].toNat : Int) ≤ 57 by omega), Option.bind_some]
              simp only []
              rw [if_pos hi]; exact e
            · rw [if_neg h48, Option.bind_some]
              simp only []
              rw [if_pos hi]; exact e
          · obtain ⟨r1, r2⟩ := q3 hl
            rw [drop_cons h, dvl, cnt, if_neg hd, if_neg hd]
            exact ⟨r1, by rw [r2]; omega⟩
      · rw [if_neg h11]
        exact ⟨z, k, rfl, h5.1, by omega, fun hl => by omega, hk9⟩
    · rw [if_neg (ge_cast h)]
      exact ⟨z, k, rfl, h5.1, by omega, fun _ => by rw [drop_end h]; simp [dvl, cnt], hk9⟩
theorem cnt_all : ∀ {s : Str}, s.all isD = true → cnt s = (s.length : Int)
  | [], _ => rfl
  | c :: s, h => by
    rw [List.all_cons, Bool.and_eq_true] at h
    rw [cnt, if_pos h.1, cnt_all h.2, List.length_cons]; omega
theorem p_Read_L (F : Nat) (x : Str) (hx : x.length ≤ 1048576) : ∀ (K n k : Nat) (z : Int), n ≤ x.length → x.length < n + K → k + (x.length - n) ≤ 9 → 0 ≤ z ∧ z < p10 k →
    m_impl_ReadDec_L0 F x K z (n : Int) = some (if (x.drop n).all isD = true then .brk (dvl z (x.drop n)) else .ret (0, false)) ∧ ((x.drop n).all isD = true → 0 ≤ dvl z (x.drop n) ∧ dvl z (x.drop n) < 1000000000) := by
  intro K
  induction K with
  | zero => intro n k z h1 h2 h3 h5; omega
  | succ K ih =>
    intro n k z h1 h2 h3 h5
    have hp := p10_mono (k := k) (by omega)
    have hk9 : z < 1000000000 := by
      have : k = 0 ∨ k = 1 ∨ k = 2 ∨ k = 3 ∨ k = 4 ∨ k = 5 ∨ k = 6 ∨ k = 7 ∨ k = 8 ∨ k = 9 := by omega
      have hb : p10 k ≤ 1000000000 := by rcases this with rfl | rfl | rfl | rfl | rfl | rfl | rfl | rfl | rfl | rfl <;> decide
      omega
    rw [m_impl_ReadDec_L0]
    by_cases h : n < x.length
    · have hi : in64 ((n : Int) + 1) := in64_of (by omega) (by omega)
      rw [if_pos (lt_cast h), drop_cons h, List.all_cons, at?_lt h, Option.bind_some]
      by_cases hd : isD x[n] = true
      · have hd' : 48 ≤ x[n].toNat ∧ x[n].toNat ≤ 57 := by simpa [isD] using hd
        obtain ⟨e, q⟩ := ih (n + 1) (k + 1) (10 * z + ((x[n].toNat : Int) - 48)) (by omega) (by omega) (by omega) (by simp only [p10]; omega)
        have ez : z * 10 + ((x[n].toNat : Int) - 48) = 10 * z + ((x[n].toNat : Int) - 48) := by omega
        rw [if_neg (by omega), Option.bind_some, if_neg (by omega), if_pos (in64_of (by omega) (by omega)), Option.bind_some, b8_dig hd', if_pos (in64_of (by omega) (by omega)), if_pos hi, hd, Bool.true_and, dvl, if_pos hd, ez]
        exact ⟨e, q⟩
      · have hd' : ¬ (48 ≤ x[n].toNat ∧ x[n].toNat ≤ 57) := by simpa [isD] using hd
        rw [Bool.eq_false_iff.2 hd, Bool.false_and]
        refine ⟨?_, fun q => by cases q⟩
        by_cases h48 : (x[n].toNat : Int) < 48
        · rw [if_pos h48]; rfl
        · rw [if_neg h48, Option.bind_some, if_pos (by omega)]; rfl
    · rw [if_neg (ge_cast h), drop_end h]
      exact ⟨rfl, fun _ => ⟨h5.1, hk9⟩⟩
/-! What a decimal says. -/
theorem dvl_snoc : ∀ (s : Str) (z : Int) (c : UInt8), isD c = true → dvl z (s ++ [c]) = dvl z s * 10 + ((c.toNat : Int) - 48)
  | [], z, c, h => by simp [dvl, h]
  | d :: s, z, c, h => by
    simp only [List.cons_append, dvl]
    split
    · exact dvl_snoc s _ c h
    · exact dvl_snoc s _ c h
theorem digs_isD (n : Nat) : ∀ c ∈ digs n, isD c = true := fun c hc => by simpa [isD] using digs_dig n c hc
theorem dvl_digs (n : Nat) : dvl 0 (digs n).reverse = (n : Int) := by
  induction n using Nat.strongRecOn with
  | ind n ih =>
    by_cases h : n = 0
    · subst h; rw [digs_zero]; rfl
    · rw [digs_pos h, List.reverse_cons, dvl_snoc _ _ _ (digs_isD n _ (by rw [digs_pos h]; simp)), ih (n / 10) (by omega), b8_toNat, IntKind.wrap_u8]
      omega
theorem digs_lenP : ∀ (k n : Nat), (n : Int) < p10 k → (digs n).length ≤ k
  | 0, n, h => by simp only [p10] at h; have : n = 0 := by omega
                  subst this; rw [digs_zero]; simp
  | k + 1, n, h => by
    by_cases h0 : n = 0
    · subst h0; rw [digs_zero]; simp
    · rw [digs_pos h0, List.length_cons]
      simp only [p10] at h
      have := digs_lenP k (n / 10) (by omega)
      omega
theorem decI_parse {u : Int} {x : Str} {sg : Nat} (h1 : -1000000000 < u) (h2 : u < 1000000000) (hx : x = decI u) (hs : sg ≤ 1) (hg : sg = 1 ↔ ∃ s, x = 45 :: s) :
    inB ((x.length : Int) - (sg : Int)) 1 9 = true ∧ (x.drop sg).all isD = true ∧ (if sg = 1 then 0 - dvl 0 (x.drop sg) else dvl 0 (x.drop sg)) = u := by
  have hl : (digs u.natAbs).length ≤ 9 := digs_lenP 9 _ (by show (u.natAbs : Int) < 1000000000; omega)
  have hv := dvl_digs u.natAbs
  have hd : ∀ c ∈ (digs u.natAbs).reverse, isD c = true := fun c hc => digs_isD _ c (List.mem_reverse.1 hc)
  unfold decI at hx
  by_cases h0 : u = 0
  · rw [if_pos h0] at hx
    subst hx h0
    have : ¬ sg = 1 := fun h => by obtain ⟨s, h⟩ := hg.1 h; simp at h
    have : sg = 0 := by omega
    subst this
    exact ⟨by decide, by decide, by decide⟩
  · rw [if_neg h0] at hx
    have hne : (digs u.natAbs).reverse ≠ [] := by simpa using digs_ne (n := u.natAbs) (by omega)
    have hpos : 0 < (digs u.natAbs).reverse.length := List.length_pos_iff.2 hne
    rw [List.length_reverse] at hpos
    by_cases hn : u < 0
    · rw [if_pos hn] at hx
      have : sg = 1 := hg.2 ⟨_, hx⟩
      subst this hx
      refine ⟨inB_true.2 (by simp; omega), List.all_eq_true.2 hd, ?_⟩
      rw [if_pos rfl]
      show 0 - dvl 0 (digs u.natAbs).reverse = u
      omega
    · rw [if_neg hn] at hx
      have hns : ¬ sg = 1 := fun h => by
        obtain ⟨s, h⟩ := hg.1 h
        have := hd 45 (by rw [← hx, h]; simp)
        simp [isD] at this
      have : sg = 0 := by omega
      subst this hx
      refine ⟨inB_true.2 (by simp; omega), by simpa using hd, ?_⟩
      rw [if_neg hns]
      show dvl 0 (digs u.natAbs).reverse = u
      omega
theorem s_ReadDecX (F : Nat) (x : Str) (hx : x.length ≤ 1048576) (hf : 1000000001 < F) : ∃ v b, m_impl_ReadDec F x = some (v, b) ∧ m_spec_ReadDec F x = some (v, b) ∧ (b = true → x = decI v ∧ -1000000000 < v ∧ v < 1000000000) ∧ (b = false → v = 0) ∧ (∀ u, -1000000000 < u → u < 1000000000 → x = decI u → b = true) := by
  obtain ⟨v, w, e, q1, q2, q3, q4⟩ := p_SRead_L F x hx F 0 0 0 (by omega) (by omega) (by omega) (by omega) (by decide)
  simp only [Int.natCast_zero, List.drop_zero, Int.zero_add] at e q3
  -- the sign
  obtain ⟨sg, hsg, hsgx⟩ : ∃ sg : Nat, (sg ≤ 1 ∧ sg ≤ x.length) ∧ (((if 0 < (x.length : Int) then (at? x 0).bind fun c1 => if (c1.toNat : Int) = 45 then some (1 : Int) else some 0 else some 0) = some (sg : Int)) ∧ (∀ u : Int, in64 (0 - u) → (if 0 < (x.length : Int) then (at? x 0).bind fun c4 => if (c4.toNat : Int) = 45 then (if in64 (0 - u) then some (0 - u) else none) else some u else some u) = some (if sg = 1 then 0 - u else u)) ∧ (sg = 1 ↔ ∃ s, x = 45 :: s) ∧ dvl 0 x = dvl 0 (x.drop sg) ∧ cnt x = cnt (x.drop sg)) := by
    cases x with
    | nil => exact ⟨0, ⟨by omega, by simp⟩, by simp, fun u _ => by simp, by simp, rfl, rfl⟩
    | cons c s =>
      by_cases hc : (c.toNat : Int) = 45
      · have hc' : c = 45 := UInt8.toNat_inj.1 (by simpa using (show c.toNat = 45 by omega))
        subst hc'
        exact ⟨1, ⟨by omega, by simp⟩, by simp [at?], fun u hu => by rw [if_pos (by simp <;> omega), show at? ((45 : UInt8) :: s) 0 = some 45 from rfl, Option.bind_some, if_pos (by decide), if_pos hu, if_pos rfl], by simp, by simp [dvl, isD], by simp [cnt, isD]⟩
      · refine ⟨0, ⟨by omega, by simp⟩, by simp [at?, hc], fun u _ => by simp [at?, hc], ⟨fun h => by omega, fun ⟨s', h⟩ => ?_⟩, rfl, rfl⟩
        simp only [List.cons.injEq] at h
        exact absurd (by rw [h.1]; rfl) hc
  obtain ⟨g1, g2, g3, g4, g5⟩ := hsgx
  have hneg : in64 (0 - v) := in64_of (by omega) (by omega)
  unfold m_impl_ReadDec m_spec_ReadDec
  rw [g1, Option.bind_some, if_pos (in64_of (by omega) (by omega)), p_within]
  simp only [e, bind2, Option.bind_some]
  rw [g2 v hneg]
  simp only [Option.bind_some]
  by_cases hI : inB ((x.length : Int) - (sg : Int)) 1 9 = true ∧ (x.drop sg).all isD = true
  · obtain ⟨hi, ha⟩ := hI
    have hl := inB_true.1 hi
    obtain ⟨r, r2⟩ := p_Read_L F x hx F sg 0 0 (by omega) (by omega) (by omega) (by decide)
    obtain ⟨r3, r4⟩ := r2 ha
    obtain ⟨q5, q6⟩ := q3 (by omega)
    have hw : w = ((x.drop sg).length : Int) := by rw [q6, g5, cnt_all ha]
    have hw9 : ¬ 9 < w := by rw [hw]; simp; omega
    have hv : v = dvl 0 (x.drop sg) := by rw [q5, g4]
    rw [if_pos hi, r, if_pos ha, Option.bind_some, if_neg hw9, if_neg (show ¬ 10 < (x.length : Int) by omega), hv]
    simp only [contL, un1]
    have hz : (if (sg : Int) = 1 then (if in64 (0 - dvl 0 (x.drop sg)) then some (0 - dvl 0 (x.drop sg)) else none) else some (dvl 0 (x.drop sg))) = some (if sg = 1 then 0 - dvl 0 (x.drop sg) else dvl 0 (x.drop sg)) := by
      by_cases hs : sg = 1
      · rw [if_pos (by omega), if_pos (in64_of (by omega) (by omega)), if_pos hs]
      · rw [if_neg (by omega), if_neg hs]
    rw [hz, Option.bind_some, p_DecI F (by split <;> omega) hf, p_SDecI F (by split <;> omega) hf, Option.bind_some]
    by_cases hq : decI (if sg = 1 then 0 - dvl 0 (x.drop sg) else dvl 0 (x.drop sg)) = x
    · rw [if_pos hq]; exact ⟨_, _, rfl, rfl, fun _ => ⟨hq.symm, by split <;> omega, by split <;> omega⟩, (fun h => by cases h), fun _ _ _ _ => rfl⟩
    · rw [if_neg hq]; exact ⟨_, _, rfl, rfl, (fun h => by cases h), fun _ => rfl, fun u hu1 hu2 hxu => absurd hxu.symm (by rw [← (decI_parse hu1 hu2 hxu hsg.1 g3).2.2] ; exact hq)⟩
  · refine ⟨0, false, ?_, ?_, (fun h => by cases h), fun _ => rfl, fun u hu1 hu2 hxu => absurd (⟨(decI_parse hu1 hu2 hxu hsg.1 g3).1, (decI_parse hu1 hu2 hxu hsg.1 g3).2.1⟩ : _ ∧ _) hI⟩
    · by_cases hi : inB ((x.length : Int) - (sg : Int)) 1 9 = true
      · have hl := inB_true.1 hi
        have ha : ¬ (x.drop sg).all isD = true := fun q => hI ⟨hi, q⟩
        obtain ⟨r, _⟩ := p_Read_L F x hx F sg 0 0 (by omega) (by omega) (by omega) (by decide)
        rw [if_pos hi, r, if_neg ha, Option.bind_some]; rfl
      · rw [if_neg hi]
    · by_cases hw9 : 9 < w
      · rw [if_pos hw9]
      · rw [if_neg hw9]
        by_cases h10 : 10 < (x.length : Int)
        · rw [if_pos h10]
        · rw [if_neg h10]
          obtain ⟨q5, q6⟩ := q3 (by omega)
          have hb := q4 (by omega)
          rw [p_SDecI F (by split <;> omega) hf, Option.bind_some]
          by_cases hq : decI (if sg = 1 then 0 - v else v) = x
          · exfalso
            obtain ⟨s, s1, s2, s3⟩ := decI_form (if sg = 1 then 0 - v else v)
            rw [hq] at s3
            have hs : s.all isD = true := List.all_eq_true.2 fun c hc => by simpa [isD] using s2 c hc
            have hsl : 0 < s.length := List.length_pos_iff.2 s1
            rcases s3 with s3 | s3
            · have h0 : sg = 0 := by
                rcases Nat.lt_or_ge sg 1 with h | h
                · omega
                · obtain ⟨s', h'⟩ := g3.1 (by omega)
                  have := s2 45 (by rw [← s3, h']; simp)
                  simp at this
              subst h0
              rw [List.drop_zero] at g5 hI
              rw [s3] at hI q6
              rw [cnt_all hs] at q6
              exact hI ⟨inB_true.2 (by omega), hs⟩
            · have h1 : sg = 1 := g3.2 ⟨s, s3⟩
              subst h1
              have hdr : x.drop 1 = s := by rw [s3]; rfl
              rw [hdr] at hI g5
              rw [g5, cnt_all hs] at q6
              have hxl : x.length = s.length + 1 := by rw [s3]; rfl
              exact hI ⟨inB_true.2 (by omega), hs⟩
          · rw [if_neg hq]
def decS (x : Int) : Str := if x = 0 then [48] else (digs x.toNat).reverse
theorem decS_len {x : Int} (h : 0 ≤ x ∧ x ≤ 65535) : (decS x).length ≤ 65535 := by
  unfold decS
  split
  · simp
  · have := digs_len x.toNat; simp; omega
theorem p_Dec (F : Nat) {x : Int} (h : 0 ≤ x ∧ x ≤ 65535) (hf : 65536 < F) : m_impl_Dec F x = some (decS x) := by
  unfold m_impl_Dec decS
  by_cases h0 : x = 0
  · rw [if_pos h0, if_pos h0]
  · obtain ⟨n, rfl⟩ := Int.eq_ofNat_of_zero_le h.1
    have hlen := digs_len n
    rw [if_neg h0, if_neg h0]
    have e1 := p_DL F F n [] (by omega) (by simp; omega)
    have e2 := p_rev F (digs n) (by omega) F 0 (digs n) rfl (fun k hk => by rw [if_neg (by omega)]) (by omega) (by omega)
    rw [List.nil_append] at e1
    rw [e1]
    simp only [Option.bind_some, if_neg (show ¬ (n : Int) < 0 by omega), if_pos (show in64 (((digs n).length : Int) - 1) from in64_of (by omega) (by omega)), Int.toNat_natCast]
    simp only [Int.natCast_zero, Int.sub_zero] at e2
    rw [e2]; rfl
theorem p_SDec (F : Nat) {x : Int} (h : 0 ≤ x ∧ x ≤ 65535) (hf : 65536 < F) : m_spec_Dec F x = some (decS x) := by
  unfold m_spec_Dec decS
  by_cases h0 : x = 0
  · rw [if_pos h0, if_pos h0]
  · obtain ⟨n, rfl⟩ := Int.eq_ofNat_of_zero_le h.1
    rw [if_neg h0, if_neg h0]
    have e1 := p_SDL F F n [] (by omega) (by simp; omega)
    rw [List.append_nil] at e1
    rw [e1]
    simp only [Option.bind_some, if_neg (show ¬ (n : Int) < 0 by omega), Int.toNat_natCast]

/-! An operation as text. -/
theorem opB_rng {a b c d : Int} (h : opB a b c d = true) : (1 ≤ a ∧ a ≤ 16) ∧ (0 ≤ b ∧ b ≤ 65535) ∧ (0 ≤ c ∧ c ≤ 65535) ∧ (0 ≤ d ∧ d ≤ 65535) := by
  unfold opB at h
  by_cases h1 : a = 1
  · simp [h1, inB] at h; omega
  by_cases h2 : a = 2 ∨ a = 3 ∨ a = 4
  · simp [h1, h2, inB] at h; omega
  by_cases h5 : a = 5
  · simp [h5, inB] at h; omega
  by_cases h6 : a = 6
  · simp [h6, inB] at h; omega
  by_cases h7 : a = 7
  · simp [h7, inB] at h; omega
  by_cases h8 : a = 8 ∨ a = 15 ∨ a = 16
  · simp only [if_neg h1, if_neg h2, if_neg h5, if_neg h6, if_neg h7, if_pos h8] at h; simp [inB] at h; omega
  by_cases h9 : a = 9 ∨ a = 10 ∨ a = 11
  · simp only [if_neg h1, if_neg h2, if_neg h5, if_neg h6, if_neg h7, if_neg h8, if_pos h9] at h; simp at h; omega
  by_cases h12 : a = 12
  · simp [h12, inB] at h; omega
  by_cases h13 : a = 13
  · simp [h13, inB] at h; omega
  by_cases h14 : a = 14
  · simp [h14, inB] at h; omega
  · simp only [if_neg h1, if_neg h2, if_neg h5, if_neg h6, if_neg h7, if_neg h8, if_neg h9, if_neg h12, if_neg h13, if_neg h14] at h; cases h
def nF (a : Int) : Int := if a = 2 ∨ a = 3 ∨ a = 4 ∨ a = 12 then 3 else if a = 8 ∨ a = 15 ∨ a = 16 then 1 else if a = 9 ∨ a = 10 ∨ a = 11 then 0 else 2
theorem nF_cases (a : Int) : nF a = 0 ∨ nF a = 1 ∨ nF a = 2 ∨ nF a = 3 := by unfold nF; split <;> (try split) <;> (try split) <;> simp
theorem p_l6Args (F : Nat) (a : Int) : m_spec_l6Args F a = some (nF a) := by
  unfold m_spec_l6Args nF
  by_cases h2 : a = 2
  · subst h2; simp [contL]
  by_cases h3 : a = 3
  · subst h3; simp [contL]
  by_cases h4 : a = 4
  · subst h4; simp [contL]
  by_cases h12 : a = 12
  · subst h12; simp [contL]
  by_cases h8 : a = 8
  · subst h8; simp [contL]
  by_cases h15 : a = 15
  · subst h15; simp [contL]
  by_cases h16 : a = 16
  · subst h16; simp [contL]
  by_cases h9 : a = 9
  · subst h9; simp [contL]
  by_cases h10 : a = 10
  · subst h10; simp [contL]
  by_cases h11 : a = 11
  · subst h11; simp [contL]
  simp [h2, h3, h4, h12, h8, h15, h16, h9, h10, h11, contL, un1]
theorem p_fieldsOf (F : Nat) (a : Int) : m_impl_fieldsOf F a = some (nF a) := by
  rw [← p_l6Args F a]; rfl
theorem at_cons {E : Type} (w : E) (ws : List E) {a : Int} (h : 1 ≤ a) : at? (w :: ws) a = at? ws (a - 1) := by
  obtain ⟨n, rfl⟩ : ∃ n : Nat, a = ((n + 1 : Nat) : Int) := ⟨(a - 1).toNat, by omega⟩
  rw [show ((n + 1 : Nat) : Int) - 1 = (n : Int) by omega, at?_nat, at?_nat, List.getElem?_cons_succ]
set_option maxRecDepth 100000 in
theorem p_mn (F : Nat) {a : Int} (h : 1 ≤ a ∧ a ≤ 16) : ∃ e : SE, m_impl_mnemonic F a = some e.s ∧ (m_spec_l6Words F).bind (fun y => at? y a) = some e ∧ e.s.length ≤ 5 := by
  unfold m_impl_mnemonic m_spec_l6Words
  rw [p_within]
  simp only [Option.bind_some, inB_true.2 h, if_true, if_pos (show in64 (a - 1) from in64_of (by omega) (by omega))]
  rw [at_cons _ _ h.1]
  have : a = 1 ∨ a = 2 ∨ a = 3 ∨ a = 4 ∨ a = 5 ∨ a = 6 ∨ a = 7 ∨ a = 8 ∨ a = 9 ∨ a = 10 ∨ a = 11 ∨ a = 12 ∨ a = 13 ∨ a = 14 ∨ a = 15 ∨ a = 16 := by omega
  rcases this with rfl | rfl | rfl | rfl | rfl | rfl | rfl | rfl | rfl | rfl | rfl | rfl | rfl | rfl | rfl | rfl <;> exact ⟨_, rfl, rfl, by decide⟩
def app (z : Str) (e : Int) : Str := (z ++ [32]) ++ decS e
theorem app_len {z : Str} {e : Int} (h : 0 ≤ e ∧ e ≤ 65535) : (app z e).length ≤ z.length + 65536 := by
  have := decS_len h
  simp [app]; omega
theorem p_loop (F : Nat) (b c d y : Int) (es : List Int) (hes : subl ([b, c, d] : List Int) 0 y = es) (hr : ∀ e ∈ es, 0 ≤ e ∧ e ≤ 65535) (hl : es.length ≤ 3) (hf : 65536 < F) : ∀ K n (z : Str), z.length ≤ 10 + n * 65536 → n ≤ es.length → es.length < n + K →
    m_impl_ShowOp_L0 F b c d y K z (n : Int) = some ((es.drop n).foldl app z) := by
  intro K
  induction K with
  | zero => intro n z h1 h2 h3; omega
  | succ K ih =>
    intro n z hz h1 h2
    rw [m_impl_ShowOp_L0, hes]
    by_cases h : n < es.length
    · have he := hr _ (List.getElem_mem h)
      have hd := decS_len he
      have ha := app_len (z := z) he
      have i1 : ((z.length + ([32] : List Nat).length : Nat) : Int) ≤ 9223372036854775807 := by simp; omega
      have i2 : (((z ++ [32]).length + (decS es[n]).length : Nat) : Int) ≤ 9223372036854775807 := by simp; omega
      rw [drop_cons h, List.foldl_cons]
      have := ih (n + 1) (app z es[n]) (by omega) (by omega) (by omega)
      simp only [if_pos (lt_cast h), at?_lt h, Option.bind_some, if_pos i1, p_Dec F he hf, if_pos i2, if_pos (in64_succ h (show es.length ≤ _ by omega))]
      exact this
    · rw [if_neg (ge_cast h), drop_end h]; rfl
theorem p_step (F : Nat) (z : Str) (e : Int) (he : 0 ≤ e ∧ e ≤ 65535) (hz : z.length ≤ 1000000) (hf : 65536 < F) :
    (if ((z.length + [32].length : Nat) : Int) ≤ 9223372036854775807 then
          (m_spec_Dec F e).bind fun y4 =>
          if (((z ++ [32]).length + y4.length : Nat) : Int) ≤ 9223372036854775807 then
            some ((z ++ [32]) ++ y4)
          else none
        else none) = some (app z e) := by
  have hd := decS_len he
  rw [if_pos (by simp; omega), p_SDec F he hf, Option.bind_some, if_pos (by simp; omega)]
  rfl
theorem s_ShowOp (F : Nat) (a b c d : Int) (hf : 65536 < F) : ∃ r, m_impl_ShowOp F a b c d = some r ∧ m_spec_ShowOp F a b c d = some r ∧ r.length ≤ 200000 := by
  unfold m_impl_ShowOp m_spec_ShowOp
  simp only [p_OpOk, p_SOpOk, Option.bind_some]
  by_cases hop : opB a b c d = true
  · obtain ⟨ha, hb, hc, hd⟩ := opB_rng hop
    obtain ⟨e, e1, e2, e3⟩ := p_mn F ha
    have lb := app_len (z := e.s) hb
    have lc := app_len (z := app e.s b) hc
    have ld := app_len (z := app (app e.s b) c) hd
    have db := decS_len hb
    have dc := decS_len hc
    have dd := decS_len hd
    simp only [if_pos hop, e1, Option.bind_some, p_fieldsOf, p_l6Args]
    have e2' : m_spec_l6Words F = some ([(⟨[]⟩ : SE), (⟨[115, 101, 116]⟩ : SE), (⟨[97, 100, 100]⟩ : SE), (⟨[115, 117, 98]⟩ : SE), (⟨[108, 101, 115, 115]⟩ : SE), (⟨[114, 101, 97, 100]⟩ : SE), (⟨[119, 114, 105, 116, 101]⟩ : SE), (⟨[115, 107, 105, 112]⟩ : SE), (⟨[98, 101, 103, 105, 110]⟩ : SE), (⟨[101, 110, 100]⟩ : SE), (⟨[97, 98, 111, 114, 116]⟩ : SE), (⟨[102, 111, 114, 107]⟩ : SE), (⟨[112, 117, 116]⟩ : SE), (⟨[103, 101, 116]⟩ : SE), (⟨[100, 114, 111, 112]⟩ : SE), (⟨[98, 117, 109, 112]⟩ : SE), (⟨[99, 111, 117, 110, 116]⟩ : SE)] : List SE) := rfl
    rw [e2'] at e2 ⊢
    simp only [Option.bind_some] at e2 ⊢
    rw [e2]
    simp only [Option.bind_some]
    rcases nF_cases a with h | h | h | h
    · refine ⟨e.s, ?_, ?_, by omega⟩
      · have := p_loop F b c d 0 [] rfl (by simp) (by simp) hf F 0 e.s (by omega) (by simp) (by simp; omega)
        simp only [Int.natCast_zero, List.drop_zero, List.foldl_cons, List.foldl_nil] at this
        rw [h, if_pos (by simp), this, Option.bind_some]
      · rw [h, if_neg (show ¬ (0 : Int) < 0 by omega), Option.bind_some, if_neg (show ¬ (1 : Int) < 0 by omega), Option.bind_some, if_neg (show ¬ (2 : Int) < 0 by omega), Option.bind_some]
    · refine ⟨app e.s b, ?_, ?_, by omega⟩
      · have := p_loop F b c d 1 [b] rfl (by simpa using hb) (by simp) hf F 0 e.s (by omega) (by simp) (by simp; omega)
        simp only [Int.natCast_zero, List.drop_zero, List.foldl_cons, List.foldl_nil] at this
        rw [h, if_pos (by simp), this, Option.bind_some]
      · rw [h, if_pos (show (0 : Int) < 1 by omega), p_step F e.s b hb (by omega) hf, Option.bind_some, if_neg (show ¬ (1 : Int) < 1 by omega), Option.bind_some, if_neg (show ¬ (2 : Int) < 1 by omega), Option.bind_some]
    · refine ⟨app (app e.s b) c, ?_, ?_, by omega⟩
      · have := p_loop F b c d 2 [b, c] rfl (by simp; exact ⟨hb, hc⟩) (by simp) hf F 0 e.s (by omega) (by simp) (by simp; omega)
        simp only [Int.natCast_zero, List.drop_zero, List.foldl_cons, List.foldl_nil] at this
        rw [h, if_pos (by simp), this, Option.bind_some]
      · rw [h, if_pos (show (0 : Int) < 2 by omega), p_step F e.s b hb (by omega) hf, Option.bind_some, if_pos (show (1 : Int) < 2 by omega), p_step F _ c hc (by omega) hf, Option.bind_some, if_neg (show ¬ (2 : Int) < 2 by omega), Option.bind_some]
    · refine ⟨app (app (app e.s b) c) d, ?_, ?_, by omega⟩
      · have := p_loop F b c d 3 [b, c, d] rfl (by simp; exact ⟨hb, hc, hd⟩) (by simp) hf F 0 e.s (by omega) (by simp) (by simp; omega)
        simp only [Int.natCast_zero, List.drop_zero, List.foldl_cons, List.foldl_nil] at this
        rw [h, if_pos (by simp), this, Option.bind_some]
      · rw [h, if_pos (show (0 : Int) < 3 by omega), p_step F e.s b hb (by omega) hf, Option.bind_some, if_pos (show (1 : Int) < 3 by omega), p_step F _ c hc (by omega) hf, Option.bind_some, if_pos (show (2 : Int) < 3 by omega), p_step F _ d hd (by omega) hf, Option.bind_some]
  · exact ⟨[], by simp only [if_neg hop], by simp only [if_neg hop], by simp⟩
end Go.Proofs.Ytpbfppelmgjfpaa
