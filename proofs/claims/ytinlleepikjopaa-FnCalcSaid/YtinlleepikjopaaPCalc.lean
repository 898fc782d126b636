/- What the functions on operations do, in plain Lean; FnCalc. -/
import Derived.Test.YtinlleepikjopaaPu
import Derived.Test.YtinlleepikjopaaX2
import Derived.Laws.BitsLemmas
namespace Go.Proofs.Ytinlleepikjopaa
open Go Go.RowKit
set_option linter.unusedVariables false
set_option linter.unusedSimpArgs false



theorem p_within (fuel : Nat) (x lo hi : Int) : m_impl_within fuel x lo hi = some (inB x lo hi) := by
  unfold m_impl_within inB; split <;> simp_all <;> omega
theorem p_l1In (fuel : Nat) (x lo hi : Int) : m_spec_l1In fuel x lo hi = some (inB x lo hi) := by
  unfold m_spec_l1In inB; split <;> simp_all <;> omega
theorem p_isValue (fuel : Nat) (x : Int) : m_impl_isValue fuel x = some (inB x 0 65535) := by simp [m_impl_isValue, p_within]
theorem p_isCell (fuel : Nat) (x : Int) : m_impl_isCell fuel x = some (inB x 0 7) := by simp [m_impl_isCell, p_within]
theorem p_isKey (fuel : Nat) (x : Int) : m_impl_isKey fuel x = some (inB x 0 7) := by simp [m_impl_isKey, p_within]
theorem p_isReg (fuel : Nat) (x : Int) : m_impl_isReg fuel x = some (inB x 0 3) := by simp [m_impl_isReg, p_within]
theorem p_l3Val (fuel : Nat) (x : Int) : m_spec_l3Val fuel x = some (inB x 0 65535) := by simp [m_spec_l3Val, p_l1In]
theorem p_l3Cell (fuel : Nat) (x : Int) : m_spec_l3Cell fuel x = some (inB x 0 7) := by simp [m_spec_l3Cell, p_l1In]
theorem p_l4Reg (fuel : Nat) (x : Int) : m_spec_l4Reg fuel x = some (inB x 0 3) := by simp [m_spec_l4Reg, p_l1In]

/-! One operation. -/
def opB (a b c d : Int) : Bool :=
  if a = 1 then inB b 0 3 && inB c 0 65535 && decide (d = 0)
  else if a = 2 ∨ a = 3 ∨ a = 4 then inB b 0 3 && inB c 0 3 && inB d 0 3
  else if a = 5 then inB b 0 3 && inB c 0 7 && decide (d = 0)
  else if a = 6 then inB b 0 7 && inB c 0 3 && decide (d = 0)
  else if a = 7 then inB b 0 3 && inB c 1 20 && decide (d = 0)
  else if a = 8 ∨ a = 15 ∨ a = 16 then inB b 0 3 && decide (c = 0) && decide (d = 0)
  else if a = 9 ∨ a = 10 ∨ a = 11 then decide (b = 0) && decide (c = 0) && decide (d = 0)
  else if a = 12 then inB b 0 7 && inB c 0 3 && inB d 0 3
  else if a = 13 then inB b 0 3 && inB c 0 7 && decide (d = 0)
  else if a = 14 then inB b 0 7 && inB c 0 3 && decide (d = 0)
  else false
theorem p_SOpOk (fuel : Nat) (a b c d : Int) : m_spec_OpOk fuel a b c d = some (opB a b c d) := by
  unfold m_spec_OpOk opB
  simp only [p_l4Reg, p_l3Val, p_l3Cell, p_l1In, Option.bind_some]
  by_cases h1 : a = 1
  · simp only [h1, if_true]; cases inB b 0 3 <;> cases inB c 0 65535 <;> simp [contL]
  by_cases h2 : a = 2
  · subst h2; cases inB b 0 3 <;> cases inB c 0 3 <;> simp [contL]
  by_cases h3 : a = 3
  · subst h3; cases inB b 0 3 <;> cases inB c 0 3 <;> simp [contL]
  by_cases h4 : a = 4
  · subst h4; cases inB b 0 3 <;> cases inB c 0 3 <;> simp [contL]
  by_cases h5 : a = 5
  · subst h5; cases inB b 0 3 <;> cases inB c 0 7 <;> simp [contL]
  by_cases h6 : a = 6
  · subst h6; cases inB b 0 7 <;> cases inB c 0 3 <;> simp [contL]
  by_cases h7 : a = 7
  · subst h7; cases inB b 0 3 <;> cases inB c 1 20 <;> simp [contL]
  by_cases h8 : a = 8
  · subst h8; cases inB b 0 3 <;> by_cases hc : c = 0 <;> simp [contL, hc]
  by_cases h9 : a = 9
  · subst h9; by_cases hb : b = 0 <;> by_cases hc : c = 0 <;> simp [contL, hc, hb]
  by_cases h10 : a = 10
  · subst h10; by_cases hb : b = 0 <;> by_cases hc : c = 0 <;> simp [contL, hc, hb]
  by_cases h11 : a = 11
  · subst h11; by_cases hb : b = 0 <;> by_cases hc : c = 0 <;> simp [contL, hc, hb]
  by_cases h12 : a = 12
  · subst h12; cases inB b 0 7 <;> cases inB c 0 3 <;> simp [contL]
  by_cases h13 : a = 13
  · subst h13; cases inB b 0 3 <;> cases inB c 0 7 <;> simp [contL]
  by_cases h14 : a = 14
  · subst h14; cases inB b 0 7 <;> cases inB c 0 3 <;> simp [contL]
  by_cases h15 : a = 15
  · subst h15; cases inB b 0 3 <;> by_cases hc : c = 0 <;> simp [contL, hc]
  by_cases h16 : a = 16
  · subst h16; cases inB b 0 3 <;> by_cases hc : c = 0 <;> simp [contL, hc]
  simp [h1, h2, h3, h4, h5, h6, h7, h8, h9, h10, h11, h12, h13, h14, h15, h16, contL, un1]
theorem p_OpOk (fuel : Nat) (a b c d : Int) : m_impl_OpOk fuel a b c d = some (opB a b c d) := by
  rw [← p_SOpOk fuel a b c d]
  unfold m_impl_OpOk m_spec_OpOk
  simp only [p_isReg, p_isValue, p_isCell, p_isKey, p_within, p_l4Reg, p_l3Val, p_l3Cell, p_l1In]
def opC (o : I4) : Bool := opB o.a o.b o.c o.d
theorem opC7 {o : I4} (h : opC o = true) (h7 : o.a = 7) : 1 ≤ o.c ∧ o.c ≤ 20 := by
  simp [opC, opB, h7, inB] at h; omega
def tchF (a b c d : Int) : Int := if opB a b c d = true then (if a = 5 ∨ a = 6 then 1 else if a = 12 ∨ a = 13 ∨ a = 14 ∨ a = 15 ∨ a = 16 then 2 else 0) else 0
/-! Depths. -/
def opn (o : I4) : Int := if o.a = 8 then 1 else if o.a = 9 then -1 else 0
theorem opn_b (o : I4) : -1 ≤ opn o ∧ opn o ≤ 1 := by unfold opn; split <;> (try split) <;> omega
def dF (l : List I4) : Nat → Int
  | 0 => 0
  | n + 1 => dF l n + (match l[n]? with | some o => opn o | none => 0)
theorem dF_zero (l : List I4) : dF l 0 = 0 := rfl
theorem dF_succ {l : List I4} {n : Nat} (h : n < l.length) : dF l (n + 1) = dF l n + opn l[n] := by
  simp [dF, List.getElem?_eq_getElem h]
theorem dF_b (l : List I4) (n : Nat) : -(n : Int) ≤ dF l n ∧ dF l n ≤ (n : Int) := by
  induction n with
  | zero => simp [dF]
  | succ n ih =>
    rw [dF]
    cases h : l[n]? with
    | none => simp only []; omega
    | some o => have := opn_b o; simp only []; omega
/-- The first step of the reference's two: up where a block begins. -/
theorem s_up {a z : Int} (h1 : -1048578 ≤ z ∧ z ≤ 1048578) : (if a = 8 then (if in64 (z + 1) then some (z + 1) else none) else some z) = some (z + (if a = 8 then 1 else 0)) := by
  rw [if_pos (in64_of (by omega) (by omega) : in64 (z + 1))]; split <;> simp
theorem s_down {a z : Int} (h1 : -1048578 ≤ z ∧ z ≤ 1048578) : (if a = 9 then (if in64 (z - 1) then some (z - 1) else none) else some z) = some (z + (if a = 9 then -1 else 0)) := by
  rw [if_pos (in64_of (by omega) (by omega) : in64 (z - 1))]; split <;> simp <;> omega
theorem s_sum (o : I4) (z : Int) : z + (if o.a = 8 then 1 else 0) + (if o.a = 9 then -1 else 0) = z + opn o := by
  unfold opn; split <;> split <;> simp_all
theorem up_b (o : I4) (z : Int) : z ≤ z + (if o.a = 8 then 1 else 0) ∧ z + (if o.a = 8 then 1 else 0) ≤ z + 1 := by split <;> omega

/-! Code. -/
theorem dec_eq {p q : Prop} {a : Decidable p} {b : Decidable q} (h : p ↔ q) : @decide p a = @decide q b := decide_eq_decide.2 h
theorem dec_no {p : Prop} {a : Decidable p} (h : ¬ p) : @decide p a = false := decide_eq_false h
theorem dec_yes {p : Prop} {a : Decidable p} (h : p) : @decide p a = true := decide_eq_true h
def Al (n L : Nat) (P : Nat → Prop) : Prop := ∀ m, n ≤ m → m < L → P m
theorem al_end {n L : Nat} {P : Nat → Prop} (h : ¬ n < L) : Al n L P := fun m h1 h2 => absurd h2 (by omega)
theorem al_cons {n L : Nat} {P : Nat → Prop} (h : n < L) : Al n L P ↔ (P n ∧ Al (n + 1) L P) :=
  ⟨fun H => ⟨H n (Nat.le_refl _) h, fun m h1 h2 => H m (by omega) h2⟩, fun H m h1 h2 => by
    by_cases e : m = n
    · subst e; exact H.1
    · exact H.2 m (by omega) h2⟩
def Bal (x : List I4) : Prop := Al 0 x.length (fun m => 0 ≤ dF x (m + 1)) ∧ dF x x.length = 0
/-- What a jump passes over, in the reference: the same balance, of a part. -/
theorem subl_len {x : List I4} {i j : Nat} (h : i ≤ j) (hj : j ≤ x.length) : (subl x (i : Int) (j : Int)).length = j - i := by simp [subl]; omega
theorem subl_at {x : List I4} {i j n : Nat} (hj : j ≤ x.length) (h : i + n < j) : (subl x (i : Int) (j : Int))[n]? = x[i + n]? := by
  simp only [subl, Int.toNat_natCast]
  rw [List.getElem?_take_of_lt (by omega), List.getElem?_drop]
/-- Whether a jump's part is well within the code and balanced. -/
def SkipOk (x : List I4) (n : Nat) (c : Int) : Prop := (n : Int) + 1 + c ≤ (x.length : Int) ∧ Bal (subl x ((n + 1 : Nat) : Int) ((n : Int) + 1 + c))
def fF (l : List I4) : Nat → Int
  | 0 => 0
  | n + 1 => fF l n + (match l[n]? with | some o => if o.a = 11 then 1 else 0 | none => 0)
theorem fF_zero (l : List I4) : fF l 0 = 0 := rfl
theorem fF_succ {l : List I4} {n : Nat} (h : n < l.length) : fF l (n + 1) = fF l n + (if l[n].a = 11 then 1 else 0) := by
  simp [fF, List.getElem?_eq_getElem h]
theorem fF_b (l : List I4) (n : Nat) : 0 ≤ fF l n ∧ fF l n ≤ (n : Int) := by
  induction n with
  | zero => simp [fF]
  | succ n ih =>
    rw [fF]
    cases h : l[n]? with
    | none => simp only []; omega
    | some o => simp only []; split <;> omega
def CodeS (x : List I4) (n : Nat) (o : I4) : Prop := opC o = true ∧ (o.a = 7 → SkipOk x n o.c) ∧ (o.a = 11 → fF x (n + 1) ≤ 1 ∧ dF x n = 0)
def CodeP (x : List I4) : Prop := x.length ≤ 24 ∧ Bal x ∧ Al 0 x.length fun m => ∀ h : m < x.length, CodeS x m x[m]
/-- The reference's one pass: each operation, and no more ends than beginnings so far. -/
def CodeT (x : List I4) (n : Nat) : Prop := (∀ h : n < x.length, CodeS x n x[n]) ∧ 0 ≤ dF x (n + 1)


/-! Children. -/
def kidO (o : I4) : Bool := !decide (o.a = 11) && !decide (tchF o.a o.b o.c o.d = 2)
def forkB (x : List I4) : Bool := !(x.all fun o => !decide (o.a = 11))
theorem kid_all (x : List I4) : x.all kidO = (!forkB x && x.all fun o => !decide (tchF o.a o.b o.c o.d = 2)) := by
  unfold forkB
  rw [Bool.not_not]
  induction x with
  | nil => rfl
  | cons o x ih =>
    rw [List.all_cons, List.all_cons, List.all_cons, ih, kidO]
    cases decide (o.a = 11) <;> cases decide (tchF o.a o.b o.c o.d = 2) <;> simp
open Classical in
noncomputable def kidB (x : List I4) : Bool := decide (CodeP x) && x.all kidO
/-! Results. -/
def valsB (l : List Int) : Bool := l.all fun x => inB x 0 65535
theorem p_areValues_L (fuel : Nat) (x : List Int) (hl : x.length ≤ 4611686018427387904) : ∀ K n, n ≤ x.length → x.length < n + K →
    m_impl_areValues_L0 fuel x K (n : Int) = some (if valsB (x.drop n) = true then .brk () else .ret false) := by
  intro K
  induction K with
  | zero => intro n h1 h2; omega
  | succ K ih =>
    intro n h1 h2
    rw [m_impl_areValues_L0]
    by_cases h : n < x.length
    · rw [drop_cons h]
      have := ih (n + 1) (by omega) (by omega)
      simp only [if_pos (lt_cast h), at?_lt h, Option.bind_some, p_isValue, if_pos (in64_succ h (show x.length ≤ _ by omega)), valsB, List.all_cons]
      by_cases e : inB x[n] 0 65535 = true
      · simp only [e, if_true, Bool.true_and]; exact this
      · simp [Bool.eq_false_iff.2 e]
    · rw [if_neg (ge_cast h), drop_end h]; rfl
theorem p_areValues (fuel : Nat) (x : List Int) (n : Int) (hl : x.length ≤ 4611686018427387904) (hf : x.length < fuel) : m_impl_areValues fuel x n = some (valsB x && decide ((x.length : Int) = n)) := by
  unfold m_impl_areValues
  have := p_areValues_L fuel x hl fuel 0 (by omega) (by omega)
  simp only [List.drop_zero] at this
  erw [this]
  cases valsB x <;> simp [contL, un1]
theorem p_l4Regs_L (fuel : Nat) (x : List Int) (hl : x.length ≤ 4611686018427387904) : ∀ K n, n ≤ x.length → x.length < n + K →
    m_spec_l4Regs_L0 fuel x K (n : Int) = some (if valsB (x.drop n) = true then .brk () else .ret false) := by
  intro K
  induction K with
  | zero => intro n h1 h2; omega
  | succ K ih =>
    intro n h1 h2
    rw [m_spec_l4Regs_L0]
    by_cases h : n < x.length
    · rw [drop_cons h]
      have := ih (n + 1) (by omega) (by omega)
      simp only [if_pos (lt_cast h), at?_lt h, Option.bind_some, p_l3Val, if_pos (in64_succ h (show x.length ≤ _ by omega)), valsB, List.all_cons]
      by_cases e : inB x[n] 0 65535 = true
      · simp only [e, if_true, Bool.true_and]; exact this
      · simp [Bool.eq_false_iff.2 e]
    · rw [if_neg (ge_cast h), drop_end h]; rfl
theorem p_l4Regs (fuel : Nat) (x : List Int) (hl : x.length ≤ 4611686018427387904) (hf : x.length < fuel) : m_spec_l4Regs fuel x = some (valsB x && decide ((x.length : Int) = 4)) := by
  unfold m_spec_l4Regs
  have := p_l4Regs_L fuel x hl fuel 0 (by omega) (by omega)
  simp only [List.drop_zero] at this
  by_cases h8 : (x.length : Int) = 4
  · rw [if_pos h8]
    erw [this]
    cases valsB x <;> simp [contL, un1, h8]
  · rw [if_neg h8]; simp [h8]
theorem val_at {x : List Int} {i : Int} (hv : valsB x = true) (h4 : x.length = 4) (hi : inB i 0 3 = true) : ∃ v, at? x i = some v ∧ 0 ≤ v ∧ v ≤ 65535 := by
  rw [inB_true] at hi
  obtain ⟨v, h⟩ := at?_some_iff (l := x) (i := i) (by omega)
  obtain ⟨h0, h1⟩ := at?_some h
  have := List.all_eq_true.1 hv v (List.mem_of_getElem? h1)
  exact ⟨v, h, inB_true.1 this⟩
theorem at_setI {l : List Int} {i x y : Int} (h : at? l i = some x) : at? (l.set i.toNat y) i = some y := by
  obtain ⟨h0, h1⟩ := at?_some h
  unfold at?
  rw [if_pos h0, List.getElem?_set_self (List.getElem?_eq_some_iff.1 h1).1]
theorem s_Calc (fuel : Nat) (a b c d : Int) (x : List Int) (hl : x.length ≤ 1048576) (hf : x.length < fuel) :
    ∃ l' r, m_impl_Calc fuel a b c d x = some (l', r) ∧ m_spec_Calc fuel a b c d x = some (l', r) ∧ l'.length = x.length := by
  unfold m_impl_Calc m_spec_Calc m_impl_copyInts
  rw [if_pos (show ([] : List Int).length + x.length ≤ 17179869184 by simp; omega), if_pos (show ([] : List Int).length + x.length ≤ 17179869184 by simp; omega)]
  simp only [p_OpOk, p_SOpOk, p_areValues fuel x _ (by omega) hf, p_l4Regs fuel x (by omega) hf, Option.bind_some, List.nil_append]
  by_cases hop : opB a b c d = true
  · simp only [if_pos hop]
    by_cases h4 : 4 < a
    · simp only [if_pos h4]
      by_cases hv : (valsB x && decide ((x.length : Int) = 4)) = true
      · simp only [if_pos hv]; exact ⟨_, _, rfl, rfl, rfl⟩
      · simp only [if_neg hv]; exact ⟨_, _, rfl, rfl, rfl⟩
    · simp only [if_neg h4]
      by_cases hv : (valsB x && decide ((x.length : Int) = 4)) = true
      · simp only [if_pos hv]
        simp only [Bool.and_eq_true, decide_eq_true_eq] at hv
        by_cases h1 : a = 1
        · subst h1
          simp [opB] at hop
          obtain ⟨v, hb, _, _⟩ := val_at hv.1 (by omega) hop.1.1
          simp only [if_true, hb, Option.bind_some]
          exact ⟨_, _, rfl, rfl, by simp⟩
        · have hr : (inB b 0 3 = true ∧ inB c 0 3 = true) ∧ inB d 0 3 = true := by
            by_cases h2 : a = 2
            · subst h2; simp [opB] at hop; exact hop
            by_cases h3 : a = 3
            · subst h3; simp [opB] at hop; exact hop
            by_cases h4' : a = 4
            · subst h4'; simp [opB] at hop; exact hop
            · exfalso; simp only [opB] at hop
              simp only [if_neg h1, if_neg (show ¬ (a = 2 ∨ a = 3 ∨ a = 4) by omega), if_neg (show ¬ a = 5 by omega), if_neg (show ¬ a = 6 by omega), if_neg (show ¬ a = 7 by omega), if_neg (show ¬ (a = 8 ∨ a = 15 ∨ a = 16) by omega), if_neg (show ¬ (a = 9 ∨ a = 10 ∨ a = 11) by omega), if_neg (show ¬ a = 12 by omega), if_neg (show ¬ a = 13 by omega), if_neg (show ¬ a = 14 by omega)] at hop
              cases hop
          obtain ⟨u, hb, _, _⟩ := val_at hv.1 (by omega) hr.1.1
          obtain ⟨v, hc, _, _⟩ := val_at hv.1 (by omega) hr.1.2
          obtain ⟨w, hd, _, _⟩ := val_at hv.1 (by omega) hr.2
          have i1 : in64 (v + w) := in64_of (by omega) (by omega)
          have i2 : in64 (v - w) := in64_of (by omega) (by omega)
          have i3 : in64 (v - w + 65536) := in64_of (by omega) (by omega)
          have nz : (65536 : Int) ≠ 0 := by decide
          simp only [if_neg h1, hb, hc, hd, Option.bind_some, if_pos i1, if_pos i2, if_pos i3, if_pos nz, at_setI hb]
          by_cases h2 : a = 2
          · simp only [if_pos h2, Option.bind_some]; exact ⟨_, _, rfl, rfl, by simp⟩
          · by_cases h3 : a = 3
            · simp only [if_neg h2, if_pos h3, Option.bind_some]; exact ⟨_, _, rfl, rfl, by simp⟩
            · simp only [if_neg h2, if_neg h3]
              by_cases hvw : v < w
              · simp only [if_pos hvw, Option.bind_some]; exact ⟨_, _, rfl, rfl, by simp⟩
              · simp only [if_neg hvw, Option.bind_some]; exact ⟨_, _, rfl, rfl, by simp⟩
      · simp only [if_neg hv]; exact ⟨_, _, rfl, rfl, rfl⟩
  · simp only [if_neg hop]; exact ⟨_, _, rfl, rfl, rfl⟩



theorem and_b (x : Int) (M : Nat) (hM : M < 4611686018427387904) : 0 ≤ bits .and .i64 x (M : Int) ∧ bits .and .i64 x (M : Int) ≤ (M : Int) := by
  have h := Nat.and_le_right (n := (BitVec.ofInt 64 x).toNat) (m := M % 2 ^ 64)
  have e : bits .and .i64 x (M : Int) = IntKind.i64.wrap (((BitVec.ofInt 64 x).toNat &&& (M % 2 ^ 64) : Nat) : Int) := by
    show IntKind.i64.wrap (((BitVec.ofInt 64 x &&& BitVec.ofInt 64 (M : Int)).toNat : Nat) : Int) = _
    rw [BitVec.toNat_and, BitVec.ofInt_natCast, BitVec.toNat_ofNat]
  rw [e, IntKind.wrap_i64]
  have : M % 2 ^ 64 = M := Nat.mod_eq_of_lt (by omega)
  rw [this] at h ⊢
  omega
theorem p_l1New_L (fuel : Nat) (x : List UInt8) (hl : x.length ≤ 1048576) : ∀ K n (s : Int), 0 ≤ s ∧ s ≤ 4611686018427 → n ≤ x.length → x.length < n + K →
    ∃ s', m_spec_l1New_L0 fuel x K s (n : Int) = some s' := by
  intro K
  induction K with
  | zero => intro n s hs h1 h2; omega
  | succ K ih =>
    intro n s hs h1 h2
    rw [m_spec_l1New_L0]
    by_cases h : n < x.length
    · by_cases h4 : (n : Int) < 4000
      · have hb : ((x[n].toNat : Nat) : Int) < 256 := by have := x[n].toNat_lt; omega
        have i1 : in64 (s * 131) := in64_of (by omega) (by omega)
        have i2 : in64 (s * 131 + (x[n].toNat : Int)) := in64_of (by omega) (by omega)
        have i3 : in64 (s * 131 + (x[n].toNat : Int) + 7) := in64_of (by omega) (by omega)
        simp only [if_pos (lt_cast h), if_pos h4, at?_lt h, Option.bind_some, if_pos i1, if_pos i2, if_pos i3, if_pos (in64_succ h (show x.length ≤ _ by omega))]
        have := and_b (s * 131 + (x[n].toNat : Int) + 7) 1073741823 (by omega)
        exact ih (n + 1) _ ⟨this.1, Int.le_trans this.2 (by omega)⟩ (by omega) (by omega)
      · simp only [if_pos (lt_cast h), if_neg h4]; exact ⟨_, rfl⟩
    · simp only [if_neg (ge_cast h)]; exact ⟨_, rfl⟩
theorem p_l1New (fuel : Nat) (x : List UInt8) (hl : x.length ≤ 1048576) (hf : x.length < fuel) : ∃ s, m_spec_l1New fuel x = some (0, s) := by
  unfold m_spec_l1New
  rw [if_pos (in64_of (by omega) (by omega))]
  obtain ⟨s, h⟩ := p_l1New_L fuel x hl fuel 0 (10101 + (x.length : Int)) (by omega) (by omega) (by omega)
  exact ⟨s, by erw [h]; rfl⟩
theorem p_l1Byte (fuel : Nat) (x : List UInt8) (p s : Int) (hl : x.length ≤ 1048576) (hp : 0 ≤ p) : ∃ b p' s', m_spec_l1Byte fuel x p s = some (b, p', s') ∧ 0 ≤ b ∧ b ≤ 255 ∧ 0 ≤ p' := by
  unfold m_spec_l1Byte
  by_cases h : p < (x.length : Int)
  · obtain ⟨v, hv⟩ := at?_some_iff (l := x) (i := p) ⟨hp, h⟩
    simp only [if_pos h, hv, Option.bind_some, bind3]
    refine ⟨_, _, _, rfl, (and_b _ 255 (by omega)).1, (and_b _ 255 (by omega)).2, ?_⟩
    rw [IntKind.wrap_i64]; omega
  · simp only [if_neg h, Option.bind_some, bind3]
    exact ⟨_, _, _, rfl, (and_b _ 255 (by omega)).1, (and_b _ 255 (by omega)).2, hp⟩
theorem p_l1Below (fuel : Nat) (x : List UInt8) (p s n : Int) (hl : x.length ≤ 1048576) (hp : 0 ≤ p) : ∃ v p' s', m_spec_l1Below fuel x p s n = some (v, p', s') ∧ 0 ≤ v ∧ (0 < n → v < n) ∧ (n ≤ 0 → v = 0) ∧ 0 ≤ p' := by
  unfold m_spec_l1Below
  by_cases h0 : n ≤ 0
  · rw [if_pos h0]; exact ⟨_, _, _, rfl, Int.le_refl _, fun q => by omega, fun _ => rfl, hp⟩
  · rw [if_neg h0]
    have hn : (n : Int) ≠ 0 := by omega
    by_cases h1 : n ≤ 256
    · rw [if_pos h1]
      obtain ⟨b, p1, s1, e1, b1, b2, b3⟩ := p_l1Byte fuel x p s hl hp
      simp only [e1, bind3, Option.bind_some, if_pos hn]
      exact ⟨_, _, _, rfl, by rw [Int.tmod_eq_emod_of_nonneg b1]; exact Int.emod_nonneg _ hn, fun _ => by rw [Int.tmod_eq_emod_of_nonneg b1]; exact Int.emod_lt_of_pos _ (by omega), fun q => by omega, b3⟩
    · rw [if_neg h1]
      obtain ⟨b, p1, s1, e1, b1, b2, b3⟩ := p_l1Byte fuel x p s hl hp
      obtain ⟨c, p2, s2, e2, c1, c2, c3⟩ := p_l1Byte fuel x p1 s1 hl b3
      obtain ⟨d, p3, s3, e3, d1, d2, d3⟩ := p_l1Byte fuel x p2 s2 hl c3
      obtain ⟨e, p4, s4, e4, f1, f2, f3⟩ := p_l1Byte fuel x p3 s3 hl d3
      have i1 : in64 (b * 16777216) := in64_of (by omega) (by omega)
      have i2 : in64 (c * 65536) := in64_of (by omega) (by omega)
      have i3 : in64 (b * 16777216 + c * 65536) := in64_of (by omega) (by omega)
      have i4 : in64 (d * 256) := in64_of (by omega) (by omega)
      have i5 : in64 (b * 16777216 + c * 65536 + d * 256) := in64_of (by omega) (by omega)
      have i6 : in64 (b * 16777216 + c * 65536 + d * 256 + e) := in64_of (by omega) (by omega)
      simp only [e1, e2, e3, e4, bind3, Option.bind_some, if_pos i1, if_pos i2, if_pos i3, if_pos i4, if_pos i5, if_pos i6, if_pos hn]
      have hz : 0 ≤ b * 16777216 + c * 65536 + d * 256 + e := by omega
      exact ⟨_, _, _, rfl, by rw [Int.tmod_eq_emod_of_nonneg hz]; exact Int.emod_nonneg _ hn, fun _ => by rw [Int.tmod_eq_emod_of_nonneg hz]; exact Int.emod_lt_of_pos _ (by omega), fun q => by omega, f3⟩
theorem p_l1Once (fuel : Nat) (x : List UInt8) (p s n : Int) (hl : x.length ≤ 1048576) (hp : 0 ≤ p) : ∃ v p' s', m_spec_l1Once fuel x p s n = some (v, p', s') ∧ 0 ≤ p' := by
  obtain ⟨v, p', s', e, h1, h2, h3, h4⟩ := p_l1Below fuel x p s n hl hp
  exact ⟨decide (v = 0), p', s', by simp only [m_spec_l1Once, e, bind3, Option.bind_some], h4⟩
theorem p_l1PickInt (fuel : Nat) (x : List UInt8) (p s : Int) (l : List Int) (hl : x.length ≤ 1048576) (hp : 0 ≤ p) (hn : 0 < l.length) : ∃ v p' s', m_spec_l1PickInt fuel x p s l = some (v, p', s') ∧ v ∈ l ∧ 0 ≤ p' := by
  obtain ⟨v, p', s', e, h1, h2, h3, h4⟩ := p_l1Below fuel x p s (l.length : Int) hl hp
  obtain ⟨u, hu⟩ := at?_some_iff (l := l) (i := v) ⟨h1, h2 (by omega)⟩
  exact ⟨u, p', s', by simp only [m_spec_l1PickInt, e, bind3, Option.bind_some, hu], List.mem_of_getElem? (at?_some hu).2, h4⟩


/-! FnCalc: its draws, and what it says. -/
theorem t_sameInts_L (F : Nat) (x : List Int) (hl : x.length ≤ 1048576) : ∀ K n, n ≤ x.length → x.length < n + K → m_laws_sameInts_L0 F x x K (n : Int) = some (.brk ()) := by
  intro K
  induction K with
  | zero => intro n h1 h2; omega
  | succ K ih =>
    intro n h1 h2
    rw [m_laws_sameInts_L0]
    by_cases h : n < x.length
    · simp only [if_pos (lt_cast h), at?_lt h, Option.bind_some, if_true, if_pos (in64_succ h (show x.length ≤ _ by omega))]
      exact ih (n + 1) (by omega) (by omega)
    · rw [if_neg (ge_cast h)]
theorem t_sameInts (F : Nat) (x : List Int) (hl : x.length ≤ 8) (hf : 8 < F) : m_laws_sameInts F x x = some true := by
  unfold m_laws_sameInts
  have := t_sameInts_L F x (by omega) F 0 (by omega) (by omega)
  rw [if_pos rfl]
  erw [this]; rfl
theorem d_Draw (F : Nat) (x : List UInt8) (p s : Int) (hl : x.length ≤ 1048576) (hp : 0 ≤ p) : ∃ v p' s', m_spec_l3Draw F x p s = some (v, p', s') ∧ 0 ≤ p' := by
  unfold m_spec_l3Draw
  obtain ⟨a, p1, s1, e1, h1⟩ := p_l1Once F x p s 6 hl hp
  simp only [e1, bind3, Option.bind_some]
  by_cases h : a = true
  · obtain ⟨v, p2, s2, e2, _, h2⟩ := p_l1PickInt F x p1 s1 [0, 65535, 65534, 256] hl h1 (by decide)
    exact ⟨v, p2, s2, by simp only [if_pos h, e2, Option.bind_some], h2⟩
  · obtain ⟨v, p2, s2, e2, _, _, _, h2⟩ := p_l1Below F x p1 s1 9 hl h1
    exact ⟨v, p2, s2, by simp only [if_neg h, e2, Option.bind_some], h2⟩

def T3 (o : Option (Int × Int × Int)) : Prop := ∃ v p s, o = some (v, p, s) ∧ 0 ≤ p
def T5 (o : Option (Int × Int × Int × Int × Int)) : Prop := ∃ a b c p s, o = some (a, b, c, p, s) ∧ 0 ≤ p
def T6 (o : Option (Int × Int × Int × Int × Int × Int)) : Prop := ∃ a b c d p s, o = some (a, b, c, d, p, s) ∧ 0 ≤ p
def U6 (o : Option (Int × Int × Int × Int × Int × Int)) : Prop := ∃ p s a b c d, o = some (p, s, a, b, c, d) ∧ 0 ≤ p
theorem p_TouchesI (fuel : Nat) (a b c d : Int) : m_impl_Touches fuel a b c d = some (tchF a b c d) := by
  unfold m_impl_Touches tchF
  simp only [p_OpOk, Option.bind_some]
  by_cases h : opB a b c d = true
  · simp only [h, if_true]
    by_cases h5 : a = 5
    · subst h5; simp [contL]
    by_cases h6 : a = 6
    · subst h6; simp [contL]
    by_cases h12 : a = 12
    · subst h12; simp [contL]
    by_cases h13 : a = 13
    · subst h13; simp [contL]
    by_cases h14 : a = 14
    · subst h14; simp [contL]
    by_cases h15 : a = 15
    · subst h15; simp [contL]
    by_cases h16 : a = 16
    · subst h16; simp [contL]
    simp [h5, h6, h12, h13, h14, h15, h16, contL, un1]
  · simp [h]
theorem bind3_eq {α1 α2 α3 β : Type} {o : Option (α1 × α2 × α3)} {a : α1} {b : α2} {c : α3} (e : o = some (a, b, c)) (f : α1 → α2 → α3 → Option β) : bind3 o f = f a b c := by rw [e]; rfl
theorem bind2_eq {α1 α2 β : Type} {o : Option (α1 × α2)} {a : α1} {b : α2} (e : o = some (a, b)) (f : α1 → α2 → Option β) : bind2 o f = f a b := by rw [e]; rfl
theorem tb3 {β : Type} {o : Option (Int × Int × Int)} {f : Int → Int → Int → Option β} {Q : Option β → Prop} (h : T3 o) (k : ∀ v p s, 0 ≤ p → Q (f v p s)) : Q (bind3 o f) := by
  obtain ⟨v, p, s, e, hp⟩ := h; rw [e]; exact k v p s hp
theorem tb3o {β : Type} {o : Option (Bool × Int × Int)} {f : Bool → Int → Int → Option β} {Q : Option β → Prop} (h : ∃ v p s, o = some (v, p, s) ∧ 0 ≤ p) (k : ∀ v p s, 0 ≤ p → Q (f v p s)) : Q (bind3 o f) := by
  obtain ⟨v, p, s, e, hp⟩ := h; rw [e]; exact k v p s hp
theorem tb5 {β : Type} {o : Option (Int × Int × Int × Int × Int)} {f : Int → Int → Int → Int → Int → Option β} {Q : Option β → Prop} (h : T5 o) (k : ∀ a b c p s, 0 ≤ p → Q (f a b c p s)) : Q (bind5 o f) := by
  obtain ⟨a, b, c, p, s, e, hp⟩ := h; rw [e]; exact k a b c p s hp
theorem tb6 {β : Type} {o : Option (Int × Int × Int × Int × Int × Int)} {f : Int → Int → Int → Int → Int → Int → Option β} {Q : Option β → Prop} (h : T6 o) (k : ∀ a b c d p s, 0 ≤ p → Q (f a b c d p s)) : Q (bind6 o f) := by
  obtain ⟨a, b, c, d, p, s, e, hp⟩ := h; rw [e]; exact k a b c d p s hp
theorem tu6 {β : Type} {o : Option (Int × Int × Int × Int × Int × Int)} {f : Int → Int → Int → Int → Int → Int → Option β} {Q : Option β → Prop} (h : U6 o) (k : ∀ p s a b c d, 0 ≤ p → Q (f p s a b c d)) : Q (bind6 o f) := by
  obtain ⟨p, s, a, b, c, d, e, hp⟩ := h; rw [e]; exact k p s a b c d hp
theorem tbB {β : Type} {o : Option Bool} {f : Bool → Option β} {Q : Option β → Prop} (h : ∃ b, o = some b) (k : ∀ b, Q (f b)) : Q (o.bind f) := by
  obtain ⟨b, e⟩ := h; rw [e]; exact k b
section
variable (F : Nat) (x : List UInt8) (hl : x.length ≤ 1048576)
include hl
theorem c_Below (p s n : Int) (hp : 0 ≤ p) : T3 (m_spec_l1Below F x p s n) := by
  obtain ⟨v, p', s', e, _, _, _, h⟩ := p_l1Below F x p s n hl hp
  exact ⟨v, p', s', e, h⟩
theorem c_Pick (p s : Int) (l : List Int) (hn : 0 < l.length) (hp : 0 ≤ p) : T3 (m_spec_l1PickInt F x p s l) := by
  obtain ⟨v, p', s', e, _, h⟩ := p_l1PickInt F x p s l hl hp hn
  exact ⟨v, p', s', e, h⟩
theorem c_Draw (p s : Int) (hp : 0 ≤ p) : T3 (m_spec_l3Draw F x p s) := d_Draw F x p s hl hp
theorem c_Reg (p s : Int) (hp : 0 ≤ p) : T3 (m_spec_l4DrawReg F x p s) := by
  unfold m_spec_l4DrawReg
  exact tb3 (c_Below F x hl p s 4 hp) fun v p s hp => ⟨v, p, s, rfl, hp⟩
theorem c_Cell (p s : Int) (hp : 0 ≤ p) : T3 (m_spec_l4DrawCell F x p s) := by
  unfold m_spec_l4DrawCell
  refine tb3o (p_l1Once F x p s 8 hl hp) fun v p s hp => ?_
  split
  · exact tb3 (c_Below F x hl p s 8 hp) fun v p s hp => ⟨v, p, s, rfl, hp⟩
  · exact tb3 (c_Below F x hl p s 3 hp) fun v p s hp => ⟨v, p, s, rfl, hp⟩
theorem c_Key (p s : Int) (hp : 0 ≤ p) : T3 (m_spec_l4DrawKey F x p s) := by
  unfold m_spec_l4DrawKey
  refine tb3o (p_l1Once F x p s 4 hl hp) fun v p s hp => ?_
  split
  · exact tb3 (c_Below F x hl p s 8 hp) fun v p s hp => ⟨v, p, s, rfl, hp⟩
  · exact tb3 (c_Pick F x hl p s _ (by decide) hp) fun v p s hp => ⟨v, p, s, rfl, hp⟩
theorem c_Plain (p s o : Int) (hp : 0 ≤ p) : T6 (m_spec_l4Plain F x p s o) := by
  unfold m_spec_l4Plain
  refine tb5 ?_ fun a b c p s hp => ⟨_, _, _, _, _, _, rfl, hp⟩
  by_cases h1 : o = 1
  · rw [if_pos h1]
    exact tb3 (c_Reg F x hl p s hp) fun a p s hp => tb3 (c_Draw F x hl p s hp) fun b p s hp => ⟨_, _, _, _, _, rfl, hp⟩
  rw [if_neg h1]
  refine tbB (by split <;> (try split) <;> exact ⟨_, rfl⟩) fun b => ?_
  by_cases h2 : b = true
  · rw [if_pos h2]
    exact tb3 (c_Reg F x hl p s hp) fun a p s hp => tb3 (c_Reg F x hl p s hp) fun b p s hp => tb3 (c_Reg F x hl p s hp) fun c p s hp => ⟨_, _, _, _, _, rfl, hp⟩
  rw [if_neg h2]
  by_cases h5 : o = 5
  · rw [if_pos h5]
    exact tb3 (c_Reg F x hl p s hp) fun a p s hp => tb3 (c_Cell F x hl p s hp) fun b p s hp => ⟨_, _, _, _, _, rfl, hp⟩
  rw [if_neg h5]
  by_cases h6 : o = 6
  · rw [if_pos h6]
    exact tb3 (c_Cell F x hl p s hp) fun a p s hp => tb3 (c_Reg F x hl p s hp) fun b p s hp => ⟨_, _, _, _, _, rfl, hp⟩
  rw [if_neg h6]
  by_cases h7 : o = 7
  · rw [if_pos h7]
    refine tb3 (c_Reg F x hl p s hp) fun a p s hp => ?_
    obtain ⟨v, p', s', e, v1, v2, _, h⟩ := p_l1Below F x p s 3 hl hp
    have v3 := v2 (by omega)
    rw [bind3_eq e, if_pos (in64_of (by omega) (by omega))]
    exact ⟨_, _, _, _, _, rfl, h⟩
  rw [if_neg h7]
  refine tbB (by split <;> (try split) <;> exact ⟨_, rfl⟩) fun b => ?_
  by_cases h8 : b = true
  · rw [if_pos h8]
    exact tb3 (c_Reg F x hl p s hp) fun a p s hp => ⟨_, _, _, _, _, rfl, hp⟩
  rw [if_neg h8]
  by_cases h12 : o = 12
  · rw [if_pos h12]
    exact tb3 (c_Key F x hl p s hp) fun a p s hp => tb3 (c_Reg F x hl p s hp) fun b p s hp => tb3 (c_Reg F x hl p s hp) fun c p s hp => ⟨_, _, _, _, _, rfl, hp⟩
  rw [if_neg h12]
  by_cases h13 : o = 13
  · rw [if_pos h13]
    exact tb3 (c_Reg F x hl p s hp) fun a p s hp => tb3 (c_Key F x hl p s hp) fun b p s hp => ⟨_, _, _, _, _, rfl, hp⟩
  rw [if_neg h13]
  by_cases h14 : o = 14
  · rw [if_pos h14]
    exact tb3 (c_Key F x hl p s hp) fun a p s hp => tb3 (c_Reg F x hl p s hp) fun b p s hp => ⟨_, _, _, _, _, rfl, hp⟩
  rw [if_neg h14]
  exact ⟨_, _, _, _, _, rfl, hp⟩
theorem c_Any (p s : Int) (hp : 0 ≤ p) : T6 (m_spec_l4Any F x p s) := by
  unfold m_spec_l4Any
  obtain ⟨v, p', s', e, v1, v2, _, h⟩ := p_l1Below F x p s 16 hl hp
  have v3 := v2 (by omega)
  rw [bind3_eq e, if_pos (in64_of (by omega) (by omega))]
  refine tb6 (c_Plain F x hl p' s' (1 + v) h) fun a b c d p s hp => ?_
  refine tb6 ?_ fun a b c d p s hp => ⟨_, _, _, _, _, _, rfl, hp⟩
  refine tb3 (c_Below F x hl p s 16 hp) fun o p s hp => ?_
  by_cases h0 : o = 0
  · rw [if_pos h0]; exact tb3 (c_Pick F x hl p s _ (by decide) hp) fun v p s hp => ⟨_, _, _, _, _, _, rfl, hp⟩
  rw [if_neg h0]
  by_cases h1 : o = 1
  · rw [if_pos h1]; exact tb3 (c_Pick F x hl p s _ (by decide) hp) fun v p s hp => ⟨_, _, _, _, _, _, rfl, hp⟩
  rw [if_neg h1]
  by_cases h2 : o = 2
  · rw [if_pos h2]; exact tb3 (c_Pick F x hl p s _ (by decide) hp) fun v p s hp => ⟨_, _, _, _, _, _, rfl, hp⟩
  rw [if_neg h2]
  by_cases h3 : o = 3
  · rw [if_pos h3]; exact tb3 (c_Pick F x hl p s _ (by decide) hp) fun v p s hp => ⟨_, _, _, _, _, _, rfl, hp⟩
  rw [if_neg h3]
  exact ⟨_, _, _, _, _, _, rfl, hp⟩
def TC (o : Option (Int × Int × Int × Int × List Int)) : Prop := ∃ a b c d l, o = some (a, b, c, d, l) ∧ l.length ≤ 4
theorem c_Calc (hx : x.length < F) : TC (m_spec_DrawCalc F x) := by
  unfold m_spec_DrawCalc
  obtain ⟨s0, e0⟩ := p_l1New F x hl hx
  obtain ⟨v, p', s', e, v1, v2, _, h⟩ := p_l1Below F x 0 s0 4 hl (Int.le_refl _)
  have v3 := v2 (by omega)
  rw [bind2_eq e0, bind3_eq e, if_pos (in64_of (by omega) (by omega))]
  refine tb6 (c_Plain F x hl p' s' (1 + v) h) fun a b c d p s hp => ?_
  refine tu6 ?_ fun p s a b c d hp => ?_
  · refine tb3o (p_l1Once F x p s 6 hl hp) fun o p s hp => ?_
    split
    · exact tb6 (c_Any F x hl p s hp) fun a b c d p s hp => ⟨_, _, _, _, _, _, rfl, hp⟩
    · exact ⟨_, _, _, _, _, _, rfl, hp⟩
  refine tb3 (c_Draw F x hl p s hp) fun r1 p s hp => tb3 (c_Draw F x hl p s hp) fun r2 p s hp => tb3 (c_Draw F x hl p s hp) fun r3 p s hp => tb3 (c_Draw F x hl p s hp) fun r4 p s hp => ?_
  obtain ⟨o, p1, s1, e1, _, _, _, h1⟩ := p_l1Below F x p s 12 hl hp
  rw [bind3_eq e1]
  by_cases h0 : o = 0
  · rw [if_pos h0, if_pos (by simp)]
    exact ⟨_, _, _, _, _, rfl, by simp [subl]⟩
  rw [if_neg h0]
  by_cases h2 : o = 1
  · rw [if_pos h2]
    obtain ⟨i, p2, s2, e2, i1, i2, _, h3⟩ := p_l1Below F x p1 s1 4 hl h1
    have i3 := i2 (by omega)
    obtain ⟨u, hu⟩ := at?_some_iff (l := ([r1, r2, r3, r4] : List Int)) (i := i) ⟨i1, by simpa using i3⟩
    rw [bind3_eq e2, hu]
    exact ⟨_, _, _, _, _, rfl, by simp⟩
  rw [if_neg h2]
  exact ⟨_, _, _, _, _, rfl, by simp⟩
end
theorem at_setN {l : List Int} {b : Int} {v : Int} {n : Nat} (hb : 0 ≤ b ∧ b < (l.length : Int)) : at? (l.set b.toNat v) (n : Int) = if (n : Int) = b then some v else at? l (n : Int) := by
  rw [at?_nat, at?_nat]
  by_cases h : (n : Int) = b
  · rw [if_pos h]
    have : b.toNat = n := by omega
    rw [this, List.getElem?_set_self (by omega)]
  · rw [if_neg h, List.getElem?_set_ne (by omega)]
theorem k_Calc (F : Nat) (a b c d : Int) (x : List Int) (hl : x.length ≤ 4) (hf : 4 < F) :
    (∃ v, valsB x = true ∧ x.length = 4 ∧ (0 ≤ b ∧ b ≤ 3) ∧ (0 ≤ v ∧ v ≤ 65535) ∧ tchF a b c d = 0 ∧ m_impl_Calc F a b c d x = some (x.set b.toNat v, true) ∧ m_spec_Calc F a b c d x = some (x.set b.toNat v, true)) ∨
    (m_impl_Calc F a b c d x = some (x, false) ∧ m_spec_Calc F a b c d x = some (x, false)) := by
  unfold m_impl_Calc m_spec_Calc m_impl_copyInts
  rw [if_pos (show ([] : List Int).length + x.length ≤ 17179869184 by simp; omega), if_pos (show ([] : List Int).length + x.length ≤ 17179869184 by simp; omega)]
  simp only [p_OpOk, p_SOpOk, p_areValues F x _ (by omega) (by omega), p_l4Regs F x (by omega) (by omega), Option.bind_some, List.nil_append]
  by_cases hop : opB a b c d = true
  · simp only [if_pos hop]
    by_cases h4 : 4 < a
    · simp only [if_pos h4]
      by_cases hv : (valsB x && decide ((x.length : Int) = 4)) = true
      · simp only [if_pos hv]; exact .inr (by simp)
      · simp only [if_neg hv]; exact .inr (by simp)
    · simp only [if_neg h4]
      by_cases hv : (valsB x && decide ((x.length : Int) = 4)) = true
      · simp only [if_pos hv]
        simp only [Bool.and_eq_true, decide_eq_true_eq] at hv
        by_cases h1 : a = 1
        · subst h1
          have ht : tchF 1 b c d = 0 := by unfold tchF; rw [if_pos hop]; rfl
          simp [opB] at hop
          have hb := inB_true.1 hop.1.1
          have hc := inB_true.1 hop.1.2
          obtain ⟨v, hb', _, _⟩ := val_at hv.1 (by omega) hop.1.1
          simp only [if_true, hb', Option.bind_some]
          exact .inl ⟨c, hv.1, by omega, hb, hc, ht, rfl, rfl⟩
        · have hr : ((inB b 0 3 = true ∧ inB c 0 3 = true) ∧ inB d 0 3 = true) ∧ tchF a b c d = 0 := by
            by_cases h2 : a = 2
            · subst h2; have ht : tchF 2 b c d = 0 := by unfold tchF; rw [if_pos hop]; rfl
              simp [opB] at hop; exact ⟨hop, ht⟩
            by_cases h3 : a = 3
            · subst h3; have ht : tchF 3 b c d = 0 := by unfold tchF; rw [if_pos hop]; rfl
              simp [opB] at hop; exact ⟨hop, ht⟩
            by_cases h4' : a = 4
            · subst h4'; have ht : tchF 4 b c d = 0 := by unfold tchF; rw [if_pos hop]; rfl
              simp [opB] at hop; exact ⟨hop, ht⟩
            · exfalso; simp only [opB] at hop
              simp only [if_neg h1, if_neg (show ¬ (a = 2 ∨ a = 3 ∨ a = 4) by omega), if_neg (show ¬ a = 5 by omega), if_neg (show ¬ a = 6 by omega), if_neg (show ¬ a = 7 by omega), if_neg (show ¬ (a = 8 ∨ a = 15 ∨ a = 16) by omega), if_neg (show ¬ (a = 9 ∨ a = 10 ∨ a = 11) by omega), if_neg (show ¬ a = 12 by omega), if_neg (show ¬ a = 13 by omega), if_neg (show ¬ a = 14 by omega)] at hop
              cases hop
          obtain ⟨hr, ht⟩ := hr
          have hb3 := inB_true.1 hr.1.1
          obtain ⟨u, hb, _, _⟩ := val_at hv.1 (by omega) hr.1.1
          obtain ⟨v, hc, _, _⟩ := val_at hv.1 (by omega) hr.1.2
          obtain ⟨w, hd, _, _⟩ := val_at hv.1 (by omega) hr.2
          have i1 : in64 (v + w) := in64_of (by omega) (by omega)
          have i2 : in64 (v - w) := in64_of (by omega) (by omega)
          have i3 : in64 (v - w + 65536) := in64_of (by omega) (by omega)
          have nz : (65536 : Int) ≠ 0 := by decide
          have m1 : 0 ≤ (v + w).tmod 65536 ∧ (v + w).tmod 65536 ≤ 65535 := by rw [Int.tmod_eq_emod_of_nonneg (by omega)]; omega
          have m2 : 0 ≤ (v - w + 65536).tmod 65536 ∧ (v - w + 65536).tmod 65536 ≤ 65535 := by rw [Int.tmod_eq_emod_of_nonneg (by omega)]; omega
          simp only [if_neg h1, hb, hc, hd, Option.bind_some, if_pos i1, if_pos i2, if_pos i3, if_pos nz, at_setI hb, List.set_set]
          by_cases h2 : a = 2
          · simp only [if_pos h2, Option.bind_some]; exact .inl ⟨_, hv.1, by omega, hb3, m1, ht, rfl, rfl⟩
          · by_cases h3 : a = 3
            · simp only [if_neg h2, if_pos h3, Option.bind_some]; exact .inl ⟨_, hv.1, by omega, hb3, m2, ht, rfl, rfl⟩
            · simp only [if_neg h2, if_neg h3]
              by_cases hvw : v < w
              · simp only [if_pos hvw, Option.bind_some]; exact .inl ⟨1, hv.1, by omega, hb3, by omega, ht, rfl, rfl⟩
              · simp only [if_neg hvw, Option.bind_some]; exact .inl ⟨0, hv.1, by omega, hb3, by omega, ht, rfl, rfl⟩
      · simp only [if_neg hv]; exact .inr (by simp)
  · simp only [if_neg hop]; exact .inr (by simp)
theorem k_loop (F : Nat) (x : List Int) (b v : Int) (hv : valsB x = true) (h4 : x.length = 4) (hb : 0 ≤ b ∧ b ≤ 3) (hw : 0 ≤ v ∧ v ≤ 65535) : ∀ K n : Nat, n ≤ 4 → 4 < n + K →
    m_laws_FnCalc_L0 F b x (x.set b.toNat v) K (n : Int) = some (.brk ()) := by
  intro K
  induction K with
  | zero => intro n h1 h2; omega
  | succ K ih =>
    intro n h1 h2
    have hl : (x.set b.toNat v).length = 4 := by simpa using h4
    rw [m_laws_FnCalc_L0]
    by_cases h : n < 4
    · have hi : in64 ((n : Int) + 1) := in64_of (by omega) (by omega)
      have := ih (n + 1) (by omega) (by omega)
      rw [if_pos (show (n : Int) < ((x.set b.toNat v).length : Int) by rw [hl]; omega)]
      simp only [at_setN (v := v) (n := n) (show 0 ≤ b ∧ b < (x.length : Int) by omega)]
      by_cases e : (n : Int) = b
      · simp only [if_pos e, Option.bind_some, if_neg (show ¬ v < 0 by omega), if_neg (show ¬ 65535 < v by omega), if_pos hi]
        exact this
      · obtain ⟨u, hu, u1, u2⟩ := val_at (i := (n : Int)) hv h4 (inB_true.2 (by omega))
        simp only [if_neg e, hu, Option.bind_some, if_neg (show ¬ u < 0 by omega), if_neg (show ¬ 65535 < u by omega), if_pos hi, if_true]
        exact this
    · rw [if_neg (by rw [hl]; omega)]
theorem k_add (F : Nat) (a b c d : Int) (hf : 4 < F) (hv : valsB [a, b, c, d] = true) : m_impl_Calc F 2 0 0 1 [a, b, c, d] = some ([(a + b).tmod 65536, b, c, d], true) := by
  have ha : (0 ≤ a ∧ a ≤ 65535) ∧ (0 ≤ b ∧ b ≤ 65535) := by simp [valsB, inB] at hv; omega
  have i1 : in64 (a + b) := in64_of (by omega) (by omega)
  unfold m_impl_Calc m_impl_copyInts
  rw [if_pos (by simp)]
  simp only [p_OpOk, p_areValues F [a, b, c, d] _ (by simp) (by simpa using hf), Option.bind_some, List.nil_append, hv, show opB 2 0 0 1 = true by decide, if_true]
  simp [at?, i1]
theorem k_sub (F : Nat) (a b c d : Int) (hf : 4 < F) (hv : valsB [a, b, c, d] = true) : m_impl_Calc F 3 0 0 1 [a, b, c, d] = some ([(a - b + 65536).tmod 65536, b, c, d], true) := by
  have ha : (0 ≤ a ∧ a ≤ 65535) ∧ (0 ≤ b ∧ b ≤ 65535) := by simp [valsB, inB] at hv; omega
  have i1 : in64 (a - b) := in64_of (by omega) (by omega)
  have i2 : in64 (a - b + 65536) := in64_of (by omega) (by omega)
  unfold m_impl_Calc m_impl_copyInts
  rw [if_pos (by simp)]
  simp only [p_OpOk, p_areValues F [a, b, c, d] _ (by simp) (by simpa using hf), Option.bind_some, List.nil_append, hv, show opB 3 0 0 1 = true by decide, if_true]
  simp [at?, i1, i2]
theorem k_back (F : Nat) (x : List Int) (hf : 4 < F) (hv : valsB x = true) (h4 : x.length = 4) : ∃ y, m_impl_Calc F 2 0 0 1 x = some (y, true) ∧ m_impl_Calc F 3 0 0 1 y = some (x, true) := by
  match x, h4 with
  | [a, b, c, d], _ =>
    have ha : (0 ≤ a ∧ a ≤ 65535) ∧ (0 ≤ b ∧ b ≤ 65535) ∧ (0 ≤ c ∧ c ≤ 65535) ∧ (0 ≤ d ∧ d ≤ 65535) := by simp [valsB, inB] at hv; omega
    have e1 : (a + b).tmod 65536 = (a + b) % 65536 := Int.tmod_eq_emod_of_nonneg (by omega)
    have hv2 : valsB [(a + b).tmod 65536, b, c, d] = true := by rw [e1]; simp [valsB, inB]; omega
    refine ⟨_, k_add F a b c d hf hv, ?_⟩
    rw [k_sub F _ b c d hf hv2, e1]
    have : ((a + b) % 65536 - b + 65536).tmod 65536 = a := by rw [Int.tmod_eq_emod_of_nonneg (by omega)]; omega
    rw [this]
theorem pure_FnCalc {x : List UInt8} (hx : x.length ≤ maxLen) : ∃ fuel, m_laws_FnCalc fuel x = some true := by
  refine ⟨x.length + 9, ?_⟩
  generalize hF : x.length + 9 = F
  unfold m_laws_FnCalc
  simp only [m_laws_big, Option.bind_some, decide_eq_true_eq]
  by_cases hb : (1048576 : Int) < (x.length : Int)
  · rw [if_pos hb]
  · rw [if_neg hb]
    obtain ⟨a, b, c, d, l, e1, l1⟩ := c_Calc F x (by omega) (by omega)
    simp only [e1, bind5, bind2, Option.bind_some]
    rcases k_Calc F a b c d l l1 (by omega) with ⟨v, hv, h4, hb3, hw, ht, g1, g2⟩ | ⟨g1, g2⟩
    · have hloop := k_loop F l b v hv h4 hb3 hw F 0 (by omega) (by omega)
      obtain ⟨y, y1, y2⟩ := k_back F l (by omega) hv h4
      have hs := t_sameInts F l (by omega) (by omega)
      simp only [Int.natCast_zero] at hloop
      simp only [g1, g2, y1, y2, Option.bind_some, beq_self_eq_true, if_true, List.length_set]
      erw [hloop]
      simp only [Option.bind_some, contL, un1, h4, hs, p_TouchesI, ht]
      rfl
    · simp only [g1, g2, Option.bind_some, beq_self_eq_true, if_true, Bool.false_eq_true, if_false, t_sameInts F l (by omega) (by omega)]
end Go.Proofs.Ytinlleepikjopaa
