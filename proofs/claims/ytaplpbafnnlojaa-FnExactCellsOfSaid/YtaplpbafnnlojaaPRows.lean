/- What the functions on rows do, in plain Lean, and the laws on them. -/
import Derived.Test.YtaplpbafnnlojaaHp
namespace Go.Proofs.Ytaplpbafnnlojaa
open Go Go.RowKit
set_option linter.unusedVariables false
set_option linter.unusedSimpArgs false

theorem p_within (fuel : Nat) (x lo hi : Int) : m_impl_within fuel x lo hi = some (inB x lo hi) := by
  unfold m_impl_within inB; split <;> simp_all <;> omega
theorem p_l1In (fuel : Nat) (x lo hi : Int) : m_spec_l1In fuel x lo hi = some (inB x lo hi) := by
  unfold m_spec_l1In inB; split <;> simp_all <;> omega
theorem p_isValue (fuel : Nat) (x : Int) : m_impl_isValue fuel x = some (inB x 0 65535) := by simp [m_impl_isValue, p_within]
theorem p_isCell (fuel : Nat) (x : Int) : m_impl_isCell fuel x = some (inB x 0 7) := by simp [m_impl_isCell, p_within]
theorem p_l3Val (fuel : Nat) (x : Int) : m_spec_l3Val fuel x = some (inB x 0 65535) := by simp [m_spec_l3Val, p_l1In]
theorem p_l3Cell (fuel : Nat) (x : Int) : m_spec_l3Cell fuel x = some (inB x 0 7) := by simp [m_spec_l3Cell, p_l1In]

def rowB (r : I2) : Bool := inB r.a 0 7 && inB r.b 0 65535
def rowsB (l : List I2) : Bool := decide (l.length ≤ 300) && l.all rowB
theorem p_RowsOk_L (fuel : Nat) (x : List I2) (hl : x.length ≤ 4611686018427387904) : ∀ K n, n ≤ x.length → x.length < n + K →
    m_impl_RowsOk_L0 fuel x K (n : Int) = some (if (x.drop n).all rowB = true then .brk () else .ret false) := by
  intro K
  induction K with
  | zero => intro n h1 h2; omega
  | succ K ih =>
    intro n h1 h2
    rw [m_impl_RowsOk_L0]
    by_cases h : n < x.length
    · rw [drop_cons h]
      have := ih (n + 1) (by omega) (by omega)
      simp only [if_pos (lt_cast h), at?_lt h, Option.bind_some, p_isValue, p_isCell, if_pos (in64_succ h (show x.length ≤ _ by omega)), List.all_cons, rowB]
      by_cases e1 : inB x[n].a 0 7 = true <;> by_cases e2 : inB x[n].b 0 65535 = true <;> simp only [e1, e2, Bool.eq_false_iff.2, if_true, Bool.true_and, Bool.false_and, Bool.false_eq_true, if_false, Bool.and_false] <;> first | exact this | simp
    · rw [if_neg (ge_cast h), drop_end h]; rfl
theorem p_RowsOk (fuel : Nat) (x : List I2) (hl : x.length ≤ 4611686018427387904) (hf : x.length < fuel) : m_impl_RowsOk fuel x = some (rowsB x) := by
  unfold m_impl_RowsOk rowsB
  have := p_RowsOk_L fuel x hl fuel 0 (by omega) (by omega)
  simp only [List.drop_zero] at this
  erw [this]
  cases x.all rowB <;> simp [contL, un1]
  omega
theorem p_SRowsOk_L (fuel : Nat) (x : List I2) (hl : x.length ≤ 4611686018427387904) : ∀ K n, n ≤ x.length → x.length < n + K →
    m_spec_RowsOk_L0 fuel x K (n : Int) = some (if (x.drop n).all rowB = true then .brk () else .ret false) := by
  intro K
  induction K with
  | zero => intro n h1 h2; omega
  | succ K ih =>
    intro n h1 h2
    rw [m_spec_RowsOk_L0]
    by_cases h : n < x.length
    · rw [drop_cons h]
      have := ih (n + 1) (by omega) (by omega)
      simp only [if_pos (lt_cast h), at?_lt h, Option.bind_some, p_l3Val, p_l3Cell, if_pos (in64_succ h (show x.length ≤ _ by omega)), List.all_cons, rowB]
      by_cases e1 : inB x[n].a 0 7 = true <;> by_cases e2 : inB x[n].b 0 65535 = true <;> simp only [e1, e2, Bool.eq_false_iff.2, if_true, Bool.true_and, Bool.false_and, Bool.false_eq_true, if_false, Bool.and_false] <;> first | exact this | simp
    · rw [if_neg (ge_cast h), drop_end h]; rfl
theorem p_SRowsOk (fuel : Nat) (x : List I2) (hl : x.length ≤ 4611686018427387904) (hf : x.length < fuel) : m_spec_RowsOk fuel x = some (rowsB x) := by
  unfold m_spec_RowsOk rowsB
  have := p_SRowsOk_L fuel x hl fuel 0 (by omega) (by omega)
  simp only [List.drop_zero] at this
  by_cases h : 300 < (x.length : Int)
  · rw [if_pos h]; simp; omega
  · rw [if_neg h]
    erw [this]
    cases x.all rowB <;> simp [contL, un1]
    omega

/-! Last. -/
def lastN (l : List I2) (c : Int) : Nat → Int × Bool
  | 0 => (0, false)
  | n + 1 => match l[n]? with
    | some e => if e.a = c then (e.b, true) else lastN l c n
    | none => (0, false)
def lastF (l : List I2) (c : Int) : Int × Bool := if rowsB l = true then lastN l c l.length else (0, false)
theorem p_Last_L (fuel : Nat) (x : List I2) (c : Int) (hl : x.length ≤ 1048576) : ∀ n K, n ≤ x.length → n < K →
    ((m_impl_Last_L0 fuel x c K ((n : Int) - 1)).bind <| contL <| un1 fun _ => some ((0 : Int), false)) = some (lastN x c n) := by
  intro n
  induction n with
  | zero => intro K h1 h2; cases K with
    | zero => omega
    | succ K => rw [m_impl_Last_L0, if_neg (by omega)]; rfl
  | succ n ih => intro K h1 h2; cases K with
    | zero => omega
    | succ K =>
      rw [m_impl_Last_L0, if_pos (by omega)]
      have e : ((n + 1 : Nat) : Int) - 1 = (n : Int) := by omega
      simp only [e, at?_lt (show n < x.length by omega), Option.bind_some, if_pos (show in64 ((n : Int) - 1) from in64_of (by omega) (by omega)), lastN, List.getElem?_eq_getElem (show n < x.length by omega)]
      by_cases h : x[n].a = c
      · simp only [if_pos h]; rfl
      · simp only [if_neg h]; exact ih K (by omega) (by omega)
theorem p_Last (fuel : Nat) (x : List I2) (c : Int) (hl : x.length ≤ 1048576) (hf : x.length < fuel) : m_impl_Last fuel x c = some (lastF x c) := by
  unfold m_impl_Last lastF
  simp only [p_RowsOk fuel x (by omega) hf, Option.bind_some]
  by_cases h : rowsB x = true
  · simp only [if_pos h, if_pos (show in64 ((x.length : Int) - 1) from in64_of (by omega) (by omega))]
    exact p_Last_L fuel x c hl x.length fuel (Nat.le_refl _) hf
  · simp only [if_neg h]
theorem p_SLast_L (fuel : Nat) (x : List I2) (c : Int) (hl : x.length ≤ 1048576) : ∀ n K, n ≤ x.length → n < K →
    ((m_spec_Last_L0 fuel x c K ((n : Int) - 1)).bind <| contL <| un1 fun _ => some ((0 : Int), false)) = some (lastN x c n) := by
  intro n
  induction n with
  | zero => intro K h1 h2; cases K with
    | zero => omega
    | succ K => rw [m_spec_Last_L0, if_neg (by omega)]; rfl
  | succ n ih => intro K h1 h2; cases K with
    | zero => omega
    | succ K =>
      rw [m_spec_Last_L0, if_pos (by omega)]
      have e : ((n + 1 : Nat) : Int) - 1 = (n : Int) := by omega
      simp only [e, at?_lt (show n < x.length by omega), Option.bind_some, if_pos (show in64 ((n : Int) - 1) from in64_of (by omega) (by omega)), lastN, List.getElem?_eq_getElem (show n < x.length by omega)]
      by_cases h : x[n].a = c
      · simp only [if_pos h]; rfl
      · simp only [if_neg h]; exact ih K (by omega) (by omega)
theorem p_SLast (fuel : Nat) (x : List I2) (c : Int) (hl : x.length ≤ 1048576) (hf : x.length < fuel) : m_spec_Last fuel x c = some (lastF x c) := by
  unfold m_spec_Last lastF
  simp only [p_SRowsOk fuel x (by omega) hf, Option.bind_some]
  by_cases h : rowsB x = true
  · simp only [if_pos h, if_pos (show in64 ((x.length : Int) - 1) from in64_of (by omega) (by omega))]
    exact p_SLast_L fuel x c hl x.length fuel (Nat.le_refl _) hf
  · simp only [if_neg h]

/-! Cut. -/
theorem subl_le {E : Type} (l : List E) (i j : Int) : (subl l i j).length ≤ l.length := by unfold subl; simp; omega
theorem s_Cut (fuel : Nat) (x : List I2) (n : Int) (hl : x.length ≤ 1048576) (hf : x.length < fuel) :
    ∃ l', m_impl_Cut fuel x n = some l' ∧ m_spec_Cut fuel x n = some l' ∧ l'.length ≤ x.length := by
  unfold m_impl_Cut m_spec_Cut m_impl_copyRows
  simp only [p_RowsOk fuel x (by omega) hf, p_SRowsOk fuel x (by omega) hf, Option.bind_some]
  by_cases h0 : n ≤ 0
  · by_cases hr : rowsB x = true <;> exact ⟨[], by simp [h0], by simp [h0, hr], by simp⟩
  · by_cases hr : rowsB x = true
    · simp only [if_neg h0, if_pos hr]
      have key : ∀ z : Int, 0 ≤ z → z ≤ (x.length : Int) → ∃ l', (if 0 ≤ (0 : Int) ∧ (0 : Int) ≤ z ∧ z ≤ (x.length : Int) then (if ([] : List I2).length + (subl x 0 z).length ≤ 17179869184 then some (([] : List I2) ++ (subl x 0 z)) else none) else none) = some l' ∧ l'.length ≤ x.length := by
        intro z h1 h2
        have := subl_le x 0 z
        exact ⟨subl x 0 z, by rw [if_pos ⟨by omega, h1, h2⟩, if_pos (by simp; omega)]; rfl, this⟩
      by_cases hn : (x.length : Int) < n
      · obtain ⟨l', k1, k2⟩ := key (x.length : Int) (by omega) (by omega)
        refine ⟨l', ?_, ?_, k2⟩
        · simp only [if_pos hn]; rw [← k1]; split <;> simp
        · simp only [if_pos hn, Option.bind_some]; exact k1
      · obtain ⟨l', k1, k2⟩ := key n (by omega) (by omega)
        refine ⟨l', ?_, ?_, k2⟩
        · simp only [if_neg hn]; rw [← k1]; split <;> simp
        · simp only [if_neg hn, Option.bind_some]; exact k1
    · exact ⟨[], by simp [h0, hr], by simp [hr], by simp⟩

/-! Net. -/
def netG (f : Int → Int × Bool) : Nat → List I2 → List I2
  | 0, A => A
  | n + 1, A => netG f n (if (f (8 - ((n : Int) + 1))).2 = true then A ++ [⟨8 - ((n : Int) + 1), (f (8 - ((n : Int) + 1))).1⟩] else A)
theorem netG_len (f : Int → Int × Bool) : ∀ n A, (netG f n A).length ≤ A.length + n := by
  intro n
  induction n with
  | zero => intro A; simp [netG]
  | succ n ih => intro A; rw [netG]; refine Nat.le_trans (ih _) ?_; split <;> simp <;> omega
theorem netG_no : ∀ n (A : List I2), netG (fun _ => (0, false)) n A = A := by
  intro n
  induction n with
  | zero => intro A; simp [netG]
  | succ n ih => intro A; simp [netG, ih]
theorem p_Net_L (fuel : Nat) (x : List I2) (hl : x.length ≤ 1048576) (hf : x.length < fuel) : ∀ n K (A : List I2), n ≤ 8 → n < K → A.length ≤ 8 - n →
    m_impl_Net_L0 fuel x K A (8 - (n : Int)) = some (netG (lastF x) n A) := by
  intro n
  induction n with
  | zero => intro K A h1 h2 h3; cases K with
    | zero => omega
    | succ K => rw [m_impl_Net_L0, if_neg (by omega)]; rfl
  | succ n ih => intro K A h1 h2 h3; cases K with
    | zero => omega
    | succ K =>
      rw [m_impl_Net_L0, if_pos (by omega)]
      have e : (8 - ((n + 1 : Nat) : Int)) + 1 = 8 - (n : Int) := by omega
      have e' : 8 - ((n + 1 : Nat) : Int) = 8 - ((n : Int) + 1) := by omega
      have hi : in64 (8 - (n : Int)) := in64_of (by omega) (by omega)
      have hl3 : A.length + 1 ≤ 17179869184 := by omega
      simp only [p_Last fuel x _ hl hf, bind2, Option.bind_some, e, if_pos hi, if_pos hl3, netG]
      by_cases h : (lastF x (8 - ((n + 1 : Nat) : Int))).2 = true
      · rw [e'] at h
        simp only [e', if_pos h, Option.bind_some]
        exact ih K _ (by omega) (by omega) (by simp; omega)
      · rw [e'] at h
        simp only [e', if_neg h, Option.bind_some]
        exact ih K _ (by omega) (by omega) (by omega)
theorem p_SNet_L (fuel : Nat) (x : List I2) (hl : x.length ≤ 1048576) (hf : x.length < fuel) : ∀ n K (A : List I2), n ≤ 8 → n < K → A.length ≤ 8 - n →
    m_spec_Net_L0 fuel x K A (8 - (n : Int)) = some (netG (lastF x) n A) := by
  intro n
  induction n with
  | zero => intro K A h1 h2 h3; cases K with
    | zero => omega
    | succ K => rw [m_spec_Net_L0, if_neg (by omega)]; rfl
  | succ n ih => intro K A h1 h2 h3; cases K with
    | zero => omega
    | succ K =>
      rw [m_spec_Net_L0, if_pos (by omega)]
      have e : (8 - ((n + 1 : Nat) : Int)) + 1 = 8 - (n : Int) := by omega
      have e' : 8 - ((n + 1 : Nat) : Int) = 8 - ((n : Int) + 1) := by omega
      have hi : in64 (8 - (n : Int)) := in64_of (by omega) (by omega)
      have hl3 : A.length + 1 ≤ 17179869184 := by omega
      simp only [p_SLast fuel x _ hl hf, bind2, Option.bind_some, e, if_pos hi, if_pos hl3, netG]
      by_cases h : (lastF x (8 - ((n + 1 : Nat) : Int))).2 = true
      · rw [e'] at h
        simp only [e', if_pos h, Option.bind_some]
        exact ih K _ (by omega) (by omega) (by simp; omega)
      · rw [e'] at h
        simp only [e', if_neg h, Option.bind_some]
        exact ih K _ (by omega) (by omega) (by omega)
def netF (x : List I2) : List I2 := netG (lastF x) 8 []
theorem netF_len (x : List I2) : (netF x).length ≤ 8 := by have := netG_len (lastF x) 8 []; simpa [netF] using this
theorem p_SNet (fuel : Nat) (x : List I2) (hl : x.length ≤ 1048576) (hf : x.length < fuel) (h8 : 8 < fuel) : m_spec_Net fuel x = some (netF x) := by
  unfold m_spec_Net
  have := p_SNet_L fuel x hl hf 8 fuel [] (by omega) h8 (by simp)
  rw [show (8 : Int) - ((8 : Nat) : Int) = 0 from rfl] at this
  rw [this]; rfl
theorem p_Net (fuel : Nat) (x : List I2) (hl : x.length ≤ 1048576) (hf : x.length < fuel) (h8 : 8 < fuel) : m_impl_Net fuel x = some (netF x) := by
  unfold m_impl_Net
  have := p_Net_L fuel x hl hf 8 fuel [] (by omega) h8 (by simp)
  rw [show (8 : Int) - ((8 : Nat) : Int) = 0 from rfl] at this
  simp only [p_RowsOk fuel x (by omega) hf, Option.bind_some, this]
  by_cases h : rowsB x = true
  · simp only [if_pos h]; rfl
  · simp only [if_neg h]
    have : lastF x = fun _ => (0, false) := by funext c; simp [lastF, h]
    simp [netF, this, netG_no]

/-! Overlay. -/
def valsB (l : List Int) : Bool := l.all fun x => inB x 0 65535
theorem p_areValues_L (fuel : Nat) (x : List Int) (hl : x.length ≤ 4611686018427387904) : ∀ K n, n ≤ x.length → x.length < n + K →
    m_impl_areValues_L0 fuel x K (n : Int) = some (if valsB (x.drop n) = true then .brk () else .ret false) := by
  intro K
  induction K with
  | zero => intro n h1 h2; omega
  | succ K ih =>
    intro n h1 h2
    rw [m_impl_areValues_L0]
    by_cases h : n < x.length
    · rw [drop_cons h]
      have := ih (n + 1) (by omega) (by omega)
      simp only [if_pos (lt_cast h), at?_lt h, Option.bind_some, p_isValue, if_pos (in64_succ h (show x.length ≤ _ by omega)), valsB, List.all_cons]
      by_cases e : inB x[n] 0 65535 = true
      · simp only [e, if_true, Bool.true_and]; exact this
      · simp [Bool.eq_false_iff.2 e]
    · rw [if_neg (ge_cast h), drop_end h]; rfl
theorem p_areValues (fuel : Nat) (x : List Int) (n : Int) (hl : x.length ≤ 4611686018427387904) (hf : x.length < fuel) : m_impl_areValues fuel x n = some (valsB x && decide ((x.length : Int) = n)) := by
  unfold m_impl_areValues
  have := p_areValues_L fuel x hl fuel 0 (by omega) (by omega)
  simp only [List.drop_zero] at this
  erw [this]
  cases valsB x <;> simp [contL, un1]
theorem p_l3Vals_L (fuel : Nat) (x : List Int) (hl : x.length ≤ 4611686018427387904) : ∀ K n, n ≤ x.length → x.length < n + K →
    m_spec_l3Vals_L0 fuel x K (n : Int) = some (if valsB (x.drop n) = true then .brk () else .ret false) := by
  intro K
  induction K with
  | zero => intro n h1 h2; omega
  | succ K ih =>
    intro n h1 h2
    rw [m_spec_l3Vals_L0]
    by_cases h : n < x.length
    · rw [drop_cons h]
      have := ih (n + 1) (by omega) (by omega)
      simp only [if_pos (lt_cast h), at?_lt h, Option.bind_some, p_l3Val, if_pos (in64_succ h (show x.length ≤ _ by omega)), valsB, List.all_cons]
      by_cases e : inB x[n] 0 65535 = true
      · simp only [e, if_true, Bool.true_and]; exact this
      · simp [Bool.eq_false_iff.2 e]
    · rw [if_neg (ge_cast h), drop_end h]; rfl
theorem p_l3Vals (fuel : Nat) (x : List Int) (hl : x.length ≤ 4611686018427387904) (hf : x.length < fuel) : m_spec_l3Vals fuel x = some (valsB x && decide ((x.length : Int) = 8)) := by
  unfold m_spec_l3Vals
  have := p_l3Vals_L fuel x hl fuel 0 (by omega) (by omega)
  simp only [List.drop_zero] at this
  by_cases h8 : (x.length : Int) = 8
  · rw [if_pos h8]
    erw [this]
    cases valsB x <;> simp [contL, un1, h8]
  · rw [if_neg h8]; simp [h8]
theorem p_Over_L (fuel : Nat) (x : List I2) (hl : x.length ≤ 4611686018427387904) (hx : x.all rowB = true) : ∀ K n (V : List Int), V.length = 8 → n ≤ x.length → x.length < n + K →
    ∃ V', m_impl_Overlay_L0 fuel x K V (n : Int) = some V' ∧ m_spec_Overlay_L0 fuel x K V (n : Int) = some V' ∧ V'.length = 8 := by
  intro K
  induction K with
  | zero => intro n V hV h1 h2; omega
  | succ K ih =>
    intro n V hV h1 h2
    rw [m_impl_Overlay_L0, m_spec_Overlay_L0]
    by_cases h : n < x.length
    · have hr : rowB x[n] = true := List.all_eq_true.1 hx _ (List.getElem_mem h)
      simp only [rowB, Bool.and_eq_true, inB_true] at hr
      obtain ⟨y, hy⟩ := at?_some_iff (l := V) (i := x[n].a) (by omega)
      simp only [if_pos (lt_cast h), at?_lt h, Option.bind_some, if_pos (in64_succ h (show x.length ≤ _ by omega)), hy]
      exact ih (n + 1) _ (by simpa using hV) (by omega) (by omega)
    · simp only [if_neg (ge_cast h)]
      exact ⟨V, rfl, rfl, hV⟩
theorem s_Overlay (fuel : Nat) (v : List Int) (x : List I2) (hv : v.length ≤ 1048576) (hl : x.length ≤ 1048576) (hfv : v.length < fuel) (hf : x.length < fuel) :
    ∃ l', m_impl_Overlay fuel v x = some l' ∧ m_spec_Overlay fuel v x = some l' ∧ l'.length ≤ 8 := by
  unfold m_impl_Overlay m_spec_Overlay m_impl_copyInts
  simp only [p_RowsOk fuel x (by omega) hf, p_SRowsOk fuel x (by omega) hf, p_areValues fuel v _ (by omega) hfv, p_l3Vals fuel v (by omega) hfv, Option.bind_some]
  by_cases h1 : (valsB v && decide ((v.length : Int) = 8)) = true
  · by_cases h2 : rowsB x = true
    · have h8 : v.length = 8 := by simp only [Bool.and_eq_true, decide_eq_true_eq] at h1; omega
      obtain ⟨V', e1, e2, e3⟩ := p_Over_L fuel x (by omega) (by simp only [rowsB, Bool.and_eq_true] at h2; exact h2.2) fuel 0 ([] ++ v) (by simpa using h8) (by omega) (by omega)
      simp only [if_pos h1, if_pos h2, if_pos (show ([] : List Int).length + v.length ≤ 17179869184 by simp; omega), Option.bind_some]
      refine ⟨V', ?_, ?_, by omega⟩
      · erw [e1]; rfl
      · erw [e2]; rfl
    · exact ⟨[], by simp [h1, h2], by simp [h1, h2], by simp⟩
  · exact ⟨[], by simp only [if_neg h1], by simp only [if_neg h1], by simp⟩

/-! CellsOf. -/
theorem p_Cells_L (fuel : Nat) (x : List I2) (hl : x.length ≤ 8) : ∀ K n (A : List Int), A.length = n → n ≤ x.length → x.length < n + K →
    ∃ l', m_impl_CellsOf_L0 fuel x K A (n : Int) = some l' ∧ m_spec_CellsOf_L0 fuel x K A (n : Int) = some l' ∧ l'.length ≤ 8 := by
  intro K
  induction K with
  | zero => intro n A hA h1 h2; omega
  | succ K ih =>
    intro n A hA h1 h2
    rw [m_impl_CellsOf_L0, m_spec_CellsOf_L0]
    by_cases h : n < x.length
    · have hl3 : A.length + 1 ≤ 17179869184 := by omega
      simp only [if_pos (lt_cast h), at?_lt h, Option.bind_some, if_pos (in64_succ h (show x.length ≤ _ by omega)), if_pos hl3]
      exact ih (n + 1) _ (by simp [hA]) (by omega) (by omega)
    · simp only [if_neg (ge_cast h)]
      exact ⟨A, rfl, rfl, by omega⟩
theorem s_CellsOf (fuel : Nat) (x : List I2) (hl : x.length ≤ 1048576) (hf : x.length < fuel) (h8 : 8 < fuel) :
    ∃ l', m_impl_CellsOf fuel x = some l' ∧ m_spec_CellsOf fuel x = some l' ∧ l'.length ≤ 8 := by
  unfold m_impl_CellsOf m_spec_CellsOf
  simp only [p_Net fuel x hl hf h8, p_SNet fuel x hl hf h8, Option.bind_some]
  have hn := netF_len x
  obtain ⟨l', e1, e2, e3⟩ := p_Cells_L fuel (netF x) hn fuel 0 [] rfl (by omega) (by omega)
  refine ⟨l', ?_, ?_, e3⟩
  · erw [e1]; rfl
  · erw [e2]; rfl

/-! The laws. -/
theorem p_szRowS (fuel : Nat) (x : List I2) (q : Int) (hl : x.length ≤ maxLen) (hq : 0 ≤ q ∧ q ≤ 1048576) : m_laws_szRowS fuel x q = some (if q < (x.length : Int) then -1 else q - (x.length : Int)) := by
  unfold maxLen at hl
  unfold m_laws_szRowS
  rw [if_pos (by unfold in64; omega)]
  by_cases h : q < x.length
  · rw [if_pos h, if_pos (by omega)]
  · rw [if_neg h, if_neg (by omega)]
theorem pure_FnExactRowsOk {l : List I2} (hl : l.length ≤ maxLen) : ∃ fuel, m_laws_FnExactRowsOk fuel l = some true := by
  refine ⟨l.length + 9, ?_⟩
  unfold m_laws_FnExactRowsOk
  rw [p_szRowS _ _ _ hl (by omega)]
  by_cases hs : (1048576 : Int) < (l.length : Int)
  · simp [hs]
  · have hl' : l.length ≤ 1048576 := by omega
    simp only [hs, if_false, Option.bind_some, p_toRowS (l.length + 9) l hl' (by omega), p_RowsOk (l.length + 9) l (by omega) (by omega), p_SRowsOk (l.length + 9) l (by omega) (by omega), p_eqRowS (l.length + 9) l l (by omega) (by omega), decide_true, if_true, beq_self_eq_true, show ¬ (1048576 - (l.length : Int) < 0) by omega]
theorem pure_FnExactLast {l : List I2} {c : Int} (hl : l.length ≤ maxLen) (_ : in64 c) : ∃ fuel, m_laws_FnExactLast fuel l c = some true := by
  refine ⟨l.length + 9, ?_⟩
  unfold m_laws_FnExactLast
  rw [p_szRowS _ _ _ hl (by omega)]
  by_cases hs : (1048576 : Int) < (l.length : Int)
  · simp [hs]
  · have hl' : l.length ≤ 1048576 := by omega
    simp only [hs, if_false, Option.bind_some, bind2, p_toRowS (l.length + 9) l hl' (by omega), p_Last (l.length + 9) l c hl' (by omega), p_SLast (l.length + 9) l c hl' (by omega), p_eqRowS (l.length + 9) l l (by omega) (by omega), decide_true, if_true, beq_self_eq_true, show ¬ (1048576 - (l.length : Int) < 0) by omega]
theorem pure_FnExactCut {l : List I2} {c : Int} (hl : l.length ≤ maxLen) (_ : in64 c) : ∃ fuel, m_laws_FnExactCut fuel l c = some true := by
  refine ⟨l.length + 9, ?_⟩
  unfold m_laws_FnExactCut
  rw [p_szRowS _ _ _ hl (by omega)]
  by_cases hs : (1048576 : Int) < (l.length : Int)
  · simp [hs]
  · have hl' : l.length ≤ 1048576 := by omega
    obtain ⟨l', h1, h2, h3⟩ := s_Cut (l.length + 9) l c hl' (by omega)
    simp only [hs, if_false, Option.bind_some, bind2, bind3, p_toRowS (l.length + 9) l hl' (by omega), h1, h2]
    have e1 := fun b => p_eqRowS (l.length + 9) l' b (by omega) (by omega)
    have e2 := fun b => p_eqRowS (l.length + 9) l b (by omega) (by omega)
    have e3 := p_markRowS (l.length + 9) l hl' (by omega) 1 (by omega)
    have e4 := p_markRowS (l.length + 9) l' (by omega) (by omega) 1 (by omega)
    have e5 := p_heldRowS (l.length + 9) l'.length (by omega) (by omega) 1 (by omega)
    simp only [e1, e2, e3, e4, e5, and_self, decide_true, if_true, Option.bind_some, show ¬ (1048576 - (l.length : Int) < 0) by omega, show ¬ (1 + 2 * (l.length : Int) < 0) by omega, show ¬ (1 + 2 * (l'.length : Int) < 0) by omega, if_false]
theorem pure_FnExactNet {l : List I2} (hl : l.length ≤ maxLen) : ∃ fuel, m_laws_FnExactNet fuel l = some true := by
  refine ⟨l.length + 9, ?_⟩
  unfold m_laws_FnExactNet
  rw [p_szRowS _ _ _ hl (by omega)]
  by_cases hs : (1048576 : Int) < (l.length : Int)
  · simp [hs]
  · have hl' : l.length ≤ 1048576 := by omega
    have h1 := p_Net (l.length + 9) l hl' (by omega) (by omega)
    have h2 := p_SNet (l.length + 9) l hl' (by omega) (by omega)
    have h3 := netF_len l
    generalize netF l = l' at h1 h2 h3
    simp only [hs, if_false, Option.bind_some, bind2, bind3, p_toRowS (l.length + 9) l hl' (by omega), h1, h2]
    have e1 := fun b => p_eqRowS (l.length + 9) l' b (by omega) (by omega)
    have e2 := fun b => p_eqRowS (l.length + 9) l b (by omega) (by omega)
    have e3 := p_markRowS (l.length + 9) l hl' (by omega) 1 (by omega)
    have e4 := p_markRowS (l.length + 9) l' (by omega) (by omega) 1 (by omega)
    have e5 := p_heldRowS (l.length + 9) l'.length (by omega) (by omega) 1 (by omega)
    simp only [e1, e2, e3, e4, e5, and_self, decide_true, if_true, Option.bind_some, show ¬ (1048576 - (l.length : Int) < 0) by omega, show ¬ (1 + 2 * (l.length : Int) < 0) by omega, show ¬ (1 + 2 * (l'.length : Int) < 0) by omega, if_false]
theorem pure_FnExactCellsOf {l : List I2} (hl : l.length ≤ maxLen) : ∃ fuel, m_laws_FnExactCellsOf fuel l = some true := by
  refine ⟨l.length + 9, ?_⟩
  unfold m_laws_FnExactCellsOf
  rw [p_szRowS _ _ _ hl (by omega)]
  by_cases hs : (1048576 : Int) < (l.length : Int)
  · simp [hs]
  · have hl' : l.length ≤ 1048576 := by omega
    obtain ⟨l', h1, h2, h3⟩ := s_CellsOf (l.length + 9) l hl' (by omega) (by omega)
    simp only [hs, if_false, Option.bind_some, bind2, bind3, p_toRowS (l.length + 9) l hl' (by omega), h1, h2]
    have e1 := fun b => p_eqIntS (l.length + 9) l' b (by omega) (by omega)
    have e2 := fun b => p_eqRowS (l.length + 9) l b (by omega) (by omega)
    have e3 := p_markRowS (l.length + 9) l hl' (by omega) 1 (by omega)
    have e4 := p_markIntS (l.length + 9) l' (by omega) (by omega) 1 (by omega)
    have e5 := p_heldIntS (l.length + 9) l'.length (by omega) (by omega) 1 (by omega)
    simp only [e1, e2, e3, e4, e5, and_self, decide_true, if_true, Option.bind_some, show ¬ (1048576 - (l.length : Int) < 0) by omega, show ¬ (1 + 2 * (l.length : Int) < 0) by omega, show ¬ (1 + (l'.length : Int) < 0) by omega, if_false]
theorem pure_FnExactOverlay {v : List Int} {l : List I2} (hv : v.length ≤ maxLen) (hl : l.length ≤ maxLen) : ∃ fuel, m_laws_FnExactOverlay fuel v l = some true := by
  refine ⟨v.length + l.length + 9, ?_⟩
  unfold m_laws_FnExactOverlay
  by_cases hsv : (1048576 : Int) < (v.length : Int)
  · rw [if_pos hsv]
  · rw [if_neg hsv]
    rw [p_szRowS _ _ _ hl (by omega)]
    by_cases hs : (1048576 : Int) < (l.length : Int)
    · simp [hs]
    · have hl' : l.length ≤ 1048576 := by omega
      have hv' : v.length ≤ 1048576 := by omega
      generalize hF : v.length + l.length + 9 = F
      obtain ⟨l', h1, h2, h3⟩ := s_Overlay F v l hv' hl' (by omega) (by omega)
      simp only [hs, if_false, Option.bind_some, bind2, bind3, p_toRowS F l hl' (by omega), p_toIntS F v hv' (by omega), h1, h2]
      have e1 := fun b => p_eqIntS F l' b (by omega) (by omega)
      have e2 := fun b => p_eqRowS F l b (by omega) (by omega)
      have e6 := fun b => p_eqIntS F v b (by omega) (by omega)
      have e3 := p_markIntS F v hv' (by omega) 1 (by omega)
      have e7 := p_markRowS F l hl' (by omega) (1 + (v.length : Int)) (by omega)
      have e4 := p_markIntS F l' (by omega) (by omega) 1 (by omega)
      have e5 := p_heldIntS F l'.length (by omega) (by omega) 1 (by omega)
      simp only [e1, e2, e3, e4, e5, e6, e7, and_self, decide_true, if_true, Option.bind_some, show ¬ (1048576 - (l.length : Int) < 0) by omega, show ¬ (1 + (v.length : Int) + 2 * (l.length : Int) < 0) by omega, show ¬ (1 + (l'.length : Int) < 0) by omega, if_false]
end Go.Proofs.Ytaplpbafnnlojaa
