/- What the laws' helpers on records do. -/
import Derived.Test.YtknghnmcckjjbaaPu
import Derived.Test.YtknghnmcckjjbaaS4
namespace Go.Proofs.Ytknghnmcckjjbaa
open Go Go.RowKit
set_option linter.unusedVariables false
set_option linter.unusedSimpArgs false
theorem p_toIntS_L (fuel : Nat) (x : List Int) (hl : x.length ≤ 1048576) : ∀ K n, n ≤ x.length → x.length < n + K → ∀ B : List Int, B.length = x.length - n →
    m_laws_toIntS_L0 fuel x K (x.take n ++ B) (n : Int) = some x := by
  intro K
  induction K with
  | zero => intro n h1 h2; omega
  | succ K ih =>
    intro n h1 h2 B hB
    rw [m_laws_toIntS_L0]
    have hA : (x.take n).length = n := by simp; omega
    by_cases h : n < x.length
    · cases B with
      | nil => simp at hB; omega
      | cons e B =>
        simp only [if_pos (lt_cast h), at?_lt h, Option.bind_some, at?_mid hA, set_mid hA, if_pos (in64_succ h (show x.length ≤ _ by omega))]
        have := ih (n + 1) (by omega) (by omega) B (by simp at hB; omega)
        rw [take_snoc' h, List.append_assoc] at this
        exact this
    · rw [if_neg (ge_cast h)]
      have : B = [] := List.eq_nil_of_length_eq_zero (by omega)
      subst this
      rw [List.append_nil, List.take_of_length_le (by omega)]
theorem p_toIntS (fuel : Nat) (x : List Int) (hl : x.length ≤ 1048576) (hf : x.length < fuel) : m_laws_toIntS fuel x = some x := by
  unfold m_laws_toIntS
  rw [if_pos (by omega)]
  have := p_toIntS_L fuel x hl fuel 0 (by omega) (by omega) (List.replicate x.length 0) (by simp)
  simp only [List.take_zero, List.nil_append, Int.natCast_zero] at this
  simp only [Int.toNat_natCast]
  erw [this]
  rfl
theorem p_eqIntS_L (fuel : Nat) (x y : List Int) (hl : x.length ≤ 4611686018427387904) (he : x.length = y.length) : ∀ K n, n ≤ x.length → x.length < n + K →
    m_laws_eqIntS_L0 fuel x y K (n : Int) = some (if x.drop n = y.drop n then .brk () else .ret false) := by
  intro K
  induction K with
  | zero => intro n h1 h2; omega
  | succ K ih =>
    intro n h1 h2
    rw [m_laws_eqIntS_L0]
    by_cases h : n < x.length
    · have h' : n < y.length := by omega
      rw [drop_cons h, drop_cons h']
      have := ih (n + 1) (by omega) (by omega)
      simp only [if_pos (lt_cast h), at?_lt h, at?_lt h', Option.bind_some, if_pos (in64_succ h (show x.length ≤ _ by omega)), List.cons.injEq]
      by_cases e : x[n] = y[n]
      · simp only [e, if_true, true_and]; exact this
      · simp [e]
    · rw [if_neg (ge_cast h), drop_end h, drop_end (by omega)]
      simp
theorem p_eqIntS (fuel : Nat) (x y : List Int) (hl : x.length ≤ 4611686018427387904) (hf : x.length < fuel) : m_laws_eqIntS fuel x y = some (decide (x = y)) := by
  unfold m_laws_eqIntS
  by_cases he : x.length = y.length
  · rw [if_pos (by omega)]
    have := p_eqIntS_L fuel x y hl he fuel 0 (by omega) (by omega)
    simp only [List.drop_zero, Int.natCast_zero] at this
    erw [this]
    by_cases e : x = y <;> simp [e, contL, un1]
  · rw [if_neg (by omega)]
    have : x ≠ y := fun e => he (by rw [e])
    simp [this]
theorem p_markIntS_L (fuel : Nat) (x : List Int) (hl : x.length ≤ 1048576) (k0 : Int) (h0 : 0 ≤ k0 ∧ k0 ≤ 1099511627776) : ∀ K n, n ≤ x.length → x.length < n + K → ∀ k : Int, k = k0 + (n : Int) →
    m_laws_markIntS_L0 fuel x K (seq1 k0 n ++ x.drop n) k (n : Int) = some (k0 + (x.length : Int), seq1 k0 x.length) := by
  intro K
  induction K with
  | zero => intro n h1 h2; omega
  | succ K ih =>
    intro n h1 h2 k hk
    rw [m_laws_markIntS_L0]
    have hA : (seq1 k0 n).length = n := seq1_len _ _
    by_cases h : n < x.length
    · rw [drop_cons h]
      have i1 : in64 (k + 1) := in64_of (by omega) (by omega)
      simp only [if_pos (lt_cast h), at?_mid hA, set_mid hA, Option.bind_some, if_pos (in64_succ h (show x.length ≤ _ by omega)), if_pos i1]
      have ih' := ih (n + 1) (by omega) (by omega) (k + 1) (by omega)
      rw [seq1_succ, List.append_assoc] at ih'
      rw [← ih']
      rw [← hk]
      rfl
    · rw [if_neg (ge_cast h), drop_end h, List.append_nil]
      have : n = x.length := by omega
      subst this
      rw [hk]
theorem p_markIntS (fuel : Nat) (x : List Int) (hl : x.length ≤ 1048576) (hf : x.length < fuel) (k0 : Int) (h0 : 0 ≤ k0 ∧ k0 ≤ 1099511627776) : m_laws_markIntS fuel x k0 = some (k0 + (x.length : Int), seq1 k0 x.length) := by
  unfold m_laws_markIntS
  have := p_markIntS_L fuel x hl k0 h0 fuel 0 (by omega) (by omega) k0 (by simp)
  simp only [List.drop_zero, Int.natCast_zero, show seq1 k0 0 = [] from rfl, List.nil_append] at this
  erw [this]
  rfl
theorem p_heldIntS_L (fuel : Nat) (len : Nat) (hl : len ≤ 1048576) (k0 : Int) (h0 : 0 ≤ k0 ∧ k0 ≤ 1099511627776) : ∀ K n, n ≤ len → len < n + K → ∀ k : Int, k = k0 + (n : Int) →
    m_laws_heldIntS_L0 fuel (seq1 k0 len) K k (n : Int) = some (.brk (k0 + (len : Int))) := by
  intro K
  induction K with
  | zero => intro n h1 h2; omega
  | succ K ih =>
    intro n h1 h2 k hk
    rw [m_laws_heldIntS_L0, seq1_len]
    by_cases h : n < len
    · have i1 : in64 (k + 1) := in64_of (by omega) (by omega)
      have i1 : in64 (k + 1) := in64_of (by omega) (by omega)
      have e0 : k0 + (n : Int) = k := by omega
      simp only [if_pos (lt_cast h), seq1_at h, Option.bind_some, if_pos (in64_succ h (show len ≤ _ by omega)), if_pos i1, if_pos e0]
      exact ih (n + 1) (by omega) (by omega) (k + 1) (by omega)
    · rw [if_neg (ge_cast h)]
      have : n = len := by omega
      subst this
      rw [hk]
theorem p_heldIntS (fuel : Nat) (len : Nat) (hl : len ≤ 1048576) (hf : len < fuel) (k0 : Int) (h0 : 0 ≤ k0 ∧ k0 ≤ 1099511627776) : m_laws_heldIntS fuel (seq1 k0 len) k0 = some (k0 + (len : Int)) := by
  unfold m_laws_heldIntS
  have := p_heldIntS_L fuel len hl k0 h0 fuel 0 (by omega) (by omega) k0 (by simp)
  erw [this]
  rfl

theorem p_toOp (fuel : Nat) (x0 x1 x2 x3 : Int) : m_laws_toOp fuel x0 x1 x2 x3 = some (x0, x1, x2, x3) := rfl
theorem p_eqOp (fuel : Nat) (x y : I4) : m_laws_eqOp fuel x.a x.b x.c x.d y.a y.b y.c y.d = some (decide (x = y)) := by
  obtain ⟨x0, x1, x2, x3⟩ := x; obtain ⟨y0, y1, y2, y3⟩ := y
  simp only [m_laws_eqOp, I4.mk.injEq]
  repeat' split
  all_goals simp_all
theorem p_toOpS_L (fuel : Nat) (x : List I4) (hl : x.length ≤ 1048576) : ∀ K n, n ≤ x.length → x.length < n + K → ∀ B : List I4, B.length = x.length - n →
    m_laws_toOpS_L0 fuel x K (x.take n ++ B) (n : Int) = some x := by
  intro K
  induction K with
  | zero => intro n h1 h2; omega
  | succ K ih =>
    intro n h1 h2 B hB
    rw [m_laws_toOpS_L0]
    have hA : (x.take n).length = n := by simp; omega
    by_cases h : n < x.length
    · cases B with
      | nil => simp at hB; omega
      | cons e B =>
        simp only [if_pos (lt_cast h), at?_lt h, Option.bind_some, p_toOp, bind4, at?_mid hA, set_mid hA, if_pos (in64_succ h (show x.length ≤ _ by omega))]
        have := ih (n + 1) (by omega) (by omega) B (by simp at hB; omega)
        rw [take_snoc' h, List.append_assoc] at this
        exact this
    · rw [if_neg (ge_cast h)]
      have : B = [] := List.eq_nil_of_length_eq_zero (by omega)
      subst this
      rw [List.append_nil, List.take_of_length_le (by omega)]
theorem p_toOpS (fuel : Nat) (x : List I4) (hl : x.length ≤ 1048576) (hf : x.length < fuel) : m_laws_toOpS fuel x = some x := by
  unfold m_laws_toOpS
  rw [if_pos (by omega)]
  have := p_toOpS_L fuel x hl fuel 0 (by omega) (by omega) (List.replicate x.length ⟨0, 0, 0, 0⟩) (by simp)
  simp only [List.take_zero, List.nil_append, Int.natCast_zero] at this
  simp only [Int.toNat_natCast]
  erw [this]
  rfl
theorem p_eqOpS_L (fuel : Nat) (x y : List I4) (hl : x.length ≤ 4611686018427387904) (he : x.length = y.length) : ∀ K n, n ≤ x.length → x.length < n + K →
    m_laws_eqOpS_L0 fuel x y K (n : Int) = some (if x.drop n = y.drop n then .brk () else .ret false) := by
  intro K
  induction K with
  | zero => intro n h1 h2; omega
  | succ K ih =>
    intro n h1 h2
    rw [m_laws_eqOpS_L0]
    by_cases h : n < x.length
    · have h' : n < y.length := by omega
      rw [drop_cons h, drop_cons h']
      have := ih (n + 1) (by omega) (by omega)
      simp only [if_pos (lt_cast h), at?_lt h, at?_lt h', Option.bind_some, if_pos (in64_succ h (show x.length ≤ _ by omega)), p_eqOp, List.cons.injEq]
      by_cases e : x[n] = y[n]
      · simp only [e, decide_true, if_true, true_and]; exact this
      · simp [e]
    · rw [if_neg (ge_cast h), drop_end h, drop_end (by omega)]
      simp
theorem p_eqOpS (fuel : Nat) (x y : List I4) (hl : x.length ≤ 4611686018427387904) (hf : x.length < fuel) : m_laws_eqOpS fuel x y = some (decide (x = y)) := by
  unfold m_laws_eqOpS
  by_cases he : x.length = y.length
  · rw [if_pos (by omega)]
    have := p_eqOpS_L fuel x y hl he fuel 0 (by omega) (by omega)
    simp only [List.drop_zero, Int.natCast_zero] at this
    erw [this]
    by_cases e : x = y <;> simp [e, contL, un1]
  · rw [if_neg (by omega)]
    have : x ≠ y := fun e => he (by rw [e])
    simp [this]
theorem p_markOpS_L (fuel : Nat) (x : List I4) (hl : x.length ≤ 1048576) (k0 : Int) (h0 : 0 ≤ k0 ∧ k0 ≤ 1099511627776) : ∀ K n, n ≤ x.length → x.length < n + K → ∀ k : Int, k = k0 + 4 * (n : Int) →
    m_laws_markOpS_L0 fuel x K (seq4 k0 n ++ x.drop n) k (n : Int) = some (k0 + 4 * (x.length : Int), seq4 k0 x.length) := by
  intro K
  induction K with
  | zero => intro n h1 h2; omega
  | succ K ih =>
    intro n h1 h2 k hk
    rw [m_laws_markOpS_L0]
    have hA : (seq4 k0 n).length = n := seq4_len _ _
    by_cases h : n < x.length
    · rw [drop_cons h]
      have i1 : in64 (k + 1) := in64_of (by omega) (by omega)
      have i2 : in64 (k + 1 + 1) := in64_of (by omega) (by omega)
      have i3 : in64 (k + 1 + 1 + 1) := in64_of (by omega) (by omega)
      have i4 : in64 (k + 1 + 1 + 1 + 1) := in64_of (by omega) (by omega)
      simp only [if_pos (lt_cast h), at?_mid hA, set_mid hA, Option.bind_some, if_pos (in64_succ h (show x.length ≤ _ by omega)), if_pos i1, if_pos i2, if_pos i3, if_pos i4]
      have ih' := ih (n + 1) (by omega) (by omega) (k + 1 + 1 + 1 + 1) (by omega)
      rw [seq4_succ, List.append_assoc] at ih'
      rw [← ih']
      have e1 : k0 + 4 * (n : Int) + 1 = k + 1 := by omega
      have e2 : k0 + 4 * (n : Int) + 2 = k + 1 + 1 := by omega
      have e3 : k0 + 4 * (n : Int) + 3 = k + 1 + 1 + 1 := by omega
      rw [e1, e2, e3, ← hk]
      rfl
    · rw [if_neg (ge_cast h), drop_end h, List.append_nil]
      have : n = x.length := by omega
      subst this
      rw [hk]
theorem p_markOpS (fuel : Nat) (x : List I4) (hl : x.length ≤ 1048576) (hf : x.length < fuel) (k0 : Int) (h0 : 0 ≤ k0 ∧ k0 ≤ 1099511627776) : m_laws_markOpS fuel x k0 = some (k0 + 4 * (x.length : Int), seq4 k0 x.length) := by
  unfold m_laws_markOpS
  have := p_markOpS_L fuel x hl k0 h0 fuel 0 (by omega) (by omega) k0 (by simp)
  simp only [List.drop_zero, Int.natCast_zero, show seq4 k0 0 = [] from rfl, List.nil_append] at this
  erw [this]
  rfl
end Go.Proofs.Ytknghnmcckjjbaa
