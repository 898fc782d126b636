/- The laws on memories, in plain Lean: what the two sides do agrees. -/
import Derived.Test.YtmhdjnmfioaciaaPMem
namespace Go.Proofs.Ytmhdjnmfioaciaa
open Go Go.RowKit
set_option linter.unusedVariables false
set_option linter.unusedSimpArgs false

/-- A list and an index within it. -/
theorem at_of {l : List I3} {i : Int} (h : l.length = 8) (hi : inB i 0 7 = true) : ∃ x, at? l i = some x := at?_some_iff (by rw [inB_true] at hi; omega)
theorem at_set {l : List I3} {i : Int} {x y : I3} (h : at? l i = some x) : at? (l.set i.toNat y) i = some y := by
  obtain ⟨h0, h1⟩ := at?_some h
  unfold at?
  rw [if_pos h0, List.getElem?_set_self (List.getElem?_eq_some_iff.1 h1).1]

theorem s_Lock (fuel : Nat) (k : Int) (l : List I3) (i who : Int) (hl : l.length ≤ 1048576) (hf : l.length < fuel) :
    ∃ k' l' b, m_impl_Lock fuel k l i who = some (k', l', b) ∧ m_spec_Lock fuel k l i who = some (k', l', b) ∧ l'.length = l.length := by
  unfold m_impl_Lock m_spec_Lock
  simp only [p_copyMem fuel k l hl, p_l3Copy fuel k l hl, p_MemOk fuel k l (by omega) hf, p_SMemOk fuel k l (by omega) hf, p_isCell, p_l3Cell, p_isOwner, p_l1In, bind2, Option.bind_some]
  by_cases hm : memB k l = true
  · by_cases hi : inB i 0 7 = true
    · by_cases hw : inB who 1 99 = true
      · obtain ⟨x, hx⟩ := at_of (memB_len hm) hi
        by_cases hc : x.c = 0
        · exact ⟨_, _, _, by simp only [hm, hi, hw, hx, if_true, Option.bind_some, hc]; rfl, by simp only [hm, hi, hw, hx, if_true, Option.bind_some, hc], by simp⟩
        · exact ⟨_, _, _, by simp only [hm, hi, hw, hx, if_true, Option.bind_some, hc, if_false]; rfl, by simp only [hm, hi, hw, hx, if_true, Option.bind_some, hc, if_false], rfl⟩
      · exact ⟨_, _, _, by simp only [hm, hi, hw, if_true, Option.bind_some, if_false]; rfl, by simp [hm, hi, hw], rfl⟩
    · exact ⟨_, _, _, by simp only [hm, hi, if_true, Option.bind_some, if_false]; rfl, by simp [hm, hi], rfl⟩
  · exact ⟨_, _, _, by simp only [hm, if_false]; rfl, by simp [hm], rfl⟩

theorem p_l3Mine (fuel : Nat) (k : Int) (l : List I3) (i who : Int) (hl : l.length ≤ 1048576) (hf : l.length < fuel) :
    m_spec_l3Mine fuel k l i who = some (memB k l && inB i 0 7 && inB who 1 99 && (match at? l i with | some x => decide (x.c = who) | none => false)) := by
  unfold m_spec_l3Mine
  simp only [p_SMemOk fuel k l (by omega) hf, p_l3Cell, p_l1In, Option.bind_some]
  by_cases hm : memB k l = true
  · by_cases hi : inB i 0 7 = true
    · obtain ⟨x, hx⟩ := at_of (memB_len hm) hi
      by_cases hw : inB who 1 99 = true <;> simp [hm, hi, hw, hx]
    · simp [hm, hi]
  · simp [hm]
theorem s_Store (fuel : Nat) (k : Int) (l : List I3) (i who v : Int) (hl : l.length ≤ 1048576) (hf : l.length < fuel) :
    ∃ k' l' b, m_impl_Store fuel k l i who v = some (k', l', b) ∧ m_spec_Store fuel k l i who v = some (k', l', b) ∧ l'.length = l.length := by
  unfold m_impl_Store m_spec_Store
  simp only [p_copyMem fuel k l hl, p_l3Copy fuel k l hl, p_MemOk fuel k l (by omega) hf, p_l3Mine fuel k l i who hl hf, p_isCell, p_isOwner, p_isValue, p_l3Val, bind2, Option.bind_some]
  by_cases hm : memB k l = true
  · by_cases hi : inB i 0 7 = true
    · obtain ⟨x, hx⟩ := at_of (memB_len hm) hi
      by_cases hw : inB who 1 99 = true
      · by_cases hc : x.c = who
        · by_cases hv : inB v 0 65535 = true
          · exact ⟨_, _, _, by simp only [hm, hi, hw, hx, hv, hc, if_true, Option.bind_some]; rfl, by simp [hm, hi, hw, hx, hv, hc], by simp⟩
          · exact ⟨_, _, _, by simp only [hm, hi, hw, hx, hv, hc, if_true, if_false, Option.bind_some]; rfl, by simp [hm, hi, hw, hx, hv, hc], rfl⟩
        · exact ⟨_, _, _, by simp only [hm, hi, hw, hx, hc, if_true, if_false, Option.bind_some]; rfl, by simp [hm, hi, hw, hx, hc], rfl⟩
      · exact ⟨_, _, _, by simp only [hm, hi, hw, if_true, if_false, Option.bind_some]; rfl, by simp [hm, hi, hw, hx], rfl⟩
    · exact ⟨_, _, _, by simp only [hm, hi, if_true, if_false, Option.bind_some]; rfl, by simp [hm, hi], rfl⟩
  · exact ⟨_, _, _, by simp only [hm, if_false]; rfl, by simp [hm], rfl⟩
theorem s_Unlock (fuel : Nat) (k : Int) (l : List I3) (i who v : Int) (hl : l.length ≤ 1048576) (hf : l.length < fuel) :
    ∃ k' l' b, m_impl_Unlock fuel k l i who v = some (k', l', b) ∧ m_spec_Unlock fuel k l i who v = some (k', l', b) ∧ l'.length = l.length := by
  unfold m_impl_Unlock m_spec_Unlock
  simp only [p_copyMem fuel k l hl, p_l3Copy fuel k l hl, p_MemOk fuel k l (by omega) hf, p_l3Mine fuel k l i who hl hf, p_isCell, p_isOwner, p_within, p_l1In, bind2, Option.bind_some]
  by_cases hm : memB k l = true
  · by_cases hi : inB i 0 7 = true
    · obtain ⟨x, hx⟩ := at_of (memB_len hm) hi
      by_cases hw : inB who 1 99 = true
      · by_cases hc : x.c = who
        · by_cases hv : inB v x.b k = true
          · exact ⟨_, _, _, by simp only [hm, hi, hw, hx, hv, hc, if_true, Option.bind_some, at_set hx]; rfl, by simp [hm, hi, hw, hx, hv, hc, at_set hx], by simp⟩
          · exact ⟨_, _, _, by simp only [hm, hi, hw, hx, hv, hc, if_true, if_false, Option.bind_some]; rfl, by simp [hm, hi, hw, hx, hv, hc], rfl⟩
        · exact ⟨_, _, _, by simp only [hm, hi, hw, hx, hc, if_true, if_false, Option.bind_some]; rfl, by simp [hm, hi, hw, hx, hc], rfl⟩
      · exact ⟨_, _, _, by simp only [hm, hi, hw, if_true, if_false, Option.bind_some]; rfl, by simp [hm, hi, hw, hx], rfl⟩
    · exact ⟨_, _, _, by simp only [hm, hi, if_true, if_false, Option.bind_some]; rfl, by simp [hm, hi], rfl⟩
  · exact ⟨_, _, _, by simp only [hm, if_false]; rfl, by simp [hm], rfl⟩
theorem s_Tick (fuel : Nat) (k : Int) (l : List I3) (hl : l.length ≤ 1048576) (hf : l.length < fuel) :
    ∃ k' l' b, m_impl_Tick fuel k l = some (k', l', b) ∧ m_spec_Tick fuel k l = some (k', l', b) ∧ l'.length = l.length := by
  unfold m_impl_Tick m_spec_Tick
  simp only [p_copyMem fuel k l hl, p_l3Copy fuel k l hl, p_MemOk fuel k l (by omega) hf, p_SMemOk fuel k l (by omega) hf, bind2, Option.bind_some]
  by_cases hm : memB k l = true
  · have hk : 0 ≤ k ∧ k ≤ 1000000 := by simp only [memB, Bool.and_eq_true] at hm; exact inB_true.1 hm.1.2
    by_cases h : k = 1000000
    · subst h; exact ⟨_, _, _, by simp only [hm, if_true]; rfl, by simp [hm], rfl⟩
    · have hin : in64 (k + 1) := in64_of (by omega) (by omega)
      exact ⟨_, _, _, by simp only [hm, h, hin, if_true, if_false]; rfl, by simp [hm, hin, show ¬ (1000000 ≤ k) by omega], rfl⟩
  · exact ⟨_, _, _, by simp only [hm, if_false]; rfl, by simp [hm], rfl⟩

/-! Lists made of lists. -/
theorem p_MemNew_L (fuel : Nat) (x : List Int) (hl : x.length ≤ 1048576) : ∀ K n, n ≤ x.length → x.length < n + K →
    m_impl_MemNew_L0 fuel x K ((x.take n).map fun v => ⟨v, 0, 0⟩) (n : Int) = some (x.map fun v => ⟨v, 0, 0⟩) := by
  intro K
  induction K with
  | zero => intro n h1 h2; omega
  | succ K ih =>
    intro n h1 h2
    rw [m_impl_MemNew_L0]
    by_cases h : n < x.length
    · have := ih (n + 1) (by omega) (by omega)
      rw [take_snoc' h, List.map_append] at this
      simp only [if_pos (lt_cast h), at?_lt h, Option.bind_some, if_pos (in64_succ h (show x.length ≤ _ by omega))]
      rw [if_pos (by simp; omega)]
      exact this
    · rw [if_neg (ge_cast h), List.take_of_length_le (by omega)]
theorem p_SMemNew_L (fuel : Nat) (x : List Int) (hl : x.length ≤ 1048576) : ∀ K n, n ≤ x.length → x.length < n + K →
    m_spec_MemNew_L0 fuel x K ((x.take n).map fun v => ⟨v, 0, 0⟩) (n : Int) = some (x.map fun v => ⟨v, 0, 0⟩) := by
  intro K
  induction K with
  | zero => intro n h1 h2; omega
  | succ K ih =>
    intro n h1 h2
    rw [m_spec_MemNew_L0]
    by_cases h : n < x.length
    · have := ih (n + 1) (by omega) (by omega)
      rw [take_snoc' h, List.map_append] at this
      simp only [if_pos (lt_cast h), at?_lt h, Option.bind_some, if_pos (in64_succ h (show x.length ≤ _ by omega))]
      rw [if_pos (by simp; omega)]
      exact this
    · rw [if_neg (ge_cast h), List.take_of_length_le (by omega)]
theorem s_MemNew (fuel : Nat) (x : List Int) (hl : x.length ≤ 1048576) (hf : x.length < fuel) :
    ∃ k' l' b, m_impl_MemNew fuel x = some (k', l', b) ∧ m_spec_MemNew fuel x = some (k', l', b) ∧ l'.length ≤ x.length := by
  unfold m_impl_MemNew m_spec_MemNew
  have h1 := p_MemNew_L fuel x hl fuel 0 (by omega) (by omega)
  have h2 := p_SMemNew_L fuel x hl fuel 0 (by omega) (by omega)
  simp only [List.take_zero, List.map_nil] at h1 h2
  simp only [p_areValues fuel x 8 (by omega) hf, p_l3Vals fuel x (by omega) hf, Option.bind_some]
  by_cases hm : (valsB x && decide ((x.length : Int) = 8)) = true
  · simp only [hm, if_true]
    erw [h1, h2]
    exact ⟨_, _, _, rfl, rfl, by simp⟩
  · simp only [hm, if_false]
    exact ⟨_, _, _, rfl, rfl, by simp⟩
theorem p_Values_L (fuel : Nat) (x : List I3) (hl : x.length ≤ 1048576) : ∀ K n, n ≤ x.length → x.length < n + K →
    m_impl_Values_L0 fuel x K ((x.take n).map fun v => v.a) (n : Int) = some (x.map fun v => v.a) := by
  intro K
  induction K with
  | zero => intro n h1 h2; omega
  | succ K ih =>
    intro n h1 h2
    rw [m_impl_Values_L0]
    by_cases h : n < x.length
    · have := ih (n + 1) (by omega) (by omega)
      rw [take_snoc' h, List.map_append] at this
      simp only [if_pos (lt_cast h), at?_lt h, Option.bind_some, if_pos (in64_succ h (show x.length ≤ _ by omega))]
      rw [if_pos (by simp; omega)]
      exact this
    · rw [if_neg (ge_cast h), List.take_of_length_le (by omega)]
theorem p_SValues_L (fuel : Nat) (x : List I3) (hl : x.length ≤ 1048576) : ∀ K n, n ≤ x.length → x.length < n + K →
    m_spec_Values_L0 fuel x K ((x.take n).map fun v => v.a) (n : Int) = some (x.map fun v => v.a) := by
  intro K
  induction K with
  | zero => intro n h1 h2; omega
  | succ K ih =>
    intro n h1 h2
    rw [m_spec_Values_L0]
    by_cases h : n < x.length
    · have := ih (n + 1) (by omega) (by omega)
      rw [take_snoc' h, List.map_append] at this
      simp only [if_pos (lt_cast h), at?_lt h, Option.bind_some, if_pos (in64_succ h (show x.length ≤ _ by omega))]
      rw [if_pos (by simp; omega)]
      exact this
    · rw [if_neg (ge_cast h), List.take_of_length_le (by omega)]
theorem s_Values (fuel : Nat) (k : Int) (x : List I3) (hl : x.length ≤ 1048576) (hf : x.length < fuel) :
    ∃ l', m_impl_Values fuel k x = some l' ∧ m_spec_Values fuel k x = some l' ∧ l'.length ≤ x.length := by
  unfold m_impl_Values m_spec_Values
  have h1 := p_Values_L fuel x hl fuel 0 (by omega) (by omega)
  have h2 := p_SValues_L fuel x hl fuel 0 (by omega) (by omega)
  simp only [List.take_zero, List.map_nil] at h1 h2
  simp only [p_MemOk fuel k x (by omega) hf, p_SMemOk fuel k x (by omega) hf, Option.bind_some]
  by_cases hm : memB k x = true
  · simp only [hm, if_true]
    erw [h1, h2]
    exact ⟨_, rfl, rfl, by simp⟩
  · simp only [hm, if_false]
    exact ⟨_, rfl, rfl, by simp⟩

/-! The laws. -/
theorem pure_FnExactLock {k : Int} {l : List I3} {i who : Int} (_ : in64 k) (hl : l.length ≤ maxLen) (_ : in64 i) (_ : in64 who) : ∃ fuel, m_laws_FnExactLock fuel k l i who = some true := by
  refine ⟨l.length + 1, ?_⟩
  unfold m_laws_FnExactLock
  rw [p_szMem _ _ _ hl]
  by_cases hs : (1048576 : Int) < (l.length : Int)
  · simp [hs]
  · have hl' : l.length ≤ 1048576 := by omega
    obtain ⟨k', l', b, h1, h2, h3⟩ := s_Lock (l.length + 1) k l i who hl' (by omega)
    simp only [hs, if_false, Option.bind_some, bind2, bind3, p_toMem (l.length + 1) k l hl' (by omega), h1, h2]
    have e1 := fun a b => p_eqMem (l.length + 1) k' a l' b (by omega) (by omega)
    have e2 := fun a b => p_eqMem (l.length + 1) k a l b (by omega) (by omega)
    have e3 := p_markMem (l.length + 1) k l hl' (by omega) 1 (by omega)
    have e4 := p_markMem (l.length + 1) k' l' (by omega) (by omega) 1 (by omega)
    have e5 := p_heldMem (l.length + 1) k' l'.length (by omega) (by omega) 1 (by omega)
    simp only [e1, e2, e3, e4, e5, and_self, decide_true, if_true, Option.bind_some, beq_self_eq_true, show ¬ (1048576 - (l.length : Int) < 0) by omega, show ¬ (1 + 3 * (l.length : Int) < 0) by omega, show ¬ (1 + 3 * (l'.length : Int) < 0) by omega, if_false]
theorem pure_FnExactStore {k : Int} {l : List I3} {i who v : Int} (_ : in64 k) (hl : l.length ≤ maxLen) (_ : in64 i) (_ : in64 who) (_ : in64 v) : ∃ fuel, m_laws_FnExactStore fuel k l i who v = some true := by
  refine ⟨l.length + 1, ?_⟩
  unfold m_laws_FnExactStore
  rw [p_szMem _ _ _ hl]
  by_cases hs : (1048576 : Int) < (l.length : Int)
  · simp [hs]
  · have hl' : l.length ≤ 1048576 := by omega
    obtain ⟨k', l', b, h1, h2, h3⟩ := s_Store (l.length + 1) k l i who v hl' (by omega)
    simp only [hs, if_false, Option.bind_some, bind2, bind3, p_toMem (l.length + 1) k l hl' (by omega), h1, h2]
    have e1 := fun a b => p_eqMem (l.length + 1) k' a l' b (by omega) (by omega)
    have e2 := fun a b => p_eqMem (l.length + 1) k a l b (by omega) (by omega)
    have e3 := p_markMem (l.length + 1) k l hl' (by omega) 1 (by omega)
    have e4 := p_markMem (l.length + 1) k' l' (by omega) (by omega) 1 (by omega)
    have e5 := p_heldMem (l.length + 1) k' l'.length (by omega) (by omega) 1 (by omega)
    simp only [e1, e2, e3, e4, e5, and_self, decide_true, if_true, Option.bind_some, beq_self_eq_true, show ¬ (1048576 - (l.length : Int) < 0) by omega, show ¬ (1 + 3 * (l.length : Int) < 0) by omega, show ¬ (1 + 3 * (l'.length : Int) < 0) by omega, if_false]
theorem pure_FnExactUnlock {k : Int} {l : List I3} {i who v : Int} (_ : in64 k) (hl : l.length ≤ maxLen) (_ : in64 i) (_ : in64 who) (_ : in64 v) : ∃ fuel, m_laws_FnExactUnlock fuel k l i who v = some true := by
  refine ⟨l.length + 1, ?_⟩
  unfold m_laws_FnExactUnlock
  rw [p_szMem _ _ _ hl]
  by_cases hs : (1048576 : Int) < (l.length : Int)
  · simp [hs]
  · have hl' : l.length ≤ 1048576 := by omega
    obtain ⟨k', l', b, h1, h2, h3⟩ := s_Unlock (l.length + 1) k l i who v hl' (by omega)
    simp only [hs, if_false, Option.bind_some, bind2, bind3, p_toMem (l.length + 1) k l hl' (by omega), h1, h2]
    have e1 := fun a b => p_eqMem (l.length + 1) k' a l' b (by omega) (by omega)
    have e2 := fun a b => p_eqMem (l.length + 1) k a l b (by omega) (by omega)
    have e3 := p_markMem (l.length + 1) k l hl' (by omega) 1 (by omega)
    have e4 := p_markMem (l.length + 1) k' l' (by omega) (by omega) 1 (by omega)
    have e5 := p_heldMem (l.length + 1) k' l'.length (by omega) (by omega) 1 (by omega)
    simp only [e1, e2, e3, e4, e5, and_self, decide_true, if_true, Option.bind_some, beq_self_eq_true, show ¬ (1048576 - (l.length : Int) < 0) by omega, show ¬ (1 + 3 * (l.length : Int) < 0) by omega, show ¬ (1 + 3 * (l'.length : Int) < 0) by omega, if_false]
theorem pure_FnExactTick {k : Int} {l : List I3} (_ : in64 k) (hl : l.length ≤ maxLen) : ∃ fuel, m_laws_FnExactTick fuel k l = some true := by
  refine ⟨l.length + 1, ?_⟩
  unfold m_laws_FnExactTick
  rw [p_szMem _ _ _ hl]
  by_cases hs : (1048576 : Int) < (l.length : Int)
  · simp [hs]
  · have hl' : l.length ≤ 1048576 := by omega
    obtain ⟨k', l', b, h1, h2, h3⟩ := s_Tick (l.length + 1) k l hl' (by omega)
    simp only [hs, if_false, Option.bind_some, bind2, bind3, p_toMem (l.length + 1) k l hl' (by omega), h1, h2]
    have e1 := fun a b => p_eqMem (l.length + 1) k' a l' b (by omega) (by omega)
    have e2 := fun a b => p_eqMem (l.length + 1) k a l b (by omega) (by omega)
    have e3 := p_markMem (l.length + 1) k l hl' (by omega) 1 (by omega)
    have e4 := p_markMem (l.length + 1) k' l' (by omega) (by omega) 1 (by omega)
    have e5 := p_heldMem (l.length + 1) k' l'.length (by omega) (by omega) 1 (by omega)
    simp only [e1, e2, e3, e4, e5, and_self, decide_true, if_true, Option.bind_some, show ¬ (1048576 - (l.length : Int) < 0) by omega, show ¬ (1 + 3 * (l.length : Int) < 0) by omega, show ¬ (1 + 3 * (l'.length : Int) < 0) by omega, if_false]
theorem pure_FnExactMemNew {x : List Int} (hl : x.length ≤ maxLen) : ∃ fuel, m_laws_FnExactMemNew fuel x = some true := by
  refine ⟨x.length + 1, ?_⟩
  unfold m_laws_FnExactMemNew
  by_cases hs : (1048576 : Int) < (x.length : Int)
  · simp [hs]
  · have hl' : x.length ≤ 1048576 := by omega
    obtain ⟨k', l', b, h1, h2, h3⟩ := s_MemNew (x.length + 1) x hl' (by omega)
    simp only [hs, if_false, Option.bind_some, bind2, bind3, p_toIntS (x.length + 1) x hl' (by omega), h1, h2]
    have e1 := fun a b => p_eqMem (x.length + 1) k' a l' b (by omega) (by omega)
    have e2 := fun b => p_eqIntS (x.length + 1) x b (by omega) (by omega)
    have e3 := p_markIntS (x.length + 1) x hl' (by omega) 1 (by omega)
    have e4 := p_markMem (x.length + 1) k' l' (by omega) (by omega) 1 (by omega)
    have e5 := p_heldMem (x.length + 1) k' l'.length (by omega) (by omega) 1 (by omega)
    simp only [e1, e2, e3, e4, e5, and_self, decide_true, if_true, Option.bind_some, beq_self_eq_true, show ¬ (1 + (x.length : Int) < 0) by omega, show ¬ (1 + 3 * (l'.length : Int) < 0) by omega, if_false]
theorem pure_FnExactValues {k : Int} {l : List I3} (_ : in64 k) (hl : l.length ≤ maxLen) : ∃ fuel, m_laws_FnExactValues fuel k l = some true := by
  refine ⟨l.length + 1, ?_⟩
  unfold m_laws_FnExactValues
  rw [p_szMem _ _ _ hl]
  by_cases hs : (1048576 : Int) < (l.length : Int)
  · simp [hs]
  · have hl' : l.length ≤ 1048576 := by omega
    obtain ⟨l', h1, h2, h3⟩ := s_Values (l.length + 1) k l hl' (by omega)
    simp only [hs, if_false, Option.bind_some, bind2, bind3, p_toMem (l.length + 1) k l hl' (by omega), h1, h2]
    have e1 := fun b => p_eqIntS (l.length + 1) l' b (by omega) (by omega)
    have e2 := fun a b => p_eqMem (l.length + 1) k a l b (by omega) (by omega)
    have e3 := p_markMem (l.length + 1) k l hl' (by omega) 1 (by omega)
    have e4 := p_markIntS (l.length + 1) l' (by omega) (by omega) 1 (by omega)
    have e5 := p_heldIntS (l.length + 1) l'.length (by omega) (by omega) 1 (by omega)
    simp only [e1, e2, e3, e4, e5, and_self, decide_true, if_true, Option.bind_some, show ¬ (1048576 - (l.length : Int) < 0) by omega, show ¬ (1 + 3 * (l.length : Int) < 0) by omega, show ¬ (1 + (l'.length : Int) < 0) by omega, if_false]
end Go.Proofs.Ytmhdjnmfioaciaa
