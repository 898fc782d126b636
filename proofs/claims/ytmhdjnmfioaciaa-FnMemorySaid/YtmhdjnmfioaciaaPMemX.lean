/- What the functions on memories do, in plain Lean; FnMemory. -/
import Derived.Test.YtmhdjnmfioaciaaPu
import Derived.Test.YtmhdjnmfioaciaaX2
import Derived.Laws.BitsLemmas
namespace Go.Proofs.Ytmhdjnmfioaciaa
open Go Go.RowKit
set_option linter.unusedVariables false
set_option linter.unusedSimpArgs false



theorem p_within (fuel : Nat) (x lo hi : Int) : m_impl_within fuel x lo hi = some (inB x lo hi) := by
  unfold m_impl_within inB; split <;> simp_all <;> omega
theorem p_l1In (fuel : Nat) (x lo hi : Int) : m_spec_l1In fuel x lo hi = some (inB x lo hi) := by
  unfold m_spec_l1In inB; split <;> simp_all <;> omega
theorem p_isValue (fuel : Nat) (x : Int) : m_impl_isValue fuel x = some (inB x 0 65535) := by simp [m_impl_isValue, p_within]
theorem p_isCell (fuel : Nat) (x : Int) : m_impl_isCell fuel x = some (inB x 0 7) := by simp [m_impl_isCell, p_within]
theorem p_isOwner (fuel : Nat) (x : Int) : m_impl_isOwner fuel x = some (inB x 1 99) := by simp [m_impl_isOwner, p_within]
theorem p_l3Val (fuel : Nat) (x : Int) : m_spec_l3Val fuel x = some (inB x 0 65535) := by simp [m_spec_l3Val, p_l1In]
theorem p_l3Cell (fuel : Nat) (x : Int) : m_spec_l3Cell fuel x = some (inB x 0 7) := by simp [m_spec_l3Cell, p_l1In]

/-! Lists of values. -/
def valsB (l : List Int) : Bool := l.all fun x => inB x 0 65535
/-! Memories. -/
def wordB (k : Int) (w : I3) : Bool := inB w.a 0 65535 && inB w.b 0 k && inB w.c 0 99
def memB (k : Int) (l : List I3) : Bool := decide ((l.length : Int) = 8) && inB k 0 1000000 && l.all (wordB k)
theorem p_MemOk_L (fuel : Nat) (k : Int) (x : List I3) (hl : x.length ≤ 4611686018427387904) : ∀ K n, n ≤ x.length → x.length < n + K →
    m_impl_MemOk_L0 fuel k x K (n : Int) = some (if (x.drop n).all (wordB k) = true then .brk () else .ret false) := by
  intro K
  induction K with
  | zero => intro n h1 h2; omega
  | succ K ih =>
    intro n h1 h2
    rw [m_impl_MemOk_L0]
    by_cases h : n < x.length
    · rw [drop_cons h]
      have := ih (n + 1) (by omega) (by omega)
      simp only [if_pos (lt_cast h), at?_lt h, Option.bind_some, p_isValue, p_within, if_pos (in64_succ h (show x.length ≤ _ by omega)), List.all_cons, wordB]
      by_cases e1 : inB x[n].a 0 65535 = true <;> by_cases e2 : inB x[n].b 0 k = true <;> by_cases e3 : inB x[n].c 0 99 = true <;> simp only [e1, e2, e3, Bool.eq_false_iff.2, if_true, Bool.true_and, Bool.false_and, Bool.false_eq_true, if_false, Bool.and_false] <;> first | exact this | simp
    · rw [if_neg (ge_cast h), drop_end h]; rfl
theorem p_MemOk (fuel : Nat) (k : Int) (x : List I3) (hl : x.length ≤ 4611686018427387904) (hf : x.length < fuel) : m_impl_MemOk fuel k x = some (memB k x) := by
  unfold m_impl_MemOk memB
  have := p_MemOk_L fuel k x hl fuel 0 (by omega) (by omega)
  simp only [List.drop_zero] at this
  erw [this]
  cases x.all (wordB k) <;> simp [contL, un1, p_within]
  split <;> simp_all
theorem p_SMemOk_L (fuel : Nat) (k : Int) (x : List I3) (hl : x.length ≤ 4611686018427387904) : ∀ K n, n ≤ x.length → x.length < n + K →
    m_spec_MemOk_L0 fuel k x K (n : Int) = some (if (x.drop n).all (wordB k) = true then .brk () else .ret false) := by
  intro K
  induction K with
  | zero => intro n h1 h2; omega
  | succ K ih =>
    intro n h1 h2
    rw [m_spec_MemOk_L0]
    by_cases h : n < x.length
    · rw [drop_cons h]
      have := ih (n + 1) (by omega) (by omega)
      simp only [if_pos (lt_cast h), at?_lt h, Option.bind_some, p_l3Val, p_l1In, if_pos (in64_succ h (show x.length ≤ _ by omega)), List.all_cons, wordB]
      by_cases e1 : inB x[n].a 0 65535 = true <;> by_cases e2 : inB x[n].b 0 k = true <;> by_cases e3 : inB x[n].c 0 99 = true <;> simp only [e1, e2, e3, Bool.eq_false_iff.2, if_true, Bool.true_and, Bool.false_and, Bool.false_eq_true, if_false, Bool.and_false] <;> first | exact this | simp
    · rw [if_neg (ge_cast h), drop_end h]; rfl
theorem p_SMemOk (fuel : Nat) (k : Int) (x : List I3) (hl : x.length ≤ 4611686018427387904) (hf : x.length < fuel) : m_spec_MemOk fuel k x = some (memB k x) := by
  unfold m_spec_MemOk memB
  have := p_SMemOk_L fuel k x hl fuel 0 (by omega) (by omega)
  simp only [List.drop_zero] at this
  by_cases h8 : (x.length : Int) = 8
  · rw [if_pos h8, p_l1In]
    simp only [Option.bind_some, h8, decide_true, Bool.true_and]
    cases inB k 0 1000000 with
    | false => simp
    | true =>
      simp only [if_true, Bool.true_and]
      erw [this]
      cases x.all (wordB k) <;> simp [contL, un1]
  · rw [if_neg h8]; simp [h8]
theorem memB_len {k : Int} {l : List I3} (h : memB k l = true) : l.length = 8 := by
  simp only [memB, Bool.and_eq_true, decide_eq_true_eq] at h; omega
theorem p_copyMem (fuel : Nat) (k : Int) (x : List I3) (hl : x.length ≤ 1048576) : m_impl_copyMem fuel k x = some (k, x) := by
  unfold m_impl_copyMem; rw [if_pos (by simp; omega)]; simp
theorem p_l3Copy (fuel : Nat) (k : Int) (x : List I3) (hl : x.length ≤ 1048576) : m_spec_l3Copy fuel k x = some (k, x) := by
  unfold m_spec_l3Copy; rw [if_pos (by simp; omega)]; simp



/-- A list and an index within it. -/
theorem at_of {l : List I3} {i : Int} (h : l.length = 8) (hi : inB i 0 7 = true) : ∃ x, at? l i = some x := at?_some_iff (by rw [inB_true] at hi; omega)
theorem at_set {l : List I3} {i : Int} {x y : I3} (h : at? l i = some x) : at? (l.set i.toNat y) i = some y := by
  obtain ⟨h0, h1⟩ := at?_some h
  unfold at?
  rw [if_pos h0, List.getElem?_set_self (List.getElem?_eq_some_iff.1 h1).1]

theorem s_Lock (fuel : Nat) (k : Int) (l : List I3) (i who : Int) (hl : l.length ≤ 1048576) (hf : l.length < fuel) :
    ∃ k' l' b, m_impl_Lock fuel k l i who = some (k', l', b) ∧ m_spec_Lock fuel k l i who = some (k', l', b) ∧ l'.length = l.length := by
  unfold m_impl_Lock m_spec_Lock
  simp only [p_copyMem fuel k l hl, p_l3Copy fuel k l hl, p_MemOk fuel k l (by omega) hf, p_SMemOk fuel k l (by omega) hf, p_isCell, p_l3Cell, p_isOwner, p_l1In, bind2, Option.bind_some]
  by_cases hm : memB k l = true
  · by_cases hi : inB i 0 7 = true
    · by_cases hw : inB who 1 99 = true
      · obtain ⟨x, hx⟩ := at_of (memB_len hm) hi
        by_cases hc : x.c = 0
        · exact ⟨_, _, _, by simp only [hm, hi, hw, hx, if_true, Option.bind_some, hc]; rfl, by simp only [hm, hi, hw, hx, if_true, Option.bind_some, hc], by simp⟩
        · exact ⟨_, _, _, by simp only [hm, hi, hw, hx, if_true, Option.bind_some, hc, if_false]; rfl, by simp only [hm, hi, hw, hx, if_true, Option.bind_some, hc, if_false], rfl⟩
      · exact ⟨_, _, _, by simp only [hm, hi, hw, if_true, Option.bind_some, if_false]; rfl, by simp [hm, hi, hw], rfl⟩
    · exact ⟨_, _, _, by simp only [hm, hi, if_true, Option.bind_some, if_false]; rfl, by simp [hm, hi], rfl⟩
  · exact ⟨_, _, _, by simp only [hm, if_false]; rfl, by simp [hm], rfl⟩

theorem p_Values_L (fuel : Nat) (x : List I3) (hl : x.length ≤ 1048576) : ∀ K n, n ≤ x.length → x.length < n + K →
    m_impl_Values_L0 fuel x K ((x.take n).map fun v => v.a) (n : Int) = some (x.map fun v => v.a) := by
  intro K
  induction K with
  | zero => intro n h1 h2; omega
  | succ K ih =>
    intro n h1 h2
    rw [m_impl_Values_L0]
    by_cases h : n < x.length
    · have := ih (n + 1) (by omega) (by omega)
      rw [take_snoc' h, List.map_append] at this
      simp only [if_pos (lt_cast h), at?_lt h, Option.bind_some, if_pos (in64_succ h (show x.length ≤ _ by omega))]
      rw [if_pos (by simp; omega)]
      exact this
    · rw [if_neg (ge_cast h), List.take_of_length_le (by omega)]


theorem and_b (x : Int) (M : Nat) (hM : M < 4611686018427387904) : 0 ≤ bits .and .i64 x (M : Int) ∧ bits .and .i64 x (M : Int) ≤ (M : Int) := by
  have h := Nat.and_le_right (n := (BitVec.ofInt 64 x).toNat) (m := M % 2 ^ 64)
  have e : bits .and .i64 x (M : Int) = IntKind.i64.wrap (((BitVec.ofInt 64 x).toNat &&& (M % 2 ^ 64) : Nat) : Int) := by
    show IntKind.i64.wrap (((BitVec.ofInt 64 x &&& BitVec.ofInt 64 (M : Int)).toNat : Nat) : Int) = _
    rw [BitVec.toNat_and, BitVec.ofInt_natCast, BitVec.toNat_ofNat]
  rw [e, IntKind.wrap_i64]
  have : M % 2 ^ 64 = M := Nat.mod_eq_of_lt (by omega)
  rw [this] at h ⊢
  omega
theorem p_l1New_L (fuel : Nat) (x : List UInt8) (hl : x.length ≤ 1048576) : ∀ K n (s : Int), 0 ≤ s ∧ s ≤ 4611686018427 → n ≤ x.length → x.length < n + K →
    ∃ s', m_spec_l1New_L0 fuel x K s (n : Int) = some s' := by
  intro K
  induction K with
  | zero => intro n s hs h1 h2; omega
  | succ K ih =>
    intro n s hs h1 h2
    rw [m_spec_l1New_L0]
    by_cases h : n < x.length
    · by_cases h4 : (n : Int) < 4000
      · have hb : ((x[n].toNat : Nat) : Int) < 256 := by have := x[n].toNat_lt; omega
        have i1 : in64 (s * 131) := in64_of (by omega) (by omega)
        have i2 : in64 (s * 131 + (x[n].toNat : Int)) := in64_of (by omega) (by omega)
        have i3 : in64 (s * 131 + (x[n].toNat : Int) + 7) := in64_of (by omega) (by omega)
        simp only [if_pos (lt_cast h), if_pos h4, at?_lt h, Option.bind_some, if_pos i1, if_pos i2, if_pos i3, if_pos (in64_succ h (show x.length ≤ _ by omega))]
        have := and_b (s * 131 + (x[n].toNat : Int) + 7) 1073741823 (by omega)
        exact ih (n + 1) _ ⟨this.1, Int.le_trans this.2 (by omega)⟩ (by omega) (by omega)
      · simp only [if_pos (lt_cast h), if_neg h4]; exact ⟨_, rfl⟩
    · simp only [if_neg (ge_cast h)]; exact ⟨_, rfl⟩
theorem p_l1New (fuel : Nat) (x : List UInt8) (hl : x.length ≤ 1048576) (hf : x.length < fuel) : ∃ s, m_spec_l1New fuel x = some (0, s) := by
  unfold m_spec_l1New
  rw [if_pos (in64_of (by omega) (by omega))]
  obtain ⟨s, h⟩ := p_l1New_L fuel x hl fuel 0 (10101 + (x.length : Int)) (by omega) (by omega) (by omega)
  exact ⟨s, by erw [h]; rfl⟩
theorem p_l1Byte (fuel : Nat) (x : List UInt8) (p s : Int) (hl : x.length ≤ 1048576) (hp : 0 ≤ p) : ∃ b p' s', m_spec_l1Byte fuel x p s = some (b, p', s') ∧ 0 ≤ b ∧ b ≤ 255 ∧ 0 ≤ p' := by
  unfold m_spec_l1Byte
  by_cases h : p < (x.length : Int)
  · obtain ⟨v, hv⟩ := at?_some_iff (l := x) (i := p) ⟨hp, h⟩
    simp only [if_pos h, hv, Option.bind_some, bind3]
    refine ⟨_, _, _, rfl, (and_b _ 255 (by omega)).1, (and_b _ 255 (by omega)).2, ?_⟩
    rw [IntKind.wrap_i64]; omega
  · simp only [if_neg h, Option.bind_some, bind3]
    exact ⟨_, _, _, rfl, (and_b _ 255 (by omega)).1, (and_b _ 255 (by omega)).2, hp⟩
theorem p_l1Below (fuel : Nat) (x : List UInt8) (p s n : Int) (hl : x.length ≤ 1048576) (hp : 0 ≤ p) : ∃ v p' s', m_spec_l1Below fuel x p s n = some (v, p', s') ∧ 0 ≤ v ∧ (0 < n → v < n) ∧ (n ≤ 0 → v = 0) ∧ 0 ≤ p' := by
  unfold m_spec_l1Below
  by_cases h0 : n ≤ 0
  · rw [if_pos h0]; exact ⟨_, _, _, rfl, Int.le_refl _, fun q => by omega, fun _ => rfl, hp⟩
  · rw [if_neg h0]
    have hn : (n : Int) ≠ 0 := by omega
    by_cases h1 : n ≤ 256
    · rw [if_pos h1]
      obtain ⟨b, p1, s1, e1, b1, b2, b3⟩ := p_l1Byte fuel x p s hl hp
      simp only [e1, bind3, Option.bind_some, if_pos hn]
      exact ⟨_, _, _, rfl, by rw [Int.tmod_eq_emod_of_nonneg b1]; exact Int.emod_nonneg _ hn, fun _ => by rw [Int.tmod_eq_emod_of_nonneg b1]; exact Int.emod_lt_of_pos _ (by omega), fun q => by omega, b3⟩
    · rw [if_neg h1]
      obtain ⟨b, p1, s1, e1, b1, b2, b3⟩ := p_l1Byte fuel x p s hl hp
      obtain ⟨c, p2, s2, e2, c1, c2, c3⟩ := p_l1Byte fuel x p1 s1 hl b3
      obtain ⟨d, p3, s3, e3, d1, d2, d3⟩ := p_l1Byte fuel x p2 s2 hl c3
      obtain ⟨e, p4, s4, e4, f1, f2, f3⟩ := p_l1Byte fuel x p3 s3 hl d3
      have i1 : in64 (b * 16777216) := in64_of (by omega) (by omega)
      have i2 : in64 (c * 65536) := in64_of (by omega) (by omega)
      have i3 : in64 (b * 16777216 + c * 65536) := in64_of (by omega) (by omega)
      have i4 : in64 (d * 256) := in64_of (by omega) (by omega)
      have i5 : in64 (b * 16777216 + c * 65536 + d * 256) := in64_of (by omega) (by omega)
      have i6 : in64 (b * 16777216 + c * 65536 + d * 256 + e) := in64_of (by omega) (by omega)
      simp only [e1, e2, e3, e4, bind3, Option.bind_some, if_pos i1, if_pos i2, if_pos i3, if_pos i4, if_pos i5, if_pos i6, if_pos hn]
      have hz : 0 ≤ b * 16777216 + c * 65536 + d * 256 + e := by omega
      exact ⟨_, _, _, rfl, by rw [Int.tmod_eq_emod_of_nonneg hz]; exact Int.emod_nonneg _ hn, fun _ => by rw [Int.tmod_eq_emod_of_nonneg hz]; exact Int.emod_lt_of_pos _ (by omega), fun q => by omega, f3⟩
theorem p_l1Once (fuel : Nat) (x : List UInt8) (p s n : Int) (hl : x.length ≤ 1048576) (hp : 0 ≤ p) : ∃ v p' s', m_spec_l1Once fuel x p s n = some (v, p', s') ∧ 0 ≤ p' := by
  obtain ⟨v, p', s', e, h1, h2, h3, h4⟩ := p_l1Below fuel x p s n hl hp
  exact ⟨decide (v = 0), p', s', by simp only [m_spec_l1Once, e, bind3, Option.bind_some], h4⟩
theorem p_l1PickInt (fuel : Nat) (x : List UInt8) (p s : Int) (l : List Int) (hl : x.length ≤ 1048576) (hp : 0 ≤ p) (hn : 0 < l.length) : ∃ v p' s', m_spec_l1PickInt fuel x p s l = some (v, p', s') ∧ v ∈ l ∧ 0 ≤ p' := by
  obtain ⟨v, p', s', e, h1, h2, h3, h4⟩ := p_l1Below fuel x p s (l.length : Int) hl hp
  obtain ⟨u, hu⟩ := at?_some_iff (l := l) (i := v) ⟨h1, h2 (by omega)⟩
  exact ⟨u, p', s', by simp only [m_spec_l1PickInt, e, bind3, Option.bind_some, hu], List.mem_of_getElem? (at?_some hu).2, h4⟩


/-! What the law on memories speaks of. -/
theorem l3_eq (x y : I3) : ([x.a, x.b, x.c] = [y.a, y.b, y.c]) = (x = y) := by cases x; cases y; simp
theorem memB_set {k : Int} {l : List I3} {n : Nat} {x : I3} (h : memB k l = true) (hx : wordB k x = true) : memB k (l.set n x) = true := by
  simp only [memB, Bool.and_eq_true, List.length_set] at h ⊢
  refine ⟨h.1, List.all_eq_true.2 fun y hy => ?_⟩
  rcases List.mem_or_eq_of_mem_set hy with hy | rfl
  · exact List.all_eq_true.1 h.2 y hy
  · exact hx
theorem memB_at {k : Int} {l : List I3} {i : Int} {x : I3} (h : memB k l = true) (hx : at? l i = some x) : wordB k x = true := by
  simp only [memB, Bool.and_eq_true] at h
  exact List.all_eq_true.1 h.2 x (List.mem_of_getElem? (at?_some hx).2)
theorem memB_k {k : Int} {l : List I3} (h : memB k l = true) : 0 ≤ k ∧ k ≤ 1000000 := by
  simp only [memB, Bool.and_eq_true] at h; exact inB_true.1 h.1.2
theorem t_LockNo (F : Nat) {k : Int} {l : List I3} {i who : Int} {x : I3} (hf : 8 < F) (hm : memB k l = true) (hi : inB i 0 7 = true) (hw : inB who 1 99 = true) (hx : at? l i = some x) (hc : ¬ x.c = 0) : m_impl_Lock F k l i who = some (k, l, false) := by
  have h8 := memB_len hm
  unfold m_impl_Lock
  simp only [p_copyMem F k l (by omega), p_MemOk F k l (by omega) (by omega), p_isCell, p_isOwner, bind2, Option.bind_some, hm, hi, hw, hx, if_true, if_neg hc]
theorem t_Lock (F : Nat) (k : Int) (l : List I3) (i who : Int) (hl : l.length ≤ 8) (hf : 8 < F) :
    (∃ x, memB k l = true ∧ inB i 0 7 = true ∧ inB who 1 99 = true ∧ at? l i = some x ∧ x.c = 0 ∧ m_impl_Lock F k l i who = some (k, l.set i.toNat ⟨x.a, x.b, who⟩, true) ∧ m_spec_Lock F k l i who = some (k, l.set i.toNat ⟨x.a, x.b, who⟩, true)) ∨
    (m_impl_Lock F k l i who = some (k, l, false) ∧ m_spec_Lock F k l i who = some (k, l, false)) := by
  unfold m_impl_Lock m_spec_Lock
  simp only [p_copyMem F k l (by omega), p_l3Copy F k l (by omega), p_MemOk F k l (by omega) (by omega), p_SMemOk F k l (by omega) (by omega), p_isCell, p_l3Cell, p_isOwner, p_l1In, bind2, Option.bind_some]
  by_cases hm : memB k l = true
  · by_cases hi : inB i 0 7 = true
    · by_cases hw : inB who 1 99 = true
      · obtain ⟨x, hx⟩ := at_of (memB_len hm) hi
        by_cases hc : x.c = 0
        · exact .inl ⟨x, hm, hi, hw, hx, hc, by simp only [hm, hi, hw, hx, if_true, Option.bind_some, hc], by simp only [hm, hi, hw, hx, if_true, Option.bind_some, hc]⟩
        · exact .inr ⟨by simp only [hm, hi, hw, hx, if_true, Option.bind_some, hc, if_false], by simp only [hm, hi, hw, hx, if_true, Option.bind_some, hc, if_false]⟩
      · exact .inr ⟨by simp [hm, hi, hw], by simp [hm, hi, hw]⟩
    · exact .inr ⟨by simp [hm, hi], by simp [hm, hi]⟩
  · exact .inr ⟨by simp [hm], by simp [hm]⟩
theorem t_Store (F : Nat) {k : Int} {l : List I3} {i who v : Int} {x : I3} (hf : 8 < F) (hm : memB k l = true) (hi : inB i 0 7 = true) (hw : inB who 1 99 = true) (hx : at? l i = some x) (hc : x.c = who) (hv : inB v 0 65535 = true) : m_impl_Store F k l i who v = some (k, l.set i.toNat ⟨v, x.b, x.c⟩, true) := by
  have h8 := memB_len hm
  unfold m_impl_Store
  simp only [p_copyMem F k l (by omega), p_MemOk F k l (by omega) (by omega), p_isCell, p_isOwner, p_isValue, bind2, Option.bind_some, hm, hi, hw, hx, hv, if_true, if_pos hc]
theorem t_StoreNo (F : Nat) {k : Int} {l : List I3} {i who v : Int} {x : I3} (hf : 8 < F) (hm : memB k l = true) (hi : inB i 0 7 = true) (hw : inB who 1 99 = true) (hx : at? l i = some x) (hc : ¬ x.c = who) : m_impl_Store F k l i who v = some (k, l, false) := by
  have h8 := memB_len hm
  unfold m_impl_Store
  simp only [p_copyMem F k l (by omega), p_MemOk F k l (by omega) (by omega), p_isCell, p_isOwner, p_isValue, bind2, Option.bind_some, hm, hi, hw, hx, if_true, if_neg hc]
theorem t_Unlock (F : Nat) {k : Int} {l : List I3} {i who v : Int} {x : I3} (hf : 8 < F) (hm : memB k l = true) (hi : inB i 0 7 = true) (hw : inB who 1 99 = true) (hx : at? l i = some x) (hc : x.c = who) (hv : inB v x.b k = true) : m_impl_Unlock F k l i who v = some (k, l.set i.toNat ⟨x.a, v, 0⟩, true) := by
  have h8 := memB_len hm
  unfold m_impl_Unlock
  simp only [p_copyMem F k l (by omega), p_MemOk F k l (by omega) (by omega), p_isCell, p_isOwner, p_within, bind2, Option.bind_some, hm, hi, hw, hx, hv, if_true, if_pos hc, at_set hx, List.set_set]
theorem t_LoadVal (F : Nat) {k : Int} {l : List I3} {i : Int} {x : I3} (hf : 8 < F) (hm : memB k l = true) (hi : inB i 0 7 = true) (hx : at? l i = some x) : m_impl_LoadVal F k l i = some (x.a, true) := by
  have h8 := memB_len hm
  unfold m_impl_LoadVal
  simp only [p_MemOk F k l (by omega) (by omega), p_isCell, Option.bind_some, hm, hi, hx, if_true]
theorem t_LoadLock (F : Nat) {k : Int} {l : List I3} {i : Int} {x : I3} (hf : 8 < F) (hm : memB k l = true) (hi : inB i 0 7 = true) (hx : at? l i = some x) : m_impl_LoadLock F k l i = some (x.b, x.c, true) := by
  have h8 := memB_len hm
  unfold m_impl_LoadLock
  simp only [p_MemOk F k l (by omega) (by omega), p_isCell, Option.bind_some, hm, hi, hx, if_true]
theorem t_sameMem_L (F : Nat) (x : List I3) (hl : x.length ≤ 1048576) : ∀ K n, n ≤ x.length → x.length < n + K → m_laws_sameMem_L0 F x x K (n : Int) = some (.brk ()) := by
  intro K
  induction K with
  | zero => intro n h1 h2; omega
  | succ K ih =>
    intro n h1 h2
    rw [m_laws_sameMem_L0]
    by_cases h : n < x.length
    · simp only [if_pos (lt_cast h), at?_lt h, Option.bind_some, if_true, if_pos (in64_succ h (show x.length ≤ _ by omega))]
      exact ih (n + 1) (by omega) (by omega)
    · rw [if_neg (ge_cast h)]
theorem t_sameMem (F : Nat) (k : Int) (x : List I3) (hl : x.length ≤ 8) (hf : 8 < F) : m_laws_sameMem F k x k x = some true := by
  unfold m_laws_sameMem
  have := t_sameMem_L F x (by omega) F 0 (by omega) (by omega)
  rw [if_pos rfl, if_pos rfl]
  erw [this]; rfl
theorem t_sameInts_L (F : Nat) (x : List Int) (hl : x.length ≤ 1048576) : ∀ K n, n ≤ x.length → x.length < n + K → m_laws_sameInts_L0 F x x K (n : Int) = some (.brk ()) := by
  intro K
  induction K with
  | zero => intro n h1 h2; omega
  | succ K ih =>
    intro n h1 h2
    rw [m_laws_sameInts_L0]
    by_cases h : n < x.length
    · simp only [if_pos (lt_cast h), at?_lt h, Option.bind_some, if_true, if_pos (in64_succ h (show x.length ≤ _ by omega))]
      exact ih (n + 1) (by omega) (by omega)
    · rw [if_neg (ge_cast h)]
theorem t_sameInts (F : Nat) (x : List Int) (hl : x.length ≤ 8) (hf : 8 < F) : m_laws_sameInts F x x = some true := by
  unfold m_laws_sameInts
  have := t_sameInts_L F x (by omega) F 0 (by omega) (by omega)
  rw [if_pos rfl]
  erw [this]; rfl
theorem t_Values (F : Nat) {k : Int} {l : List I3} (hf : 8 < F) (hm : memB k l = true) : m_impl_Values F k l = some (l.map fun v => v.a) := by
  have h8 := memB_len hm
  unfold m_impl_Values
  have := p_Values_L F l (by omega) F 0 (by omega) (by omega)
  simp only [List.take_zero, List.map_nil] at this
  simp only [p_MemOk F k l (by omega) (by omega), Option.bind_some, hm, if_true]
  erw [this]; rfl
theorem t_tick (F : Nat) (k : Int) (l : List I3) (hl : l.length ≤ 8) (hf : 8 < F) : (
    bind3 (m_impl_Tick F k l) fun y33 y34 y35 =>
    if y35 = 0 then
      (m_laws_sameMem F y33 y34 k l).bind fun y36 =>
      if y36 = true then
        some true
      else
        if in64 (k + 1) then
          if y35 = (k + 1) then
            if y33 = y35 then
              (m_spec_MemOk F y33 y34).bind fun y37 =>
              if y37 = true then
                (m_impl_Values F y33 y34).bind fun y38 =>
                (m_impl_Values F k l).bind fun y39 =>
                (m_laws_sameInts F y38 y39).bind fun y40 =>
                some y40
              else
                some false
            else
              some false
          else
            some false
        else none
    else
      if in64 (k + 1) then
        if y35 = (k + 1) then
          if y33 = y35 then
            (m_spec_MemOk F y33 y34).bind fun y41 =>
            if y41 = true then
              (m_impl_Values F y33 y34).bind fun y42 =>
              (m_impl_Values F k l).bind fun y43 =>
              (m_laws_sameInts F y42 y43).bind fun y44 =>
              some y44
            else
              some false
          else
            some false
        else
          some false
      else none) = some true := by
  unfold m_impl_Tick
  simp only [p_copyMem F k l (by omega), p_MemOk F k l (by omega) (by omega), bind2, bind3, Option.bind_some]
  by_cases hm : memB k l = true
  · have hk := memB_k hm
    have h8 := memB_len hm
    by_cases h : k = 1000000
    · simp only [if_pos hm, if_pos h, Option.bind_some, if_true]
      rw [t_sameMem F k l hl hf]; rfl
    · have hi : in64 (k + 1) := in64_of (by omega) (by omega)
      have hm' : memB (k + 1) l = true := by
        simp only [memB, Bool.and_eq_true] at hm ⊢
        refine ⟨⟨hm.1.1, inB_true.2 (by omega)⟩, List.all_eq_true.2 fun y hy => ?_⟩
        have := List.all_eq_true.1 hm.2 y hy
        simp only [wordB, Bool.and_eq_true, inB_true] at this ⊢
        omega
      have hv := t_sameInts F (l.map fun v => v.a) (by simpa using hl) hf
      simp only [if_pos hm, if_neg h, if_pos hi, Option.bind_some, if_neg (show ¬ k + 1 = 0 by omega), if_true, p_SMemOk F (k + 1) l (by omega) (by omega), hm', t_Values F hf hm', t_Values F hf hm, hv]
  · simp only [if_neg hm, Option.bind_some, if_true]
    rw [t_sameMem F k l hl hf]; rfl

/-! The draws. -/
theorem d_Draw (F : Nat) (x : List UInt8) (p s : Int) (hl : x.length ≤ 1048576) (hp : 0 ≤ p) : ∃ v p' s', m_spec_l3Draw F x p s = some (v, p', s') ∧ 0 ≤ p' := by
  unfold m_spec_l3Draw
  obtain ⟨a, p1, s1, e1, h1⟩ := p_l1Once F x p s 6 hl hp
  simp only [e1, bind3, Option.bind_some]
  by_cases h : a = true
  · obtain ⟨v, p2, s2, e2, _, h2⟩ := p_l1PickInt F x p1 s1 [0, 65535, 65534, 256] hl h1 (by decide)
    exact ⟨v, p2, s2, by simp only [if_pos h, e2, Option.bind_some], h2⟩
  · obtain ⟨v, p2, s2, e2, _, _, _, h2⟩ := p_l1Below F x p1 s1 9 hl h1
    exact ⟨v, p2, s2, by simp only [if_neg h, e2, Option.bind_some], h2⟩
theorem d_Mem_L (F : Nat) (x : List UInt8) (hl : x.length ≤ 1048576) (z3 y10 : Int) (hz : 0 ≤ z3 ∧ z3 ≤ 1000000) : ∀ n K (A : List I3) (p s : Int), n ≤ 8 → n < K → A.length = 8 - n → 0 ≤ p →
    ∃ l p' s', m_spec_l3Mem_L0 F x z3 y10 K p s A (8 - (n : Int)) = some (l, p', s') ∧ l.length = 8 ∧ 0 ≤ p' := by
  intro n
  induction n with
  | zero => intro K A p s h1 h2 h3 h4; cases K with
    | zero => omega
    | succ K => rw [m_spec_l3Mem_L0, if_neg (by omega)]; exact ⟨A, p, s, rfl, by omega, h4⟩
  | succ n ih => intro K A p s h1 h2 h3 h4; cases K with
    | zero => omega
    | succ K =>
      rw [m_spec_l3Mem_L0, if_pos (by omega)]
      obtain ⟨a, p1, s1, e1, q1⟩ := d_Draw F x p s hl h4
      obtain ⟨b, p2, s2, e2, _, _, _, q2⟩ := p_l1Below F x p1 s1 (z3 + 1) hl q1
      have i1 : in64 (z3 + 1) := in64_of (by omega) (by omega)
      have i2 : in64 (8 - ((n + 1 : Nat) : Int) + 1) := in64_of (by omega) (by omega)
      have i3 : A.length + 1 ≤ 17179869184 := by omega
      have e : (8 - ((n + 1 : Nat) : Int)) + 1 = 8 - (n : Int) := by omega
      have key : ∃ p3 s3 c, (bind3 (
            if 0 < y10 then
              bind3 (m_spec_l1Once F x p2 s2 4) fun y19 y20 y21 =>
              if y19 = true then
                bind3 (m_spec_l1Below F x y20 y21 4) fun y22 y23 y24 =>
                if in64 (1 + y22) then
                  some (y23, y24, 1 + y22)
                else none
              else
                some (y20, y21, 0)
            else
              some (p2, s2, 0)) fun z14 z15 z16 =>
          if A.length + 1 ≤ 17179869184 then
            some (z14, z15, A ++ ([(⟨a, b, z16⟩ : I3)] : List I3))
          else none) = some (p3, s3, A ++ [⟨a, b, c⟩]) ∧ 0 ≤ p3 := by
        by_cases hy : 0 < y10
        · obtain ⟨o, p3, s3, e3, q3⟩ := p_l1Once F x p2 s2 4 hl q2
          by_cases ho : o = true
          · obtain ⟨c, p4, s4, e4, c1, c2, _, q4⟩ := p_l1Below F x p3 s3 4 hl q3
            have c3 := c2 (by omega)
            have i4 : in64 (1 + c) := in64_of (by omega) (by omega)
            exact ⟨p4, s4, 1 + c, by simp only [if_pos hy, e3, bind3, Option.bind_some, if_pos ho, e4, if_pos i4, if_pos i3], q4⟩
          · exact ⟨p3, s3, 0, by simp only [if_pos hy, e3, bind3, Option.bind_some, if_neg ho, if_pos i3], q3⟩
        · exact ⟨p2, s2, 0, by simp only [if_neg hy, bind3, Option.bind_some, if_pos i3], q2⟩
      obtain ⟨p3, s3, c, e3, q3⟩ := key
      obtain ⟨l, p', s', e4, q4, q5⟩ := ih K (A ++ [⟨a, b, c⟩]) p3 s3 (by omega) (by omega) (by simp; omega) q3
      refine ⟨l, p', s', ?_, q4, q5⟩
      simp only [e1, bind3, Option.bind_some, if_pos i1, e2]
      simp only [bind3] at e3
      rw [e3]
      simp only [Option.bind_some, if_pos i2]
      rw [e]
      exact e4
theorem d_Mem (F : Nat) (x : List UInt8) (p s : Int) (hl : x.length ≤ 1048576) (hp : 0 ≤ p) (hf : 8 < F) : ∃ k l p' s', m_spec_l3Mem F x p s = some (k, l, p', s') ∧ l.length = 8 ∧ 0 ≤ k ∧ k ≤ 1000000 ∧ 0 ≤ p' := by
  unfold m_spec_l3Mem
  obtain ⟨a, p1, s1, e1, a1, a2, _, q1⟩ := p_l1Below F x p s 12 hl hp
  have a3 := a2 (by omega)
  obtain ⟨o, p2, s2, e2, q2⟩ := p_l1Once F x p1 s1 20 hl q1
  have key : ∃ p3 s3 k, (bind3 (m_spec_l1Once F x p1 s1 20) fun y4 y5 y6 =>
    if y4 = true then
      bind3 (m_spec_l1Below F x y5 y6 2) fun y7 y8 y9 =>
      if in64 (1000000 - y7) then
        some (y8, y9, 1000000 - y7)
      else none
    else
      some (y5, y6, a)) = some (p3, s3, k) ∧ 0 ≤ p3 ∧ 0 ≤ k ∧ k ≤ 1000000 := by
    by_cases ho : o = true
    · obtain ⟨c, p3, s3, e3, c1, c2, _, q3⟩ := p_l1Below F x p2 s2 2 hl q2
      have c3 := c2 (by omega)
      have i1 : in64 (1000000 - c) := in64_of (by omega) (by omega)
      exact ⟨p3, s3, 1000000 - c, by simp only [e2, bind3, Option.bind_some, if_pos ho, e3, if_pos i1], q3, by omega, by omega⟩
    · exact ⟨p2, s2, a, by simp only [e2, bind3, Option.bind_some, if_neg ho], q2, a1, by omega⟩
  obtain ⟨p3, s3, k, e3, q3, k1, k2⟩ := key
  obtain ⟨d, p4, s4, e4, _, _, _, q4⟩ := p_l1Below F x p3 s3 3 hl q3
  obtain ⟨l, p5, s5, e5, q5, q6⟩ := d_Mem_L F x hl k d ⟨k1, k2⟩ 8 F [] p4 s4 (by omega) hf (by simp) q4
  rw [show (8 : Int) - ((8 : Nat) : Int) = 0 from rfl] at e5
  refine ⟨k, l, p5, s5, ?_, q5, k1, k2, q6⟩
  rw [e1]
  simp only [bind3, Option.bind_some] at e3 ⊢
  rw [e3]
  simp only [Option.bind_some, e4, e5]
theorem d_Any (F : Nat) (x : List UInt8) (p s : Int) (hl : x.length ≤ 1048576) (hp : 0 ≤ p) (hf : 8 < F) : ∃ k l p' s', m_spec_l3Any F x p s = some (k, l, p', s') ∧ l.length ≤ 8 ∧ 0 ≤ p' := by
  unfold m_spec_l3Any
  obtain ⟨k, l, p1, s1, e1, l1, k1, k2, q1⟩ := d_Mem F x p s hl hp hf
  obtain ⟨i, p2, s2, e2, i1, i2, _, q2⟩ := p_l1Below F x p1 s1 8 hl q1
  have i3 := i2 (by omega)
  obtain ⟨c, p3, s3, e3, _, _, _, q3⟩ := p_l1Below F x p2 s2 30 hl q2
  obtain ⟨w, hw⟩ := at?_some_iff (l := l) (i := i) ⟨i1, by omega⟩
  simp only [e1, e2, e3, bind3, bind4, Option.bind_some]
  by_cases h0 : c = 0
  · exact ⟨k, subl l 0 i, p3, s3, by simp only [if_pos h0, if_pos (show 0 ≤ i ∧ i ≤ (l.length : Int) by omega), Option.bind_some], by simp [subl]; omega, q3⟩
  by_cases h1 : c = 1
  · exact ⟨_, _, p3, s3, by simp only [if_neg h0, if_pos h1, if_pos (show in64 (k + 1) from in64_of (by omega) (by omega)), hw, Option.bind_some]; rfl, by simp [l1], q3⟩
  by_cases h2 : c = 2
  · exact ⟨_, _, p3, s3, by simp only [if_neg h0, if_neg h1, if_pos h2, hw, Option.bind_some]; rfl, by simp [l1], q3⟩
  by_cases h3 : c = 3
  · obtain ⟨d, p4, s4, e4, d1, d2, _, q4⟩ := p_l1Below F x p3 s3 2 hl q3
    have d3 := d2 (by omega)
    exact ⟨_, _, p4, s4, by simp only [if_neg h0, if_neg h1, if_neg h2, if_pos h3, e4, if_pos (show in64 (d * 101) from in64_of (by omega) (by omega)), if_pos (show in64 (100 - d * 101) from in64_of (by omega) (by omega)), hw, Option.bind_some]; rfl, by simp [l1], q4⟩
  by_cases h4 : c = 4
  · exact ⟨_, _, p3, s3, by simp only [if_neg h0, if_neg h1, if_neg h2, if_neg h3, if_pos h4, Option.bind_some]; rfl, by omega, q3⟩
  by_cases h5 : c = 5
  · exact ⟨_, _, p3, s3, by simp only [if_neg h0, if_neg h1, if_neg h2, if_neg h3, if_neg h4, if_pos h5, hw, Option.bind_some]; rfl, by simp [l1], q3⟩
  · exact ⟨_, _, p3, s3, by simp only [if_neg h0, if_neg h1, if_neg h2, if_neg h3, if_neg h4, if_neg h5, Option.bind_some]; rfl, by omega, q3⟩
theorem d_Tick (F : Nat) (x : List UInt8) (hl : x.length ≤ 1048576) (hx : x.length < F) (hf : 8 < F) : ∃ k l, m_spec_DrawTick F x = some (k, l) ∧ l.length ≤ 8 := by
  unfold m_spec_DrawTick
  obtain ⟨s, e0⟩ := p_l1New F x hl hx
  obtain ⟨k, l, p1, s1, e1, l1, q1⟩ := d_Any F x 0 s hl (Int.le_refl _) hf
  exact ⟨k, l, by simp only [e0, e1, bind2, bind4, Option.bind_some], l1⟩
theorem d_Lock (F : Nat) (x : List UInt8) (hl : x.length ≤ 1048576) (hx : x.length < F) (hf : 8 < F) : ∃ k l i who, m_spec_DrawLock F x = some (k, l, i, who) ∧ l.length ≤ 8 := by
  unfold m_spec_DrawLock m_spec_l3Index
  obtain ⟨s, e0⟩ := p_l1New F x hl hx
  obtain ⟨k, l, p1, s1, e1, l1, q1⟩ := d_Any F x 0 s hl (Int.le_refl _) hf
  obtain ⟨o, p2, s2, e2, q2⟩ := p_l1Once F x p1 s1 15 hl q1
  simp only [e0, e1, e2, bind2, bind3, bind4, Option.bind_some]
  by_cases ho : o = true
  · obtain ⟨i, p3, s3, e3, _, q3⟩ := p_l1PickInt F x p2 s2 [(-1), 8, 9223372036854775807] hl q2 (by decide)
    obtain ⟨who, p4, s4, e4, _, q4⟩ := p_l1PickInt F x p3 s3 [1, 2, 3, 4, 5, 99, 100, 0] hl q3 (by decide)
    exact ⟨k, l, i, who, by simp only [if_pos ho, e3, e4, Option.bind_some], l1⟩
  · obtain ⟨i, p3, s3, e3, _, _, _, q3⟩ := p_l1Below F x p2 s2 8 hl q2
    obtain ⟨who, p4, s4, e4, _, q4⟩ := p_l1PickInt F x p3 s3 [1, 2, 3, 4, 5, 99, 100, 0] hl q3 (by decide)
    exact ⟨k, l, i, who, by simp only [if_neg ho, e3, e4, Option.bind_some], l1⟩
theorem pure_FnMemory {x : List UInt8} (hx : x.length ≤ maxLen) : ∃ fuel, m_laws_FnMemory fuel x = some true := by
  refine ⟨x.length + 9, ?_⟩
  generalize hF : x.length + 9 = F
  unfold m_laws_FnMemory
  simp only [m_laws_big, Option.bind_some, decide_eq_true_eq]
  by_cases hb : (1048576 : Int) < (x.length : Int)
  · rw [if_pos hb]
  · rw [if_neg hb]
    obtain ⟨k, l, i, who, e1, l1⟩ := d_Lock F x (by omega) (by omega) (by omega)
    obtain ⟨k2, l2, e2, l3⟩ := d_Tick F x (by omega) (by omega) (by omega)
    have ht := t_tick F k2 l2 l3 (by omega)
    simp only [e1, bind4, Option.bind_some]
    rcases t_Lock F k l i who l1 (by omega) with ⟨w, hm, hi, hw, hat, hc, g1, g2⟩ | ⟨g1, g2⟩
    · have hF8 : 8 < F := by omega
      have hw0 := memB_at hm hat
      have hwi := inB_true.1 hw
      simp only [wordB, Bool.and_eq_true] at hw0
      have w1 : wordB k ⟨w.a, w.b, who⟩ = true := by simp only [wordB, Bool.and_eq_true, hw0.1.1, hw0.1.2, true_and]; exact inB_true.2 (by omega)
      have m1 := memB_set (n := i.toNat) hm w1
      have a1 := at_set (y := ⟨w.a, w.b, who⟩) hat
      have hwb := inB_true.1 hw0.1.2
      have hk := memB_k hm
      have x1 := t_LockNo F hF8 m1 hi hw a1 (show ¬ who = 0 by omega)
      have x2 := t_Store F (v := 77) hF8 m1 hi hw a1 rfl (by decide)
      have w2 : wordB k ⟨77, w.b, who⟩ = true := by simp only [wordB, Bool.and_eq_true, hw0.1.2]; exact ⟨⟨by decide, trivial⟩, inB_true.2 (by omega)⟩
      have m2 := memB_set (n := i.toNat) m1 w2
      have a2 := at_set (y := ⟨77, w.b, who⟩) a1
      have x3 := t_Unlock F (v := k) hF8 m2 hi hw a2 rfl (inB_true.2 (by simp only []; omega))
      have w3 : wordB k ⟨77, k, 0⟩ = true := by simp only [wordB, Bool.and_eq_true]; exact ⟨⟨by decide, inB_true.2 (by omega)⟩, by decide⟩
      have m3 := memB_set (n := i.toNat) m2 w3
      have a3 := at_set (y := ⟨77, k, 0⟩) a2
      have x4 := t_LoadVal F hF8 m3 hi a3
      have x5 := t_LoadLock F hF8 m3 hi a3
      have hmod : 0 ≤ who.tmod 99 ∧ who.tmod 99 < 99 ∧ (who.tmod 99 = who ∨ who = 99) := by
        rw [Int.tmod_eq_emod_of_nonneg (by omega)]; omega
      have i1 : in64 (who.tmod 99 + 1) := in64_of (by omega) (by omega)
      have x6 := t_StoreNo F (v := 5) hF8 m1 hi (inB_true.2 (show 1 ≤ who.tmod 99 + 1 ∧ who.tmod 99 + 1 ≤ 99 by omega)) a1 (show ¬ who = who.tmod 99 + 1 by
        rcases hmod.2.2 with h | h
        · omega
        · subst h; decide)
      have h81 := memB_len m1
      have h83 := memB_len m3
      have nz : (99 : Int) ≠ 0 := by decide
      simp only [g1, g2, bind3, bind2, Option.bind_some, beq_self_eq_true, if_true, p_SMemOk F _ _ (show (l.set i.toNat ⟨w.a, w.b, who⟩).length ≤ 4611686018427387904 by omega) (show (l.set i.toNat ⟨w.a, w.b, who⟩).length < F by omega), m1, x1, x2, x3, if_pos nz, if_pos i1, x6, x4, x5, Bool.false_eq_true, if_false, p_SMemOk F _ _ (show (((l.set i.toNat ⟨w.a, w.b, who⟩).set i.toNat ⟨77, w.b, who⟩).set i.toNat ⟨77, k, 0⟩).length ≤ 4611686018427387904 by omega) (show (((l.set i.toNat ⟨w.a, w.b, who⟩).set i.toNat ⟨77, w.b, who⟩).set i.toNat ⟨77, k, 0⟩).length < F by omega), m3, contL, un1, e2]
      simp only [bind3] at ht
      exact ht
    · simp only [g1, g2, bind3, bind2, Option.bind_some, beq_self_eq_true, if_true, Bool.false_eq_true, if_false, t_sameMem F k l l1 (by omega), e2]
      simp only [bind3] at ht
      exact ht
end Go.Proofs.Ytmhdjnmfioaciaa
