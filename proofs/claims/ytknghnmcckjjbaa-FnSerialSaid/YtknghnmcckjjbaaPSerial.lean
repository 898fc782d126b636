/- Orders, and programs run alone. -/
import Derived.Test.YtknghnmcckjjbaaPB2
namespace Go.Proofs.Ytknghnmcckjjbaa
open Go Go.RowKit
set_option linter.unusedVariables false
set_option linter.unusedSimpArgs false

/-! Whether a number is in a row. -/
open Classical in
theorem p_IndexI_L (F : Nat) (x : List Int) (v : Int) (hl : x.length ≤ 3000000) : ∀ K n, n ≤ x.length → x.length < n + K →
    ∃ r, m_slices_Index___int_int__L0 F x v K (n : Int) = some r ∧ (if v ∈ x.drop n then ∃ j : Int, 0 ≤ j ∧ r = .ret j else r = .brk ()) := by
  intro K
  induction K with
  | zero => intro n h1 h2; omega
  | succ K ih =>
    intro n h1 h2
    rw [m_slices_Index___int_int__L0]
    by_cases h : n < x.length
    · have i1 : in64 ((n : Int) + 1) := in64_of (by omega) (by omega)
      rw [if_pos (lt_cast h), at?_lt h, Option.bind_some, drop_cons h]
      by_cases e : v = x[n]
      · rw [if_pos e]
        exact ⟨_, rfl, by rw [if_pos (by rw [e]; exact List.mem_cons_self ..)]; exact ⟨(n : Int), by omega, rfl⟩⟩
      · rw [if_neg e, if_pos i1, cast_succ]
        obtain ⟨r, r1, r2⟩ := ih (n + 1) (by omega) (by omega)
        refine ⟨r, r1, ?_⟩
        by_cases hm : v ∈ x.drop (n + 1)
        · rw [if_pos hm] at r2; rw [if_pos (List.mem_cons_of_mem _ hm)]; exact r2
        · rw [if_neg hm] at r2; rw [if_neg (fun q => (List.mem_cons.1 q).elim e hm)]; exact r2
    · rw [if_neg (ge_cast h), drop_end h]
      exact ⟨_, rfl, by rw [if_neg (by simp)]⟩
open Classical in
theorem p_Contains (F : Nat) (x : List Int) (v : Int) (hl : x.length ≤ 3000000) (hf : x.length < F) : m_slices_Contains___int_int_ F x v = some (decide (v ∈ x)) := by
  unfold m_slices_Contains___int_int_ m_slices_Index___int_int_
  obtain ⟨r, r1, r2⟩ := p_IndexI_L F x v hl F 0 (Nat.zero_le _) (by omega)
  rw [List.drop_zero] at r2
  have r1' : m_slices_Index___int_int__L0 F x v F 0 = some r := r1
  rw [r1']
  by_cases hm : v ∈ x
  · rw [if_pos hm] at r2; obtain ⟨j, j0, rfl⟩ := r2
    rw [bL1r, Option.bind_some, decide_eq_true hm, decide_eq_true j0]
  · rw [if_neg hm] at r2; subst r2
    rw [bL1, Option.bind_some, decide_eq_false hm]; rfl

/-! The whole order. -/
open Classical in
noncomputable def missF (ord : List Int) : Nat → Nat → List Int
  | 0, _ => []
  | k + 1, i => (if (i : Int) ∈ ord then [] else [(i : Int)]) ++ missF ord k (i + 1)
theorem mem_miss {ord : List Int} {a : Int} : ∀ k i, a ∈ missF ord k i ↔ ((i : Int) ≤ a ∧ a < ((i + k : Nat) : Int) ∧ a ∉ ord) := by
  intro k
  induction k with
  | zero => intro i; simp only [missF, List.not_mem_nil, false_iff]; omega
  | succ k ih =>
    intro i
    rw [missF, List.mem_append, ih (i + 1)]
    constructor
    · rintro (h | ⟨h1, h2, h3⟩)
      · split at h
        · cases h
        · rename_i hn; have := List.mem_singleton.1 h; subst this; exact ⟨by omega, by omega, hn⟩
      · exact ⟨by omega, by omega, h3⟩
    · rintro ⟨h1, h2, h3⟩
      by_cases e : a = (i : Int)
      · left; subst e; rw [if_neg h3]; exact List.mem_singleton.2 rfl
      · right; exact ⟨by omega, by omega, h3⟩
theorem nodup_miss {ord : List Int} : ∀ k i, (missF ord k i).Nodup := by
  intro k
  induction k with
  | zero => intro i; exact List.nodup_nil
  | succ k ih =>
    intro i
    rw [missF]
    split
    · exact ih (i + 1)
    · exact List.nodup_cons.2 ⟨fun h => by have := (mem_miss k (i + 1)).1 h; omega, ih (i + 1)⟩
theorem len_miss {ord : List Int} : ∀ k i, (missF ord k i).length ≤ k := by
  intro k
  induction k with
  | zero => intro i; exact Nat.le_refl _
  | succ k ih =>
    intro i
    rw [missF, List.length_append]
    have := ih (i + 1)
    split
    · rw [List.length_nil]; omega
    · rw [List.length_singleton]; omega
noncomputable def fullO (ord : List Int) (n : Nat) : List Int := ord ++ missF ord n 0
theorem fullO_ok {ord : List Int} {n : Nat} (h : InR ord n) (hn : ord.Nodup) : FullO (fullO ord n) n := by
  refine ⟨fun e he => ?_, ?_, fun j hj => ?_⟩
  · rcases List.mem_append.1 he with he | he
    · exact h e he
    · have := (mem_miss n 0).1 he; omega
  · exact List.nodup_append.2 ⟨hn, nodup_miss n 0, fun a ha b hb => fun q => by subst q; exact ((mem_miss n 0).1 hb).2.2 ha⟩
  · by_cases hm : (j : Int) ∈ ord
    · exact List.mem_append.2 (.inl hm)
    · exact List.mem_append.2 (.inr ((mem_miss n 0).2 ⟨by omega, by omega, hm⟩))
open Classical in
theorem p_full_L (F : Nat) (ord : List Int) (n : Nat) (hl : ord.length ≤ 1048576) (hf : ord.length < F) : ∀ K i z, i ≤ n → n < i + K → n ≤ 3 → z.length + (n - i) ≤ 2000000 →
    m_impl_fullOrder_L0 F ord (n : Int) K z (i : Int) = some (z ++ missF ord (n - i) i) := by
  intro K
  induction K with
  | zero => intro i z h1 h2; omega
  | succ K ih =>
    intro i z h1 h2 h3 h4
    rw [m_impl_fullOrder_L0]
    by_cases h : i < n
    · have i1 : in64 ((i : Int) + 1) := in64_of (by omega) (by omega)
      rw [if_pos (lt_cast h), p_Contains F ord _ (by omega) hf, Option.bind_some]
      obtain ⟨k, hk⟩ : ∃ k, n - i = k + 1 := ⟨n - i - 1, by omega⟩
      have hk' : n - (i + 1) = k := by omega
      rw [hk, missF]
      by_cases hm : (i : Int) ∈ ord
      · rw [if_pos (decide_eq_true hm), Option.bind_some, if_pos i1, cast_succ, if_pos hm, List.nil_append, ih (i + 1) z (by omega) (by omega) h3 (by omega), hk']
      · have hc : z.length + 1 ≤ 17179869184 := by omega
        rw [if_neg (by rw [decide_eq_false hm]; exact Bool.false_ne_true), if_pos hc, Option.bind_some, if_pos i1, cast_succ, if_neg hm, ih (i + 1) _ (by omega) (by omega) h3 (by rw [List.length_append, List.length_singleton]; omega), hk', List.append_assoc]
    · have e : n - i = 0 := by omega
      rw [if_neg (ge_cast h), e, missF, List.append_nil]
theorem p_fullOrder (F : Nat) (ord : List Int) (n : Nat) (hl : ord.length ≤ 1048576) (hf : ord.length + 4 < F) (hn : n ≤ 3) : m_impl_fullOrder F ord (n : Int) = some (fullO ord n) := by
  unfold m_impl_fullOrder fullO
  rw [p_copyInts F ord (by omega), Option.bind_some]
  have h := p_full_L F ord n hl (by omega) F 0 ord (by omega) (by omega) hn (by omega)
  have h' : m_impl_fullOrder_L0 F ord (n : Int) F ord 0 = some (ord ++ missF ord (n - 0) 0) := h
  rw [h']; rfl

/-! Whether an order is one. -/
def OrdP (ord : List Int) (n : Nat) : Prop := InR ord n ∧ ord.Nodup
theorem subl_take (x : List Int) (i : Nat) : subl x 0 (i : Int) = x.take i := by
  unfold subl
  rw [show (0 : Int).toNat = 0 from rfl, List.drop_zero, Int.toNat_natCast, Nat.sub_zero]
theorem ordP_no1 {ord : List Int} {n i : Nat} (h : i < ord.length) (hb : ¬ inB ord[i] 0 ((n : Int) - 1) = true) : ¬ OrdP ord n := fun q => hb (inB_true.2 (by have := q.1 _ (List.getElem_mem h); omega))
theorem ordP_no2 {ord : List Int} {n i : Nat} (h : i < ord.length) (hb : ord[i] ∈ ord.take i) : ¬ OrdP ord n := fun q => by
  have hs : ord = ord.take i ++ ord.drop i := (List.take_append_drop i ord).symm
  have hn := q.2
  rw [hs] at hn
  exact (List.nodup_append.1 hn).2.2 _ hb _ (by rw [drop_cons h]; exact List.mem_cons_self ..) rfl
theorem ordP_up {ord : List Int} {n i : Nat} (h : i < ord.length) (ht : OrdP (ord.take i) n) (hb : inB ord[i] 0 ((n : Int) - 1) = true) (hm : ord[i] ∉ ord.take i) : OrdP (ord.take (i + 1)) n := by
  rw [take_snoc' h]
  have hb := inB_true.1 hb
  refine ⟨fun e he => ?_, List.nodup_append.2 ⟨ht.2, by simp, fun a ha b hb => fun q => by
    have := List.mem_singleton.1 hb; subst this; subst q; exact hm ha⟩⟩
  rcases List.mem_append.1 he with he | he
  · exact ht.1 e he
  · have := List.mem_singleton.1 he; subst this; omega
open Classical in
theorem p_order_L (F : Nat) (ord : List Int) (n : Nat) (hn : n ≤ 3) (hl : ord.length ≤ 1048576) (hf : ord.length < F) : ∀ K i, i ≤ ord.length → ord.length < i + K → OrdP (ord.take i) n →
    m_impl_orderOk_L0 F ord (n : Int) K (i : Int) = some (if OrdP ord n then .brk () else .ret false) := by
  intro K
  induction K with
  | zero => intro i h1 h2; omega
  | succ K ih =>
    intro i h1 h2 h3
    rw [m_impl_orderOk_L0]
    by_cases h : i < ord.length
    · have i1 : in64 ((i : Int) + 1) := in64_of (by omega) (by omega)
      have i2 : in64 ((n : Int) - 1) := in64_of (by omega) (by omega)
      rw [if_pos (lt_cast h), at?_lt h, Option.bind_some, if_pos i2, p_within, Option.bind_some]
      by_cases hb : inB ord[i] 0 ((n : Int) - 1) = true
      · rw [if_pos hb, if_pos (by omega), subl_take, p_Contains F _ _ (by rw [List.length_take]; omega) (by rw [List.length_take]; omega), Option.bind_some]
        by_cases hm : ord[i] ∈ ord.take i
        · rw [if_pos (decide_eq_true hm), if_neg (ordP_no2 h hm)]
        · rw [if_neg (by rw [decide_eq_false hm]; exact Bool.false_ne_true), if_pos i1, cast_succ]
          exact ih (i + 1) (by omega) (by omega) (ordP_up h h3 hb hm)
      · rw [if_neg hb, if_neg (ordP_no1 h hb)]
    · have e : ord.take i = ord := List.take_of_length_le (by omega)
      rw [e] at h3
      rw [if_neg (ge_cast h), if_pos h3]
open Classical in
theorem p_orderOk (F : Nat) (ord : List Int) (n : Nat) (hn : n ≤ 3) (hl : ord.length ≤ 1048576) (hf : ord.length < F) : m_impl_orderOk F ord (n : Int) = some (decide (OrdP ord n)) := by
  unfold m_impl_orderOk
  have h := p_order_L F ord n hn hl hf F 0 (by omega) (by omega) ⟨fun e he => (by cases he), List.nodup_nil⟩
  have h' : m_impl_orderOk_L0 F ord (n : Int) F 0 = some (if OrdP ord n then .brk () else .ret false) := h
  rw [h']
  by_cases hp : OrdP ord n
  · rw [if_pos hp, bL1, decide_eq_true hp]
  · rw [if_neg hp, bL1r, decide_eq_false hp]
open Classical in
/-- What the reference has seen. -/
def SeenP (seen : List Bool) (l : List Int) : Prop := seen.length = 3 ∧ ∀ j : Nat, j < 3 → seen[j]? = some (decide ((j : Int) ∈ l))
open Classical in
theorem s_order_L (F : Nat) (ord : List Int) (n : Nat) (hn : n ≤ 3) (hl : ord.length ≤ 1048576) (hf : ord.length < F) : ∀ K i seen, i ≤ ord.length → ord.length < i + K → OrdP (ord.take i) n → SeenP seen (ord.take i) →
    ∃ r, m_spec_l7Order_L0 F ord (n : Int) K (ord.take i) seen (i : Int) = some r ∧ (if OrdP ord n then ∃ seen', r = .brk (ord, seen') ∧ SeenP seen' ord else ∃ l, r = .ret (l, false)) := by
  intro K
  induction K with
  | zero => intro i seen h1 h2; omega
  | succ K ih =>
    intro i seen h1 h2 h3 h4
    rw [m_spec_l7Order_L0]
    by_cases h : i < ord.length
    · have i1 : in64 ((i : Int) + 1) := in64_of (by omega) (by omega)
      have i2 : in64 ((n : Int) - 1) := in64_of (by omega) (by omega)
      rw [if_pos (lt_cast h), at?_lt h, Option.bind_some, if_pos i2, p_l1In, Option.bind_some]
      by_cases hb : inB ord[i] 0 ((n : Int) - 1) = true
      · have hb' := inB_true.1 hb
        obtain ⟨e, he⟩ := Int.eq_ofNat_of_zero_le hb'.1
        have hs : at? seen ord[i] = some (decide (ord[i] ∈ ord.take i)) := by rw [he, at?_nat]; exact h4.2 e (by omega)
        rw [if_pos hb, hs, Option.bind_some]
        by_cases hm : ord[i] ∈ ord.take i
        · rw [if_pos (decide_eq_true hm)]
          exact ⟨_, rfl, by rw [if_neg (ordP_no2 h hm)]; exact ⟨_, rfl⟩⟩
        · have hc : (ord.take i).length + 1 ≤ 17179869184 := by rw [List.length_take]; omega
          rw [if_neg (by rw [decide_eq_false hm]; exact Bool.false_ne_true), if_pos hc, if_pos i1, cast_succ, ← take_snoc' h]
          refine ih (i + 1) _ (by omega) (by omega) (ordP_up h h3 hb hm) ⟨by rw [List.length_set]; exact h4.1, fun j hj => ?_⟩
          rw [take_snoc' h]
          have h30 := h4.1
          by_cases hje : (j : Int) = ord[i]
          · have ej : (ord[i]).toNat = j := by omega
            rw [ej, List.getElem?_set_self (by omega)]
            congr 1
            exact (decide_eq_true (List.mem_append.2 (.inr (List.mem_singleton.2 hje)))).symm
          · rw [List.getElem?_set_ne (by omega), h4.2 j hj]
            congr 1
            apply decide_eq_decide.2
            constructor
            · exact fun q => List.mem_append.2 (.inl q)
            · exact fun q => (List.mem_append.1 q).elim id (fun w => absurd (List.mem_singleton.1 w) hje)
      · rw [if_neg hb]
        exact ⟨_, rfl, by rw [if_neg (ordP_no1 h hb)]; exact ⟨_, rfl⟩⟩
    · have e : ord.take i = ord := List.take_of_length_le (by omega)
      rw [e] at h3 h4 ⊢
      rw [if_neg (ge_cast h)]
      exact ⟨_, rfl, by rw [if_pos h3]; exact ⟨seen, rfl, h4⟩⟩
open Classical in
theorem s_full_L (F : Nat) (ord : List Int) (n : Nat) (seen : List Bool) (hn : n ≤ 3) (hs : SeenP seen ord) : ∀ K i z, i ≤ n → n < i + K → z.length + (n - i) ≤ 2000000 →
    m_spec_l7Order_L1 F (n : Int) seen K z (i : Int) = some (z ++ missF ord (n - i) i) := by
  intro K
  induction K with
  | zero => intro i z h1 h2; omega
  | succ K ih =>
    intro i z h1 h2 h4
    rw [m_spec_l7Order_L1]
    by_cases h : i < n
    · have i1 : in64 ((i : Int) + 1) := in64_of (by omega) (by omega)
      rw [if_pos (lt_cast h), at?_nat, hs.2 i (by omega), Option.bind_some]
      obtain ⟨k, hk⟩ : ∃ k, n - i = k + 1 := ⟨n - i - 1, by omega⟩
      have hk' : n - (i + 1) = k := by omega
      rw [hk, missF]
      by_cases hm : (i : Int) ∈ ord
      · rw [if_pos (decide_eq_true hm), Option.bind_some, if_pos i1, cast_succ, if_pos hm, List.nil_append, ih (i + 1) z (by omega) (by omega) (by omega), hk']
      · have hc : z.length + 1 ≤ 17179869184 := by omega
        rw [if_neg (by rw [decide_eq_false hm]; exact Bool.false_ne_true), if_pos hc, Option.bind_some, if_pos i1, cast_succ, if_neg hm, ih (i + 1) _ (by omega) (by omega) (by rw [List.length_append, List.length_singleton]; omega), hk', List.append_assoc]
    · have e : n - i = 0 := by omega
      rw [if_neg (ge_cast h), e, missF, List.append_nil]
theorem bL2s {A B δ : Type} (a : A) (b : B) (f : A → B → Option δ) : ((some (Lp.brk (a, b))).bind <| contL <| un2 f) = f a b := rfl
open Classical in
theorem s_l7Order (F : Nat) (ord : List Int) (n : Nat) (hn : n ≤ 3) (hl : ord.length ≤ 1048576) (hf : ord.length + 4 < F) : (OrdP ord n ∧ m_spec_l7Order F ord (n : Int) = some (fullO ord n, true)) ∨ (¬ OrdP ord n ∧ ∃ l, m_spec_l7Order F ord (n : Int) = some (l, false)) := by
  obtain ⟨r, r1, r2⟩ := s_order_L F ord n hn hl (by omega) F 0 (List.replicate (3 : Int).toNat (false : Bool)) (by omega) (by omega) ⟨fun e he => (by cases he), List.nodup_nil⟩ ⟨rfl, fun j hj => by
    rw [show (3 : Int).toNat = 3 from rfl, List.getElem?_replicate, if_pos hj]; rfl⟩
  have r1' : m_spec_l7Order_L0 F ord (n : Int) F ([] : List Int) (List.replicate (3 : Int).toNat (false : Bool)) 0 = some r := r1
  unfold m_spec_l7Order
  rw [if_pos (by decide), r1']
  by_cases hp : OrdP ord n
  · rw [if_pos hp] at r2
    obtain ⟨seen, rfl, hs⟩ := r2
    have h := s_full_L F ord n seen hn hs F 0 ord (by omega) (by omega) (by omega)
    have h' : m_spec_l7Order_L1 F (n : Int) seen F ord 0 = some (ord ++ missF ord (n - 0) 0) := h
    exact .inl ⟨hp, by rw [bL2s, h']; rfl⟩
  · rw [if_neg hp] at r2
    obtain ⟨l, rfl⟩ := r2
    exact .inr ⟨hp, l, rfl⟩
end Go.Proofs.Ytknghnmcckjjbaa
