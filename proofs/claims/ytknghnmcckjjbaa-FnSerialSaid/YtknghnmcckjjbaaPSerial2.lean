/- Programs run alone. -/
import Derived.Test.YtknghnmcckjjbaaPSerial
namespace Go.Proofs.Ytknghnmcckjjbaa
open Go Go.RowKit
set_option linter.unusedVariables false
set_option linter.unusedSimpArgs false
/-! A program run alone. -/
open Classical in
theorem progB_parts {c : List I4} {kids : List KidD} (h : progB c kids = true) : CodeP c ∧ KidsOk kids := by
  simp only [progB, Bool.and_eq_true, decide_eq_true_eq, List.all_eq_true] at h
  obtain ⟨⟨⟨h1, h2⟩, h3⟩, h4⟩ := h
  exact ⟨h1, by omega, h4⟩
theorem thB_parts {a m : List Int} {n : Int} (h : thB a m n = true) : VL 8 65535 a ∧ VL 8 65536 m ∧ 0 ≤ n ∧ n ≤ 65535 := by
  simp only [thB, Bool.and_eq_true, decide_eq_true_eq, inB_true] at h
  obtain ⟨⟨⟨h1, h2⟩, h3, h4⟩, h5⟩ := h
  exact ⟨VL.of h1 (by omega), ⟨by omega, fun v hv => inB_true.1 (List.all_eq_true.1 h3 v hv)⟩, h5⟩
noncomputable def forkF (kids : List KidD) (ord : List Int) : List Int → List Int → List Int × List Int := fun r c => fkL kids r (fullO ord kids.length) r c
theorem forkF_ok {kids : List KidD} {ord : List Int} (hK : KidsOk kids) (hO : OrdP ord kids.length) (r c : List Int) (hr : VL 4 65535 r) (hc : VL 8 65535 c) : VL 4 65535 (forkF kids ord r c).1 ∧ VL 8 65535 (forkF kids ord r c).2 :=
  fkL_ok hK hr _ r c (fullO_ok hO.1 hO.2).1 hr hc
noncomputable def serO (c : List I4) (kids : List KidD) (ord a m : List Int) (n : Int) : Int × List Int × List Int × List Int × Int :=
  open Classical in if progB c kids = true ∧ OrdP ord kids.length ∧ thB a m n = true then runO c (forkF kids ord) (List.replicate 4 0) a m n else (0, [], [], [], 0)
theorem serO_pos {c : List I4} {kids : List KidD} {ord a m : List Int} {n : Int} (h1 : progB c kids = true) (h2 : OrdP ord kids.length) (h3 : thB a m n = true) : serO c kids ord a m n = runO c (forkF kids ord) (List.replicate 4 0) a m n := by
  unfold serO; rw [if_pos ⟨h1, h2, h3⟩]
theorem serO_n1 {c : List I4} {kids : List KidD} {ord a m : List Int} {n : Int} (h : progB c kids = false) : serO c kids ord a m n = (0, [], [], [], 0) := by
  unfold serO; rw [if_neg (fun q => by rw [h] at q; exact absurd q.1 Bool.false_ne_true)]
theorem serO_n2 {c : List I4} {kids : List KidD} {ord a m : List Int} {n : Int} (h : ¬ OrdP ord kids.length) : serO c kids ord a m n = (0, [], [], [], 0) := by
  unfold serO; rw [if_neg (fun q => h q.2.1)]
theorem serO_n3 {c : List I4} {kids : List KidD} {ord a m : List Int} {n : Int} (h : thB a m n = false) : serO c kids ord a m n = (0, [], [], [], 0) := by
  unfold serO; rw [if_neg (fun q => by rw [h] at q; exact absurd q.2.2 Bool.false_ne_true)]
theorem kid_runI {F f : Nat} {kids : List KidD} (hK : KidsOk kids) (hF : 24 < F) : KidRun kids (m_impl_serial_R F (f + 1)) := fun k hk r c m n hr hc hm hn => p_kid (rcf := m_impl_serial_R F f) (hK.2 k hk) hF hr hc hm hn
theorem kid_runS {F f : Nat} {kids : List KidD} (hK : KidsOk kids) (hF : 24 < F) : KidRun kids (m_spec_l7Walk_R F (f + 1)) := fun k hk r c m n hr hc hm hn => s_kid (rcf := m_spec_l7Walk_R F f) (hK.2 k hk) hF hr hc hm hn
theorem full_len {ord : List Int} {n : Nat} (h : ord.length ≤ 1048576) (hn : n ≤ 3) : (fullO ord n).length ≤ 3000000 := by
  unfold fullO; rw [List.length_append]; have := len_miss (ord := ord) n 0; omega
theorem p_serial {F : Nat} {c : List I4} {kids : List KidD} {ord r a m : List Int} {n : Int} (hC : CodeP c) (hK : KidsOk kids) (hO : OrdP ord kids.length) (hl : ord.length ≤ 1048576) (hF : 3000010 < F) (hr : VL 4 65535 r) (ha : VL 8 65535 a) (hm : VL 8 65536 m) (hn : 0 ≤ n ∧ n ≤ 65535) :
    m_impl_serial F c kids ord r a m n = some (runO c (forkF kids ord) r a m n) := by
  obtain ⟨f, rfl⟩ : ∃ f, F = f + 2 := ⟨F - 2, by omega⟩
  show m_impl_serial_S (m_impl_serial_R (f + 2) (f + 1)) (f + 2) c kids ord r a m n = _
  have hfl := full_len hl hK.1
  refine p_serial_S hC (by omega) (fun _ => forkF_ok hK hO) (fun _ r c m n q pc h1 h2 => ?_) hr ha hm hn
  rw [p_fullOrder _ ord kids.length hl (by omega) hK.1, Option.bind_some]
  have h := p_fork_L (F := f + 2) hK (kid_runI (F := f + 2) (f := f) hK (by omega)) (es := fullO ord kids.length) (r0 := r) (fullO_ok hO.1 hO.2).1 hfl h1 r c m n q pc (f + 2) 0 r c (Nat.zero_le _) (by omega) h1 h2
  rw [List.drop_zero] at h
  exact h
theorem s_walk {F : Nat} {c : List I4} {kids : List KidD} {ord r a m : List Int} {n : Int} (hC : CodeP c) (hK : KidsOk kids) (hO : OrdP ord kids.length) (hl : ord.length ≤ 1048576) (hF : 3000010 < F) (hr : VL 4 65535 r) (ha : VL 8 65535 a) (hm : VL 8 65536 m) (hn : 0 ≤ n ∧ n ≤ 65535) :
    m_spec_l7Walk F c kids (fullO ord kids.length) r a m n = some (runO c (forkF kids ord) r a m n) := by
  obtain ⟨f, rfl⟩ : ∃ f, F = f + 2 := ⟨F - 2, by omega⟩
  show m_spec_l7Walk_S (m_spec_l7Walk_R (f + 2) (f + 1)) (f + 2) c kids (fullO ord kids.length) r a m n = _
  have hk3 := hK.1
  exact s_walk_S hC (by omega) (fun _ => forkF_ok hK hO) (fun _ => ⟨by omega, fun r c m n q pc h1 h2 h3 h4 => s_fork hK (kid_runS (F := f + 2) (f := f) hK (by omega)) (fullO_ok hO.1 hO.2) (full_len hl hk3) (by omega) r c m n q pc h1 h2 h3 h4⟩) hr ha hm hn
open Classical in
theorem p_Serial (F : Nat) (c : List I4) (kids : List KidD) (ord a m : List Int) (n : Int) (hc : c.length ≤ 1048576) (hk : kids.length ≤ 1048576) (hB : KB F kids) (ho : ord.length ≤ 1048576) (ha : a.length ≤ 1048576) (hm : m.length ≤ 1048576) (hF : 3000010 < F) :
    m_impl_Serial F c kids ord a m n = some (serO c kids ord a m n) := by
  unfold m_impl_Serial
  rw [p_ProgOk F c kids hc (by omega) hk hB (by omega), Option.bind_some]
  cases hp : progB c kids with
  | false => rw [if_neg (by decide), serO_n1 hp]; rfl
  | true =>
    obtain ⟨hC, hK⟩ := progB_parts hp
    rw [if_pos rfl, p_orderOk F ord kids.length hK.1 ho (by omega), Option.bind_some]
    by_cases hO : OrdP ord kids.length
    · rw [decide_eq_true hO, if_pos rfl, p_ThingsOk F a m n ha hm (by omega) (by omega), Option.bind_some]
      cases ht : thB a m n with
      | false => rw [serO_n3 ht]; rfl
      | true =>
        obtain ⟨t1, t2, t3⟩ := thB_parts ht
        have h4 : VL 4 65535 (List.replicate (4 : Int).toNat (0 : Int)) := VL.rep 4 (by decide)
        have key := p_serial hC hK hO ho hF h4 t1 t2 t3
        rw [serO_pos hp hO ht]
        show (if 0 ≤ (4 : Int) ∧ (4 : Int) ≤ 1048576 then bind5 (m_impl_serial F c kids ord (List.replicate (4 : Int).toNat (0 : Int)) a m n) fun y4 y5 y6 y7 y8 => some (y4, y5, y6, y7, y8) else none) = _
        rw [if_pos (by decide), key]; rfl
    · rw [decide_eq_false hO, if_neg (by decide), serO_n2 hO]; rfl
open Classical in
theorem s_Serial (F : Nat) (c : List I4) (kids : List KidD) (ord a m : List Int) (n : Int) (hc : c.length ≤ 1048576) (hk : kids.length ≤ 1048576) (hB : KB F kids) (ho : ord.length ≤ 1048576) (ha : a.length ≤ 1048576) (hm : m.length ≤ 1048576) (hF : 3000010 < F) :
    m_spec_Serial F c kids ord a m n = some (serO c kids ord a m n) := by
  unfold m_spec_Serial
  rw [p_SProgOk F c kids hc (by omega) hk hB (by omega), Option.bind_some]
  cases hp : progB c kids with
  | false => rw [if_neg (by decide), serO_n1 hp]; rfl
  | true =>
    obtain ⟨hC, hK⟩ := progB_parts hp
    rw [if_pos rfl, p_SThingsOk F a m n ha hm (by omega) (by omega), Option.bind_some]
    cases ht : thB a m n with
    | false => rw [serO_n3 ht]; rfl
    | true =>
      obtain ⟨t1, t2, t3⟩ := thB_parts ht
      show (bind2 (m_spec_l7Order F ord (kids.length : Int)) fun y3 y4 => if y4 = true then (if 0 ≤ (4 : Int) ∧ (4 : Int) ≤ 1048576 then bind5 (m_spec_l7Walk F c kids y3 (List.replicate (4 : Int).toNat (0 : Int)) a m n) fun y5 y6 y7 y8 y9 => some (y5, y6, y7, y8, y9) else none) else some (0, ([] : List Int), ([] : List Int), ([] : List Int), 0)) = _
      rcases s_l7Order F ord kids.length hK.1 ho (by omega) with ⟨hO, e⟩ | ⟨hO, l, e⟩
      · have h4 : VL 4 65535 (List.replicate (4 : Int).toNat (0 : Int)) := VL.rep 4 (by decide)
        have key := s_walk hC hK hO ho hF h4 t1 t2 t3
        rw [e, serO_pos hp hO ht, bB2, if_pos rfl, if_pos (by decide), key]; rfl
      · rw [e, serO_n2 hO, bB2, if_neg (by decide)]
/-- What comes of a program run alone. -/
theorem serO_ok (c : List I4) (kids : List KidD) (ord a m : List Int) (n : Int) : serO c kids ord a m n = (0, [], [], [], 0) ∨
    (thB a m n = true ∧ ((serO c kids ord a m n).1 = 1 ∨ ((serO c kids ord a m n).1 = 2 ∧ (serO c kids ord a m n).2.2 = (a, m, n))) ∧ VL 4 65535 (serO c kids ord a m n).2.1 ∧ VL 8 65535 (serO c kids ord a m n).2.2.1 ∧ VL 8 65536 (serO c kids ord a m n).2.2.2.1 ∧ 0 ≤ (serO c kids ord a m n).2.2.2.2 ∧ (serO c kids ord a m n).2.2.2.2 ≤ 65535) := by
  unfold serO
  split
  · rename_i h
    obtain ⟨hp, hO, ht⟩ := h
    obtain ⟨hC, hK⟩ := progB_parts hp
    obtain ⟨t1, t2, t3⟩ := thB_parts ht
    exact .inr ⟨ht, runO_ok hC (fun _ => forkF_ok hK hO) (VL.rep 4 (by decide)) t1 t2 t3⟩
  · exact .inl rfl
theorem serO_len (c : List I4) (kids : List KidD) (ord a m : List Int) (n : Int) : (serO c kids ord a m n).2.1.length ≤ 8 ∧ (serO c kids ord a m n).2.2.1.length ≤ 8 ∧ (serO c kids ord a m n).2.2.2.1.length ≤ 8 := by
  rcases serO_ok c kids ord a m n with h | ⟨_, _, h1, h2, h3, _⟩
  · rw [h]; exact ⟨by decide, by decide, by decide⟩
  · have := h1.1; have := h2.1; have := h3.1; omega

/-! The marks of whole arguments. -/
end Go.Proofs.Ytknghnmcckjjbaa
