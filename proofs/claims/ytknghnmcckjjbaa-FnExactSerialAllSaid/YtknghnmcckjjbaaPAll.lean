/- Programs run one after the other. -/
import Derived.Test.YtknghnmcckjjbaaPSerial2
import Derived.Test.YtknghnmcckjjbaaS7
namespace Go.Proofs.Ytknghnmcckjjbaa
open Go Go.RowKit
set_option linter.unusedVariables false
set_option linter.unusedSimpArgs false

def mkRun (q : Int × List Int × List Int × List Int × Int) : RunD := ⟨q.1, q.2.1, q.2.2.1, q.2.2.2.1, q.2.2.2.2⟩
noncomputable def serL : List ProgD → List OrdD → List Int → List Int → Int → Option (List RunD × List Int × List Int × Int)
  | [], _, a, m, n => some ([], a, m, n)
  | _ :: _, [], _, _, _ => none
  | p :: ps, o :: os, a, m, n =>
    if (serO p.code p.kids o.kids a m n).1 = 0 then none
    else (serL ps os (serO p.code p.kids o.kids a m n).2.2.1 (serO p.code p.kids o.kids a m n).2.2.2.1 (serO p.code p.kids o.kids a m n).2.2.2.2).map fun t => (mkRun (serO p.code p.kids o.kids a m n) :: t.1, t.2)
def PBd (F : Nat) (ps : List ProgD) : Prop := ∀ p ∈ ps, p.code.length ≤ 1048576 ∧ p.kids.length ≤ 1048576 ∧ KB F p.kids
def OBd (os : List OrdD) : Prop := ∀ o ∈ os, o.kids.length ≤ 1048576
theorem bM4 {A B C D γ δ : Type} (a : A) (b : B) (c : C) (d : D) (f : A → B → C → D → Option (Lp γ δ)) : ((some (Lp.brk (a, b, c, d))).bind <| contM <| un4 f) = f a b c d := rfl
theorem bM4r {A B C D γ δ : Type} (q : δ) (f : A → B → C → D → Option (Lp γ δ)) : ((some (Lp.ret q)).bind <| contM <| un4 f) = some (.ret q) := rfl
theorem p_All_L (F : Nat) (ps : List ProgD) (os : List OrdD) (he : ps.length = os.length) (hl : ps.length ≤ 1048576) (hP : PBd F ps) (hO : OBd os) (hF : 3000010 < F) : ∀ K n R a m c, n ≤ ps.length → ps.length < n + K → R.length ≤ n → a.length ≤ 1048576 → m.length ≤ 1048576 →
    m_impl_SerialAll_L0 F ps os K a m c R (n : Int) = some (match serL (ps.drop n) (os.drop n) a m c with | some t => .brk (t.2.1, t.2.2.1, t.2.2.2, R ++ t.1) | none => .ret ([], [], [], 0)) := by
  intro K
  induction K with
  | zero => intro n R a m c h1 h2; omega
  | succ K ih =>
    intro n R a m c h1 h2 h3 h4 h5
    rw [m_impl_SerialAll_L0]
    by_cases h : n < ps.length
    · have h' : n < os.length := by omega
      obtain ⟨b1, b2, b3⟩ := hP _ (List.getElem_mem h)
      have b4 := hO _ (List.getElem_mem h')
      have i1 : in64 ((n : Int) + 1) := in64_of (by omega) (by omega)
      have key := p_Serial F ps[n].code ps[n].kids os[n].kids a m c b1 b2 b3 b4 h4 h5 hF
      obtain ⟨l1, l2, l3⟩ := serO_len ps[n].code ps[n].kids os[n].kids a m c
      rw [if_pos (lt_cast h), at?_lt h, Option.bind_some, at?_lt h', Option.bind_some, key, drop_cons h, drop_cons h', serL]
      generalize serO ps[n].code ps[n].kids os[n].kids a m c = q at *
      obtain ⟨q1, q2, q3, q4, q5⟩ := q
      dsimp only at l1 l2 l3
      rw [bB5, bB5]
      by_cases hz : q1 = 0
      · rw [if_pos hz, bM4r, if_pos hz]
      · rw [if_neg hz, if_pos (by omega), p_copyThings F q3 q4 q5 (by omega) (by omega), bB3, bM4, if_pos i1, cast_succ, ih (n + 1) _ q3 q4 q5 (by omega) (by omega) (by rw [List.length_append, List.length_singleton]; omega) (by omega) (by omega), if_neg hz]
        dsimp only
        cases serL (ps.drop (n + 1)) (os.drop (n + 1)) q3 q4 q5 with
        | none => rfl
        | some t => simp only [Option.map_some, List.append_assoc, List.singleton_append]; rfl
    · rw [if_neg (ge_cast h), drop_end h, serL]
      dsimp only
      rw [List.append_nil]
theorem s_All_L (F : Nat) (ps : List ProgD) (os : List OrdD) (he : ps.length = os.length) (hl : ps.length ≤ 1048576) (hP : PBd F ps) (hO : OBd os) (hF : 3000010 < F) : ∀ K n R a m c, n ≤ ps.length → ps.length < n + K → R.length ≤ n → a.length ≤ 1048576 → m.length ≤ 1048576 →
    m_spec_SerialAll_L0 F ps os K R a m c (n : Int) = some (match serL (ps.drop n) (os.drop n) a m c with | some t => .brk (R ++ t.1, t.2.1, t.2.2.1, t.2.2.2) | none => .ret ([], [], [], 0)) := by
  intro K
  induction K with
  | zero => intro n R a m c h1 h2; omega
  | succ K ih =>
    intro n R a m c h1 h2 h3 h4 h5
    rw [m_spec_SerialAll_L0]
    by_cases h : n < ps.length
    · have h' : n < os.length := by omega
      obtain ⟨b1, b2, b3⟩ := hP _ (List.getElem_mem h)
      have b4 := hO _ (List.getElem_mem h')
      have i1 : in64 ((n : Int) + 1) := in64_of (by omega) (by omega)
      have key := s_Serial F ps[n].code ps[n].kids os[n].kids a m c b1 b2 b3 b4 h4 h5 hF
      obtain ⟨l1, l2, l3⟩ := serO_len ps[n].code ps[n].kids os[n].kids a m c
      rw [if_pos (lt_cast h), at?_lt h, Option.bind_some, at?_lt h', Option.bind_some, key, drop_cons h, drop_cons h', serL]
      generalize serO ps[n].code ps[n].kids os[n].kids a m c = q at *
      obtain ⟨q1, q2, q3, q4, q5⟩ := q
      dsimp only at l1 l2 l3
      rw [bB5, bB5]
      by_cases hz : q1 = 0
      · rw [if_pos hz, bM4r, if_pos hz]
      · rw [if_neg hz, p_l7Copy F q3 q4 q5 (by omega) (by omega), bB3, if_pos (by omega), bM4, if_pos i1, cast_succ, ih (n + 1) _ q3 q4 q5 (by omega) (by omega) (by rw [List.length_append, List.length_singleton]; omega) (by omega) (by omega), if_neg hz]
        dsimp only
        cases serL (ps.drop (n + 1)) (os.drop (n + 1)) q3 q4 q5 with
        | none => rfl
        | some t => simp only [Option.map_some, List.append_assoc, List.singleton_append]; rfl
    · rw [if_neg (ge_cast h), drop_end h, serL]
      dsimp only
      rw [List.append_nil]
noncomputable def serA (ps : List ProgD) (os : List OrdD) (a m : List Int) (n : Int) : List RunD × List Int × List Int × Int :=
  if ps.length = os.length ∧ thB a m n = true then (match serL ps os a m n with | some t => t | none => ([], [], [], 0)) else ([], [], [], 0)
theorem p_SerialAll (F : Nat) (ps : List ProgD) (os : List OrdD) (a m : List Int) (n : Int) (hl : ps.length ≤ 1048576) (ho : os.length ≤ 1048576) (hP : PBd F ps) (hO : OBd os) (ha : a.length ≤ 1048576) (hm : m.length ≤ 1048576) (hF : 3000010 < F) :
    m_impl_SerialAll F ps os a m n = some (serA ps os a m n) := by
  unfold m_impl_SerialAll serA
  by_cases he : ps.length = os.length
  · rw [if_pos (show (ps.length : Int) = (os.length : Int) by omega), p_ThingsOk F a m n ha hm (by omega) (by omega), Option.bind_some]
    cases ht : thB a m n with
    | false => rw [if_neg (fun q => Bool.false_ne_true q.2)]; rfl
    | true =>
      have h := p_All_L F ps os he hl hP hO hF F 0 [] a m n (Nat.zero_le _) (by omega) (Nat.le_refl _) ha hm
      simp only [List.drop_zero, List.nil_append, Int.natCast_zero] at h
      rw [if_pos ⟨he, rfl⟩]
      show (bind3 (m_impl_copyThings F a m n) fun y2 y3 y4 => (m_impl_SerialAll_L0 F ps os F y2 y3 y4 ([] : List RunD) 0).bind <| contL <| un4 fun z2 z3 z4 z5 => some (z5, z2, z3, z4)) = _
      rw [p_copyThings F a m n (by omega) (by omega), bB3, h]
      cases serL ps os a m n <;> rfl
  · rw [if_neg (show ¬ (ps.length : Int) = (os.length : Int) by omega), if_neg (fun q => he q.1)]; rfl
theorem s_SerialAll (F : Nat) (ps : List ProgD) (os : List OrdD) (a m : List Int) (n : Int) (hl : ps.length ≤ 1048576) (ho : os.length ≤ 1048576) (hP : PBd F ps) (hO : OBd os) (ha : a.length ≤ 1048576) (hm : m.length ≤ 1048576) (hF : 3000010 < F) :
    m_spec_SerialAll F ps os a m n = some (serA ps os a m n) := by
  unfold m_spec_SerialAll serA
  by_cases he : ps.length = os.length
  · rw [if_pos (show (os.length : Int) = (ps.length : Int) by omega), p_SThingsOk F a m n ha hm (by omega) (by omega), Option.bind_some]
    cases ht : thB a m n with
    | false => rw [if_neg (fun q => Bool.false_ne_true q.2)]; rfl
    | true =>
      have h := s_All_L F ps os he hl hP hO hF F 0 [] a m n (Nat.zero_le _) (by omega) (Nat.le_refl _) ha hm
      simp only [List.drop_zero, List.nil_append, Int.natCast_zero] at h
      rw [if_pos ⟨he, rfl⟩]
      show (bind3 (m_spec_l7Copy F a m n) fun y2 y3 y4 => (m_spec_SerialAll_L0 F ps os F ([] : List RunD) y2 y3 y4 0).bind <| contL <| un4 fun z2 z3 z4 z5 => some (z2, z3, z4, z5)) = _
      rw [p_l7Copy F a m n (by omega) (by omega), bB3, h]
      cases serL ps os a m n <;> rfl
  · rw [if_neg (show ¬ (os.length : Int) = (ps.length : Int) by omega), if_neg (fun q => he q.1)]; rfl
def RBd (rs : List RunD) : Prop := ∀ r ∈ rs, r.regs.length ≤ 8 ∧ r.cells.length ≤ 8 ∧ r.map.length ≤ 8
theorem serL_ok : ∀ (ps : List ProgD) (os : List OrdD) (a m : List Int) (n : Int) t, a.length ≤ 8 → m.length ≤ 8 → serL ps os a m n = some t → t.1.length = ps.length ∧ RBd t.1 ∧ t.2.1.length ≤ 8 ∧ t.2.2.1.length ≤ 8
  | [], _, a, m, n, t, ha, hm, h => by
    rw [serL] at h; cases h; exact ⟨rfl, fun r hr => (by cases hr), ha, hm⟩
  | _ :: _, [], a, m, n, t, ha, hm, h => by rw [serL] at h; cases h
  | p :: ps, o :: os, a, m, n, t, ha, hm, h => by
    rw [serL] at h
    obtain ⟨l1, l2, l3⟩ := serO_len p.code p.kids o.kids a m n
    split at h
    · cases h
    · cases hs : serL ps os (serO p.code p.kids o.kids a m n).2.2.1 (serO p.code p.kids o.kids a m n).2.2.2.1 (serO p.code p.kids o.kids a m n).2.2.2.2 with
      | none => rw [hs] at h; cases h
      | some u =>
        rw [hs] at h; cases h
        obtain ⟨g1, g2, g3, g4⟩ := serL_ok ps os _ _ _ u l2 l3 hs
        refine ⟨by show (_ :: u.1).length = _; rw [List.length_cons, List.length_cons, g1], fun r hr => ?_, g3, g4⟩
        rcases List.mem_cons.1 hr with rfl | hr
        · exact ⟨l1, l2, l3⟩
        · exact g2 r hr
theorem serA_ok (ps : List ProgD) (os : List OrdD) (a m : List Int) (n : Int) : (serA ps os a m n).1.length ≤ ps.length ∧ RBd (serA ps os a m n).1 ∧ (serA ps os a m n).2.1.length ≤ 8 ∧ (serA ps os a m n).2.2.1.length ≤ 8 := by
  have hz : ([] : List RunD).length ≤ ps.length ∧ RBd [] ∧ ([] : List Int).length ≤ 8 ∧ ([] : List Int).length ≤ 8 := ⟨Nat.zero_le _, fun r hr => (by cases hr), Nat.zero_le _, Nat.zero_le _⟩
  unfold serA
  split
  · rename_i h
    obtain ⟨t1, t2, _⟩ := thB_parts h.2
    cases hs : serL ps os a m n with
    | none => exact hz
    | some t =>
      obtain ⟨g1, g2, g3, g4⟩ := serL_ok ps os a m n t (by rw [t1.1]; exact Nat.le_refl _) (by rw [t2.1]; exact Nat.le_refl _) hs
      exact ⟨by rw [g1]; exact Nat.le_refl _, g2, g3, g4⟩
  · exact hz

/-! Rows of programs and orders: sizes. -/
def szP (p : ProgD) : Int := (p.code.length : Int) + ((p.kids.length : Int) + szS p.kids)
def szPS : List ProgD → Int
  | [] => 0
  | p :: l => szP p + szPS l
def szOS : List OrdD → Int
  | [] => 0
  | o :: l => (o.kids.length : Int) + szOS l
theorem szP_pos (p : ProgD) : 0 ≤ szP p := by have := szS_pos p.kids; unfold szP; omega
theorem szPS_pos : ∀ l, 0 ≤ szPS l
  | [] => Int.le_refl _
  | p :: l => by have := szPS_pos l; have := szP_pos p; simp only [szPS]; omega
theorem szOS_pos : ∀ l, 0 ≤ szOS l
  | [] => Int.le_refl _
  | o :: l => by have := szOS_pos l; simp only [szOS]; omega
theorem szPS_mem : ∀ (l : List ProgD) (p : ProgD), p ∈ l → szP p ≤ szPS l
  | [], p, h => by cases h
  | q :: l, p, h => by
    have h1 := szPS_pos l; have h2 := szP_pos q
    simp only [szPS]
    rcases List.mem_cons.1 h with rfl | h
    · omega
    · have := szPS_mem l p h; omega
theorem szOS_mem : ∀ (l : List OrdD) (o : OrdD), o ∈ l → (o.kids.length : Int) ≤ szOS l
  | [], p, h => by cases h
  | q :: l, p, h => by
    have h1 := szOS_pos l
    simp only [szOS]
    rcases List.mem_cons.1 h with rfl | h
    · omega
    · have := szOS_mem l p h; omega
theorem PBd_of {F : Nat} {l : List ProgD} (h : szPS l ≤ 1048576) (hf : 1048576 < F) : PBd F l := fun p hp => by
  have h1 := szPS_mem l p hp
  have h2 := szS_pos p.kids
  unfold szP at h1
  exact ⟨by omega, by omega, KB_of (by omega) hf⟩
theorem OBd_of {l : List OrdD} (h : szOS l ≤ 1048576) : OBd l := fun o ho => by have := szOS_mem l o ho; omega
def PMx (l : List ProgD) : Prop := ∀ p ∈ l, p.code.length ≤ maxLen ∧ p.kids.length ≤ maxLen ∧ ∀ k ∈ p.kids, k.code.length ≤ maxLen
def OMx (l : List OrdD) : Prop := ∀ o ∈ l, o.kids.length ≤ maxLen
theorem p_szProgS_L (F : Nat) (x : List ProgD) (hl : x.length ≤ 1048576) (hm : PMx x) (hf : 1048576 < F) : ∀ K n (q : Int), 0 ≤ q ∧ q ≤ 1048576 → n ≤ x.length → x.length < n + K →
    m_laws_szProgS_L0 F x K q (n : Int) = some (if q < szPS (x.drop n) then .ret (-1) else .brk (q - szPS (x.drop n))) := by
  intro K
  induction K with
  | zero => intro n q hq h1 h2; omega
  | succ K ih =>
    intro n q hq h1 h2
    rw [m_laws_szProgS_L0]
    by_cases h : n < x.length
    · obtain ⟨m1, m2, m3⟩ := hm _ (List.getElem_mem h)
      have hp := szPS_pos (x.drop (n + 1))
      have hs := szS_pos x[n].kids
      have i1 : in64 ((n : Int) + 1) := in64_of (by omega) (by omega)
      rw [drop_cons h, szPS, szP, if_pos (lt_cast h), at?_lt h, Option.bind_some, p_szProg F _ _ q m1 m2 m3 hq hf, Option.bind_some]
      by_cases e : q < (x[n].code.length : Int) + ((x[n].kids.length : Int) + szS x[n].kids)
      · rw [if_pos e, if_pos (by decide), if_pos (by omega)]
      · rw [if_neg e, if_neg (by omega), if_pos i1, cast_succ, ih (n + 1) _ (by omega) (by omega) (by omega)]
        by_cases e2 : q - (x[n].code.length : Int) - (x[n].kids.length : Int) - szS x[n].kids < szPS (x.drop (n + 1))
        · rw [if_pos e2, if_pos (by omega)]
        · rw [if_neg e2, if_neg (by omega)]; congr 2; omega
    · rw [if_neg (ge_cast h), drop_end h, szPS, if_neg (by omega), Int.sub_zero]
theorem p_szProgS (F : Nat) (x : List ProgD) (q : Int) (hx : x.length ≤ maxLen) (hm : PMx x) (hq : 0 ≤ q ∧ q ≤ 1048576) (hf : 1048576 < F) : m_laws_szProgS F x q = some (if q < (x.length : Int) + szPS x then -1 else q - (x.length : Int) - szPS x) := by
  have hp := szPS_pos x
  unfold m_laws_szProgS
  unfold maxLen at hx
  rw [if_pos (by unfold in64; omega)]
  by_cases h : q - (x.length : Int) < 0
  · rw [if_pos h, if_pos (by omega)]
  · rw [if_neg h]
    have := p_szProgS_L F x (by omega) hm hf F 0 (q - (x.length : Int)) (by omega) (by omega) (by omega)
    simp only [List.drop_zero, Int.natCast_zero] at this
    rw [this]
    by_cases e : q - (x.length : Int) < szPS x
    · rw [if_pos e, if_pos (by omega)]; rfl
    · rw [if_neg e, if_neg (by omega)]; rfl
theorem p_szOrder (F : Nat) (x : List Int) (q : Int) (hx : x.length ≤ maxLen) (hq : 0 ≤ q ∧ q ≤ 1048576) : m_laws_szOrder F x q = some (if q < (x.length : Int) then -1 else q - (x.length : Int)) := by
  unfold m_laws_szOrder
  rw [p_szIntS F x q hx hq, Option.bind_some]
  by_cases h : q < (x.length : Int)
  · rw [if_pos h, if_pos (by decide)]
  · rw [if_neg h, if_neg (by omega)]
theorem p_szOrderS_L (F : Nat) (x : List OrdD) (hl : x.length ≤ 1048576) (hm : OMx x) : ∀ K n (q : Int), 0 ≤ q ∧ q ≤ 1048576 → n ≤ x.length → x.length < n + K →
    m_laws_szOrderS_L0 F x K q (n : Int) = some (if q < szOS (x.drop n) then .ret (-1) else .brk (q - szOS (x.drop n))) := by
  intro K
  induction K with
  | zero => intro n q hq h1 h2; omega
  | succ K ih =>
    intro n q hq h1 h2
    rw [m_laws_szOrderS_L0]
    by_cases h : n < x.length
    · have m1 := hm _ (List.getElem_mem h)
      have hp := szOS_pos (x.drop (n + 1))
      have i1 : in64 ((n : Int) + 1) := in64_of (by omega) (by omega)
      rw [drop_cons h, szOS, if_pos (lt_cast h), at?_lt h, Option.bind_some, p_szOrder F _ q m1 hq, Option.bind_some]
      by_cases e : q < (x[n].kids.length : Int)
      · rw [if_pos e, if_pos (by decide), if_pos (by omega)]
      · rw [if_neg e, if_neg (by omega), if_pos i1, cast_succ, ih (n + 1) _ (by omega) (by omega) (by omega)]
        by_cases e2 : q - (x[n].kids.length : Int) < szOS (x.drop (n + 1))
        · rw [if_pos e2, if_pos (by omega)]
        · rw [if_neg e2, if_neg (by omega)]; congr 2; omega
    · rw [if_neg (ge_cast h), drop_end h, szOS, if_neg (by omega), Int.sub_zero]
theorem p_szOrderS (F : Nat) (x : List OrdD) (q : Int) (hx : x.length ≤ maxLen) (hm : OMx x) (hq : 0 ≤ q ∧ q ≤ 1048576) (hf : 1048576 < F) : m_laws_szOrderS F x q = some (if q < (x.length : Int) + szOS x then -1 else q - (x.length : Int) - szOS x) := by
  have hp := szOS_pos x
  unfold m_laws_szOrderS
  unfold maxLen at hx
  rw [if_pos (by unfold in64; omega)]
  by_cases h : q - (x.length : Int) < 0
  · rw [if_pos h, if_pos (by omega)]
  · rw [if_neg h]
    have := p_szOrderS_L F x (by omega) hm F 0 (q - (x.length : Int)) (by omega) (by omega) (by omega)
    simp only [List.drop_zero, Int.natCast_zero] at this
    rw [this]
    by_cases e : q - (x.length : Int) < szOS x
    · rw [if_pos e, if_pos (by omega)]; rfl
    · rw [if_neg e, if_neg (by omega)]; rfl

/-! Copies, and comparison with itself. -/
theorem p_toProgS_L (F : Nat) (x : List ProgD) (hl : x.length ≤ 1048576) (hP : PBd F x) (hf : 1048576 < F) : ∀ K n, n ≤ x.length → x.length < n + K → ∀ B : List ProgD, B.length = x.length - n →
    m_laws_toProgS_L0 F x K (x.take n ++ B) (n : Int) = some x := by
  intro K
  induction K with
  | zero => intro n h1 h2; omega
  | succ K ih =>
    intro n h1 h2 B hB
    rw [m_laws_toProgS_L0]
    have hA : (x.take n).length = n := by rw [List.length_take]; omega
    by_cases h : n < x.length
    · obtain ⟨b1, b2, b3⟩ := hP _ (List.getElem_mem h)
      have i1 : in64 ((n : Int) + 1) := in64_of (by omega) (by omega)
      cases B with
      | nil => rw [List.length_nil] at hB; omega
      | cons e B =>
        rw [if_pos (lt_cast h), at?_lt h, Option.bind_some, p_toProg F _ _ b1 (by omega) b2 b3 (by omega), bB2, at?_mid hA, Option.bind_some, if_pos i1, set_mid hA, cast_succ]
        have := ih (n + 1) (by omega) (by omega) B (by rw [List.length_cons] at hB; omega)
        rw [take_snoc' h, List.append_assoc] at this
        exact this
    · rw [if_neg (ge_cast h)]
      have : B = [] := List.eq_nil_of_length_eq_zero (by omega)
      subst this
      rw [List.append_nil, List.take_of_length_le (by omega)]
theorem p_toProgS (F : Nat) (x : List ProgD) (hl : x.length ≤ 1048576) (hP : PBd F x) (hf : 1048576 < F) : m_laws_toProgS F x = some x := by
  unfold m_laws_toProgS
  have := p_toProgS_L F x hl hP hf F 0 (by omega) (by omega) (List.replicate ((x.length : Int) : Int).toNat ⟨[], []⟩) (by simp)
  simp only [List.take_zero, List.nil_append, Int.natCast_zero] at this
  rw [if_pos (by omega), this]; rfl
theorem p_toOrder (F : Nat) (x : List Int) (hl : x.length ≤ 1048576) (hf : 1048576 < F) : m_laws_toOrder F x = some x := by
  unfold m_laws_toOrder
  rw [p_toIntS F x hl (by omega)]; rfl
theorem p_toOrderS_L (F : Nat) (x : List OrdD) (hl : x.length ≤ 1048576) (hO : OBd x) (hf : 1048576 < F) : ∀ K n, n ≤ x.length → x.length < n + K → ∀ B : List OrdD, B.length = x.length - n →
    m_laws_toOrderS_L0 F x K (x.take n ++ B) (n : Int) = some x := by
  intro K
  induction K with
  | zero => intro n h1 h2; omega
  | succ K ih =>
    intro n h1 h2 B hB
    rw [m_laws_toOrderS_L0]
    have hA : (x.take n).length = n := by rw [List.length_take]; omega
    by_cases h : n < x.length
    · have b1 := hO _ (List.getElem_mem h)
      have i1 : in64 ((n : Int) + 1) := in64_of (by omega) (by omega)
      cases B with
      | nil => rw [List.length_nil] at hB; omega
      | cons e B =>
        rw [if_pos (lt_cast h), at?_lt h, Option.bind_some, p_toOrder F _ b1 hf, Option.bind_some, at?_mid hA, Option.bind_some, if_pos i1, set_mid hA, cast_succ]
        have := ih (n + 1) (by omega) (by omega) B (by rw [List.length_cons] at hB; omega)
        rw [take_snoc' h, List.append_assoc] at this
        exact this
    · rw [if_neg (ge_cast h)]
      have : B = [] := List.eq_nil_of_length_eq_zero (by omega)
      subst this
      rw [List.append_nil, List.take_of_length_le (by omega)]
theorem p_toOrderS (F : Nat) (x : List OrdD) (hl : x.length ≤ 1048576) (hO : OBd x) (hf : 1048576 < F) : m_laws_toOrderS F x = some x := by
  unfold m_laws_toOrderS
  have := p_toOrderS_L F x hl hO hf F 0 (by omega) (by omega) (List.replicate ((x.length : Int) : Int).toNat ⟨[]⟩) (by simp)
  simp only [List.take_zero, List.nil_append, Int.natCast_zero] at this
  rw [if_pos (by omega), this]; rfl
theorem p_eqProgS_L (F : Nat) (x : List ProgD) (hl : x.length ≤ 1048576) (hP : PBd F x) (hf : 1048576 < F) : ∀ K n, n ≤ x.length → x.length < n + K → m_laws_eqProgS_L0 F x x K (n : Int) = some (.brk ()) := by
  intro K
  induction K with
  | zero => intro n h1 h2; omega
  | succ K ih =>
    intro n h1 h2
    rw [m_laws_eqProgS_L0]
    by_cases h : n < x.length
    · obtain ⟨b1, b2, b3⟩ := hP _ (List.getElem_mem h)
      have i1 : in64 ((n : Int) + 1) := in64_of (by omega) (by omega)
      rw [if_pos (lt_cast h), at?_lt h, Option.bind_some, Option.bind_some, p_eqProg F _ _ _ _ b1 (by omega) b2 b3 (by omega), Option.bind_some, if_pos (decide_eq_true ⟨rfl, rfl⟩), if_pos i1, cast_succ]
      exact ih (n + 1) (by omega) (by omega)
    · rw [if_neg (ge_cast h)]
theorem p_eqProgS (F : Nat) (x : List ProgD) (hl : x.length ≤ 1048576) (hP : PBd F x) (hf : 1048576 < F) : m_laws_eqProgS F x x = some true := by
  unfold m_laws_eqProgS
  have := p_eqProgS_L F x hl hP hf F 0 (by omega) (by omega)
  simp only [Int.natCast_zero] at this
  rw [if_pos rfl, this]; rfl
theorem p_eqOrderS_L (F : Nat) (x : List OrdD) (hl : x.length ≤ 1048576) (hO : OBd x) (hf : 1048576 < F) : ∀ K n, n ≤ x.length → x.length < n + K → m_laws_eqOrderS_L0 F x x K (n : Int) = some (.brk ()) := by
  intro K
  induction K with
  | zero => intro n h1 h2; omega
  | succ K ih =>
    intro n h1 h2
    rw [m_laws_eqOrderS_L0]
    by_cases h : n < x.length
    · have b1 := hO _ (List.getElem_mem h)
      have i1 : in64 ((n : Int) + 1) := in64_of (by omega) (by omega)
      have e1 : m_laws_eqOrder F x[n].kids x[n].kids = some true := by
        unfold m_laws_eqOrder; rw [p_eqIntS F _ _ (by omega) (by omega), Option.bind_some, if_pos (decide_eq_true rfl)]
      rw [if_pos (lt_cast h), at?_lt h, Option.bind_some, Option.bind_some, e1, Option.bind_some, if_pos rfl, if_pos i1, cast_succ]
      exact ih (n + 1) (by omega) (by omega)
    · rw [if_neg (ge_cast h)]
theorem p_eqOrderS (F : Nat) (x : List OrdD) (hl : x.length ≤ 1048576) (hO : OBd x) (hf : 1048576 < F) : m_laws_eqOrderS F x x = some true := by
  unfold m_laws_eqOrderS
  have := p_eqOrderS_L F x hl hO hf F 0 (by omega) (by omega)
  simp only [Int.natCast_zero] at this
  rw [if_pos rfl, this]; rfl
theorem p_eqRunS_L (F : Nat) (x : List RunD) (hl : x.length ≤ 1048576) (hR : RBd x) (hf : 1048576 < F) : ∀ K n, n ≤ x.length → x.length < n + K → m_laws_eqRunS_L0 F x x K (n : Int) = some (.brk ()) := by
  intro K
  induction K with
  | zero => intro n h1 h2; omega
  | succ K ih =>
    intro n h1 h2
    rw [m_laws_eqRunS_L0]
    by_cases h : n < x.length
    · obtain ⟨b1, b2, b3⟩ := hR _ (List.getElem_mem h)
      have i1 : in64 ((n : Int) + 1) := in64_of (by omega) (by omega)
      have e1 : m_laws_eqRun F x[n].out x[n].regs x[n].cells x[n].map x[n].count x[n].out x[n].regs x[n].cells x[n].map x[n].count = some true := by
        unfold m_laws_eqRun
        rw [if_pos rfl, p_eqIntS F _ _ (by omega) (by omega), Option.bind_some, if_pos (decide_eq_true rfl), p_eqThings F _ _ _ _ _ _ (by omega) (by omega) (by omega) (by omega), Option.bind_some, if_pos (decide_eq_true ⟨rfl, rfl, rfl⟩)]
      rw [if_pos (lt_cast h), at?_lt h, Option.bind_some, Option.bind_some, e1, Option.bind_some, if_pos rfl, if_pos i1, cast_succ]
      exact ih (n + 1) (by omega) (by omega)
    · rw [if_neg (ge_cast h)]
theorem p_eqRunS (F : Nat) (x : List RunD) (hl : x.length ≤ 1048576) (hR : RBd x) (hf : 1048576 < F) : m_laws_eqRunS F x x = some true := by
  unfold m_laws_eqRunS
  have := p_eqRunS_L F x hl hR hf F 0 (by omega) (by omega)
  simp only [Int.natCast_zero] at this
  rw [if_pos rfl, this]; rfl

/-! Marks. -/
theorem p_markProgS_L (F : Nat) (x : List ProgD) (hl : x.length ≤ 1048576) (hP : PBd F x) (hf : 1048576 < F) : ∀ (K n : Nat) (A : List ProgD) (k : Int), n ≤ x.length → x.length < n + K → A.length = n → 0 ≤ k ∧ k + 4 * szPS (x.drop n) ≤ 1099511627776 →
    ∃ l' k', m_laws_markProgS_L0 F x K (A ++ x.drop n) k (n : Int) = some (k', l') ∧ 0 ≤ k' ∧ k' ≤ k + 4 * szPS (x.drop n) := by
  intro K
  induction K with
  | zero => intro n A k h1 h2; omega
  | succ K ih =>
    intro n A k h1 h2 h3 h4
    rw [m_laws_markProgS_L0]
    by_cases h : n < x.length
    · obtain ⟨b1, b2, b3⟩ := hP _ (List.getElem_mem h)
      have hp := szPS_pos (x.drop (n + 1))
      have hs := szS_pos x[n].kids
      have hd : szPS (x.drop n) = (x[n].code.length : Int) + ((x[n].kids.length : Int) + szS x[n].kids) + szPS (x.drop (n + 1)) := by rw [drop_cons h]; rfl
      have i1 : in64 ((n : Int) + 1) := in64_of (by omega) (by omega)
      have hms := markF_sz x[n].kids (k + 4 * (x[n].code.length : Int))
      rw [hd] at h4 ⊢
      rw [drop_cons h, if_pos (lt_cast h), at?_mid h3, Option.bind_some, p_markOpS F _ b1 (by omega) k (by omega), bB2, p_markKG F _ b2 (fun c hc => (b3 c hc).1) hf _ (by omega), bB2, if_pos i1, set_mid h3, cast_succ]
      obtain ⟨l', k', e1, e2, e3⟩ := ih (n + 1) (A ++ [⟨seq4 k x[n].code.length, (markF (k + 4 * (x[n].code.length : Int)) x[n].kids).1⟩]) (markF (k + 4 * (x[n].code.length : Int)) x[n].kids).2 (by omega) (by omega) (by rw [List.length_append, List.length_singleton, h3]) (by omega)
      rw [List.append_assoc] at e1
      exact ⟨l', k', e1, e2, by omega⟩
    · rw [if_neg (ge_cast h)]
      have := szPS_pos (x.drop n)
      exact ⟨_, k, rfl, h4.1, by omega⟩
theorem p_markProgS (F : Nat) (x : List ProgD) (hl : x.length ≤ 1048576) (hP : PBd F x) (hf : 1048576 < F) (k : Int) (h0 : 0 ≤ k ∧ k + 4 * szPS x ≤ 1099511627776) : ∃ l' k', m_laws_markProgS F x k = some (k', l') ∧ 0 ≤ k' ∧ k' ≤ k + 4 * szPS x := by
  unfold m_laws_markProgS
  obtain ⟨l', k', e1, e2⟩ := p_markProgS_L F x hl hP hf F 0 [] k (by omega) (by omega) rfl (by rw [List.drop_zero]; exact h0)
  simp only [List.drop_zero, List.nil_append, Int.natCast_zero] at e1 e2
  exact ⟨l', k', by rw [e1]; rfl, e2⟩
theorem p_markOrderS_L (F : Nat) (x : List OrdD) (hl : x.length ≤ 1048576) (hO : OBd x) (hf : 1048576 < F) : ∀ (K n : Nat) (A : List OrdD) (k : Int), n ≤ x.length → x.length < n + K → A.length = n → 0 ≤ k ∧ k + szOS (x.drop n) ≤ 1099511627776 →
    ∃ l' k', m_laws_markOrderS_L0 F x K (A ++ x.drop n) k (n : Int) = some (k', l') ∧ 0 ≤ k' ∧ k' ≤ k + szOS (x.drop n) := by
  intro K
  induction K with
  | zero => intro n A k h1 h2; omega
  | succ K ih =>
    intro n A k h1 h2 h3 h4
    rw [m_laws_markOrderS_L0]
    by_cases h : n < x.length
    · have b1 := hO _ (List.getElem_mem h)
      have hp := szOS_pos (x.drop (n + 1))
      have hd : szOS (x.drop n) = (x[n].kids.length : Int) + szOS (x.drop (n + 1)) := by rw [drop_cons h]; rfl
      have i1 : in64 ((n : Int) + 1) := in64_of (by omega) (by omega)
      rw [hd] at h4 ⊢
      rw [drop_cons h, if_pos (lt_cast h), at?_mid h3, Option.bind_some, p_markIntS F _ b1 (by omega) k (by omega), bB2, if_pos i1, set_mid h3, cast_succ]
      obtain ⟨l', k', e1, e2, e3⟩ := ih (n + 1) (A ++ [⟨seq1 k x[n].kids.length⟩]) (k + (x[n].kids.length : Int)) (by omega) (by omega) (by rw [List.length_append, List.length_singleton, h3]) (by omega)
      rw [List.append_assoc] at e1
      exact ⟨l', k', e1, e2, by omega⟩
    · rw [if_neg (ge_cast h)]
      have := szOS_pos (x.drop n)
      exact ⟨_, k, rfl, h4.1, by omega⟩
theorem p_markOrderS (F : Nat) (x : List OrdD) (hl : x.length ≤ 1048576) (hO : OBd x) (hf : 1048576 < F) (k : Int) (h0 : 0 ≤ k ∧ k + szOS x ≤ 1099511627776) : ∃ l' k', m_laws_markOrderS F x k = some (k', l') ∧ 0 ≤ k' ∧ k' ≤ k + szOS x := by
  unfold m_laws_markOrderS
  obtain ⟨l', k', e1, e2⟩ := p_markOrderS_L F x hl hO hf F 0 [] k (by omega) (by omega) rfl (by rw [List.drop_zero]; exact h0)
  simp only [List.drop_zero, List.nil_append, Int.natCast_zero] at e1 e2
  exact ⟨l', k', by rw [e1]; rfl, e2⟩
def mkR : Int → List RunD → List RunD × Int
  | k, [] => ([], k)
  | k, r :: t => (⟨k, seq1 (k + 1) r.regs.length, seq1 (k + 1 + (r.regs.length : Int)) r.cells.length, seq1 (k + 1 + (r.regs.length : Int) + (r.cells.length : Int)) r.map.length, k + 1 + (r.regs.length : Int) + (r.cells.length : Int) + (r.map.length : Int)⟩ :: (mkR (k + 1 + (r.regs.length : Int) + (r.cells.length : Int) + (r.map.length : Int) + 1) t).1, (mkR (k + 1 + (r.regs.length : Int) + (r.cells.length : Int) + (r.map.length : Int) + 1) t).2)
theorem mkR_len : ∀ (l : List RunD) (k : Int), (mkR k l).1.length = l.length
  | [], k => rfl
  | r :: t, k => by simp only [mkR, List.length_cons, mkR_len t]
theorem mkR_b : ∀ (l : List RunD) (k : Int), RBd l → k ≤ (mkR k l).2 ∧ (mkR k l).2 ≤ k + 26 * (l.length : Int)
  | [], k, _ => by simp [mkR]
  | r :: t, k, h => by
    have h1 := mkR_b t (k + 1 + (r.regs.length : Int) + (r.cells.length : Int) + (r.map.length : Int) + 1) (fun d hd => h d (List.mem_cons_of_mem _ hd))
    have h2 := h r (List.mem_cons_self ..)
    simp only [mkR, List.length_cons]
    omega
theorem p_markRunS_L (F : Nat) (x : List RunD) (hl : x.length ≤ 1048576) (hR : RBd x) (hf : 1048576 < F) : ∀ (K n : Nat) (A : List RunD) (k : Int), n ≤ x.length → x.length < n + K → A.length = n → 0 ≤ k ∧ k ≤ 1000 + 26 * (n : Int) →
    m_laws_markRunS_L0 F x K (A ++ x.drop n) k (n : Int) = some ((mkR k (x.drop n)).2, A ++ (mkR k (x.drop n)).1) := by
  intro K
  induction K with
  | zero => intro n A k h1 h2; omega
  | succ K ih =>
    intro n A k h1 h2 h3 h4
    rw [m_laws_markRunS_L0]
    by_cases h : n < x.length
    · obtain ⟨b1, b2, b3⟩ := hR _ (List.getElem_mem h)
      have i1 : in64 ((n : Int) + 1) := in64_of (by omega) (by omega)
      have i2 : in64 (k + 1) := in64_of (by omega) (by omega)
      have i3 : in64 (k + 1 + (x[n].regs.length : Int) + (x[n].cells.length : Int) + (x[n].map.length : Int) + 1) := in64_of (by omega) (by omega)
      have hat := at?_mid h3 x[n] (x.drop (n + 1))
      rw [drop_cons h, if_pos (lt_cast h), hat, Option.bind_some, if_pos i2, at_set_self hat, Option.bind_some]
      dsimp only
      rw [p_markIntS F _ (by omega) (by omega) _ (by omega), bB2, p_markIntS F _ (by omega) (by omega) _ (by omega), bB2, p_markIntS F _ (by omega) (by omega) _ (by omega), bB2, if_pos i3, if_pos i1, List.set_set, List.set_set, set_mid h3, cast_succ]
      have := ih (n + 1) (A ++ [⟨k, seq1 (k + 1) x[n].regs.length, seq1 (k + 1 + (x[n].regs.length : Int)) x[n].cells.length, seq1 (k + 1 + (x[n].regs.length : Int) + (x[n].cells.length : Int)) x[n].map.length, k + 1 + (x[n].regs.length : Int) + (x[n].cells.length : Int) + (x[n].map.length : Int)⟩]) (k + 1 + (x[n].regs.length : Int) + (x[n].cells.length : Int) + (x[n].map.length : Int) + 1) (by omega) (by omega) (by rw [List.length_append, List.length_singleton, h3]) (by omega)
      rw [List.append_assoc, List.append_assoc] at this
      exact this
    · rw [if_neg (ge_cast h), drop_end h]; simp [mkR]
theorem p_markRunS (F : Nat) (x : List RunD) (hl : x.length ≤ 1048576) (hR : RBd x) (hf : 1048576 < F) (k : Int) (h0 : 0 ≤ k ∧ k ≤ 1000) : m_laws_markRunS F x k = some ((mkR k x).2, (mkR k x).1) := by
  unfold m_laws_markRunS
  have := p_markRunS_L F x hl hR hf F 0 [] k (by omega) (by omega) rfl (by omega)
  simp only [List.drop_zero, List.nil_append, Int.natCast_zero] at this
  rw [this]; rfl
theorem p_heldRunS_L (F : Nat) (x : List RunD) (hl : x.length ≤ 1048576) (hR : RBd x) (hf : 1048576 < F) (X : List RunD) : ∀ (K n : Nat) (A : List RunD) (k : Int), n ≤ x.length → x.length < n + K → A.length = n → 0 ≤ k ∧ k ≤ 1000 + 26 * (n : Int) → X = A ++ (mkR k (x.drop n)).1 →
    m_laws_heldRunS_L0 F X K k (n : Int) = some (.brk (mkR k (x.drop n)).2) := by
  intro K
  induction K with
  | zero => intro n A k h1 h2; omega
  | succ K ih =>
    intro n A k h1 h2 h3 h4 h5
    rw [m_laws_heldRunS_L0]
    have hX : X.length = x.length := by rw [h5, List.length_append, mkR_len, List.length_drop]; omega
    by_cases h : n < x.length
    · obtain ⟨b1, b2, b3⟩ := hR _ (List.getElem_mem h)
      have i1 : in64 ((n : Int) + 1) := in64_of (by omega) (by omega)
      have i2 : in64 (k + 1) := in64_of (by omega) (by omega)
      have i3 : in64 (k + 1 + (x[n].regs.length : Int) + (x[n].cells.length : Int) + (x[n].map.length : Int) + 1) := in64_of (by omega) (by omega)
      have hat : at? X (n : Int) = some ⟨k, seq1 (k + 1) x[n].regs.length, seq1 (k + 1 + (x[n].regs.length : Int)) x[n].cells.length, seq1 (k + 1 + (x[n].regs.length : Int) + (x[n].cells.length : Int)) x[n].map.length, k + 1 + (x[n].regs.length : Int) + (x[n].cells.length : Int) + (x[n].map.length : Int)⟩ := by rw [h5, drop_cons h]; exact at?_mid h3 _ _
      rw [if_pos (by rw [hX]; exact lt_cast h), hat, Option.bind_some, if_pos rfl, if_pos i2]
      dsimp only
      rw [p_heldIntS F _ (by omega) (by omega) _ (by omega), Option.bind_some, if_neg (by omega), p_heldIntS F _ (by omega) (by omega) _ (by omega), Option.bind_some, if_neg (by omega), p_heldIntS F _ (by omega) (by omega) _ (by omega), Option.bind_some, if_neg (by omega), if_pos rfl, if_pos i3, if_pos i1, cast_succ]
      have := ih (n + 1) (A ++ [⟨k, seq1 (k + 1) x[n].regs.length, seq1 (k + 1 + (x[n].regs.length : Int)) x[n].cells.length, seq1 (k + 1 + (x[n].regs.length : Int) + (x[n].cells.length : Int)) x[n].map.length, k + 1 + (x[n].regs.length : Int) + (x[n].cells.length : Int) + (x[n].map.length : Int)⟩]) (k + 1 + (x[n].regs.length : Int) + (x[n].cells.length : Int) + (x[n].map.length : Int) + 1) (by omega) (by omega) (by rw [List.length_append, List.length_singleton, h3]) (by omega) (by rw [h5, drop_cons h, List.append_assoc]; rfl)
      rw [drop_cons h]
      exact this
    · rw [if_neg (by rw [hX]; exact ge_cast h), drop_end h]; simp [mkR]
theorem p_heldRunS (F : Nat) (x : List RunD) (hl : x.length ≤ 1048576) (hR : RBd x) (hf : 1048576 < F) (k : Int) (h0 : 0 ≤ k ∧ k ≤ 1000) : m_laws_heldRunS F (mkR k x).1 k = some (mkR k x).2 := by
  unfold m_laws_heldRunS
  have := p_heldRunS_L F x hl hR hf (mkR k x).1 F 0 [] k (by omega) (by omega) rfl (by omega) (by simp)
  simp only [List.drop_zero, Int.natCast_zero] at this
  rw [this]; rfl

/-! The law. -/
theorem progs_max {x : List ProgD} (h : TB (rowT x)) : x.length ≤ maxLen ∧ PMx x :=
  ⟨(TB_row h).1, fun p hp => ⟨((TB_row h).2 p hp).1.1, (kids_max ((TB_row h).2 p hp).2.1).1, (kids_max ((TB_row h).2 p hp).2.1).2⟩⟩
theorem orders_max {x : List OrdD} (h : TB (rowT x)) : x.length ≤ maxLen ∧ OMx x :=
  ⟨(TB_row h).1, fun p hp => ((TB_row h).2 p hp).1.1⟩
theorem pure_FnExactSerialAll {x : List ProgD} {y : List OrdD} {a m : List Int} {n : Int} (hx : TB (rowT x)) (hy : TB (rowT y)) (ha : a.length ≤ maxLen) (hm : m.length ≤ maxLen) (_ : in64 n) : ∃ fuel, m_laws_FnExactSerialAll fuel x y a m n = some true := by
  refine ⟨3000020, ?_⟩
  generalize hF : (3000020 : Nat) = F
  obtain ⟨hx1, hx2⟩ := progs_max hx
  obtain ⟨hy1, hy2⟩ := orders_max hy
  have hsp := szPS_pos x
  have hso := szOS_pos y
  unfold m_laws_FnExactSerialAll
  rw [p_szProgS F x 1048576 hx1 hx2 (by omega) (by omega), Option.bind_some]
  by_cases hs1 : (1048576 : Int) < (x.length : Int) + szPS x
  · rw [if_pos hs1, if_pos (by decide)]
  rw [if_neg hs1, if_neg (by omega), p_szOrderS F y _ hy1 hy2 (by omega) (by omega), Option.bind_some]
  by_cases hs2 : 1048576 - (x.length : Int) - szPS x < (y.length : Int) + szOS y
  · rw [if_pos hs2, if_pos (by decide)]
  rw [if_neg hs2, if_neg (by omega), p_szThings F a m n _ ha hm (by omega), Option.bind_some]
  by_cases hs3 : 1048576 - (x.length : Int) - szPS x - (y.length : Int) - szOS y < (a.length : Int) + (m.length : Int)
  · rw [if_pos hs3, if_pos (by decide)]
  rw [if_neg hs3, if_neg (by omega)]
  have hx' : x.length ≤ 1048576 := by omega
  have hy' : y.length ≤ 1048576 := by omega
  have hP : PBd F x := PBd_of (by omega) (by omega)
  have hO : OBd y := OBd_of (by omega)
  have ha' : a.length ≤ 1048576 := by omega
  have hm' : m.length ≤ 1048576 := by omega
  obtain ⟨l0, l1, l2, l3⟩ := serA_ok x y a m n
  have e1 := p_SerialAll F x y a m n hx' hy' hP hO ha' hm' (by omega)
  have e2 := s_SerialAll F x y a m n hx' hy' hP hO ha' hm' (by omega)
  generalize serA x y a m n = q at *
  obtain ⟨q1, q2, q3, q4⟩ := q
  dsimp only at l0 l1 l2 l3
  have t1 := p_toProgS F x hx' hP (by omega)
  have t2 := p_toOrderS F y hy' hO (by omega)
  have t3 := p_toThings F a m n ha' hm' (by omega) (by omega)
  have g1 := p_eqProgS F x hx' hP (by omega)
  have g2 := p_eqOrderS F y hy' hO (by omega)
  have g3 := p_eqThings F a m n a m n ha' hm' (by omega) (by omega)
  have g4 := p_eqRunS F q1 (by omega) l1 (by omega)
  have g5 := p_eqThings F q2 q3 q4 q2 q3 q4 (by omega) (by omega) (by omega) (by omega)
  rw [decide_eq_true ⟨rfl, rfl, rfl⟩] at g3 g5
  obtain ⟨z1, k1, m1, m2, m3⟩ := p_markProgS F x hx' hP (by omega) 1 (by omega)
  obtain ⟨z2, k2, m4, m5, m6⟩ := p_markOrderS F y hy' hO (by omega) k1 (by omega)
  have m7 : m_laws_markThings F a m n k2 = some (k2 + (a.length : Int) + (m.length : Int), seq1 k2 a.length, seq1 (k2 + (a.length : Int)) m.length) := by
    unfold m_laws_markThings
    rw [p_markIntS F a ha' (by omega) _ (by omega), bB2, p_markIntS F m hm' (by omega) _ (by omega), bB2]
  have hb := mkR_b q1 1 l1
  have m8 := p_markRunS F q1 (by omega) l1 (by omega) 1 (by omega)
  have d8 := p_heldRunS F q1 (by omega) l1 (by omega) 1 (by omega)
  generalize (mkR 1 q1).2 = M at *
  have m9 : m_laws_markThings F q2 q3 q4 M = some (M + (q2.length : Int) + (q3.length : Int), seq1 M q2.length, seq1 (M + (q2.length : Int)) q3.length) := by
    unfold m_laws_markThings
    rw [p_markIntS F q2 (by omega) (by omega) _ (by omega), bB2, p_markIntS F q3 (by omega) (by omega) _ (by omega), bB2]
  have d9 : m_laws_heldThings F (seq1 M q2.length) (seq1 (M + (q2.length : Int)) q3.length) q4 M = some (M + (q2.length : Int) + (q3.length : Int)) := by
    unfold m_laws_heldThings
    rw [p_heldIntS F q2.length (by omega) (by omega) _ (by omega), Option.bind_some, if_neg (by omega), p_heldIntS F q3.length (by omega) (by omega) _ (by omega), Option.bind_some, if_neg (by omega)]
  have n1 : ¬ (k2 + (a.length : Int) + (m.length : Int) < 0) := by omega
  have n2 : ¬ (M < 0) := by omega
  have n3 : ¬ (M + (q2.length : Int) + (q3.length : Int) < 0) := by omega
  simp only [t1, t2, t3, e1, e2, Option.bind_some, bind2, bind3, bind4, g1, g2, g3, g4, g5, if_true, Bool.not_true, contL, un1, Bool.false_eq_true, if_false, m1, m4, m7, m8, m9, d8, d9, n1, n2, n3]
end Go.Proofs.Ytknghnmcckjjbaa
