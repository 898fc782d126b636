/- Programs run one after the other. -/
import Derived.Test.YtknghnmcckjjbaaPSerial2
import Derived.Test.YtknghnmcckjjbaaS7
namespace Go.Proofs.Ytknghnmcckjjbaa
open Go Go.RowKit
set_option linter.unusedVariables false
set_option linter.unusedSimpArgs false

def mkRun (q : Int × List Int × List Int × List Int × Int) : RunD := ⟨q.1, q.2.1, q.2.2.1, q.2.2.2.1, q.2.2.2.2⟩
noncomputable def serL : List ProgD → List OrdD → List Int → List Int → Int → Option (List RunD × List Int × List Int × Int)
  | [], _, a, m, n => some ([], a, m, n)
  | _ :: _, [], _, _, _ => none
  | p :: ps, o :: os, a, m, n =>
    if (serO p.code p.kids o.kids a m n).1 = 0 then none
    else (serL ps os (serO p.code p.kids o.kids a m n).2.2.1 (serO p.code p.kids o.kids a m n).2.2.2.1 (serO p.code p.kids o.kids a m n).2.2.2.2).map fun t => (mkRun (serO p.code p.kids o.kids a m n) :: t.1, t.2)
def PBd (F : Nat) (ps : List ProgD) : Prop := ∀ p ∈ ps, p.code.length ≤ 1048576 ∧ p.kids.length ≤ 1048576 ∧ KB F p.kids
def OBd (os : List OrdD) : Prop := ∀ o ∈ os, o.kids.length ≤ 1048576
theorem bM4 {A B C D γ δ : Type} (a : A) (b : B) (c : C) (d : D) (f : A → B → C → D → Option (Lp γ δ)) : ((some (Lp.brk (a, b, c, d))).bind <| contM <| un4 f) = f a b c d := rfl
theorem bM4r {A B C D γ δ : Type} (q : δ) (f : A → B → C → D → Option (Lp γ δ)) : ((some (Lp.ret q)).bind <| contM <| un4 f) = some (.ret q) := rfl
theorem p_All_L (F : Nat) (ps : List ProgD) (os : List OrdD) (he : ps.length = os.length) (hl : ps.length ≤ 1048576) (hP : PBd F ps) (hO : OBd os) (hF : 3000010 < F) : ∀ K n R a m c, n ≤ ps.length → ps.length < n + K → R.length ≤ n → a.length ≤ 1048576 → m.length ≤ 1048576 →
    m_impl_SerialAll_L0 F ps os K a m c R (n : Int) = some (match serL (ps.drop n) (os.drop n) a m c with | some t => .brk (t.2.1, t.2.2.1, t.2.2.2, R ++ t.1) | none => .ret ([], [], [], 0)) := by
  intro K
  induction K with
  | zero => intro n R a m c h1 h2; omega
  | succ K ih =>
    intro n R a m c h1 h2 h3 h4 h5
    rw [m_impl_SerialAll_L0]
    by_cases h : n < ps.length
    · have h' : n < os.length := by omega
      obtain ⟨b1, b2, b3⟩ := hP _ (List.getElem_mem h)
      have b4 := hO _ (List.getElem_mem h')
      have i1 : in64 ((n : Int) + 1) := in64_of (by omega) (by omega)
      have key := p_Serial F ps[n].code ps[n].kids os[n].kids a m c b1 b2 b3 b4 h4 h5 hF
      obtain ⟨l1, l2, l3⟩ := serO_len ps[n].code ps[n].kids os[n].kids a m c
      rw [if_pos (lt_cast h), at?_lt h, Option.bind_some, at?_lt h', Option.bind_some, key, drop_cons h, drop_cons h', serL]
      generalize serO ps[n].code ps[n].kids os[n].kids a m c = q at *
      obtain ⟨q1, q2, q3, q4, q5⟩ := q
      dsimp only at l1 l2 l3
      rw [bB5, bB5]
      by_cases hz : q1 = 0
      · rw [if_pos hz, bM4r, if_pos hz]
      · rw [if_neg hz, if_pos (by omega), p_copyThings F q3 q4 q5 (by omega) (by omega), bB3, bM4, if_pos i1, cast_succ, ih (n + 1) _ q3 q4 q5 (by omega) (by omega) (by rw [List.length_append, List.length_singleton]; omega) (by omega) (by omega), if_neg hz]
        dsimp only
        cases serL (ps.drop (n + 1)) (os.drop (n + 1)) q3 q4 q5 with
        | none => rfl
        | some t => simp only [Option.map_some, List.append_assoc, List.singleton_append]; rfl
    · rw [if_neg (ge_cast h), drop_end h, serL]
      dsimp only
      rw [List.append_nil]
theorem s_All_L (F : Nat) (ps : List ProgD) (os : List OrdD) (he : ps.length = os.length) (hl : ps.length ≤ 1048576) (hP : PBd F ps) (hO : OBd os) (hF : 3000010 < F) : ∀ K n R a m c, n ≤ ps.length → ps.length < n + K → R.length ≤ n → a.length ≤ 1048576 → m.length ≤ 1048576 →
    m_spec_SerialAll_L0 F ps os K R a m c (n : Int) = some (match serL (ps.drop n) (os.drop n) a m c with | some t => .brk (R ++ t.1, t.2.1, t.2.2.1, t.2.2.2) | none => .ret ([], [], [], 0)) := by
  intro K
  induction K with
  | zero => intro n R a m c h1 h2; omega
  | succ K ih =>
    intro n R a m c h1 h2 h3 h4 h5
    rw [m_spec_SerialAll_L0]
    by_cases h : n < ps.length
    · have h' : n < os.length := by omega
      obtain ⟨b1, b2, b3⟩ := hP _ (List.getElem_mem h)
      have b4 := hO _ (List.getElem_mem h')
      have i1 : in64 ((n : Int) + 1) := in64_of (by omega) (by omega)
      have key := s_Serial F ps[n].code ps[n].kids os[n].kids a m c b1 b2 b3 b4 h4 h5 hF
      obtain ⟨l1, l2, l3⟩ := serO_len ps[n].code ps[n].kids os[n].kids a m c
      rw [if_pos (lt_cast h), at?_lt h, Option.bind_some, at?_lt h', Option.bind_some, key, drop_cons h, drop_cons h', serL]
      generalize serO ps[n].code ps[n].kids os[n].kids a m c = q at *
      obtain ⟨q1, q2, q3, q4, q5⟩ := q
      dsimp only at l1 l2 l3
      rw [bB5, bB5]
      by_cases hz : q1 = 0
      · rw [if_pos hz, bM4r, if_pos hz]
      · rw [if_neg hz, p_l7Copy F q3 q4 q5 (by omega) (by omega), bB3, if_pos (by omega), bM4, if_pos i1, cast_succ, ih (n + 1) _ q3 q4 q5 (by omega) (by omega) (by rw [List.length_append, List.length_singleton]; omega) (by omega) (by omega), if_neg hz]
        dsimp only
        cases serL (ps.drop (n + 1)) (os.drop (n + 1)) q3 q4 q5 with
        | none => rfl
        | some t => simp only [Option.map_some, List.append_assoc, List.singleton_append]; rfl
    · rw [if_neg (ge_cast h), drop_end h, serL]
      dsimp only
      rw [List.append_nil]
noncomputable def serA (ps : List ProgD) (os : List OrdD) (a m : List Int) (n : Int) : List RunD × List Int × List Int × Int :=
  if ps.length = os.length ∧ thB a m n = true then (match serL ps os a m n with | some t => t | none => ([], [], [], 0)) else ([], [], [], 0)
theorem p_SerialAll (F : Nat) (ps : List ProgD) (os : List OrdD) (a m : List Int) (n : Int) (hl : ps.length ≤ 1048576) (ho : os.length ≤ 1048576) (hP : PBd F ps) (hO : OBd os) (ha : a.length ≤ 1048576) (hm : m.length ≤ 1048576) (hF : 3000010 < F) :
    m_impl_SerialAll F ps os a m n = some (serA ps os a m n) := by
  unfold m_impl_SerialAll serA
  by_cases he : ps.length = os.length
  · rw [if_pos (show (ps.length : Int) = (os.length : Int) by omega), p_ThingsOk F a m n ha hm (by omega) (by omega), Option.bind_some]
    cases ht : thB a m n with
    | false => rw [if_neg (fun q => Bool.false_ne_true q.2)]; rfl
    | true =>
      have h := p_All_L F ps os he hl hP hO hF F 0 [] a m n (Nat.zero_le _) (by omega) (Nat.le_refl _) ha hm
      simp only [List.drop_zero, List.nil_append, Int.natCast_zero] at h
      rw [if_pos ⟨he, rfl⟩]
      show (bind3 (m_impl_copyThings F a m n) fun y2 y3 y4 => (m_impl_SerialAll_L0 F ps os F y2 y3 y4 ([] : List RunD) 0).bind <| contL <| un4 fun z2 z3 z4 z5 => some (z5, z2, z3, z4)) = _
      rw [p_copyThings F a m n (by omega) (by omega), bB3, h]
      cases serL ps os a m n <;> rfl
  · rw [if_neg (show ¬ (ps.length : Int) = (os.length : Int) by omega), if_neg (fun q => he q.1)]; rfl
theorem s_SerialAll (F : Nat) (ps : List ProgD) (os : List OrdD) (a m : List Int) (n : Int) (hl : ps.length ≤ 1048576) (ho : os.length ≤ 1048576) (hP : PBd F ps) (hO : OBd os) (ha : a.length ≤ 1048576) (hm : m.length ≤ 1048576) (hF : 3000010 < F) :
    m_spec_SerialAll F ps os a m n = some (serA ps os a m n) := by
  unfold m_spec_SerialAll serA
  by_cases he : ps.length = os.length
  · rw [if_pos (show (os.length : Int) = (ps.length : Int) by omega), p_SThingsOk F a m n ha hm (by omega) (by omega), Option.bind_some]
    cases ht : thB a m n with
    | false => rw [if_neg (fun q => Bool.false_ne_true q.2)]; rfl
    | true =>
      have h := s_All_L F ps os he hl hP hO hF F 0 [] a m n (Nat.zero_le _) (by omega) (Nat.le_refl _) ha hm
      simp only [List.drop_zero, List.nil_append, Int.natCast_zero] at h
      rw [if_pos ⟨he, rfl⟩]
      show (bind3 (m_spec_l7Copy F a m n) fun y2 y3 y4 => (m_spec_SerialAll_L0 F ps os F ([] : List RunD) y2 y3 y4 0).bind <| contL <| un4 fun z2 z3 z4 z5 => some (z2, z3, z4, z5)) = _
      rw [p_l7Copy F a m n (by omega) (by omega), bB3, h]
      cases serL ps os a m n <;> rfl
  · rw [if_neg (show ¬ (os.length : Int) = (ps.length : Int) by omega), if_neg (fun q => he q.1)]; rfl
def RBd (rs : List RunD) : Prop := ∀ r ∈ rs, r.regs.length ≤ 8 ∧ r.cells.length ≤ 8 ∧ r.map.length ≤ 8
theorem serL_ok : ∀ (ps : List ProgD) (os : List OrdD) (a m : List Int) (n : Int) t, a.length ≤ 8 → m.length ≤ 8 → serL ps os a m n = some t → t.1.length = ps.length ∧ RBd t.1 ∧ t.2.1.length ≤ 8 ∧ t.2.2.1.length ≤ 8
  | [], _, a, m, n, t, ha, hm, h => by
    rw [serL] at h; cases h; exact ⟨rfl, fun r hr => (by cases hr), ha, hm⟩
  | _ :: _, [], a, m, n, t, ha, hm, h => by rw [serL] at h; cases h
  | p :: ps, o :: os, a, m, n, t, ha, hm, h => by
    rw [serL] at h
    obtain ⟨l1, l2, l3⟩ := serO_len p.code p.kids o.kids a m n
    split at h
    · cases h
    · cases hs : serL ps os (serO p.code p.kids o.kids a m n).2.2.1 (serO p.code p.kids o.kids a m n).2.2.2.1 (serO p.code p.kids o.kids a m n).2.2.2.2 with
      | none => rw [hs] at h; cases h
      | some u =>
        rw [hs] at h; cases h
        obtain ⟨g1, g2, g3, g4⟩ := serL_ok ps os _ _ _ u l2 l3 hs
        refine ⟨by show (_ :: u.1).length = _; rw [List.length_cons, List.length_cons, g1], fun r hr => ?_, g3, g4⟩
        rcases List.mem_cons.1 hr with rfl | hr
        · exact ⟨l1, l2, l3⟩
        · exact g2 r hr
theorem serA_ok (ps : List ProgD) (os : List OrdD) (a m : List Int) (n : Int) : (serA ps os a m n).1.length ≤ ps.length ∧ RBd (serA ps os a m n).1 ∧ (serA ps os a m n).2.1.length ≤ 8 ∧ (serA ps os a m n).2.2.1.length ≤ 8 := by
  have hz : ([] : List RunD).length ≤ ps.length ∧ RBd [] ∧ ([] : List Int).length ≤ 8 ∧ ([] : List Int).length ≤ 8 := ⟨Nat.zero_le _, fun r hr => (by cases hr), Nat.zero_le _, Nat.zero_le _⟩
  unfold serA
  split
  · rename_i h
    obtain ⟨t1, t2, _⟩ := thB_parts h.2
    cases hs : serL ps os a m n with
    | none => exact hz
    | some t =>
      obtain ⟨g1, g2, g3, g4⟩ := serL_ok ps os a m n t (by rw [t1.1]; exact Nat.le_refl _) (by rw [t2.1]; exact Nat.le_refl _) hs
      exact ⟨by rw [g1]; exact Nat.le_refl _, g2, g3, g4⟩
  · exact hz

/-! Rows of programs and orders: sizes. -/
/-! Copies, and comparison with itself. -/
/-! Marks. -/
/-! The law. -/
end Go.Proofs.Ytknghnmcckjjbaa
