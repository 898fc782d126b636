/- Walks of functions, by program: laws.markKidS, laws.markProg, laws.markThings, laws.markRun, laws.szKid, laws.szKidS, laws.szProg, laws.szIntS, laws.szThings, laws.toKid, laws.toKidS, laws.toProg, laws.toThings, spec.ProgOk, spec.ThingsOk, spec.l7Order, spec.Serial, laws.FnExactSerial, impl.SerialAll, laws.eqOrder, laws.eqOrderS. -/
import Derived.Test.YtknghnmcckjjbaaTy
import Derived.Test.YtknghnmcckjjbaaS3
namespace Go.Proofs.Ytknghnmcckjjbaa
open Go Go.RowKit
set_option linter.unusedVariables false
set_option linter.unusedSimpArgs false
def m_spec_ProgOk_L0 (fuel : Nat) (x0_1 : List KidD) : Nat → Int → Option (Lp Unit Bool)
  | 0, _ => none
  | k1 + 1, z1 =>
    if z1 < (x0_1.length : Int) then
      (at? x0_1 z1).bind fun e1 =>
      (m_spec_KidOk fuel e1.code).bind fun y3 =>
      if y3 = true then
        if in64 (z1 + 1) then
          m_spec_ProgOk_L0 fuel x0_1 k1 (z1 + 1)
        else none
      else
      some (.ret false)
    else
    some (.brk ())

def m_spec_ProgOk (fuel : Nat) (x0_0 : List I4) (x0_1 : List KidD) : Option Bool :=
  (m_spec_CodeOk fuel x0_0).bind fun y1 =>
  if y1 = true then
    if 3 < (x0_1.length : Int) then
      some false
    else
    (m_spec_HasFork fuel x0_0).bind fun y2 =>
    if (y2 == (decide (0 < (x0_1.length : Int)))) = true then
      (m_spec_ProgOk_L0 fuel x0_1 fuel 0).bind <| contL <| un1 fun _ =>
      some true
    else
    some false
  else
  some false

set_option maxRecDepth 100000 in
set_option maxHeartbeats 4000000 in
theorem w_spec_ProgOk (fuel : Nat) {x0_0 : List I4} {x0_1 : List KidD} {a_x0_0 : Option Addr} {n_x0_0 c_x0_0 : Nat} {a_x0_1 : Option Addr} {n_x0_1 c_x0_1 : Nat} {r0 : Bool} {w0 : World} (h : m_spec_ProgOk fuel x0_0 x0_1 = some r0) (hr_x0_0 : RdT (fun b => ¬ False) w0 (rowT x0_0) (.slice a_x0_0 n_x0_0 c_x0_0)) (hr_x0_1 : RdT (fun b => ¬ False) w0 (rowT x0_1) (.slice a_x0_1 n_x0_1 c_x0_1)) :
    Calls Try.prog 72 #[.agg #[.slice a_x0_0 n_x0_0 c_x0_0, .slice a_x0_1 n_x0_1 c_x0_1]] w0 fun e w => e = .returned (.bool r0) ∧ St w0 (fun _ => False) w [] := by
  obtain rfl := hr_x0_0.neq
  obtain rfl := hr_x0_1.neq
  have HT : St w0 (fun _ => False) w0 [] := St.init0
  rw [m_spec_ProgOk] at h
  refine calls_fr (n := 39) [.agg #[.slice a_x0_0 x0_0.length c_x0_0, .slice a_x0_1 x0_1.length c_x0_1]] Try.func72 rfl rfl rfl fun a HF => ?_
  have HT : St w0 (fun _ => False) w0 [] := HT
  refine wp_seq (wc_text (wc_box (cs := [.slice a_x0_0 x0_0.length c_x0_0, .slice a_x0_1 x0_1.length c_x0_1]) HF HT rfl rfl rfl rfl (fun p1 w HT hb => ⟨nS, fun a HF => ?_⟩)))
  refine wa HF rfl rfl rfl fun a HF => ?_
  refine wc_end (then_n (wp_seq (wp_seq (wp_region_can [(0, true), (1, true), (2, false), (3, true), (4, true), (5, true), (6, true), (7, true), (8, true), (9, true), (10, true), (11, true), (12, true), (14, false), (15, false), (16, false), (17, false), (13, false), (18, true), (19, true)] (fun w' => w'.cell? ⟨p1, 1, none⟩ = some (.slice a_x0_1 x0_1.length c_x0_1) ∧ True) (by kernel_rfl) (by kernel_rfl) ?_))))
  have HT := HT.drew
  refine wc_faddr HF nS rfl fl53_0 rfl rfl fun a HF => ?_
  refine wc_load HF rfl sc36 ((HT.boxAt 0 rfl).get 0 rfl) rfl rfl fun a HF => ?_
  obtain ⟨y1, hx1, h⟩ := obs h
  refine wc_call HF cf91 rfl (w_spec_CodeOk fuel hx1 (HT.ro hr_x0_0).any) rfl rfl ?_
  rintro e w ⟨rfl, hE⟩
  have hb := hE.below
  have HT := HT.pure hE
  have HT : St w0 (fun _ => False) w [Box p1 [.slice a_x0_0 x0_0.length c_x0_0, .slice a_x0_1 x0_1.length c_x0_1]] := HT
  refine ⟨_, rfl, (fun _ => ⟨(HT.boxAt 0 rfl).get 1 rfl, trivial⟩), fun a HF => ?_⟩
  refine wc_not HF nS rfl rfl rfl fun a HF => ?_
  refine wm HF rfl rfl rfl fun a HF => ?_
  by_cases hb1 : y1 = true
  have h := ifp hb1 h
  refine wc_faddr HF nS rfl fl53_1 (HF.wy rfl rfl rfl rfl (notT hb1)) rfl fun a HF => ?_
  refine wc_load HF rfl sc51 ((HT.boxAt 0 rfl).get 1 rfl) (HF.wy rfl rfl rfl rfl (notT hb1)) rfl fun a HF => ?_
  refine wc_lenR HF nS Try.underlying51 rfl (HF.wy rfl rfl rfl rfl (notT hb1)) rfl fun a HF => ?_
  refine wc_bin HF nS rfl rfl b_gt (HF.wy rfl rfl rfl rfl (notT hb1)) rfl fun a HF => ?_
  refine wc_pick (b := false) HF nS rfl (notT hb1) rfl rfl rfl fun a HF => ?_
  refine wm HF rfl rfl rfl fun a HF => ?_
  by_cases hb2 : 3 < (x0_1.length : Int)
  have h := ifp hb2 h
  refine wc_skip HF nS (HF.wn rfl rfl rfl rfl (decide_eq_true hb2)) rfl fun a HF => ?_
  refine wc_skip HF nS (HF.wn rfl rfl rfl rfl (decide_eq_true hb2)) rfl fun a HF => ?_
  refine wc_skip HF (fun _ => ⟨(HT.boxAt 0 rfl).get 1 rfl, trivial⟩) (HF.wn rfl rfl rfl rfl (decide_eq_true hb2)) rfl fun a HF => ?_
  refine wc_skip HF (fun _ => ⟨(HT.boxAt 0 rfl).get 1 rfl, trivial⟩) (HF.wn rfl rfl rfl rfl (decide_eq_true hb2)) rfl fun a HF => ?_
  refine wc_skip HF (fun _ => ⟨(HT.boxAt 0 rfl).get 1 rfl, trivial⟩) (HF.wn rfl rfl rfl rfl (decide_eq_true hb2)) rfl fun a HF => ?_
  refine wc_skip HF (fun _ => ⟨(HT.boxAt 0 rfl).get 1 rfl, trivial⟩) (HF.wn rfl rfl rfl rfl (decide_eq_true hb2)) rfl fun a HF => ?_
  refine wc_skip HF (fun _ => ⟨(HT.boxAt 0 rfl).get 1 rfl, trivial⟩) (HF.wn rfl rfl rfl rfl (decide_eq_true hb2)) rfl fun a HF => ?_
  refine wc_skip HF nS (HF.wn rfl rfl rfl rfl (decide_eq_true hb2)) rfl fun a HF => ?_
  refine wc_pick (b := true) HF nS rfl (decide_eq_true hb2) rfl rfl rfl fun a HF => ?_
  refine wc_endN (then_n (wp_if (b' := true) HF rfl rfl ?_))
  refine wp_seq (wc_text (wa HF rfl rfl rfl fun a HF => ?_))
  refine wc_end (then_n (wp_ret ?_))
  obtain rfl := Option.some.inj h
  refine then_r (?_)
  refine bp_ret HF (res_one rfl HF rfl) ?_
  have HT := HT.t0
  exact ⟨rfl, HT⟩
  have h := ifn hb2 h
  refine wc_faddr HF nS rfl fl53_0 (HF.wy rfl rfl rfl rfl (decide_eq_false hb2)) rfl fun a HF => ?_
  refine wc_load HF rfl sc36 ((HT.boxAt 0 rfl).get 0 rfl) (HF.wy rfl rfl rfl rfl (decide_eq_false hb2)) rfl fun a HF => ?_
  refine wc_faddr HF (fun _ => ⟨(HT.boxAt 0 rfl).get 1 rfl, trivial⟩) rfl fl53_1 (HF.wy rfl rfl rfl rfl (decide_eq_false hb2)) rfl fun a HF => ?_
  refine wc_loadS HF ⟨(HT.boxAt 0 rfl).get 1 rfl, trivial⟩ rfl sc51 (fun w hS => hS.1) (HF.wy rfl rfl rfl rfl (decide_eq_false hb2)) rfl fun a HF => ?_
  refine wc_lenR HF (fun _ => ⟨(HT.boxAt 0 rfl).get 1 rfl, trivial⟩) Try.underlying51 rfl (HF.wy rfl rfl rfl rfl (decide_eq_false hb2)) rfl fun a HF => ?_
  refine wc_bin HF (fun _ => ⟨(HT.boxAt 0 rfl).get 1 rfl, trivial⟩) rfl rfl b_gt (HF.wy rfl rfl rfl rfl (decide_eq_false hb2)) rfl fun a HF => ?_
  obtain ⟨y2, hx2, h⟩ := obs h
  refine wc_call HF cf92 rfl (w_spec_HasFork fuel hx2 (HT.ro hr_x0_0).any) (HF.wy rfl rfl rfl rfl (decide_eq_false hb2)) rfl ?_
  rintro e w ⟨rfl, hE⟩
  have hb := hE.below
  have HT := HT.pure hE
  have HT : St w0 (fun _ => False) w [Box p1 [.slice a_x0_0 x0_0.length c_x0_0, .slice a_x0_1 x0_1.length c_x0_1]] := HT
  refine ⟨_, rfl, (fun _ => ⟨(HT.boxAt 0 rfl).get 1 rfl, trivial⟩), fun a HF => ?_⟩
  refine wc_bin HF nS rfl rfl (b_bne Try.underlying4) (HF.wy rfl rfl rfl rfl (decide_eq_false hb2)) rfl fun a HF => ?_
  refine wc_pick (b := false) HF nS rfl (decide_eq_false hb2) rfl rfl rfl fun a HF => ?_
  refine wc_endN (then_n ?_)
  by_cases hb3 : (y2 == (decide (0 < (x0_1.length : Int)))) = true
  have h := ifp hb3 h
  refine wp_if (b' := false) HF rfl (notT hb3) ?_
  refine wp_skip (then_n ?_)
  obtain ⟨q1, hx3, h⟩ := obs h
  refine wp_cut (fun a w => q1 = .brk () ∧ Fr a 39 [] ∧ St w0 (fun _ => False) w []) ?_ ?_
  have hk1 := h
  have h := hx3
  refine wp_seq (wc_text (wa HF rfl rfl rfl fun a HF => ?_))
  refine wc_end (then_n (wp_block (wp_loopN (fun k1 a w => ∃ z1, m_spec_ProgOk_L0 fuel x0_1 k1 z1 = some q1 ∧ Fr a 39 [(1, .pointer (some ⟨p1, 0, none⟩)), (3, .int .i64 z1)] ∧ St w0 (fun _ => False) w [Box p1 [.slice a_x0_0 x0_0.length c_x0_0, .slice a_x0_1 x0_1.length c_x0_1]]) fuel ⟨0, h, (HF.keep (HF.keep HF.nil rfl) rfl), HT⟩ ?_)))
  rintro k1 a w ⟨z1, h, HF, HT⟩
  rcases k1 with _ | k1
  cases h
  rw [m_spec_ProgOk_L0] at h
  refine ?_
  refine wp_seq (wp_seq (wc_text (wm HF rfl rfl rfl fun a HF => ?_)))
  refine wc_faddr HF nS rfl fl53_1 rfl rfl fun a HF => ?_
  refine wc_load HF rfl sc51 ((HT.boxAt 0 rfl).get 1 rfl) rfl rfl fun a HF => ?_
  refine wc_lenR HF nS Try.underlying51 rfl rfl rfl fun a HF => ?_
  refine wc_bin HF nS rfl rfl b_lt rfl rfl fun a HF => ?_
  refine wc_end (then_n ?_)
  by_cases hb4 : z1 < (x0_1.length : Int)
  have h := ifp hb4 h
  refine wp_if (b' := true) HF rfl (decide_eq_true hb4) ?_
  refine wp_skip (then_n (wp_seq (wp_block (wp_seq (wc_text (wc_faddr HF nS rfl fl53_1 rfl rfl fun a HF => ?_))))))
  refine wc_load HF rfl sc51 ((HT.boxAt 0 rfl).get 1 rfl) rfl rfl fun a HF => ?_
  refine wm HF rfl rfl rfl fun a HF => ?_
  obtain ⟨e1, hx4, h⟩ := obs h
  obtain ⟨b1, o1, ha1⟩ := (HT.ro hr_x0_1).any.addr hx4
  refine wc_ixaddr HF nS el51 rfl ha1 ((HT.ro hr_x0_1).any).neq rfl hx4 rfl rfl fun a HF => ?_
  refine wc_faddr HF nS rfl fl127_0 rfl rfl fun a HF => ?_
  obtain ⟨_, hP1, hc1, hr1⟩ := hr_x0_1.elemAt ha1 hx4
  obtain ⟨a1, c1, rfl, hr2⟩ := cells_Kid hr1
  have hc2 := HT.roLd hP1 hc1
  refine wc_load HF rfl sc36 (hc2.get 0 rfl) rfl rfl fun a HF => ?_
  obtain ⟨y3, hx5, h⟩ := obs h
  refine wc_call HF cf53 rfl (w_spec_KidOk fuel hx5 (HT.ro hr2).any) rfl rfl ?_
  rintro e w ⟨rfl, hE⟩
  have hb := hE.below
  have HT := HT.pure hE
  have HT : St w0 (fun _ => False) w [Box p1 [.slice a_x0_0 x0_0.length c_x0_0, .slice a_x0_1 x0_1.length c_x0_1]] := HT
  refine ⟨_, rfl, nS, fun a HF => ?_⟩
  refine wc_not HF nS rfl rfl rfl fun a HF => ?_
  refine wc_end (then_n ?_)
  by_cases hb5 : y3 = true
  have h := ifp hb5 h
  refine wp_if (b' := false) HF rfl (notT hb5) ?_
  refine wp_skip (blk_n (then_n (wc_text (wm HF rfl rfl rfl fun a HF => ?_))))
  obtain ⟨hg1, h⟩ := grd h
  refine wc_bin HF nS rfl rfl (b_add hg1) rfl rfl fun a HF => ?_
  refine wa HF rfl rfl rfl fun a HF => ?_
  exact wc_end (then_n ⟨k1, Nat.lt_succ_self k1, z1 + 1, h, (HF.keep (HF.keep HF.nil rfl) rfl), HT⟩)
  have h := ifn hb5 h
  refine wp_if (b' := true) HF rfl (notF (Bool.eq_false_iff.2 hb5)) ?_
  refine wp_seq (wc_text (wa HF rfl rfl rfl fun a HF => ?_))
  refine wc_end (then_n (wp_ret ?_))
  obtain rfl := Option.some.inj h
  have h := retL hk1
  obtain rfl := Option.some.inj h
  refine blk_r (then_r (then_r (blk_r (then_r (?_)))))
  refine bp_ret HF (res_one rfl HF rfl) ?_
  have HT := HT.t0
  exact ⟨rfl, HT⟩
  have h := ifn hb4 h
  refine wp_if (b' := false) HF rfl (decide_eq_false hb4) ?_
  refine wp_exit ?_
  refine then_x (then_x (?_))
  refine blk_x ?_
  have HT := HT.t0
  exact then_n ⟨(Option.some.inj h).symm, HF.nil, HT⟩
  rintro a w ⟨rfl, HF, HT⟩
  have h := brkL1u h
  refine ?_
  refine wp_seq (wc_text (wa HF rfl rfl rfl fun a HF => ?_))
  refine wc_end (then_n (wp_ret ?_))
  obtain rfl := Option.some.inj h
  refine bp_ret HF (res_one rfl HF rfl) ?_
  exact ⟨rfl, HT⟩
  have h := ifn hb3 h
  refine wp_if (b' := true) HF rfl (notF (Bool.eq_false_iff.2 hb3)) ?_
  refine wp_seq (wc_text (wa HF rfl rfl rfl fun a HF => ?_))
  refine wc_end (then_n (wp_ret ?_))
  obtain rfl := Option.some.inj h
  refine then_r (?_)
  refine bp_ret HF (res_one rfl HF rfl) ?_
  have HT := HT.t0
  exact ⟨rfl, HT⟩
  have h := ifn hb1 h
  refine wc_skip HF nS (HF.wn rfl rfl rfl rfl (notF (Bool.eq_false_iff.2 hb1))) rfl fun a HF => ?_
  refine wc_skip HF nS (HF.wn rfl rfl rfl rfl (notF (Bool.eq_false_iff.2 hb1))) rfl fun a HF => ?_
  refine wc_skip HF nS (HF.wn rfl rfl rfl rfl (notF (Bool.eq_false_iff.2 hb1))) rfl fun a HF => ?_
  refine wc_skip HF nS (HF.wn rfl rfl rfl rfl (notF (Bool.eq_false_iff.2 hb1))) rfl fun a HF => ?_
  refine wc_pick (b := true) HF nS rfl (notF (Bool.eq_false_iff.2 hb1)) rfl rfl rfl fun a HF => ?_
  refine wm HF rfl rfl rfl fun a HF => ?_
  refine wc_skip HF nS (HF.wn rfl rfl rfl rfl rfl) rfl fun a HF => ?_
  refine wc_skip HF nS (HF.wn rfl rfl rfl rfl rfl) rfl fun a HF => ?_
  refine wc_skip HF (fun _ => ⟨(HT.boxAt 0 rfl).get 1 rfl, trivial⟩) (HF.wn rfl rfl rfl rfl rfl) rfl fun a HF => ?_
  refine wc_skip HF (fun _ => ⟨(HT.boxAt 0 rfl).get 1 rfl, trivial⟩) (HF.wn rfl rfl rfl rfl rfl) rfl fun a HF => ?_
  refine wc_skip HF (fun _ => ⟨(HT.boxAt 0 rfl).get 1 rfl, trivial⟩) (HF.wn rfl rfl rfl rfl rfl) rfl fun a HF => ?_
  refine wc_skip HF (fun _ => ⟨(HT.boxAt 0 rfl).get 1 rfl, trivial⟩) (HF.wn rfl rfl rfl rfl rfl) rfl fun a HF => ?_
  refine wc_skip HF (fun _ => ⟨(HT.boxAt 0 rfl).get 1 rfl, trivial⟩) (HF.wn rfl rfl rfl rfl rfl) rfl fun a HF => ?_
  refine wc_skip HF nS (HF.wn rfl rfl rfl rfl rfl) rfl fun a HF => ?_
  refine wc_pick (b := true) HF nS rfl rfl rfl rfl rfl fun a HF => ?_
  refine wc_endN (then_n (wp_if (b' := true) HF rfl rfl ?_))
  refine wp_seq (wc_text (wa HF rfl rfl rfl fun a HF => ?_))
  refine wc_end (then_n (wp_ret ?_))
  obtain rfl := Option.some.inj h
  refine then_r (?_)
  refine bp_ret HF (res_one rfl HF rfl) ?_
  have HT := HT.t0
  exact ⟨rfl, HT⟩

def m_spec_ThingsOk_L0 (fuel : Nat) (x0_1 : List Int) : Nat → Int → Option (Lp Unit Bool)
  | 0, _ => none
  | k1 + 1, z1 =>
    if z1 < (x0_1.length : Int) then
      (at? x0_1 z1).bind fun e1 =>
      (m_spec_l1In fuel e1 0 65536).bind fun y3 =>
      if y3 = true then
        if in64 (z1 + 1) then
          m_spec_ThingsOk_L0 fuel x0_1 k1 (z1 + 1)
        else none
      else
      some (.ret false)
    else
    some (.brk ())

def m_spec_ThingsOk (fuel : Nat) (x0_0 : List Int) (x0_1 : List Int) (x0_2 : Int) : Option Bool :=
  (m_spec_l3Vals fuel x0_0).bind fun y1 =>
  if y1 = true then
    if (x0_1.length : Int) = 8 then
      (m_spec_l3Val fuel x0_2).bind fun y2 =>
      if y2 = true then
        (m_spec_ThingsOk_L0 fuel x0_1 fuel 0).bind <| contL <| un1 fun _ =>
        some true
      else
      some false
    else
    some false
  else
  some false

set_option maxRecDepth 100000 in
set_option maxHeartbeats 4000000 in
theorem w_spec_ThingsOk (fuel : Nat) {x0_0 : List Int} {x0_1 : List Int} {x0_2 : Int} {a_x0_0 : Option Addr} {n_x0_0 c_x0_0 : Nat} {a_x0_1 : Option Addr} {n_x0_1 c_x0_1 : Nat} {r0 : Bool} {w0 : World} (h : m_spec_ThingsOk fuel x0_0 x0_1 x0_2 = some r0) (hr_x0_0 : RdT (fun b => ¬ False) w0 (rowT x0_0) (.slice a_x0_0 n_x0_0 c_x0_0)) (hr_x0_1 : RdT (fun b => ¬ False) w0 (rowT x0_1) (.slice a_x0_1 n_x0_1 c_x0_1)) :
    Calls Try.prog 15 #[.agg #[.slice a_x0_0 n_x0_0 c_x0_0, .slice a_x0_1 n_x0_1 c_x0_1, .int .i64 x0_2]] w0 fun e w => e = .returned (.bool r0) ∧ St w0 (fun _ => False) w [] := by
  obtain rfl := hr_x0_0.neq
  obtain rfl := hr_x0_1.neq
  have HT : St w0 (fun _ => False) w0 [] := St.init0
  rw [m_spec_ThingsOk] at h
  refine calls_fr (n := 34) [.agg #[.slice a_x0_0 x0_0.length c_x0_0, .slice a_x0_1 x0_1.length c_x0_1, .int .i64 x0_2]] Try.func15 rfl rfl rfl fun a HF => ?_
  have HT : St w0 (fun _ => False) w0 [] := HT
  refine wp_seq (wc_text (wc_box (cs := [.slice a_x0_0 x0_0.length c_x0_0, .slice a_x0_1 x0_1.length c_x0_1, .int .i64 x0_2]) HF HT rfl rfl rfl rfl (fun p1 w HT hb => ⟨nS, fun a HF => ?_⟩)))
  refine wa HF rfl rfl rfl fun a HF => ?_
  refine wc_end (then_n (wp_seq (wp_seq (wc_text (wc_faddr HF nS rfl fl27_0 rfl rfl fun a HF => ?_)))))
  refine wc_load HF rfl sc22 ((HT.boxAt 0 rfl).get 0 rfl) rfl rfl fun a HF => ?_
  obtain ⟨y1, hx1, h⟩ := obs h
  refine wc_call HF cf59 rfl (w_spec_l3Vals fuel hx1 (HT.ro hr_x0_0).any) rfl rfl ?_
  rintro e w ⟨rfl, hE⟩
  have hb := hE.below
  have HT := HT.pure hE
  have HT : St w0 (fun _ => False) w [Box p1 [.slice a_x0_0 x0_0.length c_x0_0, .slice a_x0_1 x0_1.length c_x0_1, .int .i64 x0_2]] := HT
  refine ⟨_, rfl, nS, fun a HF => ?_⟩
  refine wc_not HF nS rfl rfl rfl fun a HF => ?_
  refine wm HF rfl rfl rfl fun a HF => ?_
  by_cases hb1 : y1 = true
  have h := ifp hb1 h
  refine wc_faddr HF nS rfl fl27_1 (HF.wy rfl rfl rfl rfl (notT hb1)) rfl fun a HF => ?_
  refine wc_load HF rfl sc22 ((HT.boxAt 0 rfl).get 1 rfl) (HF.wy rfl rfl rfl rfl (notT hb1)) rfl fun a HF => ?_
  refine wc_lenR HF nS Try.underlying22 rfl (HF.wy rfl rfl rfl rfl (notT hb1)) rfl fun a HF => ?_
  refine wc_bin HF nS rfl rfl b_ne (HF.wy rfl rfl rfl rfl (notT hb1)) rfl fun a HF => ?_
  refine wc_pick (b := false) HF nS rfl (notT hb1) rfl rfl rfl fun a HF => ?_
  refine wm HF rfl rfl rfl fun a HF => ?_
  by_cases hb2 : (x0_1.length : Int) = 8
  have h := ifp hb2 h
  refine wc_faddr HF nS rfl fl27_2 (HF.wy rfl rfl rfl rfl (notT (decide_eq_true hb2))) rfl fun a HF => ?_
  refine wc_load HF rfl sc3 ((HT.boxAt 0 rfl).get 2 rfl) (HF.wy rfl rfl rfl rfl (notT (decide_eq_true hb2))) rfl fun a HF => ?_
  obtain ⟨y2, hx2, h⟩ := obs h
  refine wc_call HF cf60 rfl (w_spec_l3Val fuel hx2) (HF.wy rfl rfl rfl rfl (notT (decide_eq_true hb2))) rfl ?_
  rintro e w ⟨rfl, hE⟩
  have hb := hE.below
  have HT := HT.pure hE
  have HT : St w0 (fun _ => False) w [Box p1 [.slice a_x0_0 x0_0.length c_x0_0, .slice a_x0_1 x0_1.length c_x0_1, .int .i64 x0_2]] := HT
  refine ⟨_, rfl, nS, fun a HF => ?_⟩
  refine wc_not HF nS rfl (HF.wy rfl rfl rfl rfl (notT (decide_eq_true hb2))) rfl fun a HF => ?_
  refine wc_pick (b := false) HF nS rfl (notT (decide_eq_true hb2)) rfl rfl rfl fun a HF => ?_
  refine wc_end (then_n ?_)
  by_cases hb3 : y2 = true
  have h := ifp hb3 h
  refine wp_if (b' := false) HF rfl (notT hb3) ?_
  refine wp_skip (then_n ?_)
  obtain ⟨q1, hx3, h⟩ := obs h
  refine wp_cut (fun a w => q1 = .brk () ∧ Fr a 34 [] ∧ St w0 (fun _ => False) w []) ?_ ?_
  have hk1 := h
  have h := hx3
  refine wp_seq (wc_text (wa HF rfl rfl rfl fun a HF => ?_))
  refine wc_end (then_n (wp_block (wp_loopN (fun k1 a w => ∃ z1, m_spec_ThingsOk_L0 fuel x0_1 k1 z1 = some q1 ∧ Fr a 34 [(1, .pointer (some ⟨p1, 0, none⟩)), (3, .int .i64 z1)] ∧ St w0 (fun _ => False) w [Box p1 [.slice a_x0_0 x0_0.length c_x0_0, .slice a_x0_1 x0_1.length c_x0_1, .int .i64 x0_2]]) fuel ⟨0, h, (HF.keep (HF.keep HF.nil rfl) rfl), HT⟩ ?_)))
  rintro k1 a w ⟨z1, h, HF, HT⟩
  rcases k1 with _ | k1
  cases h
  rw [m_spec_ThingsOk_L0] at h
  refine ?_
  refine wp_seq (wp_seq (wc_text (wm HF rfl rfl rfl fun a HF => ?_)))
  refine wc_faddr HF nS rfl fl27_1 rfl rfl fun a HF => ?_
  refine wc_load HF rfl sc22 ((HT.boxAt 0 rfl).get 1 rfl) rfl rfl fun a HF => ?_
  refine wc_lenR HF nS Try.underlying22 rfl rfl rfl fun a HF => ?_
  refine wc_bin HF nS rfl rfl b_lt rfl rfl fun a HF => ?_
  refine wc_end (then_n ?_)
  by_cases hb4 : z1 < (x0_1.length : Int)
  have h := ifp hb4 h
  refine wp_if (b' := true) HF rfl (decide_eq_true hb4) ?_
  refine wp_skip (then_n (wp_seq (wp_block (wp_seq (wc_text (wc_faddr HF nS rfl fl27_1 rfl rfl fun a HF => ?_))))))
  refine wc_load HF rfl sc22 ((HT.boxAt 0 rfl).get 1 rfl) rfl rfl fun a HF => ?_
  refine wm HF rfl rfl rfl fun a HF => ?_
  obtain ⟨e1, hx4, h⟩ := obs h
  obtain ⟨b1, o1, ha1⟩ := (HT.ro hr_x0_1).any.addr hx4
  refine wc_ixaddr HF nS el22 rfl ha1 ((HT.ro hr_x0_1).any).neq rfl hx4 rfl rfl fun a HF => ?_
  have hc1 := (HT.ro hr_x0_1).any.flatAt ha1 hx4
  refine wc_load HF rfl sc3 (hc1.get 0 rfl) rfl rfl fun a HF => ?_
  obtain ⟨y3, hx5, h⟩ := obs h
  refine wc_call HF cf61 rfl (w_spec_l1In fuel hx5) rfl rfl ?_
  rintro e w ⟨rfl, hE⟩
  have hb := hE.below
  have HT := HT.pure hE
  have HT : St w0 (fun _ => False) w [Box p1 [.slice a_x0_0 x0_0.length c_x0_0, .slice a_x0_1 x0_1.length c_x0_1, .int .i64 x0_2]] := HT
  refine ⟨_, rfl, nS, fun a HF => ?_⟩
  refine wc_not HF nS rfl rfl rfl fun a HF => ?_
  refine wc_end (then_n ?_)
  by_cases hb5 : y3 = true
  have h := ifp hb5 h
  refine wp_if (b' := false) HF rfl (notT hb5) ?_
  refine wp_skip (blk_n (then_n (wc_text (wm HF rfl rfl rfl fun a HF => ?_))))
  obtain ⟨hg1, h⟩ := grd h
  refine wc_bin HF nS rfl rfl (b_add hg1) rfl rfl fun a HF => ?_
  refine wa HF rfl rfl rfl fun a HF => ?_
  exact wc_end (then_n ⟨k1, Nat.lt_succ_self k1, z1 + 1, h, (HF.keep (HF.keep HF.nil rfl) rfl), HT⟩)
  have h := ifn hb5 h
  refine wp_if (b' := true) HF rfl (notF (Bool.eq_false_iff.2 hb5)) ?_
  refine wp_seq (wc_text (wa HF rfl rfl rfl fun a HF => ?_))
  refine wc_end (then_n (wp_ret ?_))
  obtain rfl := Option.some.inj h
  have h := retL hk1
  obtain rfl := Option.some.inj h
  refine blk_r (then_r (then_r (blk_r (then_r (?_)))))
  refine bp_ret HF (res_one rfl HF rfl) ?_
  have HT := HT.t0
  exact ⟨rfl, HT⟩
  have h := ifn hb4 h
  refine wp_if (b' := false) HF rfl (decide_eq_false hb4) ?_
  refine wp_exit ?_
  refine then_x (then_x (?_))
  refine blk_x ?_
  have HT := HT.t0
  exact then_n ⟨(Option.some.inj h).symm, HF.nil, HT⟩
  rintro a w ⟨rfl, HF, HT⟩
  have h := brkL1u h
  refine ?_
  refine wp_seq (wc_text (wa HF rfl rfl rfl fun a HF => ?_))
  refine wc_end (then_n (wp_ret ?_))
  obtain rfl := Option.some.inj h
  refine bp_ret HF (res_one rfl HF rfl) ?_
  exact ⟨rfl, HT⟩
  have h := ifn hb3 h
  refine wp_if (b' := true) HF rfl (notF (Bool.eq_false_iff.2 hb3)) ?_
  refine wp_seq (wc_text (wa HF rfl rfl rfl fun a HF => ?_))
  refine wc_end (then_n (wp_ret ?_))
  obtain rfl := Option.some.inj h
  refine then_r (?_)
  refine bp_ret HF (res_one rfl HF rfl) ?_
  have HT := HT.t0
  exact ⟨rfl, HT⟩
  have h := ifn hb2 h
  refine wc_skip HF nS (HF.wn rfl rfl rfl rfl (notF (decide_eq_false hb2))) rfl fun a HF => ?_
  refine wc_skip HF nS (HF.wn rfl rfl rfl rfl (notF (decide_eq_false hb2))) rfl fun a HF => ?_
  refine wc_skip HF nS (HF.wn rfl rfl rfl rfl (notF (decide_eq_false hb2))) rfl fun a HF => ?_
  refine wc_skip HF nS (HF.wn rfl rfl rfl rfl (notF (decide_eq_false hb2))) rfl fun a HF => ?_
  refine wc_pick (b := true) HF nS rfl (notF (decide_eq_false hb2)) rfl rfl rfl fun a HF => ?_
  refine wc_end (then_n (wp_if (b' := true) HF rfl rfl ?_))
  refine wp_seq (wc_text (wa HF rfl rfl rfl fun a HF => ?_))
  refine wc_end (then_n (wp_ret ?_))
  obtain rfl := Option.some.inj h
  refine then_r (?_)
  refine bp_ret HF (res_one rfl HF rfl) ?_
  have HT := HT.t0
  exact ⟨rfl, HT⟩
  have h := ifn hb1 h
  refine wc_skip HF nS (HF.wn rfl rfl rfl rfl (notF (Bool.eq_false_iff.2 hb1))) rfl fun a HF => ?_
  refine wc_skip HF nS (HF.wn rfl rfl rfl rfl (notF (Bool.eq_false_iff.2 hb1))) rfl fun a HF => ?_
  refine wc_skip HF nS (HF.wn rfl rfl rfl rfl (notF (Bool.eq_false_iff.2 hb1))) rfl fun a HF => ?_
  refine wc_skip HF nS (HF.wn rfl rfl rfl rfl (notF (Bool.eq_false_iff.2 hb1))) rfl fun a HF => ?_
  refine wc_pick (b := true) HF nS rfl (notF (Bool.eq_false_iff.2 hb1)) rfl rfl rfl fun a HF => ?_
  refine wm HF rfl rfl rfl fun a HF => ?_
  refine wc_skip HF nS (HF.wn rfl rfl rfl rfl rfl) rfl fun a HF => ?_
  refine wc_skip HF nS (HF.wn rfl rfl rfl rfl rfl) rfl fun a HF => ?_
  refine wc_skip HF nS (HF.wn rfl rfl rfl rfl rfl) rfl fun a HF => ?_
  refine wc_skip HF nS (HF.wn rfl rfl rfl rfl rfl) rfl fun a HF => ?_
  refine wc_pick (b := true) HF nS rfl rfl rfl rfl rfl fun a HF => ?_
  refine wc_end (then_n (wp_if (b' := true) HF rfl rfl ?_))
  refine wp_seq (wc_text (wa HF rfl rfl rfl fun a HF => ?_))
  refine wc_end (then_n (wp_ret ?_))
  obtain rfl := Option.some.inj h
  refine then_r (?_)
  refine bp_ret HF (res_one rfl HF rfl) ?_
  have HT := HT.t0
  exact ⟨rfl, HT⟩

def m_spec_l7Order_L0 (fuel : Nat) (x0 : List Int) (x1 : Int) : Nat → (List Int) → (List Bool) → Int → Option (Lp (List Int × List Bool) (List Int × Bool))
  | 0, _, _, _ => none
  | k1 + 1, z3, z4, z5 =>
    if z5 < (x0.length : Int) then
      (at? x0 z5).bind fun e1 =>
      if in64 (x1 - 1) then
        (m_spec_l1In fuel e1 0 (x1 - 1)).bind fun y1 =>
        if y1 = true then
          (at? z4 e1).bind fun e2 =>
          if e2 = true then
            some (.ret (z3, false))
          else
          if z3.length + 1 ≤ 17179869184 then
            if in64 (z5 + 1) then
              m_spec_l7Order_L0 fuel x0 x1 k1 (z3 ++ ([e1] : List Int)) (z4.set e1.toNat true) (z5 + 1)
            else none
          else none
        else
        some (.ret (z3, false))
      else none
    else
    some (.brk (z3, z4))

def m_spec_l7Order_L1 (fuel : Nat) (x1 : Int) (z2 : List Bool) : Nat → (List Int) → Int → Option (List Int)
  | 0, _, _ => none
  | k2 + 1, z7, z8 =>
    if z8 < x1 then
      (
        (at? z2 z8).bind fun e3 =>
        if e3 = true then
          some z7
        else
        if z7.length + 1 ≤ 17179869184 then
          some (z7 ++ ([z8] : List Int))
        else none).bind fun z9 =>
      if in64 (z8 + 1) then
        m_spec_l7Order_L1 fuel x1 z2 k2 z9 (z8 + 1)
      else none
    else
    some z7

def m_spec_l7Order (fuel : Nat) (x0 : List Int) (x1 : Int) : Option (List Int × Bool) :=
  if 0 ≤ (3 : Int) ∧ (3 : Int) ≤ 1048576 then
    (m_spec_l7Order_L0 fuel x0 x1 fuel ([] : List Int) (List.replicate (3 : Int).toNat (false : Bool)) 0).bind <| contL <| un2 fun z1 z2 =>
    (m_spec_l7Order_L1 fuel x1 z2 fuel z1 0).bind fun z6 =>
    some (z6, true)
  else none

set_option maxRecDepth 100000 in
set_option maxHeartbeats 4000000 in
theorem w_spec_l7Order (fuel : Nat) {x0 : List Int} {x1 : Int} {a_x0 : Option Addr} {n_x0 c_x0 : Nat} {r0 : List Int} {r1 : Bool} {w0 : World} (h : m_spec_l7Order fuel x0 x1 = some (r0, r1)) (hr_x0 : RdT (fun b => ¬ False) w0 (rowT x0) (.slice a_x0 n_x0 c_x0)) :
    Calls Try.prog 73 #[.slice a_x0 n_x0 c_x0, .int .i64 x1] w0 fun e w => ∃ a_r0 n_r0 c_r0, e = .returned (.tuple #[.slice a_r0 n_r0 c_r0, .bool r1]) ∧ St w0 (fun _ => False) w [Own 3 (rowT r0) (.slice a_r0 n_r0 c_r0)] := by
  obtain rfl := hr_x0.neq
  have HT : St w0 (fun _ => False) w0 [] := St.init0
  rw [m_spec_l7Order] at h
  refine calls_fr (n := 57) [.slice a_x0 x0.length c_x0, .int .i64 x1] Try.func73 rfl rfl rfl fun a HF => ?_
  have HT : St w0 (fun _ => False) w0 [] := HT
  refine wp_seq (wc_text (wa HF rfl rfl rfl fun a HF => ?_))
  refine wa HF rfl rfl rfl fun a HF => ?_
  refine wc_end (then_n (wp_seq (wc_text (wc_bslice (l := ([] : List Int)) (cs := []) (A := []) HF HT bs22_0 rfl rfl (gives_flat rfl) rfl (by decide) rfl rfl (fun p1 w HT hb  => ⟨nS, fun a HF => ?_⟩)))))
  refine wa HF rfl rfl rfl fun a HF => ?_
  refine wc_end (then_n (wp_seq (wc_text ?_)))
  obtain ⟨hg1, h⟩ := grd h
  refine wc_make (x := (false : Bool)) HF HT el138 rfl rfl hg1 rfl rfl rfl rfl (fun p2 w HT hb => ⟨nS, fun a HF => ?_⟩)
  refine wa HF rfl rfl rfl fun a HF => ?_
  refine wc_end (then_n ?_)
  obtain ⟨q1, hx1, h⟩ := obs h
  refine wp_cut (fun a w => ∃ z1 z2 a1 n1 c1, q1 = .brk (z1, z2) ∧ Fr a 57 [(1, .int .i64 x1), (6, .slice a1 n1 c1), (7, .slice (some ⟨p2, 0, none⟩) ((List.replicate (3 : Int).toNat (false : Bool)).length) ((List.replicate (3 : Int).toNat (false : Bool)).length))] ∧ St w0 (fun _ => False) w [Own 3 (rowT z1) (.slice a1 n1 c1), Own 4 (rowT z2) (.slice (some ⟨p2, 0, none⟩) ((List.replicate (3 : Int).toNat (false : Bool)).length) ((List.replicate (3 : Int).toNat (false : Bool)).length))]) ?_ ?_
  have hk1 := h
  have h := hx1
  refine wp_seq (wc_text (wa HF rfl rfl rfl fun a HF => ?_))
  refine wc_end (then_n (wp_block ?_))
  have HT := HT.p1
  refine wp_loopN (fun k1 a w => ∃ z3 z4 z5 a2 n2 c2, m_spec_l7Order_L0 fuel x0 x1 k1 z3 z4 z5 = some q1 ∧ Fr a 57 [(0, .slice a_x0 x0.length c_x0), (1, .int .i64 x1), (6, .slice a2 n2 c2), (7, .slice (some ⟨p2, 0, none⟩) ((List.replicate (3 : Int).toNat (false : Bool)).length) ((List.replicate (3 : Int).toNat (false : Bool)).length)), (8, .int .i64 z5)] ∧ St w0 (fun _ => False) w [Own 3 (rowT z3) (.slice a2 n2 c2), Own 4 (rowT z4) (.slice (some ⟨p2, 0, none⟩) ((List.replicate (3 : Int).toNat (false : Bool)).length) ((List.replicate (3 : Int).toNat (false : Bool)).length))]) fuel ⟨([] : List Int), List.replicate (3 : Int).toNat (false : Bool), 0, (some ⟨p1, 0, none⟩), 0, 0, h, (HF.keep (HF.keep (HF.keep (HF.keep (HF.keep HF.nil rfl) rfl) rfl) rfl) rfl), HT⟩ ?_
  rintro k1 a w ⟨z3, z4, z5, a2, n2, c2, h, HF, HT⟩
  rcases k1 with _ | k1
  cases h
  rw [m_spec_l7Order_L0] at h
  obtain rfl := (HT.rdAt 0 rfl).neq
  refine ?_
  refine wp_seq (wp_seq (wc_text (wm HF rfl rfl rfl fun a HF => ?_)))
  refine wm HF rfl rfl rfl fun a HF => ?_
  refine wc_lenR HF nS Try.underlying22 rfl rfl rfl fun a HF => ?_
  refine wc_bin HF nS rfl rfl b_lt rfl rfl fun a HF => ?_
  refine wc_end (then_n ?_)
  by_cases hb1 : z5 < (x0.length : Int)
  have h := ifp hb1 h
  refine wp_if (b' := true) HF rfl (decide_eq_true hb1) ?_
  refine wp_skip (then_n (wp_seq (wp_block (wp_seq (wc_text (wm HF rfl rfl rfl fun a HF => ?_))))))
  refine wm HF rfl rfl rfl fun a HF => ?_
  obtain ⟨e1, hx2, h⟩ := obs h
  obtain ⟨b1, o1, ha1⟩ := (HT.ro hr_x0).any.addr hx2
  refine wc_ixaddr HF nS el22 rfl ha1 ((HT.ro hr_x0).any).neq rfl hx2 rfl rfl fun a HF => ?_
  have hc1 := (HT.ro hr_x0).any.flatAt ha1 hx2
  refine wc_load HF rfl sc3 (hc1.get 0 rfl) rfl rfl fun a HF => ?_
  refine wa HF rfl rfl rfl fun a HF => ?_
  refine wc_end (then_n (wp_seq (wp_seq (wc_text (wm HF rfl rfl rfl fun a HF => ?_)))))
  refine wm HF rfl rfl rfl fun a HF => ?_
  obtain ⟨hg2, h⟩ := grd h
  refine wc_bin HF nS rfl rfl (b_sub hg2) rfl rfl fun a HF => ?_
  obtain ⟨y1, hx3, h⟩ := obs h
  refine wc_call HF cf61 rfl (w_spec_l1In fuel hx3) rfl rfl ?_
  rintro e w ⟨rfl, hE⟩
  have hb := hE.below
  have HT := HT.pure hE
  have HT : St w0 (fun _ => False) w [Own 3 (rowT z3) (.slice a2 z3.length c2), Own 4 (rowT z4) (.slice (some ⟨p2, 0, none⟩) ((List.replicate (3 : Int).toNat (false : Bool)).length) ((List.replicate (3 : Int).toNat (false : Bool)).length))] := HT
  refine ⟨_, rfl, nS, fun a HF => ?_⟩
  refine wc_not HF nS rfl rfl rfl fun a HF => ?_
  refine wm HF rfl rfl rfl fun a HF => ?_
  by_cases hb2 : y1 = true
  have h := ifp hb2 h
  refine wc_move HF nS rfl (HF.wy rfl rfl rfl rfl (notT hb2)) rfl fun a HF => ?_
  refine wc_move HF nS rfl (HF.wy rfl rfl rfl rfl (notT hb2)) rfl fun a HF => ?_
  obtain ⟨e2, hx4, h⟩ := obs h
  refine wc_ixaddr HF nS el138 rfl rfl ((HT.rdAt 1 rfl)).neq rfl hx4 (HF.wy rfl rfl rfl rfl (notT hb2)) rfl fun a HF => ?_
  have hc2 := (HT.rdAt 1 rfl).flatAt rfl hx4
  refine wc_load HF rfl sc4 (hc2.get 0 rfl) (HF.wy rfl rfl rfl rfl (notT hb2)) rfl fun a HF => ?_
  refine wc_pick (b := false) HF nS rfl (notT hb2) rfl rfl rfl fun a HF => ?_
  refine wc_end (then_n ?_)
  by_cases hb3 : e2 = true
  have h := ifp hb3 h
  refine wp_if (b' := true) HF rfl hb3 ?_
  refine wp_seq (wc_text (wm HF rfl rfl rfl fun a HF => ?_))
  refine wa HF rfl rfl rfl fun a HF => ?_
  refine wa HF rfl rfl rfl fun a HF => ?_
  refine wc_end (then_n (wp_ret ?_))
  obtain rfl := Option.some.inj h
  have h := retL hk1
  have hj1 := Option.some.inj h
  obtain ⟨rfl, hj2⟩ := Prod.mk.inj hj1
  subst hj2
  refine then_r (blk_r (then_r (then_r (blk_r (then_r (?_))))))
  refine bp_ret HF (res_two rfl HF rfl rfl) ?_
  have HT := HT.t1
  exact ⟨a2, z3.length, c2, rfl, HT⟩
  have h := ifn hb3 h
  refine wp_if (b' := false) HF rfl (Bool.eq_false_iff.2 hb3) ?_
  refine wp_skip (then_n (wp_seq (wc_text (wm HF rfl rfl rfl fun a HF => ?_))))
  refine wm HF rfl rfl rfl fun a HF => ?_
  refine wc_ixaddr HF nS el138 rfl rfl ((HT.rdAt 1 rfl)).neq rfl hx4 rfl rfl fun a HF => ?_
  have HT := HT.p1
  refine wc_storeR (i := e1) (j := 0) (x' := true) HF HT rfl rfl rfl (fun w => (sc4 w).2) rfl rfl hx4 rfl rfl rfl rfl (fun w HT => ⟨nS, ?_⟩)
  refine wc_end (then_n (wc_text (wm HF rfl rfl rfl fun a HF => ?_)))
  refine wm HF rfl rfl rfl fun a HF => ?_
  refine wc_bslice (l := ([e1] : List Int)) (cs := [.int .i64 e1]) (A := []) HF HT bs22_1 rfl rfl (gives_flat rfl) rfl (by decide) rfl rfl (fun p3 w HT hb  => ⟨nS, fun a HF => ?_⟩)
  obtain ⟨hg3, h⟩ := grd h
  have HT := HT.p2
  refine wc_append HF HT el22 rfl rfl (Nat.zero_lt_succ _) hg3 rfl rfl rfl (fun a3 c3 w HT => ⟨nS, fun a HF => ?_⟩)
  refine wa HF rfl rfl rfl fun a HF => ?_
  refine wc_end (blk_n (then_n (wc_text (wm HF rfl rfl rfl fun a HF => ?_))))
  obtain ⟨hg4, h⟩ := grd h
  refine wc_bin HF nS rfl rfl (b_add hg4) rfl rfl fun a HF => ?_
  refine wa HF rfl rfl rfl fun a HF => ?_
  exact wc_end (then_n ⟨k1, Nat.lt_succ_self k1, z3 ++ ([e1] : List Int), z4.set e1.toNat true, z5 + 1, a3, (z3 ++ ([e1] : List Int)).length, c3, h, (HF.keep (HF.keep (HF.keep (HF.keep (HF.keep HF.nil rfl) rfl) rfl) rfl) rfl), HT⟩)
  have h := ifn hb2 h
  refine wc_skip HF nS (HF.wn rfl rfl rfl rfl (notF (Bool.eq_false_iff.2 hb2))) rfl fun a HF => ?_
  refine wc_skip HF nS (HF.wn rfl rfl rfl rfl (notF (Bool.eq_false_iff.2 hb2))) rfl fun a HF => ?_
  refine wc_skip HF nS (HF.wn rfl rfl rfl rfl (notF (Bool.eq_false_iff.2 hb2))) rfl fun a HF => ?_
  refine wc_skip HF nS (HF.wn rfl rfl rfl rfl (notF (Bool.eq_false_iff.2 hb2))) rfl fun a HF => ?_
  refine wc_pick (b := true) HF nS rfl (notF (Bool.eq_false_iff.2 hb2)) rfl rfl rfl fun a HF => ?_
  refine wc_end (then_n (wp_if (b' := true) HF rfl rfl ?_))
  refine wp_seq (wc_text (wm HF rfl rfl rfl fun a HF => ?_))
  refine wa HF rfl rfl rfl fun a HF => ?_
  refine wa HF rfl rfl rfl fun a HF => ?_
  refine wc_end (then_n (wp_ret ?_))
  obtain rfl := Option.some.inj h
  have h := retL hk1
  have hj3 := Option.some.inj h
  obtain ⟨rfl, hj4⟩ := Prod.mk.inj hj3
  subst hj4
  refine then_r (blk_r (then_r (then_r (blk_r (then_r (?_))))))
  refine bp_ret HF (res_two rfl HF rfl rfl) ?_
  have HT := HT.t1
  exact ⟨a2, z3.length, c2, rfl, HT⟩
  have h := ifn hb1 h
  refine wp_if (b' := false) HF rfl (decide_eq_false hb1) ?_
  refine wp_exit ?_
  refine then_x (then_x (?_))
  refine blk_x ?_
  exact then_n ⟨z3, z4, a2, z3.length, c2, (Option.some.inj h).symm, (HF.keep (HF.keep (HF.keep HF.nil rfl) rfl) rfl), HT⟩
  rintro a w ⟨z1, z2, a1, n1, c1, rfl, HF, HT⟩
  have h := brkL2 h
  obtain rfl := (HT.rdAt 0 rfl).neq
  refine ?_
  obtain ⟨z6, hx5, h⟩ := obs h
  refine wp_cut (fun a w => ∃ a4 n3 c4, Fr a 57 [(6, .slice a4 n3 c4)] ∧ St w0 (fun _ => False) w [Own 3 (rowT z6) (.slice a4 n3 c4)]) ?_ ?_
  have hk1 := h
  have h := hx5
  refine wp_seq (wc_text (wa HF rfl rfl rfl fun a HF => ?_))
  refine wc_end (then_n (wp_block (wp_loopN (fun k2 a w => ∃ z7 z8 a5 n4 c5, m_spec_l7Order_L1 fuel x1 z2 k2 z7 z8 = some z6 ∧ Fr a 57 [(1, .int .i64 x1), (6, .slice a5 n4 c5), (7, .slice (some ⟨p2, 0, none⟩) ((List.replicate (3 : Int).toNat (false : Bool)).length) ((List.replicate (3 : Int).toNat (false : Bool)).length)), (10, .int .i64 z8)] ∧ St w0 (fun _ => False) w [Own 3 (rowT z7) (.slice a5 n4 c5), Own 4 (rowT z2) (.slice (some ⟨p2, 0, none⟩) ((List.replicate (3 : Int).toNat (false : Bool)).length) ((List.replicate (3 : Int).toNat (false : Bool)).length))]) fuel ⟨z1, 0, a1, z1.length, c1, h, (HF.keep (HF.keep (HF.keep (HF.keep HF.nil rfl) rfl) rfl) rfl), HT⟩ ?_)))
  rintro k2 a w ⟨z7, z8, a5, n4, c5, h, HF, HT⟩
  rcases k2 with _ | k2
  cases h
  rw [m_spec_l7Order_L1] at h
  obtain rfl := (HT.rdAt 0 rfl).neq
  refine ?_
  refine wp_seq (wp_seq (wc_text (wm HF rfl rfl rfl fun a HF => ?_)))
  refine wm HF rfl rfl rfl fun a HF => ?_
  refine wc_bin HF nS rfl rfl b_lt rfl rfl fun a HF => ?_
  refine wc_end (then_n ?_)
  by_cases hb4 : z8 < x1
  have h := ifp hb4 h
  refine wp_if (b' := true) HF rfl (decide_eq_true hb4) ?_
  refine wp_skip (then_n ?_)
  obtain ⟨z9, hx6, h⟩ := obs h
  refine wp_cut (fun a w => ∃ a6 n5 c6, Fr a 57 [(1, .int .i64 x1), (6, .slice a6 n5 c6), (7, .slice (some ⟨p2, 0, none⟩) ((List.replicate (3 : Int).toNat (false : Bool)).length) ((List.replicate (3 : Int).toNat (false : Bool)).length)), (10, .int .i64 z8)] ∧ St w0 (fun _ => False) w [Own 3 (rowT z9) (.slice a6 n5 c6), Own 4 (rowT z2) (.slice (some ⟨p2, 0, none⟩) ((List.replicate (3 : Int).toNat (false : Bool)).length) ((List.replicate (3 : Int).toNat (false : Bool)).length))]) ?_ ?_
  have hk2 := h
  have h := hx6
  refine wp_block (wp_seq (wc_text (wm HF rfl rfl rfl fun a HF => ?_)))
  refine wm HF rfl rfl rfl fun a HF => ?_
  obtain ⟨e3, hx7, h⟩ := obs h
  refine wc_ixaddr HF nS el138 rfl rfl ((HT.rdAt 1 rfl)).neq rfl hx7 rfl rfl fun a HF => ?_
  have hc3 := (HT.rdAt 1 rfl).flatAt rfl hx7
  refine wc_load HF rfl sc4 (hc3.get 0 rfl) rfl rfl fun a HF => ?_
  refine wc_not HF nS rfl rfl rfl fun a HF => ?_
  refine wc_end (then_n ?_)
  by_cases hb5 : e3 = true
  have h := ifp hb5 h
  refine wp_if (b' := false) HF rfl (notT hb5) ?_
  refine wp_skip (blk_n ?_)
  obtain rfl := Option.some.inj h
  exact then_n ⟨a5, z7.length, c5, (HF.keep (HF.keep (HF.keep (HF.keep HF.nil rfl) rfl) rfl) rfl), HT⟩
  have h := ifn hb5 h
  refine wp_if (b' := true) HF rfl (notF (Bool.eq_false_iff.2 hb5)) ?_
  refine wc_text (wm HF rfl rfl rfl fun a HF => ?_)
  refine wm HF rfl rfl rfl fun a HF => ?_
  refine wc_bslice (l := ([z8] : List Int)) (cs := [.int .i64 z8]) (A := []) HF HT bs22_1 rfl rfl (gives_flat rfl) rfl (by decide) rfl rfl (fun p4 w HT hb  => ⟨nS, fun a HF => ?_⟩)
  obtain ⟨hg5, h⟩ := grd h
  have HT := HT.p1
  refine wc_append HF HT el22 rfl rfl (Nat.zero_lt_succ _) hg5 rfl rfl rfl (fun a7 c7 w HT => ⟨nS, fun a HF => ?_⟩)
  refine wa HF rfl rfl rfl fun a HF => ?_
  refine wc_end (blk_n ?_)
  obtain rfl := Option.some.inj h
  exact then_n ⟨a7, (z7 ++ ([z8] : List Int)).length, c7, (HF.keep (HF.keep (HF.keep (HF.keep HF.nil rfl) rfl) rfl) rfl), HT⟩
  rintro a w ⟨a6, n5, c6, HF, HT⟩
  obtain rfl := (HT.rdAt 0 rfl).neq
  refine ?_
  refine wc_text (wm HF rfl rfl rfl fun a HF => ?_)
  obtain ⟨hg6, h⟩ := grd h
  refine wc_bin HF nS rfl rfl (b_add hg6) rfl rfl fun a HF => ?_
  refine wa HF rfl rfl rfl fun a HF => ?_
  exact wc_end (then_n ⟨k2, Nat.lt_succ_self k2, z9, z8 + 1, a6, z9.length, c6, h, (HF.keep (HF.keep (HF.keep (HF.keep HF.nil rfl) rfl) rfl) rfl), HT⟩)
  have h := ifn hb4 h
  refine wp_if (b' := false) HF rfl (decide_eq_false hb4) ?_
  refine wp_exit ?_
  refine then_x (then_x (?_))
  refine blk_x ?_
  have HT := HT.t1
  obtain rfl := Option.some.inj h
  exact then_n ⟨a5, z7.length, c5, (HF.keep HF.nil rfl), HT⟩
  rintro a w ⟨a4, n3, c4, HF, HT⟩
  obtain rfl := (HT.rdAt 0 rfl).neq
  refine ?_
  refine wp_seq (wc_text (wm HF rfl rfl rfl fun a HF => ?_))
  refine wa HF rfl rfl rfl fun a HF => ?_
  refine wa HF rfl rfl rfl fun a HF => ?_
  refine wc_end (then_n (wp_ret ?_))
  have hj5 := Option.some.inj h
  obtain ⟨rfl, hj6⟩ := Prod.mk.inj hj5
  subst hj6
  refine bp_ret HF (res_two rfl HF rfl rfl) ?_
  exact ⟨a4, z6.length, c4, rfl, HT⟩

def m_spec_Serial (fuel : Nat) (x0_0 : List I4) (x0_1 : List KidD) (x1 : List Int) (x2_0 : List Int) (x2_1 : List Int) (x2_2 : Int) : Option (Int × List Int × List Int × List Int × Int) :=
  (
    (
      (m_spec_ProgOk fuel x0_0 x0_1).bind fun y1 =>
      if y1 = true then
        (m_spec_ThingsOk fuel x2_0 x2_1 x2_2).bind fun y2 =>
        some !(y2)
      else
      some true).bind fun z1 =>
    if z1 = true then
      some (.ret (0, ([] : List Int), ([] : List Int), ([] : List Int), 0))
    else
    some (.brk ())).bind <| contL <| un1 fun _ =>
  bind2 (m_spec_l7Order fuel x1 (x0_1.length : Int)) fun y3 y4 =>
  if y4 = true then
    if 0 ≤ (4 : Int) ∧ (4 : Int) ≤ 1048576 then
      bind5 (m_spec_l7Walk fuel x0_0 x0_1 y3 (List.replicate (4 : Int).toNat (0 : Int)) x2_0 x2_1 x2_2) fun y5 y6 y7 y8 y9 =>
      some (y5, y6, y7, y8, y9)
    else none
  else
  some (0, ([] : List Int), ([] : List Int), ([] : List Int), 0)

set_option maxRecDepth 100000 in
set_option maxHeartbeats 4000000 in
theorem w_spec_Serial (fuel : Nat) {x0_0 : List I4} {x0_1 : List KidD} {x1 : List Int} {x2_0 : List Int} {x2_1 : List Int} {x2_2 : Int} {a_x0_0 : Option Addr} {n_x0_0 c_x0_0 : Nat} {a_x0_1 : Option Addr} {n_x0_1 c_x0_1 : Nat} {a_x1 : Option Addr} {n_x1 c_x1 : Nat} {a_x2_0 : Option Addr} {n_x2_0 c_x2_0 : Nat} {a_x2_1 : Option Addr} {n_x2_1 c_x2_1 : Nat} {r0_0 : Int} {r0_1 : List Int} {r0_2 : List Int} {r0_3 : List Int} {r0_4 : Int} {w0 : World} (h : m_spec_Serial fuel x0_0 x0_1 x1 x2_0 x2_1 x2_2 = some (r0_0, r0_1, r0_2, r0_3, r0_4)) (hr_x0_0 : RdT (fun b => ¬ False) w0 (rowT x0_0) (.slice a_x0_0 n_x0_0 c_x0_0)) (hr_x0_1 : RdT (fun b => ¬ False) w0 (rowT x0_1) (.slice a_x0_1 n_x0_1 c_x0_1)) (hr_x1 : RdT (fun b => ¬ False) w0 (rowT x1) (.slice a_x1 n_x1 c_x1)) (hr_x2_0 : RdT (fun b => ¬ False) w0 (rowT x2_0) (.slice a_x2_0 n_x2_0 c_x2_0)) (hr_x2_1 : RdT (fun b => ¬ False) w0 (rowT x2_1) (.slice a_x2_1 n_x2_1 c_x2_1)) :
    Calls Try.prog 28 #[.agg #[.slice a_x0_0 n_x0_0 c_x0_0, .slice a_x0_1 n_x0_1 c_x0_1], .slice a_x1 n_x1 c_x1, .agg #[.slice a_x2_0 n_x2_0 c_x2_0, .slice a_x2_1 n_x2_1 c_x2_1, .int .i64 x2_2]] w0 fun e w => ∃ a_r0_1 n_r0_1 c_r0_1, ∃ a_r0_2 n_r0_2 c_r0_2, ∃ a_r0_3 n_r0_3 c_r0_3, e = .returned (.agg #[.int .i64 r0_0, .slice a_r0_1 n_r0_1 c_r0_1, .slice a_r0_2 n_r0_2 c_r0_2, .slice a_r0_3 n_r0_3 c_r0_3, .int .i64 r0_4]) ∧ St w0 (fun _ => False) w [Own 3 (rowT r0_1) (.slice a_r0_1 n_r0_1 c_r0_1), Own 3 (rowT r0_2) (.slice a_r0_2 n_r0_2 c_r0_2), Own 3 (rowT r0_3) (.slice a_r0_3 n_r0_3 c_r0_3)] := by
  obtain rfl := hr_x0_0.neq
  obtain rfl := hr_x0_1.neq
  obtain rfl := hr_x1.neq
  obtain rfl := hr_x2_0.neq
  obtain rfl := hr_x2_1.neq
  have HT : St w0 (fun _ => False) w0 [] := St.init0
  rw [m_spec_Serial] at h
  refine calls_fr (n := 37) [.agg #[.slice a_x0_0 x0_0.length c_x0_0, .slice a_x0_1 x0_1.length c_x0_1], .slice a_x1 x1.length c_x1, .agg #[.slice a_x2_0 x2_0.length c_x2_0, .slice a_x2_1 x2_1.length c_x2_1, .int .i64 x2_2]] Try.func28 rfl rfl rfl fun a HF => ?_
  have HT : St w0 (fun _ => False) w0 [] := HT
  refine wp_seq (wc_text (wc_box (cs := [.slice a_x0_0 x0_0.length c_x0_0, .slice a_x0_1 x0_1.length c_x0_1]) HF HT rfl rfl rfl rfl (fun p1 w HT hb => ⟨nS, fun a HF => ?_⟩)))
  refine wc_box (cs := [.slice a_x2_0 x2_0.length c_x2_0, .slice a_x2_1 x2_1.length c_x2_1, .int .i64 x2_2]) HF HT rfl rfl rfl rfl (fun p2 w HT hb => ⟨nS, fun a HF => ?_⟩)
  refine wc_alloc (cs := [.int .i64 0, .slice none 0 0, .slice none 0 0, .slice none 0 0, .int .i64 0]) HF HT zr49 rfl rfl rfl (fun p3 w HT hb => ⟨nS, fun a HF => ?_⟩)
  refine wc_end (then_n ?_)
  obtain ⟨q1, hx1, h⟩ := obs h
  refine wp_cut (fun a w => q1 = .brk () ∧ Fr a 37 [(1, .slice a_x1 x1.length c_x1), (3, .pointer (some ⟨p1, 0, none⟩)), (5, .pointer (some ⟨p2, 0, none⟩)), (6, .pointer (some ⟨p3, 0, none⟩))] ∧ St w0 (fun _ => False) w [Box p1 [.slice a_x0_0 x0_0.length c_x0_0, .slice a_x0_1 x0_1.length c_x0_1], Box p2 [.slice a_x2_0 x2_0.length c_x2_0, .slice a_x2_1 x2_1.length c_x2_1, .int .i64 x2_2], Box p3 [.int .i64 0, .slice none 0 0, .slice none 0 0, .slice none 0 0, .int .i64 0]]) ?_ ?_
  have hk1 := h
  have h := hx1
  obtain ⟨z1, hx2, h⟩ := obs h
  refine wp_cut (fun a w => Fr a 37 [(1, .slice a_x1 x1.length c_x1), (3, .pointer (some ⟨p1, 0, none⟩)), (5, .pointer (some ⟨p2, 0, none⟩)), (6, .pointer (some ⟨p3, 0, none⟩)), (16, .bool z1)] ∧ St w0 (fun _ => False) w [Box p1 [.slice a_x0_0 x0_0.length c_x0_0, .slice a_x0_1 x0_1.length c_x0_1], Box p2 [.slice a_x2_0 x2_0.length c_x2_0, .slice a_x2_1 x2_1.length c_x2_1, .int .i64 x2_2], Box p3 [.int .i64 0, .slice none 0 0, .slice none 0 0, .slice none 0 0, .int .i64 0]]) ?_ ?_
  have hk2 := h
  have h := hx2
  refine wc_text (wc_loadA (vs := [.slice a_x0_0 x0_0.length c_x0_0, .slice a_x0_1 x0_1.length c_x0_1]) HF rfl ag53 rfl ((HT.boxAt 2 rfl).part 0 2) rfl rfl fun a HF => ?_)
  obtain ⟨y1, hx3, h⟩ := obs h
  refine wc_call HF cf72 rfl (w_spec_ProgOk fuel hx3 (HT.ro hr_x0_0).any (HT.ro hr_x0_1).any) rfl rfl ?_
  rintro e w ⟨rfl, hE⟩
  have hb := hE.below
  have HT := HT.pure hE
  have HT : St w0 (fun _ => False) w [Box p3 [.int .i64 0, .slice none 0 0, .slice none 0 0, .slice none 0 0, .int .i64 0], Box p2 [.slice a_x2_0 x2_0.length c_x2_0, .slice a_x2_1 x2_1.length c_x2_1, .int .i64 x2_2], Box p1 [.slice a_x0_0 x0_0.length c_x0_0, .slice a_x0_1 x0_1.length c_x0_1]] := HT
  refine ⟨_, rfl, nS, fun a HF => ?_⟩
  refine wc_not HF nS rfl rfl rfl fun a HF => ?_
  refine wm HF rfl rfl rfl fun a HF => ?_
  by_cases hb1 : y1 = true
  have h := ifp hb1 h
  refine wc_loadA (vs := [.slice a_x2_0 x2_0.length c_x2_0, .slice a_x2_1 x2_1.length c_x2_1, .int .i64 x2_2]) HF rfl ag27 rfl ((HT.boxAt 1 rfl).part 0 3) (HF.wy rfl rfl rfl rfl (notT hb1)) rfl fun a HF => ?_
  obtain ⟨y2, hx4, h⟩ := obs h
  refine wc_call HF cf15 rfl (w_spec_ThingsOk fuel hx4 (HT.ro hr_x2_0).any (HT.ro hr_x2_1).any) (HF.wy rfl rfl rfl rfl (notT hb1)) rfl ?_
  rintro e w ⟨rfl, hE⟩
  have hb := hE.below
  have HT := HT.pure hE
  have HT : St w0 (fun _ => False) w [Box p3 [.int .i64 0, .slice none 0 0, .slice none 0 0, .slice none 0 0, .int .i64 0], Box p2 [.slice a_x2_0 x2_0.length c_x2_0, .slice a_x2_1 x2_1.length c_x2_1, .int .i64 x2_2], Box p1 [.slice a_x0_0 x0_0.length c_x0_0, .slice a_x0_1 x0_1.length c_x0_1]] := HT
  refine ⟨_, rfl, nS, fun a HF => ?_⟩
  refine wc_not HF nS rfl (HF.wy rfl rfl rfl rfl (notT hb1)) rfl fun a HF => ?_
  refine wc_pick (b := false) HF nS rfl (notT hb1) rfl rfl rfl fun a HF => ?_
  refine wc_end ?_
  have HT := HT.p1.p2
  obtain rfl := Option.some.inj h
  exact then_n ⟨(HF.keep (HF.keep (HF.keep (HF.keep (HF.keep HF.nil rfl) rfl) rfl) rfl) rfl), HT⟩
  have h := ifn hb1 h
  refine wc_skip HF nS (HF.wn rfl rfl rfl rfl (notF (Bool.eq_false_iff.2 hb1))) rfl fun a HF => ?_
  refine wc_skip HF nS (HF.wn rfl rfl rfl rfl (notF (Bool.eq_false_iff.2 hb1))) rfl fun a HF => ?_
  refine wc_skip HF nS (HF.wn rfl rfl rfl rfl (notF (Bool.eq_false_iff.2 hb1))) rfl fun a HF => ?_
  refine wc_pick (b := true) HF nS rfl (notF (Bool.eq_false_iff.2 hb1)) rfl rfl rfl fun a HF => ?_
  refine wc_end ?_
  have HT := HT.p1.p2
  obtain rfl := Option.some.inj h
  exact then_n ⟨(HF.keep (HF.keep (HF.keep (HF.keep (HF.keep HF.nil rfl) rfl) rfl) rfl) rfl), HT⟩
  rintro a w ⟨HF, HT⟩
  refine ?_
  by_cases hb2 : z1 = true
  have h := ifp hb2 h
  refine wp_if (b' := true) HF rfl hb2 ?_
  refine wp_seq (wc_text (wc_build (cs := #[.int .i64 0, .slice none 0 0, .slice none 0 0, .slice none 0 0, .int .i64 0]) HF nS bd49 rfl rfl rfl rfl fun a HF => ?_))
  have HT := HT.p2
  refine wc_storeB (cs' := [.int .i64 0, .slice none 0 0, .slice none 0 0, .slice none 0 0, .int .i64 0]) HF HT rfl rfl (fun w => (ag49 w).2) rfl rfl rfl rfl rfl (fun w HT => ⟨nS, ?_⟩)
  refine wc_end (then_n (wp_ret ?_))
  have HT := HT.nilrow (E := Int) 3
  have HT := HT.nilrow (E := Int) 3
  have HT := HT.nilrow (E := Int) 3
  obtain rfl := Option.some.inj h
  have h := retL hk1
  have hj1 := Option.some.inj h
  obtain ⟨rfl, hj2⟩ := Prod.mk.inj hj1
  obtain ⟨rfl, hj3⟩ := Prod.mk.inj hj2
  obtain ⟨rfl, hj4⟩ := Prod.mk.inj hj3
  obtain ⟨rfl, hj5⟩ := Prod.mk.inj hj4
  subst hj5
  refine then_r (?_)
  refine bp_ret HF (res_cell (vs := [.int .i64 0, .slice none 0 0, .slice none 0 0, .slice none 0 0, .int .i64 0]) rfl HF rfl ag49 rfl (HT.boxAt 3 rfl)) ?_
  have HT := HT.p1.p2.t3
  exact ⟨none, 0, 0, none, 0, 0, none, 0, 0, rfl, HT⟩
  have h := ifn hb2 h
  refine wp_if (b' := false) HF rfl (Bool.eq_false_iff.2 hb2) ?_
  exact wp_skip (then_n ⟨(Option.some.inj h).symm, (HF.keep (HF.keep (HF.keep (HF.keep HF.nil rfl) rfl) rfl) rfl), HT⟩)
  rintro a w ⟨rfl, HF, HT⟩
  have h := brkL1u h
  refine ?_
  refine wp_seq (wc_text (wm HF rfl rfl rfl fun a HF => ?_))
  refine wc_faddr HF nS rfl fl53_1 rfl rfl fun a HF => ?_
  refine wc_load HF rfl sc51 ((HT.boxAt 0 rfl).get 1 rfl) rfl rfl fun a HF => ?_
  refine wc_lenR HF nS Try.underlying51 rfl rfl rfl fun a HF => ?_
  obtain ⟨y3, y4, hx5, h⟩ := obs2 h
  refine wc_call HF cf73 rfl (w_spec_l7Order fuel hx5 (HT.ro hr_x1).any) rfl rfl ?_
  rintro e w ⟨a1, n1, c1, rfl, hE⟩
  have hb := hE.below
  have HT := HT.pure hE
  obtain rfl := (HT.rdAt 0 rfl).neq
  have HT : St w0 (fun _ => False) w [Own 3 (rowT y3) (.slice a1 y3.length c1), Box p1 [.slice a_x0_0 x0_0.length c_x0_0, .slice a_x0_1 x0_1.length c_x0_1], Box p2 [.slice a_x2_0 x2_0.length c_x2_0, .slice a_x2_1 x2_1.length c_x2_1, .int .i64 x2_2], Box p3 [.int .i64 0, .slice none 0 0, .slice none 0 0, .slice none 0 0, .int .i64 0]] := HT
  refine ⟨_, rfl, nS, fun a HF => ?_⟩
  refine wm HF rfl rfl rfl fun a HF => ?_
  refine wc_extract (v := .slice a1 y3.length c1) HF nS rfl rfl rfl rfl fun a HF => ?_
  refine wc_extract (v := .bool y4) HF nS rfl rfl rfl rfl fun a HF => ?_
  refine wa HF rfl rfl rfl fun a HF => ?_
  refine wa HF rfl rfl rfl fun a HF => ?_
  refine wc_end (then_n (wp_seq (wp_seq (wc_text (wm HF rfl rfl rfl fun a HF => ?_)))))
  refine wc_not HF nS rfl rfl rfl fun a HF => ?_
  refine wc_end (then_n ?_)
  by_cases hb3 : y4 = true
  have h := ifp hb3 h
  refine wp_if (b' := false) HF rfl (notT hb3) ?_
  refine wp_skip (then_n (wp_seq (wp_region_can [(0, false), (1, false), (2, false), (3, false), (4, false), (6, false), (5, false), (7, true), (8, true)] (fun w' => w'.cell? ⟨p1, 0, none⟩ = some (.slice a_x0_0 x0_0.length c_x0_0) ∧ w'.cell? ⟨p1, 1, none⟩ = some (.slice a_x0_1 x0_1.length c_x0_1) ∧ LdC w' p2 0 [.slice a_x2_0 x2_0.length c_x2_0, .slice a_x2_1 x2_1.length c_x2_1, .int .i64 x2_2] ∧ True) (by kernel_rfl) (by kernel_rfl) ?_)))
  have HT := HT.drew
  refine wc_faddr HF (fun _ => ⟨(HT.boxAt 1 rfl).get 0 rfl, (HT.boxAt 1 rfl).get 1 rfl, (HT.boxAt 2 rfl).part 0 3, trivial⟩) rfl fl53_0 rfl rfl fun a HF => ?_
  refine wc_loadS HF ⟨(HT.boxAt 1 rfl).get 0 rfl, (HT.boxAt 1 rfl).get 1 rfl, (HT.boxAt 2 rfl).part 0 3, trivial⟩ rfl sc36 (fun w hS => hS.1) rfl rfl fun a HF => ?_
  refine wc_faddr HF (fun _ => ⟨(HT.boxAt 1 rfl).get 0 rfl, (HT.boxAt 1 rfl).get 1 rfl, (HT.boxAt 2 rfl).part 0 3, trivial⟩) rfl fl53_1 rfl rfl fun a HF => ?_
  refine wc_loadS HF ⟨(HT.boxAt 1 rfl).get 0 rfl, (HT.boxAt 1 rfl).get 1 rfl, (HT.boxAt 2 rfl).part 0 3, trivial⟩ rfl sc51 (fun w hS => hS.2.1) rfl rfl fun a HF => ?_
  refine wc_move HF (fun _ => ⟨(HT.boxAt 1 rfl).get 0 rfl, (HT.boxAt 1 rfl).get 1 rfl, (HT.boxAt 2 rfl).part 0 3, trivial⟩) rfl rfl rfl fun a HF => ?_
  refine wc_loadAS (vs := [.slice a_x2_0 x2_0.length c_x2_0, .slice a_x2_1 x2_1.length c_x2_1, .int .i64 x2_2]) HF ⟨(HT.boxAt 1 rfl).get 0 rfl, (HT.boxAt 1 rfl).get 1 rfl, (HT.boxAt 2 rfl).part 0 3, trivial⟩ rfl ag27 rfl (fun w hS => hS.2.2.1) rfl rfl fun a HF => ?_
  obtain ⟨hg1, h⟩ := grd h
  refine wc_make (x := (0 : Int)) HF HT el22 rfl rfl hg1 rfl rfl rfl rfl (fun p4 w HT hb => ⟨(fun _ => ⟨(HT.boxAt 2 rfl).get 0 rfl, (HT.boxAt 2 rfl).get 1 rfl, (HT.boxAt 3 rfl).part 0 3, trivial⟩), fun a HF => ?_⟩)
  obtain ⟨y5, y6, y7, y8, y9, hx6, h⟩ := obs5 h
  refine wc_call HF cf66 rfl (w_spec_l7Walk fuel hx6 (HT.ro hr_x0_0).any (HT.ro hr_x0_1).any (HT.rdAt 1 rfl) (HT.rdAt 0 rfl) (HT.ro hr_x2_0).any (HT.ro hr_x2_1).any) rfl rfl ?_
  rintro e w ⟨a2, n2, c2, a3, n3, c3, a4, n4, c4, rfl, hE⟩
  have hb := hE.below
  have HT := HT.pure hE
  obtain rfl := (HT.rdAt 0 rfl).neq
  obtain rfl := (HT.rdAt 1 rfl).neq
  obtain rfl := (HT.rdAt 2 rfl).neq
  have HT : St w0 (fun _ => False) w [Own 3 (rowT y6) (.slice a2 y6.length c2), Own 3 (rowT y7) (.slice a3 y7.length c3), Own 3 (rowT y8) (.slice a4 y8.length c4), Own 3 (rowT (List.replicate (4 : Int).toNat (0 : Int))) (.slice (some ⟨p4, 0, none⟩) ((List.replicate (4 : Int).toNat (0 : Int)).length) ((List.replicate (4 : Int).toNat (0 : Int)).length)), Own 3 (rowT y3) (.slice a1 y3.length c1), Box p1 [.slice a_x0_0 x0_0.length c_x0_0, .slice a_x0_1 x0_1.length c_x0_1], Box p2 [.slice a_x2_0 x2_0.length c_x2_0, .slice a_x2_1 x2_1.length c_x2_1, .int .i64 x2_2], Box p3 [.int .i64 0, .slice none 0 0, .slice none 0 0, .slice none 0 0, .int .i64 0]] := HT
  refine ⟨_, rfl, nS, fun a HF => ?_⟩
  have HT := HT.p7
  refine wc_storeB (cs' := [.int .i64 y5, .slice a2 y6.length c2, .slice a3 y7.length c3, .slice a4 y8.length c4, .int .i64 y9]) HF HT rfl rfl (fun w => (ag49 w).2) rfl rfl rfl rfl rfl (fun w HT => ⟨nS, ?_⟩)
  refine wc_endN (then_n (wp_ret ?_))
  have hj6 := Option.some.inj h
  obtain ⟨rfl, hj7⟩ := Prod.mk.inj hj6
  obtain ⟨rfl, hj8⟩ := Prod.mk.inj hj7
  obtain ⟨rfl, hj9⟩ := Prod.mk.inj hj8
  obtain ⟨rfl, hj10⟩ := Prod.mk.inj hj9
  subst hj10
  refine bp_ret HF (res_cell (vs := [.int .i64 y5, .slice a2 y6.length c2, .slice a3 y7.length c3, .slice a4 y8.length c4, .int .i64 y9]) rfl HF rfl ag49 rfl (HT.boxAt 0 rfl)) ?_
  have HT := HT.p3.p3.p3.t3
  exact ⟨a2, y6.length, c2, a3, y7.length, c3, a4, y8.length, c4, rfl, HT⟩
  have h := ifn hb3 h
  refine wp_if (b' := true) HF rfl (notF (Bool.eq_false_iff.2 hb3)) ?_
  refine wp_seq (wc_text (wc_build (cs := #[.int .i64 0, .slice none 0 0, .slice none 0 0, .slice none 0 0, .int .i64 0]) HF nS bd49 rfl rfl rfl rfl fun a HF => ?_))
  have HT := HT.p3
  refine wc_storeB (cs' := [.int .i64 0, .slice none 0 0, .slice none 0 0, .slice none 0 0, .int .i64 0]) HF HT rfl rfl (fun w => (ag49 w).2) rfl rfl rfl rfl rfl (fun w HT => ⟨nS, ?_⟩)
  refine wc_end (then_n (wp_ret ?_))
  have HT := HT.nilrow (E := Int) 3
  have HT := HT.nilrow (E := Int) 3
  have HT := HT.nilrow (E := Int) 3
  have hj11 := Option.some.inj h
  obtain ⟨rfl, hj12⟩ := Prod.mk.inj hj11
  obtain ⟨rfl, hj13⟩ := Prod.mk.inj hj12
  obtain ⟨rfl, hj14⟩ := Prod.mk.inj hj13
  obtain ⟨rfl, hj15⟩ := Prod.mk.inj hj14
  subst hj15
  refine then_r (?_)
  refine bp_ret HF (res_cell (vs := [.int .i64 0, .slice none 0 0, .slice none 0 0, .slice none 0 0, .int .i64 0]) rfl HF rfl ag49 rfl (HT.boxAt 3 rfl)) ?_
  have HT := HT.p1.p2.t3
  exact ⟨none, 0, 0, none, 0, 0, none, 0, 0, rfl, HT⟩

def m_impl_SerialAll_L0 (fuel : Nat) (x0 : List ProgD) (x1 : List OrdD) : Nat → (List Int) → (List Int) → Int → (List RunD) → Int → Option (Lp (List Int × List Int × Int × List RunD) (List RunD × List Int × List Int × Int))
  | 0, _, _, _, _, _ => none
  | k1 + 1, z6, z7, z8, z9, z10 =>
    if z10 < (x0.length : Int) then
      (
        (at? x0 z10).bind fun e1 =>
        bind5 (
          (at? x1 z10).bind fun e2 =>
          bind5 (m_impl_Serial fuel e1.code e1.kids e2.kids z6 z7 z8) fun y5 y6 y7 y8 y9 =>
          some (y5, y6, y7, y8, y9)) fun z15 z16 z17 z18 z19 =>
        if z15 = 0 then
          some (.ret (([] : List RunD), ([] : List Int), ([] : List Int), 0))
        else
        if z9.length + 1 ≤ 17179869184 then
          bind3 (m_impl_copyThings fuel z17 z18 z19) fun y10 y11 y12 =>
          some (.brk (y10, y11, y12, z9 ++ ([(⟨z15, z16, z17, z18, z19⟩ : RunD)] : List RunD)))
        else none).bind <| contM <| un4 fun z11 z12 z13 z14 =>
      if in64 (z10 + 1) then
        m_impl_SerialAll_L0 fuel x0 x1 k1 z11 z12 z13 z14 (z10 + 1)
      else none
    else
    some (.brk (z6, z7, z8, z9))

def m_impl_SerialAll (fuel : Nat) (x0 : List ProgD) (x1 : List OrdD) (x2_0 : List Int) (x2_1 : List Int) (x2_2 : Int) : Option (List RunD × List Int × List Int × Int) :=
  (
    (
      if (x0.length : Int) = (x1.length : Int) then
        (m_impl_ThingsOk fuel x2_0 x2_1 x2_2).bind fun y1 =>
        some !(y1)
      else
      some true).bind fun z1 =>
    if z1 = true then
      some (.ret (([] : List RunD), ([] : List Int), ([] : List Int), 0))
    else
    some (.brk ())).bind <| contL <| un1 fun _ =>
  bind3 (m_impl_copyThings fuel x2_0 x2_1 x2_2) fun y2 y3 y4 =>
  (m_impl_SerialAll_L0 fuel x0 x1 fuel y2 y3 y4 ([] : List RunD) 0).bind <| contL <| un4 fun z2 z3 z4 z5 =>
  some (z5, z2, z3, z4)

set_option maxRecDepth 100000 in
set_option maxHeartbeats 4000000 in
theorem w_impl_SerialAll (fuel : Nat) {x0 : List ProgD} {x1 : List OrdD} {x2_0 : List Int} {x2_1 : List Int} {x2_2 : Int} {a_x0 : Option Addr} {n_x0 c_x0 : Nat} {a_x1 : Option Addr} {n_x1 c_x1 : Nat} {a_x2_0 : Option Addr} {n_x2_0 c_x2_0 : Nat} {a_x2_1 : Option Addr} {n_x2_1 c_x2_1 : Nat} {r0 : List RunD} {r1_0 : List Int} {r1_1 : List Int} {r1_2 : Int} {w0 : World} (h : m_impl_SerialAll fuel x0 x1 x2_0 x2_1 x2_2 = some (r0, r1_0, r1_1, r1_2)) (hr_x0 : RdT (fun b => ¬ False) w0 (rowT x0) (.slice a_x0 n_x0 c_x0)) (hr_x1 : RdT (fun b => ¬ False) w0 (rowT x1) (.slice a_x1 n_x1 c_x1)) (hr_x2_0 : RdT (fun b => ¬ False) w0 (rowT x2_0) (.slice a_x2_0 n_x2_0 c_x2_0)) (hr_x2_1 : RdT (fun b => ¬ False) w0 (rowT x2_1) (.slice a_x2_1 n_x2_1 c_x2_1)) :
    Calls Try.prog 42 #[.slice a_x0 n_x0 c_x0, .slice a_x1 n_x1 c_x1, .agg #[.slice a_x2_0 n_x2_0 c_x2_0, .slice a_x2_1 n_x2_1 c_x2_1, .int .i64 x2_2]] w0 fun e w => ∃ a_r0 n_r0 c_r0, ∃ a_r1_0 n_r1_0 c_r1_0, ∃ a_r1_1 n_r1_1 c_r1_1, e = .returned (.tuple #[.slice a_r0 n_r0 c_r0, .agg #[.slice a_r1_0 n_r1_0 c_r1_0, .slice a_r1_1 n_r1_1 c_r1_1, .int .i64 r1_2]]) ∧ St w0 (fun _ => False) w [Own 49 (rowT r0) (.slice a_r0 n_r0 c_r0), Own 3 (rowT r1_0) (.slice a_r1_0 n_r1_0 c_r1_0), Own 3 (rowT r1_1) (.slice a_r1_1 n_r1_1 c_r1_1)] := by
  obtain rfl := hr_x0.neq
  obtain rfl := hr_x1.neq
  obtain rfl := hr_x2_0.neq
  obtain rfl := hr_x2_1.neq
  have HT : St w0 (fun _ => False) w0 [] := St.init0
  rw [m_impl_SerialAll] at h
  refine calls_fr (n := 55) [.slice a_x0 x0.length c_x0, .slice a_x1 x1.length c_x1, .agg #[.slice a_x2_0 x2_0.length c_x2_0, .slice a_x2_1 x2_1.length c_x2_1, .int .i64 x2_2]] Try.func42 rfl rfl rfl fun a HF => ?_
  have HT : St w0 (fun _ => False) w0 [] := HT
  refine wp_seq (wc_text (wc_box (cs := [.slice a_x2_0 x2_0.length c_x2_0, .slice a_x2_1 x2_1.length c_x2_1, .int .i64 x2_2]) HF HT rfl rfl rfl rfl (fun p1 w HT hb => ⟨nS, fun a HF => ?_⟩)))
  refine wa HF rfl rfl rfl fun a HF => ?_
  refine wc_alloc (cs := [.slice none 0 0, .slice none 0 0, .int .i64 0]) HF HT zr27 rfl rfl rfl (fun p2 w HT hb => ⟨nS, fun a HF => ?_⟩)
  refine wc_end (then_n ?_)
  obtain ⟨q1, hx1, h⟩ := obs h
  refine wp_cut (fun a w => q1 = .brk () ∧ Fr a 55 [(0, .slice a_x0 x0.length c_x0), (1, .slice a_x1 x1.length c_x1), (5, .pointer (some ⟨p1, 0, none⟩)), (7, .pointer (some ⟨p2, 0, none⟩))] ∧ St w0 (fun _ => False) w [Box p1 [.slice a_x2_0 x2_0.length c_x2_0, .slice a_x2_1 x2_1.length c_x2_1, .int .i64 x2_2], Box p2 [.slice none 0 0, .slice none 0 0, .int .i64 0]]) ?_ ?_
  have hk1 := h
  have h := hx1
  obtain ⟨z1, hx2, h⟩ := obs h
  refine wp_cut (fun a w => Fr a 55 [(0, .slice a_x0 x0.length c_x0), (1, .slice a_x1 x1.length c_x1), (5, .pointer (some ⟨p1, 0, none⟩)), (7, .pointer (some ⟨p2, 0, none⟩)), (21, .bool z1)] ∧ St w0 (fun _ => False) w [Box p1 [.slice a_x2_0 x2_0.length c_x2_0, .slice a_x2_1 x2_1.length c_x2_1, .int .i64 x2_2], Box p2 [.slice none 0 0, .slice none 0 0, .int .i64 0]]) ?_ ?_
  have hk2 := h
  have h := hx2
  refine wc_text (wm HF rfl rfl rfl fun a HF => ?_)
  refine wc_lenR HF nS Try.underlying68 rfl rfl rfl fun a HF => ?_
  refine wm HF rfl rfl rfl fun a HF => ?_
  refine wc_lenR HF nS Try.underlying70 rfl rfl rfl fun a HF => ?_
  refine wc_bin HF nS rfl rfl b_ne rfl rfl fun a HF => ?_
  refine wm HF rfl rfl rfl fun a HF => ?_
  by_cases hb1 : (x0.length : Int) = (x1.length : Int)
  have h := ifp hb1 h
  refine wc_loadA (vs := [.slice a_x2_0 x2_0.length c_x2_0, .slice a_x2_1 x2_1.length c_x2_1, .int .i64 x2_2]) HF rfl ag27 rfl ((HT.boxAt 1 rfl).part 0 3) (HF.wy rfl rfl rfl rfl (notT (decide_eq_true hb1))) rfl fun a HF => ?_
  obtain ⟨y1, hx3, h⟩ := obs h
  refine wc_call HF cf16 rfl (w_impl_ThingsOk fuel hx3 (HT.ro hr_x2_0).any (HT.ro hr_x2_1).any) (HF.wy rfl rfl rfl rfl (notT (decide_eq_true hb1))) rfl ?_
  rintro e w ⟨rfl, hE⟩
  have hb := hE.below
  have HT := HT.pure hE
  have HT : St w0 (fun _ => False) w [Box p2 [.slice none 0 0, .slice none 0 0, .int .i64 0], Box p1 [.slice a_x2_0 x2_0.length c_x2_0, .slice a_x2_1 x2_1.length c_x2_1, .int .i64 x2_2]] := HT
  refine ⟨_, rfl, nS, fun a HF => ?_⟩
  refine wc_not HF nS rfl (HF.wy rfl rfl rfl rfl (notT (decide_eq_true hb1))) rfl fun a HF => ?_
  refine wc_pick (b := false) HF nS rfl (notT (decide_eq_true hb1)) rfl rfl rfl fun a HF => ?_
  refine wc_end ?_
  have HT := HT.p1
  obtain rfl := Option.some.inj h
  exact then_n ⟨(HF.keep (HF.keep (HF.keep (HF.keep (HF.keep HF.nil rfl) rfl) rfl) rfl) rfl), HT⟩
  have h := ifn hb1 h
  refine wc_skip HF nS (HF.wn rfl rfl rfl rfl (notF (decide_eq_false hb1))) rfl fun a HF => ?_
  refine wc_skip HF nS (HF.wn rfl rfl rfl rfl (notF (decide_eq_false hb1))) rfl fun a HF => ?_
  refine wc_skip HF nS (HF.wn rfl rfl rfl rfl (notF (decide_eq_false hb1))) rfl fun a HF => ?_
  refine wc_pick (b := true) HF nS rfl (notF (decide_eq_false hb1)) rfl rfl rfl fun a HF => ?_
  refine wc_end ?_
  have HT := HT.p1
  obtain rfl := Option.some.inj h
  exact then_n ⟨(HF.keep (HF.keep (HF.keep (HF.keep (HF.keep HF.nil rfl) rfl) rfl) rfl) rfl), HT⟩
  rintro a w ⟨HF, HT⟩
  refine ?_
  by_cases hb2 : z1 = true
  have h := ifp hb2 h
  refine wp_if (b' := true) HF rfl hb2 ?_
  refine wp_seq (wc_text (wc_build (cs := #[.slice none 0 0, .slice none 0 0, .int .i64 0]) HF nS bd27 rfl rfl rfl rfl fun a HF => ?_))
  refine wa HF rfl rfl rfl fun a HF => ?_
  have HT := HT.p1
  refine wc_storeB (cs' := [.slice none 0 0, .slice none 0 0, .int .i64 0]) HF HT rfl rfl (fun w => (ag27 w).2) rfl rfl rfl rfl rfl (fun w HT => ⟨nS, ?_⟩)
  refine wc_end (then_n (wp_ret ?_))
  have HT := HT.nilrow (E := RunD) 49
  have HT := HT.nilrow (E := Int) 3
  have HT := HT.nilrow (E := Int) 3
  obtain rfl := Option.some.inj h
  have h := retL hk1
  have hj1 := Option.some.inj h
  obtain ⟨rfl, hj2⟩ := Prod.mk.inj hj1
  obtain ⟨rfl, hj3⟩ := Prod.mk.inj hj2
  obtain ⟨rfl, hj4⟩ := Prod.mk.inj hj3
  subst hj4
  refine then_r (?_)
  refine bp_ret HF (res_tmp_cell (vs := [.slice none 0 0, .slice none 0 0, .int .i64 0]) rfl HF rfl rfl ag27 rfl (HT.boxAt 3 rfl)) ?_
  have HT := HT.p1.p2.t3
  exact ⟨none, 0, 0, none, 0, 0, none, 0, 0, rfl, HT⟩
  have h := ifn hb2 h
  refine wp_if (b' := false) HF rfl (Bool.eq_false_iff.2 hb2) ?_
  exact wp_skip (then_n ⟨(Option.some.inj h).symm, (HF.keep (HF.keep (HF.keep (HF.keep HF.nil rfl) rfl) rfl) rfl), HT⟩)
  rintro a w ⟨rfl, HF, HT⟩
  have h := brkL1u h
  refine ?_
  refine wp_seq (wc_text (wc_bslice (l := ([] : List RunD)) (cs := []) (A := []) HF HT bs65_0 rfl rfl gives_nil rfl (by decide) rfl rfl (fun p3 w HT hb  => ⟨nS, fun a HF => ?_⟩)))
  refine wa HF rfl rfl rfl fun a HF => ?_
  refine wc_end (then_n (wp_seq (wc_text (wc_loadA (vs := [.slice a_x2_0 x2_0.length c_x2_0, .slice a_x2_1 x2_1.length c_x2_1, .int .i64 x2_2]) HF rfl ag27 rfl ((HT.boxAt 1 rfl).part 0 3) rfl rfl fun a HF => ?_))))
  obtain ⟨y2, y3, y4, hx4, h⟩ := obs3 h
  refine wc_call HF cf82 rfl (w_impl_copyThings fuel hx4 (HT.ro hr_x2_0).any (HT.ro hr_x2_1).any) rfl rfl ?_
  rintro e w ⟨a1, n1, c1, a2, n2, c2, rfl, hE⟩
  have hb := hE.below
  have HT := HT.pure hE
  obtain rfl := (HT.rdAt 0 rfl).neq
  obtain rfl := (HT.rdAt 1 rfl).neq
  have HT : St w0 (fun _ => False) w [Own 3 (rowT y2) (.slice a1 y2.length c1), Own 3 (rowT y3) (.slice a2 y3.length c2), Own 49 (rowT ([] : List RunD)) (.slice (some ⟨p3, 0, none⟩) 0 0), Box p1 [.slice a_x2_0 x2_0.length c_x2_0, .slice a_x2_1 x2_1.length c_x2_1, .int .i64 x2_2], Box p2 [.slice none 0 0, .slice none 0 0, .int .i64 0]] := HT
  refine ⟨_, rfl, nS, fun a HF => ?_⟩
  have HT := HT.p3
  refine wc_storeB (cs' := [.slice a1 y2.length c1, .slice a2 y3.length c2, .int .i64 y4]) HF HT rfl rfl (fun w => (ag27 w).2) rfl rfl rfl rfl rfl (fun w HT => ⟨nS, ?_⟩)
  refine wc_end (then_n ?_)
  obtain ⟨q3, hx5, h⟩ := obs h
  refine wp_cut (fun a w => ∃ z2 z3 z4 z5 a3 n3 c3 a4 n4 c4 a5 n5 c5, q3 = .brk (z2, z3, z4, z5) ∧ Fr a 55 [(5, .pointer (some ⟨p1, 0, none⟩)), (7, .pointer (some ⟨p2, 0, none⟩)), (8, .slice a5 n5 c5)] ∧ St w0 (fun _ => False) w [Own 3 (rowT z2) (.slice a3 n3 c3), Own 3 (rowT z3) (.slice a4 n4 c4), Box p1 [.slice a3 n3 c3, .slice a4 n4 c4, .int .i64 z4], Box p2 [.slice none 0 0, .slice none 0 0, .int .i64 0], Own 49 (rowT z5) (.slice a5 n5 c5)]) ?_ ?_
  have hk1 := h
  have h := hx5
  refine wp_seq (wc_text (wm HF rfl rfl rfl fun a HF => ?_))
  refine wc_lenR HF nS Try.underlying68 rfl rfl rfl fun a HF => ?_
  refine wm HF rfl rfl rfl fun a HF => ?_
  refine wc_end (then_n (wp_block ?_))
  have HT := HT.p3.p4.p2.p4.p4
  refine wp_loopN (fun k1 a w => ∃ z6 z7 z8 z9 z10 a6 n6 c6 a7 n7 c7 a8 n8 c8, m_impl_SerialAll_L0 fuel x0 x1 k1 z6 z7 z8 z9 z10 = some q3 ∧ Fr a 55 [(1, .slice a_x1 x1.length c_x1), (5, .pointer (some ⟨p1, 0, none⟩)), (7, .pointer (some ⟨p2, 0, none⟩)), (8, .slice a8 n8 c8), (26, .slice a_x0 x0.length c_x0), (27, .int .i64 (x0.length : Int)), (28, .int .i64 z10)] ∧ St w0 (fun _ => False) w [Own 3 (rowT z6) (.slice a6 n6 c6), Own 3 (rowT z7) (.slice a7 n7 c7), Box p1 [.slice a6 n6 c6, .slice a7 n7 c7, .int .i64 z8], Box p2 [.slice none 0 0, .slice none 0 0, .int .i64 0], Own 49 (rowT z9) (.slice a8 n8 c8)]) fuel ⟨y2, y3, y4, ([] : List RunD), 0, a1, y2.length, c1, a2, y3.length, c2, (some ⟨p3, 0, none⟩), 0, 0, h, (HF.keep (HF.keep (HF.keep (HF.keep (HF.keep (HF.keep (HF.keep HF.nil rfl) rfl) rfl) rfl) rfl) rfl) rfl), HT⟩ ?_
  rintro k1 a w ⟨z6, z7, z8, z9, z10, a6, n6, c6, a7, n7, c7, a8, n8, c8, h, HF, HT⟩
  rcases k1 with _ | k1
  cases h
  rw [m_impl_SerialAll_L0] at h
  obtain rfl := (HT.rdAt 0 rfl).neq
  obtain rfl := (HT.rdAt 1 rfl).neq
  obtain rfl := (HT.rdAt 4 rfl).neq
  refine ?_
  refine wp_seq (wc_text (wc_bin HF nS rfl rfl b_lt rfl rfl fun a HF => ?_))
  refine wc_end (then_n (wp_seq ?_))
  by_cases hb3 : z10 < (x0.length : Int)
  have h := ifp hb3 h
  refine wp_if (b' := true) HF rfl (decide_eq_true hb3) ?_
  refine wp_skip (then_n ?_)
  obtain ⟨q4, hx6, h⟩ := obs h
  refine wp_cut (fun a w => ∃ z11 z12 z13 z14 a9 n9 c9 a10 n10 c10 a11 n11 c11, q4 = .brk (z11, z12, z13, z14) ∧ Fr a 55 [(1, .slice a_x1 x1.length c_x1), (5, .pointer (some ⟨p1, 0, none⟩)), (7, .pointer (some ⟨p2, 0, none⟩)), (8, .slice a11 n11 c11), (26, .slice a_x0 x0.length c_x0), (27, .int .i64 (x0.length : Int)), (28, .int .i64 z10)] ∧ St w0 (fun _ => False) w [Own 3 (rowT z11) (.slice a9 n9 c9), Own 3 (rowT z12) (.slice a10 n10 c10), Box p1 [.slice a9 n9 c9, .slice a10 n10 c10, .int .i64 z13], Box p2 [.slice none 0 0, .slice none 0 0, .int .i64 0], Own 49 (rowT z14) (.slice a11 n11 c11)]) ?_ ?_
  have hk2 := h
  have h := hx6
  refine wp_block (wp_seq (wc_text (wm HF rfl rfl rfl fun a HF => ?_)))
  obtain ⟨e1, hx7, h⟩ := obs h
  obtain ⟨b1, o1, ha1⟩ := (HT.ro hr_x0).any.addr hx7
  refine wc_ixaddr HF nS el68 rfl ha1 ((HT.ro hr_x0).any).neq rfl hx7 rfl rfl fun a HF => ?_
  obtain ⟨_, hP1, hc1, hr1⟩ := hr_x0.elemAt ha1 hx7
  obtain ⟨a12, c12, a13, c13, rfl, hr2, hr3⟩ := cells_Prog hr1
  have hc2 := HT.roLd hP1 hc1
  refine wc_loadA (vs := [.slice a12 e1.code.length c12, .slice a13 e1.kids.length c13]) HF rfl ag53 rfl (hc2.part 0 2) rfl rfl fun a HF => ?_
  refine wc_alloc (cs := [.slice none 0 0, .slice none 0 0]) HF HT zr53 rfl rfl rfl (fun p4 w HT hb => ⟨nS, fun a HF => ?_⟩)
  refine wa HF rfl rfl rfl fun a HF => ?_
  refine wc_storeB (cs' := [.slice a12 e1.code.length c12, .slice a13 e1.kids.length c13]) HF HT rfl rfl (fun w => (ag53 w).2) rfl rfl rfl rfl rfl (fun w HT => ⟨nS, ?_⟩)
  refine wc_end (then_n ?_)
  obtain ⟨z15, z16, z17, z18, z19, hx8, h⟩ := obs5 h
  refine wp_cut (fun a w => ∃ a14 n12 c14 a15 n13 c15 a16 n14 c16 p5, Fr a 55 [(1, .slice a_x1 x1.length c_x1), (5, .pointer (some ⟨p1, 0, none⟩)), (7, .pointer (some ⟨p2, 0, none⟩)), (8, .slice a8 z9.length c8), (11, .pointer (some ⟨p5, 0, none⟩)), (26, .slice a_x0 x0.length c_x0), (27, .int .i64 (x0.length : Int)), (28, .int .i64 z10)] ∧ St w0 (fun _ => False) w [Own 3 (rowT z6) (.slice a6 z6.length c6), Own 3 (rowT z7) (.slice a7 z7.length c7), Box p1 [.slice a6 z6.length c6, .slice a7 z7.length c7, .int .i64 z8], Box p2 [.slice none 0 0, .slice none 0 0, .int .i64 0], Own 49 (rowT z9) (.slice a8 z9.length c8), OwnA (rowT z16) (.slice a14 n12 c14), OwnA (rowT z17) (.slice a15 n13 c15), OwnA (rowT z18) (.slice a16 n14 c16), Box p5 [.int .i64 z15, .slice a14 n12 c14, .slice a15 n13 c15, .slice a16 n14 c16, .int .i64 z19]]) ?_ ?_
  have hk3 := h
  have h := hx8
  obtain ⟨e2, hx9, h⟩ := obs h
  obtain ⟨b2, o2, ha2⟩ := (HT.ro hr_x1).any.addr hx9
  obtain ⟨_, hP2, hc3, hr4⟩ := hr_x1.elemAt ha2 hx9
  obtain ⟨a17, c17, rfl, hr5⟩ := cells_Ord hr4
  have hc4 := HT.roLd hP2 hc3
  refine wp_region_tree (.seg [(0, false), (1, false), (2, false), (3, false), (4, false), (5, false), (6, false)] (.alt 7 true (.seg [(8, false), (9, true)] .stop) (.alt 8 false (.seg [(7, true), (9, true)] .stop) .none))) (fun w' => LdC w' p4 0 [.slice a12 e1.code.length c12, .slice a13 e1.kids.length c13] ∧ LdC w' b2 (o2 + (z10 : Int).toNat * Dat.size OrdD) [.slice a17 e2.kids.length c17] ∧ LdC w' p1 0 [.slice a6 z6.length c6, .slice a7 z7.length c7, .int .i64 z8] ∧ True) (by kernel_rfl) (by kernel_rfl) ?_
  have HT := HT.drew
  refine wt_seg (wc_loadAS (vs := [.slice a12 e1.code.length c12, .slice a13 e1.kids.length c13]) HF ⟨(HT.boxAt 0 rfl).part 0 2, (HT.roLd hP2 hc3), (HT.boxAt 3 rfl).part 0 3, trivial⟩ rfl ag53 rfl (fun w hS => hS.1) rfl rfl fun a HF => ?_)
  refine wc_move HF (fun _ => ⟨(HT.boxAt 0 rfl).part 0 2, (HT.roLd hP2 hc3), (HT.boxAt 3 rfl).part 0 3, trivial⟩) rfl rfl rfl fun a HF => ?_
  refine wc_move HF (fun _ => ⟨(HT.boxAt 0 rfl).part 0 2, (HT.roLd hP2 hc3), (HT.boxAt 3 rfl).part 0 3, trivial⟩) rfl rfl rfl fun a HF => ?_
  refine wc_ixaddr HF (fun _ => ⟨(HT.boxAt 0 rfl).part 0 2, (HT.roLd hP2 hc3), (HT.boxAt 3 rfl).part 0 3, trivial⟩) el70 rfl ha2 ((HT.ro hr_x1).any).neq rfl hx9 rfl rfl fun a HF => ?_
  refine wc_faddr HF (fun _ => ⟨(HT.boxAt 0 rfl).part 0 2, (HT.roLd hP2 hc3), (HT.boxAt 3 rfl).part 0 3, trivial⟩) rfl fl89_0 rfl rfl fun a HF => ?_
  refine wc_loadS HF ⟨(HT.boxAt 0 rfl).part 0 2, (HT.roLd hP2 hc3), (HT.boxAt 3 rfl).part 0 3, trivial⟩ rfl sc22 (fun w hS => (hS.2.1).get 0 rfl) rfl rfl fun a HF => ?_
  refine wc_loadAS (vs := [.slice a6 z6.length c6, .slice a7 z7.length c7, .int .i64 z8]) HF ⟨(HT.boxAt 0 rfl).part 0 2, (HT.roLd hP2 hc3), (HT.boxAt 3 rfl).part 0 3, trivial⟩ rfl ag27 rfl (fun w hS => hS.2.2.1) rfl rfl fun a HF => ?_
  refine wc_endT ?_
  obtain ⟨y5, y6, y7, y8, y9, hx10, h⟩ := obs5 h
  refine wt_alt ?_ ?_
  refine wc_call HF cf30 rfl (w_impl_Serial fuel hx10 (HT.ro hr2).any (HT.ro hr3).any (HT.ro hr5).any (HT.rdAt 1 rfl) (HT.rdAt 2 rfl)) rfl rfl ?_
  rintro e w ⟨a21, n18, c21, a22, n19, c22, a23, n20, c23, rfl, hE⟩
  have hb := hE.below
  have HT := HT.pure hE
  obtain rfl := (HT.rdAAt 0 rfl).neq
  obtain rfl := (HT.rdAAt 1 rfl).neq
  obtain rfl := (HT.rdAAt 2 rfl).neq
  have HT : St w0 (fun _ => False) w [OwnA (rowT y6) (.slice a21 y6.length c21), OwnA (rowT y7) (.slice a22 y7.length c22), OwnA (rowT y8) (.slice a23 y8.length c23), Box p4 [.slice a12 e1.code.length c12, .slice a13 e1.kids.length c13], Own 3 (rowT z6) (.slice a6 z6.length c6), Own 3 (rowT z7) (.slice a7 z7.length c7), Box p1 [.slice a6 z6.length c6, .slice a7 z7.length c7, .int .i64 z8], Box p2 [.slice none 0 0, .slice none 0 0, .int .i64 0], Own 49 (rowT z9) (.slice a8 z9.length c8)] := HT
  refine ⟨_, rfl, nS, fun a HF => ?_⟩
  refine wc_endT (wt_seg (wc_alloc (cs := [.int .i64 0, .slice none 0 0, .slice none 0 0, .slice none 0 0, .int .i64 0]) HF HT zr49 rfl rfl rfl (fun p7 w HT hb => ⟨(fun _ => ⟨(HT.boxAt 4 rfl).part 0 2, (HT.roLd hP2 hc3), (HT.boxAt 7 rfl).part 0 3, trivial⟩), fun a HF => ?_⟩)))
  refine wc_storeB (cs' := [.int .i64 y5, .slice a21 y6.length c21, .slice a22 y7.length c22, .slice a23 y8.length c23, .int .i64 y9]) HF HT rfl rfl (fun w => (ag49 w).2) rfl rfl rfl rfl rfl (fun w HT => ⟨nS, ?_⟩)
  refine wc_endT (wt_stop ?_)
  have HT := HT.p3.p3.p3.p9.p9.p9.p9.p9.t9
  have hj5 := Option.some.inj h
  obtain ⟨rfl, hj6⟩ := Prod.mk.inj hj5
  obtain ⟨rfl, hj7⟩ := Prod.mk.inj hj6
  obtain ⟨rfl, hj8⟩ := Prod.mk.inj hj7
  obtain ⟨rfl, hj9⟩ := Prod.mk.inj hj8
  subst hj9
  exact then_n ⟨a21, y6.length, c21, a22, y7.length, c22, a23, y8.length, c23, p7, (HF.keep (HF.keep (HF.keep (HF.keep (HF.keep (HF.keep (HF.keep (HF.keep HF.nil rfl) rfl) rfl) rfl) rfl) rfl) rfl) rfl), HT⟩
  refine wt_alt ?_ ?_
  refine wc_alloc (cs := [.int .i64 0, .slice none 0 0, .slice none 0 0, .slice none 0 0, .int .i64 0]) HF HT zr49 rfl rfl rfl (fun p8 w HT hb => ⟨(fun _ => ⟨(HT.boxAt 1 rfl).part 0 2, (HT.roLd hP2 hc3), (HT.boxAt 4 rfl).part 0 3, trivial⟩), fun a HF => ?_⟩)
  refine wc_endT (wt_seg (wc_call HF cf30 rfl (w_impl_Serial fuel hx10 (HT.ro hr2).any (HT.ro hr3).any (HT.ro hr5).any (HT.rdAt 2 rfl) (HT.rdAt 3 rfl)) rfl rfl ?_))
  rintro e w ⟨a24, n21, c24, a25, n22, c25, a26, n23, c26, rfl, hE⟩
  have hb := hE.below
  have HT := HT.pure hE
  obtain rfl := (HT.rdAAt 0 rfl).neq
  obtain rfl := (HT.rdAAt 1 rfl).neq
  obtain rfl := (HT.rdAAt 2 rfl).neq
  have HT : St w0 (fun _ => False) w [OwnA (rowT y6) (.slice a24 y6.length c24), OwnA (rowT y7) (.slice a25 y7.length c25), OwnA (rowT y8) (.slice a26 y8.length c26), Box p8 [.int .i64 0, .slice none 0 0, .slice none 0 0, .slice none 0 0, .int .i64 0], Box p4 [.slice a12 e1.code.length c12, .slice a13 e1.kids.length c13], Own 3 (rowT z6) (.slice a6 z6.length c6), Own 3 (rowT z7) (.slice a7 z7.length c7), Box p1 [.slice a6 z6.length c6, .slice a7 z7.length c7, .int .i64 z8], Box p2 [.slice none 0 0, .slice none 0 0, .int .i64 0], Own 49 (rowT z9) (.slice a8 z9.length c8)] := HT
  refine ⟨_, rfl, nS, fun a HF => ?_⟩
  have HT := HT.p3
  refine wc_storeB (cs' := [.int .i64 y5, .slice a24 y6.length c24, .slice a25 y7.length c25, .slice a26 y8.length c26, .int .i64 y9]) HF HT rfl rfl (fun w => (ag49 w).2) rfl rfl rfl rfl rfl (fun w HT => ⟨nS, ?_⟩)
  refine wc_endT (wt_stop ?_)
  have HT := HT.p3.p3.p3.p9.p9.p9.p9.p9.t9
  have hj10 := Option.some.inj h
  obtain ⟨rfl, hj11⟩ := Prod.mk.inj hj10
  obtain ⟨rfl, hj12⟩ := Prod.mk.inj hj11
  obtain ⟨rfl, hj13⟩ := Prod.mk.inj hj12
  obtain ⟨rfl, hj14⟩ := Prod.mk.inj hj13
  subst hj14
  exact then_n ⟨a24, y6.length, c24, a25, y7.length, c25, a26, y8.length, c26, p8, (HF.keep (HF.keep (HF.keep (HF.keep (HF.keep (HF.keep (HF.keep (HF.keep HF.nil rfl) rfl) rfl) rfl) rfl) rfl) rfl) rfl), HT⟩
  exact wt_none
  rintro a w ⟨a14, n12, c14, a15, n13, c15, a16, n14, c16, p5, HF, HT⟩
  obtain rfl := (HT.rdAAt 5 rfl).neq
  obtain rfl := (HT.rdAAt 6 rfl).neq
  obtain rfl := (HT.rdAAt 7 rfl).neq
  refine ?_
  refine wp_seq (wp_seq (wc_text (wc_faddr HF nS rfl fl49_0 rfl rfl fun a HF => ?_)))
  refine wc_load HF rfl sc3 ((HT.boxAt 8 rfl).get 0 rfl) rfl rfl fun a HF => ?_
  refine wc_bin HF nS rfl rfl b_eq rfl rfl fun a HF => ?_
  refine wc_end (then_n ?_)
  by_cases hb4 : z15 = 0
  have h := ifp hb4 h
  refine wp_if (b' := true) HF rfl (decide_eq_true hb4) ?_
  refine wp_seq (wc_text (wc_build (cs := #[.slice none 0 0, .slice none 0 0, .int .i64 0]) HF nS bd27 rfl rfl rfl rfl fun a HF => ?_))
  refine wa HF rfl rfl rfl fun a HF => ?_
  have HT := HT.p3
  refine wc_storeB (cs' := [.slice none 0 0, .slice none 0 0, .int .i64 0]) HF HT rfl rfl (fun w => (ag27 w).2) rfl rfl rfl rfl rfl (fun w HT => ⟨nS, ?_⟩)
  refine wc_end (then_n (wp_ret ?_))
  have HT := HT.nilrow (E := RunD) 49
  have HT := HT.nilrow (E := Int) 3
  have HT := HT.nilrow (E := Int) 3
  obtain rfl := Option.some.inj h
  have h := retM hk2
  obtain rfl := Option.some.inj h
  have h := retL hk1
  have hj15 := Option.some.inj h
  obtain ⟨rfl, hj16⟩ := Prod.mk.inj hj15
  obtain ⟨rfl, hj17⟩ := Prod.mk.inj hj16
  obtain ⟨rfl, hj18⟩ := Prod.mk.inj hj17
  subst hj18
  refine then_r (blk_r (then_r (then_r (blk_r (then_r (?_))))))
  refine bp_ret HF (res_tmp_cell (vs := [.slice none 0 0, .slice none 0 0, .int .i64 0]) rfl HF rfl rfl ag27 rfl (HT.boxAt 3 rfl)) ?_
  have HT := HT.p1.p2.t3
  exact ⟨none, 0, 0, none, 0, 0, none, 0, 0, rfl, HT⟩
  have h := ifn hb4 h
  refine wp_if (b' := false) HF rfl (decide_eq_false hb4) ?_
  refine wp_skip (then_n (wp_seq (wc_text (wm HF rfl rfl rfl fun a HF => ?_))))
  refine wc_loadA (vs := [.int .i64 z15, .slice a14 z16.length c14, .slice a15 z17.length c15, .slice a16 z18.length c16, .int .i64 z19]) HF rfl ag49 rfl ((HT.boxAt 8 rfl).part 0 5) rfl rfl fun a HF => ?_
  have HT := HT.p7.p7.p7
  refine wc_bsliceK (l := ([(⟨z15, z16, z17, z18, z19⟩ : RunD)] : List RunD)) (cs := [.int .i64 z15, .slice a14 z16.length c14, .slice a15 z17.length c15, .slice a16 z18.length c16, .int .i64 z19]) (A := [OwnA (rowT z16) (.slice a14 z16.length c14), OwnA (rowT z17) (.slice a15 z17.length c15), OwnA (rowT z18) (.slice a16 z18.length c16)]) HF HT bs65_1 rfl rfl (gives_lit (gives_ownA (gives_ownA (gives_ownA (gives_lit gives_nil))))) rfl (by decide) rfl rfl (fun p9 w HT hb hL1 => ⟨nS, fun a HF => ?_⟩)
  obtain ⟨hg1, h⟩ := grd h
  have HT := HT.p5
  refine wc_appendK HF HT el65 rfl rfl hL1 rfl (Nat.zero_lt_succ _) hg1 rfl rfl rfl (fun a27 c27 w HT hk01 => ⟨nS, fun a HF => ?_⟩)
  obtain ⟨hr6, hk02⟩ := rdts_cons hk01
  obtain ⟨hr7, hk03⟩ := rdts_cons hk02
  obtain ⟨hr8, hk04⟩ := rdts_cons hk03
  obtain ⟨hr9, hk05⟩ := rdts_cons hk04
  obtain ⟨hr10, hk06⟩ := rdts_cons hk05
  refine wa HF rfl rfl rfl fun a HF => ?_
  refine wc_end (then_n (wc_text (wc_faddr HF nS rfl fl49_2 rfl rfl fun a HF => ?_)))
  refine wc_loadA (vs := [.slice a15 z17.length c15, .slice a16 z18.length c16, .int .i64 z19]) HF rfl ag27 rfl ((HT.boxAt 5 rfl).part 2 3) rfl rfl fun a HF => ?_
  obtain ⟨y10, y11, y12, hx11, h⟩ := obs3 h
  refine wc_call HF cf82 rfl (w_impl_copyThings fuel hx11 hr8 hr9) rfl rfl ?_
  rintro e w ⟨a28, n24, c28, a29, n25, c29, rfl, hE⟩
  have hb := hE.below
  have HT := HT.pure hE
  have hl1 := hr7.belowR hb
  have hl2 := hr8.belowR hb
  have hl3 := hr9.belowR hb
  obtain rfl := (HT.rdAt 0 rfl).neq
  obtain rfl := (HT.rdAt 1 rfl).neq
  have HT : St w0 (fun _ => False) w [Own 3 (rowT y10) (.slice a28 y10.length c28), Own 3 (rowT y11) (.slice a29 y11.length c29), Own 49 (rowT (z9 ++ ([(⟨z15, z16, z17, z18, z19⟩ : RunD)] : List RunD))) (.slice a27 ((z9 ++ ([(⟨z15, z16, z17, z18, z19⟩ : RunD)] : List RunD)).length) c27), Own 3 (rowT z6) (.slice a6 z6.length c6), Own 3 (rowT z7) (.slice a7 z7.length c7), Box p1 [.slice a6 z6.length c6, .slice a7 z7.length c7, .int .i64 z8], Box p2 [.slice none 0 0, .slice none 0 0, .int .i64 0], Box p5 [.int .i64 z15, .slice a14 z16.length c14, .slice a15 z17.length c15, .slice a16 z18.length c16, .int .i64 z19]] := HT
  refine ⟨_, rfl, nS, fun a HF => ?_⟩
  have HT := HT.p5
  refine wc_storeB (cs' := [.slice a28 y10.length c28, .slice a29 y11.length c29, .int .i64 y12]) HF HT rfl rfl (fun w => (ag27 w).2) rfl rfl rfl rfl rfl (fun w HT => ⟨nS, ?_⟩)
  refine wc_end (blk_n ?_)
  have HT := HT.p3.p6.p2.p4.p4.t5
  exact then_n ⟨y10, y11, y12, z9 ++ ([(⟨z15, z16, z17, z18, z19⟩ : RunD)] : List RunD), a28, y10.length, c28, a29, y11.length, c29, a27, (z9 ++ ([(⟨z15, z16, z17, z18, z19⟩ : RunD)] : List RunD)).length, c27, (Option.some.inj h).symm, (HF.keep (HF.keep (HF.keep (HF.keep (HF.keep (HF.keep (HF.keep HF.nil rfl) rfl) rfl) rfl) rfl) rfl) rfl), HT⟩
  rintro a w ⟨z11, z12, z13, z14, a9, n9, c9, a10, n10, c10, a11, n11, c11, rfl, HF, HT⟩
  have h := brkM4 h
  obtain rfl := (HT.rdAt 0 rfl).neq
  obtain rfl := (HT.rdAt 1 rfl).neq
  obtain rfl := (HT.rdAt 4 rfl).neq
  refine ?_
  refine wc_text ?_
  obtain ⟨hg2, h⟩ := grd h
  refine wc_bin HF nS rfl rfl (b_add hg2) rfl rfl fun a HF => ?_
  refine wm HF rfl rfl rfl fun a HF => ?_
  exact wc_end (then_n ⟨k1, Nat.lt_succ_self k1, z11, z12, z13, z14, z10 + 1, a9, z11.length, c9, a10, z12.length, c10, a11, z14.length, c11, h, (HF.keep (HF.keep (HF.keep (HF.keep (HF.keep (HF.keep (HF.keep HF.nil rfl) rfl) rfl) rfl) rfl) rfl) rfl), HT⟩)
  have h := ifn hb3 h
  refine wp_if (b' := false) HF rfl (decide_eq_false hb3) ?_
  refine wp_exit ?_
  refine then_x (then_x (?_))
  refine blk_x ?_
  exact then_n ⟨z6, z7, z8, z9, a6, z6.length, c6, a7, z7.length, c7, a8, z9.length, c8, (Option.some.inj h).symm, (HF.keep (HF.keep (HF.keep HF.nil rfl) rfl) rfl), HT⟩
  rintro a w ⟨z2, z3, z4, z5, a3, n3, c3, a4, n4, c4, a5, n5, c5, rfl, HF, HT⟩
  have h := brkL4 h
  obtain rfl := (HT.rdAt 0 rfl).neq
  obtain rfl := (HT.rdAt 1 rfl).neq
  obtain rfl := (HT.rdAt 4 rfl).neq
  refine ?_
  refine wp_seq (wp_region_can [(0, true), (1, true), (2, true), (3, true)] (fun w' => True) (by kernel_rfl) (by kernel_rfl) ?_)
  have HT := HT.drew
  refine wm HF rfl rfl rfl fun a HF => ?_
  refine wc_loadA (vs := [.slice a3 z2.length c3, .slice a4 z3.length c4, .int .i64 z4]) HF rfl ag27 rfl ((HT.boxAt 2 rfl).part 0 3) rfl rfl fun a HF => ?_
  refine wa HF rfl rfl rfl fun a HF => ?_
  have HT := HT.p3
  refine wc_storeB (cs' := [.slice a3 z2.length c3, .slice a4 z3.length c4, .int .i64 z4]) HF HT rfl rfl (fun w => (ag27 w).2) rfl rfl rfl rfl rfl (fun w HT => ⟨nS, ?_⟩)
  refine wc_endN (then_n (wp_ret ?_))
  have hj19 := Option.some.inj h
  obtain ⟨rfl, hj20⟩ := Prod.mk.inj hj19
  obtain ⟨rfl, hj21⟩ := Prod.mk.inj hj20
  obtain ⟨rfl, hj22⟩ := Prod.mk.inj hj21
  subst hj22
  refine bp_ret HF (res_tmp_cell (vs := [.slice a3 z2.length c3, .slice a4 z3.length c4, .int .i64 z4]) rfl HF rfl rfl ag27 rfl (HT.boxAt 0 rfl)) ?_
  have HT := HT.p2.p2.p4.t3
  exact ⟨a5, z5.length, c5, a3, z2.length, c3, a4, z3.length, c4, rfl, HT⟩

end Go.Proofs.Ytknghnmcckjjbaa
