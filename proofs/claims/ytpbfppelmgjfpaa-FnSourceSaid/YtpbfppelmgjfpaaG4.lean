/- Walks of functions, by program: spec.l4Plain, spec.DrawReadOp, spec.ShowCode, spec.ShowProg, spec.l5Gen, spec.l5Prog, spec.DrawReadProg, spec.l4Any, spec.l5Bend, spec.l5AnyProg, spec.DrawShowProg, spec.l5Same, spec.SameProg, laws.FnSource. -/
import Derived.Test.YtpbfppelmgjfpaaTy
import Derived.Test.YtpbfppelmgjfpaaG3
namespace Go.Proofs.Ytpbfppelmgjfpaa
open Go Go.RowKit
set_option linter.unusedVariables false
set_option linter.unusedSimpArgs false
def m_spec_l4Plain (fuel : Nat) (x0_0 : List UInt8) (x0_1 : Int) (x0_2 : Int) (x1 : Int) : Option (Int × Int × Int × Int × Int × Int) :=
  bind5 (
    if x1 = 1 then
      bind3 (m_spec_l4DrawReg fuel x0_0 x0_1 x0_2) fun y1 y2 y3 =>
      bind3 (m_spec_l3Draw fuel x0_0 y2 y3) fun y4 y5 y6 =>
      some (y1, y4, 0, y5, y6)
    else
    (
      if x1 = 2 then
        some (decide (x1 = 2))
      else
      if x1 = 3 then
        some (decide (x1 = 3))
      else
      some (decide (x1 = 4))).bind fun z6 =>
    if z6 = true then
      bind3 (m_spec_l4DrawReg fuel x0_0 x0_1 x0_2) fun y7 y8 y9 =>
      bind3 (m_spec_l4DrawReg fuel x0_0 y8 y9) fun y10 y11 y12 =>
      bind3 (m_spec_l4DrawReg fuel x0_0 y11 y12) fun y13 y14 y15 =>
      some (y7, y10, y13, y14, y15)
    else
    if x1 = 5 then
      bind3 (m_spec_l4DrawReg fuel x0_0 x0_1 x0_2) fun y16 y17 y18 =>
      bind3 (m_spec_l4DrawCell fuel x0_0 y17 y18) fun y19 y20 y21 =>
      some (y16, y19, 0, y20, y21)
    else
    if x1 = 6 then
      bind3 (m_spec_l4DrawCell fuel x0_0 x0_1 x0_2) fun y22 y23 y24 =>
      bind3 (m_spec_l4DrawReg fuel x0_0 y23 y24) fun y25 y26 y27 =>
      some (y22, y25, 0, y26, y27)
    else
    if x1 = 7 then
      bind3 (m_spec_l4DrawReg fuel x0_0 x0_1 x0_2) fun y28 y29 y30 =>
      bind3 (m_spec_l1Below fuel x0_0 y29 y30 3) fun y31 y32 y33 =>
      if in64 (1 + y31) then
        some (y28, 1 + y31, 0, y32, y33)
      else none
    else
    (
      if x1 = 8 then
        some (decide (x1 = 8))
      else
      if x1 = 15 then
        some (decide (x1 = 15))
      else
      some (decide (x1 = 16))).bind fun z7 =>
    if z7 = true then
      bind3 (m_spec_l4DrawReg fuel x0_0 x0_1 x0_2) fun y34 y35 y36 =>
      some (y34, 0, 0, y35, y36)
    else
    if x1 = 12 then
      bind3 (m_spec_l4DrawKey fuel x0_0 x0_1 x0_2) fun y37 y38 y39 =>
      bind3 (m_spec_l4DrawReg fuel x0_0 y38 y39) fun y40 y41 y42 =>
      bind3 (m_spec_l4DrawReg fuel x0_0 y41 y42) fun y43 y44 y45 =>
      some (y37, y40, y43, y44, y45)
    else
    if x1 = 13 then
      bind3 (m_spec_l4DrawReg fuel x0_0 x0_1 x0_2) fun y46 y47 y48 =>
      bind3 (m_spec_l4DrawKey fuel x0_0 y47 y48) fun y49 y50 y51 =>
      some (y46, y49, 0, y50, y51)
    else
    if x1 = 14 then
      bind3 (m_spec_l4DrawKey fuel x0_0 x0_1 x0_2) fun y52 y53 y54 =>
      bind3 (m_spec_l4DrawReg fuel x0_0 y53 y54) fun y55 y56 y57 =>
      some (y52, y55, 0, y56, y57)
    else
    some (0, 0, 0, x0_1, x0_2)) fun z1 z2 z3 z4 z5 =>
  some (x1, z1, z2, z3, z4, z5)

set_option maxRecDepth 100000 in
set_option maxHeartbeats 4000000 in
theorem w_spec_l4Plain (fuel : Nat) {x0_0 : List UInt8} {x0_1 : Int} {x0_2 : Int} {x1 : Int} {a_x0_0 : Option Addr} {n_x0_0 c_x0_0 : Nat} {p_0 : Nat} {r0_0 : Int} {r0_1 : Int} {r0_2 : Int} {r0_3 : Int} {x0_1' : Int} {x0_2' : Int} {F : Foot} {w0 : World} (h : m_spec_l4Plain fuel x0_0 x0_1 x0_2 x1 = some (r0_0, r0_1, r0_2, r0_3, x0_1', x0_2')) (hA : StF w0 F [Box p_0 [.slice a_x0_0 n_x0_0 c_x0_0, .int .i64 x0_1, .int .i64 x0_2]]) (hr_x0_0 : RdT (fun b => ¬ F b) w0 (rowT x0_0) (.slice a_x0_0 n_x0_0 c_x0_0)) :
    Calls Try.prog 72 #[.pointer (some ⟨p_0, 0, none⟩), .int .i64 x1] w0 fun e w => e = .returned (.agg #[.int .i64 r0_0, .int .i64 r0_1, .int .i64 r0_2, .int .i64 r0_3]) ∧ St w0 F w [Box p_0 [.slice a_x0_0 n_x0_0 c_x0_0, .int .i64 x0_1', .int .i64 x0_2']] := by
  have HT0 := St.init hA
  obtain rfl := hr_x0_0.neq
  have HT : St w0 F w0 [Box p_0 [.slice a_x0_0 x0_0.length c_x0_0, .int .i64 x0_1, .int .i64 x0_2]] := St.init hA
  rw [m_spec_l4Plain] at h
  refine calls_fr (n := 90) [.pointer (some ⟨p_0, 0, none⟩), .int .i64 x1] Try.func72 rfl rfl rfl (fun a HF => ?_)
  have HT : St w0 F w0 [Box p_0 [.slice a_x0_0 x0_0.length c_x0_0, .int .i64 x0_1, .int .i64 x0_2]] := HT
  refine wp_seq ?_
  refine wc_text ?_
  refine wc_alloc (cs := [.int .i64 0, .int .i64 0, .int .i64 0, .int .i64 0]) HF HT zr25 rfl rfl rfl (fun p1 w HT hb => ⟨nS, fun a HF => ?_⟩)
  refine wc_end ?_
  refine then_n ?_
  refine wp_seq ?_
  refine wc_text ?_
  refine wc_move HF nS rfl rfl rfl (fun a HF => ?_)
  refine wc_build (cs := #[.int .i64 x1, .int .i64 0, .int .i64 0, .int .i64 0]) HF nS bd25 rfl rfl rfl rfl (fun a HF => ?_)
  refine wc_alloc (cs := [.int .i64 0, .int .i64 0, .int .i64 0, .int .i64 0]) HF HT zr25 rfl rfl rfl (fun p2 w HT hb => ⟨nS, fun a HF => ?_⟩)
  refine wc_storeB (cs' := [.int .i64 x1, .int .i64 0, .int .i64 0, .int .i64 0]) HF HT rfl rfl (fun w => (ag25 w).2) rfl rfl rfl rfl rfl (fun w HT => ⟨nS, ?_⟩)
  refine wc_end ?_
  refine then_n ?_
  obtain ⟨z1, z2, z3, z4, z5, hx1, h⟩ := obs5 h
  refine wp_cut (fun a w => Fr a 90 [(4, .pointer (some ⟨p1, 0, none⟩)), (5, .pointer (some ⟨p2, 0, none⟩))] ∧ St w0 F w [Box p1 [.int .i64 0, .int .i64 0, .int .i64 0, .int .i64 0], Box p2 [.int .i64 x1, .int .i64 z1, .int .i64 z2, .int .i64 z3], Box p_0 [.slice a_x0_0 x0_0.length c_x0_0, .int .i64 z4, .int .i64 z5]]) ?_ ?_
  have hk1 := h
  have h := hx1
  refine wp_seq ?_
  refine wc_text ?_
  refine wc_move HF nS rfl rfl rfl (fun a HF => ?_)
  refine wc_end ?_
  refine then_n ?_
  refine wp_block ?_
  refine wp_seq ?_
  refine wc_text ?_
  refine wc_bin HF nS rfl rfl b_eq rfl rfl (fun a HF => ?_)
  refine wc_assign HF nS rfl rfl rfl (fun a HF => ?_)
  refine wc_end ?_
  refine then_n ?_
  by_cases hb1 : x1 = 1
  have h := (if_pos hb1).symm.trans h
  refine wp_if (b' := true) HF rfl (decide_eq_true hb1) ?_
  refine wp_seq ?_
  refine wc_text ?_
  refine wc_move HF nS rfl rfl rfl (fun a HF => ?_)
  obtain ⟨y1, y2, y3, hx2, h⟩ := obs3 h
  have HT := HT.p2
  obtain ⟨F1, hAF1, hFF1, hbackF1, hroF1, hownF1, hownAF1⟩ := St.handR2 (A := [Box p_0 [.slice a_x0_0 x0_0.length c_x0_0, .int .i64 x0_1, .int .i64 x0_2]]) HT
  refine wc_call HF cf95 rfl (w_spec_l4DrawReg fuel hx2 hAF1 (hroF1 hr_x0_0)) rfl rfl ?_
  rintro e w ⟨rfl, hE⟩
  have HT := hbackF1 _ _ hE
  have HT : St w0 F w [Box p_0 [.slice a_x0_0 x0_0.length c_x0_0, .int .i64 y2, .int .i64 y3], Box p2 [.int .i64 x1, .int .i64 0, .int .i64 0, .int .i64 0], Box p1 [.int .i64 0, .int .i64 0, .int .i64 0, .int .i64 0]] := HT
  refine ⟨_, rfl, nS, fun a HF => ?_⟩
  refine wc_faddr HF nS rfl fl25_1 rfl rfl (fun a HF => ?_)
  have HT := HT.p1
  refine wc_storeB (cs' := [.int .i64 x1, .int .i64 y1, .int .i64 0, .int .i64 0]) HF HT rfl rfl (fun w => (sc3 w).2) rfl rfl rfl rfl rfl (fun w HT => ⟨nS, ?_⟩)
  refine wc_end ?_
  refine then_n ?_
  refine wc_text ?_
  refine wc_move HF nS rfl rfl rfl (fun a HF => ?_)
  obtain ⟨y4, y5, y6, hx3, h⟩ := obs3 h
  have HT := HT.p1
  obtain ⟨F2, hAF2, hFF2, hbackF2, hroF2, hownF2, hownAF2⟩ := St.handR2 (A := [Box p_0 [.slice a_x0_0 x0_0.length c_x0_0, .int .i64 y2, .int .i64 y3]]) HT
  refine wc_call HF cf96 rfl (w_spec_l3Draw fuel hx3 hAF2 (hroF2 hr_x0_0)) rfl rfl ?_
  rintro e w ⟨rfl, hE⟩
  have HT := hbackF2 _ _ hE
  have HT : St w0 F w [Box p_0 [.slice a_x0_0 x0_0.length c_x0_0, .int .i64 y5, .int .i64 y6], Box p2 [.int .i64 x1, .int .i64 y1, .int .i64 0, .int .i64 0], Box p1 [.int .i64 0, .int .i64 0, .int .i64 0, .int .i64 0]] := HT
  refine ⟨_, rfl, nS, fun a HF => ?_⟩
  refine wc_faddr HF nS rfl fl25_2 rfl rfl (fun a HF => ?_)
  have HT := HT.p1
  refine wc_storeB (cs' := [.int .i64 x1, .int .i64 y1, .int .i64 y4, .int .i64 0]) HF HT rfl rfl (fun w => (sc3 w).2) rfl rfl rfl rfl rfl (fun w HT => ⟨nS, ?_⟩)
  refine wc_end ?_
  refine blk_n ?_
  have HT := HT.p1.p1.p2
  have hj1 := Option.some.inj h
  obtain ⟨hi1, hj2⟩ := Prod.mk.inj hj1
  subst hi1
  obtain ⟨hi2, hj3⟩ := Prod.mk.inj hj2
  subst hi2
  obtain ⟨hi3, hj4⟩ := Prod.mk.inj hj3
  subst hi3
  obtain ⟨hi4, hj5⟩ := Prod.mk.inj hj4
  subst hi4
  subst hj5
  exact then_n ⟨(HF.keep (HF.keep HF.nil rfl) rfl), HT⟩
  have h := (if_neg hb1).symm.trans h
  refine wp_if (b' := false) HF rfl (decide_eq_false hb1) ?_
  obtain ⟨z6, hx4, h⟩ := obs h
  refine wp_cut (fun a w => Fr a 90 [(0, .pointer (some ⟨p_0, 0, none⟩)), (4, .pointer (some ⟨p1, 0, none⟩)), (5, .pointer (some ⟨p2, 0, none⟩)), (8, .int .i64 x1), (17, .bool z6)] ∧ St w0 F w [Box p_0 [.slice a_x0_0 x0_0.length c_x0_0, .int .i64 x0_1, .int .i64 x0_2], Box p1 [.int .i64 0, .int .i64 0, .int .i64 0, .int .i64 0], Box p2 [.int .i64 x1, .int .i64 0, .int .i64 0, .int .i64 0]]) ?_ ?_
  have hk2 := h
  have h := hx4
  refine wp_seq ?_
  refine wc_text ?_
  refine wc_bin HF nS rfl rfl b_eq rfl rfl (fun a HF => ?_)
  refine wc_assign HF nS rfl rfl rfl (fun a HF => ?_)
  refine wc_end ?_
  refine then_n ?_
  by_cases hb2 : x1 = 2
  have h := (if_pos hb2).symm.trans h
  refine wp_if (b' := true) HF rfl (decide_eq_true hb2) ?_
  refine wp_skip ?_
  have HT := HT.p1.p2
  obtain rfl := Option.some.inj h
  exact then_n ⟨(HF.keep (HF.keep (HF.keep (HF.keep (HF.keep HF.nil rfl) rfl) rfl) rfl) rfl), HT⟩
  have h := (if_neg hb2).symm.trans h
  refine wp_if (b' := false) HF rfl (decide_eq_false hb2) ?_
  refine wp_seq ?_
  refine wc_text ?_
  refine wc_bin HF nS rfl rfl b_eq rfl rfl (fun a HF => ?_)
  refine wc_assign HF nS rfl rfl rfl (fun a HF => ?_)
  refine wc_end ?_
  refine then_n ?_
  by_cases hb3 : x1 = 3
  have h := (if_pos hb3).symm.trans h
  refine wp_if (b' := true) HF rfl (decide_eq_true hb3) ?_
  refine wp_skip ?_
  have HT := HT.p1.p2
  obtain rfl := Option.some.inj h
  exact then_n ⟨(HF.keep (HF.keep (HF.keep (HF.keep (HF.keep HF.nil rfl) rfl) rfl) rfl) rfl), HT⟩
  have h := (if_neg hb3).symm.trans h
  refine wp_if (b' := false) HF rfl (decide_eq_false hb3) ?_
  refine wc_text ?_
  refine wc_bin HF nS rfl rfl b_eq rfl rfl (fun a HF => ?_)
  refine wc_assign HF nS rfl rfl rfl (fun a HF => ?_)
  refine wc_end ?_
  have HT := HT.p1.p2
  obtain rfl := Option.some.inj h
  exact then_n ⟨(HF.keep (HF.keep (HF.keep (HF.keep (HF.keep HF.nil rfl) rfl) rfl) rfl) rfl), HT⟩
  rintro a w ⟨HF, HT⟩
  refine ?_
  by_cases hb4 : z6 = true
  have h := (if_pos hb4).symm.trans h
  refine wp_if (b' := true) HF rfl hb4 ?_
  refine wp_seq ?_
  refine wc_text ?_
  refine wc_move HF nS rfl rfl rfl (fun a HF => ?_)
  obtain ⟨y7, y8, y9, hx5, h⟩ := obs3 h
  obtain ⟨F3, hAF3, hFF3, hbackF3, hroF3, hownF3, hownAF3⟩ := St.handR2 (A := [Box p_0 [.slice a_x0_0 x0_0.length c_x0_0, .int .i64 x0_1, .int .i64 x0_2]]) HT
  refine wc_call HF cf95 rfl (w_spec_l4DrawReg fuel hx5 hAF3 (hroF3 hr_x0_0)) rfl rfl ?_
  rintro e w ⟨rfl, hE⟩
  have HT := hbackF3 _ _ hE
  have HT : St w0 F w [Box p_0 [.slice a_x0_0 x0_0.length c_x0_0, .int .i64 y8, .int .i64 y9], Box p1 [.int .i64 0, .int .i64 0, .int .i64 0, .int .i64 0], Box p2 [.int .i64 x1, .int .i64 0, .int .i64 0, .int .i64 0]] := HT
  refine ⟨_, rfl, nS, fun a HF => ?_⟩
  refine wc_faddr HF nS rfl fl25_1 rfl rfl (fun a HF => ?_)
  have HT := HT.p2
  refine wc_storeB (cs' := [.int .i64 x1, .int .i64 y7, .int .i64 0, .int .i64 0]) HF HT rfl rfl (fun w => (sc3 w).2) rfl rfl rfl rfl rfl (fun w HT => ⟨nS, ?_⟩)
  refine wc_end ?_
  refine then_n ?_
  refine wp_seq ?_
  refine wc_text ?_
  refine wc_move HF nS rfl rfl rfl (fun a HF => ?_)
  obtain ⟨y10, y11, y12, hx6, h⟩ := obs3 h
  have HT := HT.p1
  obtain ⟨F4, hAF4, hFF4, hbackF4, hroF4, hownF4, hownAF4⟩ := St.handR2 (A := [Box p_0 [.slice a_x0_0 x0_0.length c_x0_0, .int .i64 y8, .int .i64 y9]]) HT
  refine wc_call HF cf95 rfl (w_spec_l4DrawReg fuel hx6 hAF4 (hroF4 hr_x0_0)) rfl rfl ?_
  rintro e w ⟨rfl, hE⟩
  have HT := hbackF4 _ _ hE
  have HT : St w0 F w [Box p_0 [.slice a_x0_0 x0_0.length c_x0_0, .int .i64 y11, .int .i64 y12], Box p2 [.int .i64 x1, .int .i64 y7, .int .i64 0, .int .i64 0], Box p1 [.int .i64 0, .int .i64 0, .int .i64 0, .int .i64 0]] := HT
  refine ⟨_, rfl, nS, fun a HF => ?_⟩
  refine wc_faddr HF nS rfl fl25_2 rfl rfl (fun a HF => ?_)
  have HT := HT.p1
  refine wc_storeB (cs' := [.int .i64 x1, .int .i64 y7, .int .i64 y10, .int .i64 0]) HF HT rfl rfl (fun w => (sc3 w).2) rfl rfl rfl rfl rfl (fun w HT => ⟨nS, ?_⟩)
  refine wc_end ?_
  refine then_n ?_
  refine wc_text ?_
  refine wc_move HF nS rfl rfl rfl (fun a HF => ?_)
  obtain ⟨y13, y14, y15, hx7, h⟩ := obs3 h
  have HT := HT.p1
  obtain ⟨F5, hAF5, hFF5, hbackF5, hroF5, hownF5, hownAF5⟩ := St.handR2 (A := [Box p_0 [.slice a_x0_0 x0_0.length c_x0_0, .int .i64 y11, .int .i64 y12]]) HT
  refine wc_call HF cf95 rfl (w_spec_l4DrawReg fuel hx7 hAF5 (hroF5 hr_x0_0)) rfl rfl ?_
  rintro e w ⟨rfl, hE⟩
  have HT := hbackF5 _ _ hE
  have HT : St w0 F w [Box p_0 [.slice a_x0_0 x0_0.length c_x0_0, .int .i64 y14, .int .i64 y15], Box p2 [.int .i64 x1, .int .i64 y7, .int .i64 y10, .int .i64 0], Box p1 [.int .i64 0, .int .i64 0, .int .i64 0, .int .i64 0]] := HT
  refine ⟨_, rfl, nS, fun a HF => ?_⟩
  refine wc_faddr HF nS rfl fl25_3 rfl rfl (fun a HF => ?_)
  have HT := HT.p1
  refine wc_storeB (cs' := [.int .i64 x1, .int .i64 y7, .int .i64 y10, .int .i64 y13]) HF HT rfl rfl (fun w => (sc3 w).2) rfl rfl rfl rfl rfl (fun w HT => ⟨nS, ?_⟩)
  refine wc_end ?_
  refine blk_n ?_
  have HT := HT.p1.p1.p2
  have hj6 := Option.some.inj h
  obtain ⟨hi6, hj7⟩ := Prod.mk.inj hj6
  subst hi6
  obtain ⟨hi7, hj8⟩ := Prod.mk.inj hj7
  subst hi7
  obtain ⟨hi8, hj9⟩ := Prod.mk.inj hj8
  subst hi8
  obtain ⟨hi9, hj10⟩ := Prod.mk.inj hj9
  subst hi9
  subst hj10
  exact then_n ⟨(HF.keep (HF.keep HF.nil rfl) rfl), HT⟩
  have h := (if_neg hb4).symm.trans h
  refine wp_if (b' := false) HF rfl (Bool.eq_false_iff.2 hb4) ?_
  refine wp_seq ?_
  refine wc_text ?_
  refine wc_bin HF nS rfl rfl b_eq rfl rfl (fun a HF => ?_)
  refine wc_assign HF nS rfl rfl rfl (fun a HF => ?_)
  refine wc_end ?_
  refine then_n ?_
  by_cases hb5 : x1 = 5
  have h := (if_pos hb5).symm.trans h
  refine wp_if (b' := true) HF rfl (decide_eq_true hb5) ?_
  refine wp_seq ?_
  refine wc_text ?_
  refine wc_move HF nS rfl rfl rfl (fun a HF => ?_)
  obtain ⟨y16, y17, y18, hx8, h⟩ := obs3 h
  obtain ⟨F6, hAF6, hFF6, hbackF6, hroF6, hownF6, hownAF6⟩ := St.handR2 (A := [Box p_0 [.slice a_x0_0 x0_0.length c_x0_0, .int .i64 x0_1, .int .i64 x0_2]]) HT
  refine wc_call HF cf95 rfl (w_spec_l4DrawReg fuel hx8 hAF6 (hroF6 hr_x0_0)) rfl rfl ?_
  rintro e w ⟨rfl, hE⟩
  have HT := hbackF6 _ _ hE
  have HT : St w0 F w [Box p_0 [.slice a_x0_0 x0_0.length c_x0_0, .int .i64 y17, .int .i64 y18], Box p1 [.int .i64 0, .int .i64 0, .int .i64 0, .int .i64 0], Box p2 [.int .i64 x1, .int .i64 0, .int .i64 0, .int .i64 0]] := HT
  refine ⟨_, rfl, nS, fun a HF => ?_⟩
  refine wc_faddr HF nS rfl fl25_1 rfl rfl (fun a HF => ?_)
  have HT := HT.p2
  refine wc_storeB (cs' := [.int .i64 x1, .int .i64 y16, .int .i64 0, .int .i64 0]) HF HT rfl rfl (fun w => (sc3 w).2) rfl rfl rfl rfl rfl (fun w HT => ⟨nS, ?_⟩)
  refine wc_end ?_
  refine then_n ?_
  refine wc_text ?_
  refine wc_move HF nS rfl rfl rfl (fun a HF => ?_)
  obtain ⟨y19, y20, y21, hx9, h⟩ := obs3 h
  have HT := HT.p1
  obtain ⟨F7, hAF7, hFF7, hbackF7, hroF7, hownF7, hownAF7⟩ := St.handR2 (A := [Box p_0 [.slice a_x0_0 x0_0.length c_x0_0, .int .i64 y17, .int .i64 y18]]) HT
  refine wc_call HF cf97 rfl (w_spec_l4DrawCell fuel hx9 hAF7 (hroF7 hr_x0_0)) rfl rfl ?_
  rintro e w ⟨rfl, hE⟩
  have HT := hbackF7 _ _ hE
  have HT : St w0 F w [Box p_0 [.slice a_x0_0 x0_0.length c_x0_0, .int .i64 y20, .int .i64 y21], Box p2 [.int .i64 x1, .int .i64 y16, .int .i64 0, .int .i64 0], Box p1 [.int .i64 0, .int .i64 0, .int .i64 0, .int .i64 0]] := HT
  refine ⟨_, rfl, nS, fun a HF => ?_⟩
  refine wc_faddr HF nS rfl fl25_2 rfl rfl (fun a HF => ?_)
  have HT := HT.p1
  refine wc_storeB (cs' := [.int .i64 x1, .int .i64 y16, .int .i64 y19, .int .i64 0]) HF HT rfl rfl (fun w => (sc3 w).2) rfl rfl rfl rfl rfl (fun w HT => ⟨nS, ?_⟩)
  refine wc_end ?_
  refine blk_n ?_
  have HT := HT.p1.p1.p2
  have hj11 := Option.some.inj h
  obtain ⟨hi11, hj12⟩ := Prod.mk.inj hj11
  subst hi11
  obtain ⟨hi12, hj13⟩ := Prod.mk.inj hj12
  subst hi12
  obtain ⟨hi13, hj14⟩ := Prod.mk.inj hj13
  subst hi13
  obtain ⟨hi14, hj15⟩ := Prod.mk.inj hj14
  subst hi14
  subst hj15
  exact then_n ⟨(HF.keep (HF.keep HF.nil rfl) rfl), HT⟩
  have h := (if_neg hb5).symm.trans h
  refine wp_if (b' := false) HF rfl (decide_eq_false hb5) ?_
  refine wp_seq ?_
  refine wc_text ?_
  refine wc_bin HF nS rfl rfl b_eq rfl rfl (fun a HF => ?_)
  refine wc_assign HF nS rfl rfl rfl (fun a HF => ?_)
  refine wc_end ?_
  refine then_n ?_
  by_cases hb6 : x1 = 6
  have h := (if_pos hb6).symm.trans h
  refine wp_if (b' := true) HF rfl (decide_eq_true hb6) ?_
  refine wp_seq ?_
  refine wc_text ?_
  refine wc_move HF nS rfl rfl rfl (fun a HF => ?_)
  obtain ⟨y22, y23, y24, hx10, h⟩ := obs3 h
  obtain ⟨F8, hAF8, hFF8, hbackF8, hroF8, hownF8, hownAF8⟩ := St.handR2 (A := [Box p_0 [.slice a_x0_0 x0_0.length c_x0_0, .int .i64 x0_1, .int .i64 x0_2]]) HT
  refine wc_call HF cf97 rfl (w_spec_l4DrawCell fuel hx10 hAF8 (hroF8 hr_x0_0)) rfl rfl ?_
  rintro e w ⟨rfl, hE⟩
  have HT := hbackF8 _ _ hE
  have HT : St w0 F w [Box p_0 [.slice a_x0_0 x0_0.length c_x0_0, .int .i64 y23, .int .i64 y24], Box p1 [.int .i64 0, .int .i64 0, .int .i64 0, .int .i64 0], Box p2 [.int .i64 x1, .int .i64 0, .int .i64 0, .int .i64 0]] := HT
  refine ⟨_, rfl, nS, fun a HF => ?_⟩
  refine wc_faddr HF nS rfl fl25_1 rfl rfl (fun a HF => ?_)
  have HT := HT.p2
  refine wc_storeB (cs' := [.int .i64 x1, .int .i64 y22, .int .i64 0, .int .i64 0]) HF HT rfl rfl (fun w => (sc3 w).2) rfl rfl rfl rfl rfl (fun w HT => ⟨nS, ?_⟩)
  refine wc_end ?_
  refine then_n ?_
  refine wc_text ?_
  refine wc_move HF nS rfl rfl rfl (fun a HF => ?_)
  obtain ⟨y25, y26, y27, hx11, h⟩ := obs3 h
  have HT := HT.p1
  obtain ⟨F9, hAF9, hFF9, hbackF9, hroF9, hownF9, hownAF9⟩ := St.handR2 (A := [Box p_0 [.slice a_x0_0 x0_0.length c_x0_0, .int .i64 y23, .int .i64 y24]]) HT
  refine wc_call HF cf95 rfl (w_spec_l4DrawReg fuel hx11 hAF9 (hroF9 hr_x0_0)) rfl rfl ?_
  rintro e w ⟨rfl, hE⟩
  have HT := hbackF9 _ _ hE
  have HT : St w0 F w [Box p_0 [.slice a_x0_0 x0_0.length c_x0_0, .int .i64 y26, .int .i64 y27], Box p2 [.int .i64 x1, .int .i64 y22, .int .i64 0, .int .i64 0], Box p1 [.int .i64 0, .int .i64 0, .int .i64 0, .int .i64 0]] := HT
  refine ⟨_, rfl, nS, fun a HF => ?_⟩
  refine wc_faddr HF nS rfl fl25_2 rfl rfl (fun a HF => ?_)
  have HT := HT.p1
  refine wc_storeB (cs' := [.int .i64 x1, .int .i64 y22, .int .i64 y25, .int .i64 0]) HF HT rfl rfl (fun w => (sc3 w).2) rfl rfl rfl rfl rfl (fun w HT => ⟨nS, ?_⟩)
  refine wc_end ?_
  refine blk_n ?_
  have HT := HT.p1.p1.p2
  have hj16 := Option.some.inj h
  obtain ⟨hi16, hj17⟩ := Prod.mk.inj hj16
  subst hi16
  obtain ⟨hi17, hj18⟩ := Prod.mk.inj hj17
  subst hi17
  obtain ⟨hi18, hj19⟩ := Prod.mk.inj hj18
  subst hi18
  obtain ⟨hi19, hj20⟩ := Prod.mk.inj hj19
  subst hi19
  subst hj20
  exact then_n ⟨(HF.keep (HF.keep HF.nil rfl) rfl), HT⟩
  have h := (if_neg hb6).symm.trans h
  refine wp_if (b' := false) HF rfl (decide_eq_false hb6) ?_
  refine wp_seq ?_
  refine wc_text ?_
  refine wc_bin HF nS rfl rfl b_eq rfl rfl (fun a HF => ?_)
  refine wc_assign HF nS rfl rfl rfl (fun a HF => ?_)
  refine wc_end ?_
  refine then_n ?_
  by_cases hb7 : x1 = 7
  have h := (if_pos hb7).symm.trans h
  refine wp_if (b' := true) HF rfl (decide_eq_true hb7) ?_
  refine wp_seq ?_
  refine wc_text ?_
  refine wc_move HF nS rfl rfl rfl (fun a HF => ?_)
  obtain ⟨y28, y29, y30, hx12, h⟩ := obs3 h
  obtain ⟨F10, hAF10, hFF10, hbackF10, hroF10, hownF10, hownAF10⟩ := St.handR2 (A := [Box p_0 [.slice a_x0_0 x0_0.length c_x0_0, .int .i64 x0_1, .int .i64 x0_2]]) HT
  refine wc_call HF cf95 rfl (w_spec_l4DrawReg fuel hx12 hAF10 (hroF10 hr_x0_0)) rfl rfl ?_
  rintro e w ⟨rfl, hE⟩
  have HT := hbackF10 _ _ hE
  have HT : St w0 F w [Box p_0 [.slice a_x0_0 x0_0.length c_x0_0, .int .i64 y29, .int .i64 y30], Box p1 [.int .i64 0, .int .i64 0, .int .i64 0, .int .i64 0], Box p2 [.int .i64 x1, .int .i64 0, .int .i64 0, .int .i64 0]] := HT
  refine ⟨_, rfl, nS, fun a HF => ?_⟩
  refine wc_faddr HF nS rfl fl25_1 rfl rfl (fun a HF => ?_)
  have HT := HT.p2
  refine wc_storeB (cs' := [.int .i64 x1, .int .i64 y28, .int .i64 0, .int .i64 0]) HF HT rfl rfl (fun w => (sc3 w).2) rfl rfl rfl rfl rfl (fun w HT => ⟨nS, ?_⟩)
  refine wc_end ?_
  refine then_n ?_
  refine wc_text ?_
  refine wc_move HF nS rfl rfl rfl (fun a HF => ?_)
  obtain ⟨y31, y32, y33, hx13, h⟩ := obs3 h
  have HT := HT.p1
  obtain ⟨F11, hAF11, hFF11, hbackF11, hroF11, hownF11, hownAF11⟩ := St.handR2 (A := [Box p_0 [.slice a_x0_0 x0_0.length c_x0_0, .int .i64 y29, .int .i64 y30]]) HT
  refine wc_call HF cf69 rfl (w_spec_l1Below fuel hx13 hAF11 (hroF11 hr_x0_0)) rfl rfl ?_
  rintro e w ⟨rfl, hE⟩
  have HT := hbackF11 _ _ hE
  have HT : St w0 F w [Box p_0 [.slice a_x0_0 x0_0.length c_x0_0, .int .i64 y32, .int .i64 y33], Box p2 [.int .i64 x1, .int .i64 y28, .int .i64 0, .int .i64 0], Box p1 [.int .i64 0, .int .i64 0, .int .i64 0, .int .i64 0]] := HT
  refine ⟨_, rfl, nS, fun a HF => ?_⟩
  obtain ⟨hg1, h⟩ := grd h
  refine wc_bin HF nS rfl rfl (b_add hg1) rfl rfl (fun a HF => ?_)
  refine wc_faddr HF nS rfl fl25_2 rfl rfl (fun a HF => ?_)
  have HT := HT.p1
  refine wc_storeB (cs' := [.int .i64 x1, .int .i64 y28, .int .i64 (1 + y31), .int .i64 0]) HF HT rfl rfl (fun w => (sc3 w).2) rfl rfl rfl rfl rfl (fun w HT => ⟨nS, ?_⟩)
  refine wc_end ?_
  refine blk_n ?_
  have HT := HT.p1.p1.p2
  have hj21 := Option.some.inj h
  obtain ⟨hi21, hj22⟩ := Prod.mk.inj hj21
  subst hi21
  obtain ⟨hi22, hj23⟩ := Prod.mk.inj hj22
  subst hi22
  obtain ⟨hi23, hj24⟩ := Prod.mk.inj hj23
  subst hi23
  obtain ⟨hi24, hj25⟩ := Prod.mk.inj hj24
  subst hi24
  subst hj25
  exact then_n ⟨(HF.keep (HF.keep HF.nil rfl) rfl), HT⟩
  have h := (if_neg hb7).symm.trans h
  refine wp_if (b' := false) HF rfl (decide_eq_false hb7) ?_
  obtain ⟨z7, hx14, h⟩ := obs h
  refine wp_cut (fun a w => Fr a 90 [(0, .pointer (some ⟨p_0, 0, none⟩)), (4, .pointer (some ⟨p1, 0, none⟩)), (5, .pointer (some ⟨p2, 0, none⟩)), (8, .int .i64 x1), (55, .bool z7)] ∧ St w0 F w [Box p_0 [.slice a_x0_0 x0_0.length c_x0_0, .int .i64 x0_1, .int .i64 x0_2], Box p1 [.int .i64 0, .int .i64 0, .int .i64 0, .int .i64 0], Box p2 [.int .i64 x1, .int .i64 0, .int .i64 0, .int .i64 0]]) ?_ ?_
  have hk2 := h
  have h := hx14
  refine wp_seq ?_
  refine wc_text ?_
  refine wc_bin HF nS rfl rfl b_eq rfl rfl (fun a HF => ?_)
  refine wc_assign HF nS rfl rfl rfl (fun a HF => ?_)
  refine wc_end ?_
  refine then_n ?_
  by_cases hb8 : x1 = 8
  have h := (if_pos hb8).symm.trans h
  refine wp_if (b' := true) HF rfl (decide_eq_true hb8) ?_
  refine wp_skip ?_
  obtain rfl := Option.some.inj h
  exact then_n ⟨(HF.keep (HF.keep (HF.keep (HF.keep (HF.keep HF.nil rfl) rfl) rfl) rfl) rfl), HT⟩
  have h := (if_neg hb8).symm.trans h
  refine wp_if (b' := false) HF rfl (decide_eq_false hb8) ?_
  refine wp_seq ?_
  refine wc_text ?_
  refine wc_bin HF nS rfl rfl b_eq rfl rfl (fun a HF => ?_)
  refine wc_assign HF nS rfl rfl rfl (fun a HF => ?_)
  refine wc_end ?_
  refine then_n ?_
  by_cases hb9 : x1 = 15
  have h := (if_pos hb9).symm.trans h
  refine wp_if (b' := true) HF rfl (decide_eq_true hb9) ?_
  refine wp_skip ?_
  obtain rfl := Option.some.inj h
  exact then_n ⟨(HF.keep (HF.keep (HF.keep (HF.keep (HF.keep HF.nil rfl) rfl) rfl) rfl) rfl), HT⟩
  have h := (if_neg hb9).symm.trans h
  refine wp_if (b' := false) HF rfl (decide_eq_false hb9) ?_
  refine wc_text ?_
  refine wc_bin HF nS rfl rfl b_eq rfl rfl (fun a HF => ?_)
  refine wc_assign HF nS rfl rfl rfl (fun a HF => ?_)
  refine wc_end ?_
  obtain rfl := Option.some.inj h
  exact then_n ⟨(HF.keep (HF.keep (HF.keep (HF.keep (HF.keep HF.nil rfl) rfl) rfl) rfl) rfl), HT⟩
  rintro a w ⟨HF, HT⟩
  refine ?_
  by_cases hb10 : z7 = true
  have h := (if_pos hb10).symm.trans h
  refine wp_if (b' := true) HF rfl hb10 ?_
  refine wc_text ?_
  refine wc_move HF nS rfl rfl rfl (fun a HF => ?_)
  obtain ⟨y34, y35, y36, hx15, h⟩ := obs3 h
  obtain ⟨F12, hAF12, hFF12, hbackF12, hroF12, hownF12, hownAF12⟩ := St.handR2 (A := [Box p_0 [.slice a_x0_0 x0_0.length c_x0_0, .int .i64 x0_1, .int .i64 x0_2]]) HT
  refine wc_call HF cf95 rfl (w_spec_l4DrawReg fuel hx15 hAF12 (hroF12 hr_x0_0)) rfl rfl ?_
  rintro e w ⟨rfl, hE⟩
  have HT := hbackF12 _ _ hE
  have HT : St w0 F w [Box p_0 [.slice a_x0_0 x0_0.length c_x0_0, .int .i64 y35, .int .i64 y36], Box p1 [.int .i64 0, .int .i64 0, .int .i64 0, .int .i64 0], Box p2 [.int .i64 x1, .int .i64 0, .int .i64 0, .int .i64 0]] := HT
  refine ⟨_, rfl, nS, fun a HF => ?_⟩
  refine wc_faddr HF nS rfl fl25_1 rfl rfl (fun a HF => ?_)
  have HT := HT.p2
  refine wc_storeB (cs' := [.int .i64 x1, .int .i64 y34, .int .i64 0, .int .i64 0]) HF HT rfl rfl (fun w => (sc3 w).2) rfl rfl rfl rfl rfl (fun w HT => ⟨nS, ?_⟩)
  refine wc_end ?_
  refine blk_n ?_
  have HT := HT.p1.p1.p2
  have hj26 := Option.some.inj h
  obtain ⟨hi26, hj27⟩ := Prod.mk.inj hj26
  subst hi26
  obtain ⟨hi27, hj28⟩ := Prod.mk.inj hj27
  subst hi27
  obtain ⟨hi28, hj29⟩ := Prod.mk.inj hj28
  subst hi28
  obtain ⟨hi29, hj30⟩ := Prod.mk.inj hj29
  subst hi29
  subst hj30
  exact then_n ⟨(HF.keep (HF.keep HF.nil rfl) rfl), HT⟩
  have h := (if_neg hb10).symm.trans h
  refine wp_if (b' := false) HF rfl (Bool.eq_false_iff.2 hb10) ?_
  refine wp_seq ?_
  refine wc_text ?_
  refine wc_bin HF nS rfl rfl b_eq rfl rfl (fun a HF => ?_)
  refine wc_assign HF nS rfl rfl rfl (fun a HF => ?_)
  refine wc_end ?_
  refine then_n ?_
  by_cases hb11 : x1 = 12
  have h := (if_pos hb11).symm.trans h
  refine wp_if (b' := true) HF rfl (decide_eq_true hb11) ?_
  refine wp_seq ?_
  refine wc_text ?_
  refine wc_move HF nS rfl rfl rfl (fun a HF => ?_)
  obtain ⟨y37, y38, y39, hx16, h⟩ := obs3 h
  obtain ⟨F13, hAF13, hFF13, hbackF13, hroF13, hownF13, hownAF13⟩ := St.handR2 (A := [Box p_0 [.slice a_x0_0 x0_0.length c_x0_0, .int .i64 x0_1, .int .i64 x0_2]]) HT
  refine wc_call HF cf98 rfl (w_spec_l4DrawKey fuel hx16 hAF13 (hroF13 hr_x0_0)) rfl rfl ?_
  rintro e w ⟨rfl, hE⟩
  have HT := hbackF13 _ _ hE
  have HT : St w0 F w [Box p_0 [.slice a_x0_0 x0_0.length c_x0_0, .int .i64 y38, .int .i64 y39], Box p1 [.int .i64 0, .int .i64 0, .int .i64 0, .int .i64 0], Box p2 [.int .i64 x1, .int .i64 0, .int .i64 0, .int .i64 0]] := HT
  refine ⟨_, rfl, nS, fun a HF => ?_⟩
  refine wc_faddr HF nS rfl fl25_1 rfl rfl (fun a HF => ?_)
  have HT := HT.p2
  refine wc_storeB (cs' := [.int .i64 x1, .int .i64 y37, .int .i64 0, .int .i64 0]) HF HT rfl rfl (fun w => (sc3 w).2) rfl rfl rfl rfl rfl (fun w HT => ⟨nS, ?_⟩)
  refine wc_end ?_
  refine then_n ?_
  refine wp_seq ?_
  refine wc_text ?_
  refine wc_move HF nS rfl rfl rfl (fun a HF => ?_)
  obtain ⟨y40, y41, y42, hx17, h⟩ := obs3 h
  have HT := HT.p1
  obtain ⟨F14, hAF14, hFF14, hbackF14, hroF14, hownF14, hownAF14⟩ := St.handR2 (A := [Box p_0 [.slice a_x0_0 x0_0.length c_x0_0, .int .i64 y38, .int .i64 y39]]) HT
  refine wc_call HF cf95 rfl (w_spec_l4DrawReg fuel hx17 hAF14 (hroF14 hr_x0_0)) rfl rfl ?_
  rintro e w ⟨rfl, hE⟩
  have HT := hbackF14 _ _ hE
  have HT : St w0 F w [Box p_0 [.slice a_x0_0 x0_0.length c_x0_0, .int .i64 y41, .int .i64 y42], Box p2 [.int .i64 x1, .int .i64 y37, .int .i64 0, .int .i64 0], Box p1 [.int .i64 0, .int .i64 0, .int .i64 0, .int .i64 0]] := HT
  refine ⟨_, rfl, nS, fun a HF => ?_⟩
  refine wc_faddr HF nS rfl fl25_2 rfl rfl (fun a HF => ?_)
  have HT := HT.p1
  refine wc_storeB (cs' := [.int .i64 x1, .int .i64 y37, .int .i64 y40, .int .i64 0]) HF HT rfl rfl (fun w => (sc3 w).2) rfl rfl rfl rfl rfl (fun w HT => ⟨nS, ?_⟩)
  refine wc_end ?_
  refine then_n ?_
  refine wc_text ?_
  refine wc_move HF nS rfl rfl rfl (fun a HF => ?_)
  obtain ⟨y43, y44, y45, hx18, h⟩ := obs3 h
  have HT := HT.p1
  obtain ⟨F15, hAF15, hFF15, hbackF15, hroF15, hownF15, hownAF15⟩ := St.handR2 (A := [Box p_0 [.slice a_x0_0 x0_0.length c_x0_0, .int .i64 y41, .int .i64 y42]]) HT
  refine wc_call HF cf95 rfl (w_spec_l4DrawReg fuel hx18 hAF15 (hroF15 hr_x0_0)) rfl rfl ?_
  rintro e w ⟨rfl, hE⟩
  have HT := hbackF15 _ _ hE
  have HT : St w0 F w [Box p_0 [.slice a_x0_0 x0_0.length c_x0_0, .int .i64 y44, .int .i64 y45], Box p2 [.int .i64 x1, .int .i64 y37, .int .i64 y40, .int .i64 0], Box p1 [.int .i64 0, .int .i64 0, .int .i64 0, .int .i64 0]] := HT
  refine ⟨_, rfl, nS, fun a HF => ?_⟩
  refine wc_faddr HF nS rfl fl25_3 rfl rfl (fun a HF => ?_)
  have HT := HT.p1
  refine wc_storeB (cs' := [.int .i64 x1, .int .i64 y37, .int .i64 y40, .int .i64 y43]) HF HT rfl rfl (fun w => (sc3 w).2) rfl rfl rfl rfl rfl (fun w HT => ⟨nS, ?_⟩)
  refine wc_end ?_
  refine blk_n ?_
  have HT := HT.p1.p1.p2
  have hj31 := Option.some.inj h
  obtain ⟨hi31, hj32⟩ := Prod.mk.inj hj31
  subst hi31
  obtain ⟨hi32, hj33⟩ := Prod.mk.inj hj32
  subst hi32
  obtain ⟨hi33, hj34⟩ := Prod.mk.inj hj33
  subst hi33
  obtain ⟨hi34, hj35⟩ := Prod.mk.inj hj34
  subst hi34
  subst hj35
  exact then_n ⟨(HF.keep (HF.keep HF.nil rfl) rfl), HT⟩
  have h := (if_neg hb11).symm.trans h
  refine wp_if (b' := false) HF rfl (decide_eq_false hb11) ?_
  refine wp_seq ?_
  refine wc_text ?_
  refine wc_bin HF nS rfl rfl b_eq rfl rfl (fun a HF => ?_)
  refine wc_assign HF nS rfl rfl rfl (fun a HF => ?_)
  refine wc_end ?_
  refine then_n ?_
  by_cases hb12 : x1 = 13
  have h := (if_pos hb12).symm.trans h
  refine wp_if (b' := true) HF rfl (decide_eq_true hb12) ?_
  refine wp_seq ?_
  refine wc_text ?_
  refine wc_move HF nS rfl rfl rfl (fun a HF => ?_)
  obtain ⟨y46, y47, y48, hx19, h⟩ := obs3 h
  obtain ⟨F16, hAF16, hFF16, hbackF16, hroF16, hownF16, hownAF16⟩ := St.handR2 (A := [Box p_0 [.slice a_x0_0 x0_0.length c_x0_0, .int .i64 x0_1, .int .i64 x0_2]]) HT
  refine wc_call HF cf95 rfl (w_spec_l4DrawReg fuel hx19 hAF16 (hroF16 hr_x0_0)) rfl rfl ?_
  rintro e w ⟨rfl, hE⟩
  have HT := hbackF16 _ _ hE
  have HT : St w0 F w [Box p_0 [.slice a_x0_0 x0_0.length c_x0_0, .int .i64 y47, .int .i64 y48], Box p1 [.int .i64 0, .int .i64 0, .int .i64 0, .int .i64 0], Box p2 [.int .i64 x1, .int .i64 0, .int .i64 0, .int .i64 0]] := HT
  refine ⟨_, rfl, nS, fun a HF => ?_⟩
  refine wc_faddr HF nS rfl fl25_1 rfl rfl (fun a HF => ?_)
  have HT := HT.p2
  refine wc_storeB (cs' := [.int .i64 x1, .int .i64 y46, .int .i64 0, .int .i64 0]) HF HT rfl rfl (fun w => (sc3 w).2) rfl rfl rfl rfl rfl (fun w HT => ⟨nS, ?_⟩)
  refine wc_end ?_
  refine then_n ?_
  refine wc_text ?_
  refine wc_move HF nS rfl rfl rfl (fun a HF => ?_)
  obtain ⟨y49, y50, y51, hx20, h⟩ := obs3 h
  have HT := HT.p1
  obtain ⟨F17, hAF17, hFF17, hbackF17, hroF17, hownF17, hownAF17⟩ := St.handR2 (A := [Box p_0 [.slice a_x0_0 x0_0.length c_x0_0, .int .i64 y47, .int .i64 y48]]) HT
  refine wc_call HF cf98 rfl (w_spec_l4DrawKey fuel hx20 hAF17 (hroF17 hr_x0_0)) rfl rfl ?_
  rintro e w ⟨rfl, hE⟩
  have HT := hbackF17 _ _ hE
  have HT : St w0 F w [Box p_0 [.slice a_x0_0 x0_0.length c_x0_0, .int .i64 y50, .int .i64 y51], Box p2 [.int .i64 x1, .int .i64 y46, .int .i64 0, .int .i64 0], Box p1 [.int .i64 0, .int .i64 0, .int .i64 0, .int .i64 0]] := HT
  refine ⟨_, rfl, nS, fun a HF => ?_⟩
  refine wc_faddr HF nS rfl fl25_2 rfl rfl (fun a HF => ?_)
  have HT := HT.p1
  refine wc_storeB (cs' := [.int .i64 x1, .int .i64 y46, .int .i64 y49, .int .i64 0]) HF HT rfl rfl (fun w => (sc3 w).2) rfl rfl rfl rfl rfl (fun w HT => ⟨nS, ?_⟩)
  refine wc_end ?_
  refine blk_n ?_
  have HT := HT.p1.p1.p2
  have hj36 := Option.some.inj h
  obtain ⟨hi36, hj37⟩ := Prod.mk.inj hj36
  subst hi36
  obtain ⟨hi37, hj38⟩ := Prod.mk.inj hj37
  subst hi37
  obtain ⟨hi38, hj39⟩ := Prod.mk.inj hj38
  subst hi38
  obtain ⟨hi39, hj40⟩ := Prod.mk.inj hj39
  subst hi39
  subst hj40
  exact then_n ⟨(HF.keep (HF.keep HF.nil rfl) rfl), HT⟩
  have h := (if_neg hb12).symm.trans h
  refine wp_if (b' := false) HF rfl (decide_eq_false hb12) ?_
  refine wp_seq ?_
  refine wc_text ?_
  refine wc_bin HF nS rfl rfl b_eq rfl rfl (fun a HF => ?_)
  refine wc_assign HF nS rfl rfl rfl (fun a HF => ?_)
  refine wc_end ?_
  refine then_n ?_
  by_cases hb13 : x1 = 14
  have h := (if_pos hb13).symm.trans h
  refine wp_if (b' := true) HF rfl (decide_eq_true hb13) ?_
  refine wp_seq ?_
  refine wc_text ?_
  refine wc_move HF nS rfl rfl rfl (fun a HF => ?_)
  obtain ⟨y52, y53, y54, hx21, h⟩ := obs3 h
  obtain ⟨F18, hAF18, hFF18, hbackF18, hroF18, hownF18, hownAF18⟩ := St.handR2 (A := [Box p_0 [.slice a_x0_0 x0_0.length c_x0_0, .int .i64 x0_1, .int .i64 x0_2]]) HT
  refine wc_call HF cf98 rfl (w_spec_l4DrawKey fuel hx21 hAF18 (hroF18 hr_x0_0)) rfl rfl ?_
  rintro e w ⟨rfl, hE⟩
  have HT := hbackF18 _ _ hE
  have HT : St w0 F w [Box p_0 [.slice a_x0_0 x0_0.length c_x0_0, .int .i64 y53, .int .i64 y54], Box p1 [.int .i64 0, .int .i64 0, .int .i64 0, .int .i64 0], Box p2 [.int .i64 x1, .int .i64 0, .int .i64 0, .int .i64 0]] := HT
  refine ⟨_, rfl, nS, fun a HF => ?_⟩
  refine wc_faddr HF nS rfl fl25_1 rfl rfl (fun a HF => ?_)
  have HT := HT.p2
  refine wc_storeB (cs' := [.int .i64 x1, .int .i64 y52, .int .i64 0, .int .i64 0]) HF HT rfl rfl (fun w => (sc3 w).2) rfl rfl rfl rfl rfl (fun w HT => ⟨nS, ?_⟩)
  refine wc_end ?_
  refine then_n ?_
  refine wc_text ?_
  refine wc_move HF nS rfl rfl rfl (fun a HF => ?_)
  obtain ⟨y55, y56, y57, hx22, h⟩ := obs3 h
  have HT := HT.p1
  obtain ⟨F19, hAF19, hFF19, hbackF19, hroF19, hownF19, hownAF19⟩ := St.handR2 (A := [Box p_0 [.slice a_x0_0 x0_0.length c_x0_0, .int .i64 y53, .int .i64 y54]]) HT
  refine wc_call HF cf95 rfl (w_spec_l4DrawReg fuel hx22 hAF19 (hroF19 hr_x0_0)) rfl rfl ?_
  rintro e w ⟨rfl, hE⟩
  have HT := hbackF19 _ _ hE
  have HT : St w0 F w [Box p_0 [.slice a_x0_0 x0_0.length c_x0_0, .int .i64 y56, .int .i64 y57], Box p2 [.int .i64 x1, .int .i64 y52, .int .i64 0, .int .i64 0], Box p1 [.int .i64 0, .int .i64 0, .int .i64 0, .int .i64 0]] := HT
  refine ⟨_, rfl, nS, fun a HF => ?_⟩
  refine wc_faddr HF nS rfl fl25_2 rfl rfl (fun a HF => ?_)
  have HT := HT.p1
  refine wc_storeB (cs' := [.int .i64 x1, .int .i64 y52, .int .i64 y55, .int .i64 0]) HF HT rfl rfl (fun w => (sc3 w).2) rfl rfl rfl rfl rfl (fun w HT => ⟨nS, ?_⟩)
  refine wc_end ?_
  refine blk_n ?_
  have HT := HT.p1.p1.p2
  have hj41 := Option.some.inj h
  obtain ⟨hi41, hj42⟩ := Prod.mk.inj hj41
  subst hi41
  obtain ⟨hi42, hj43⟩ := Prod.mk.inj hj42
  subst hi42
  obtain ⟨hi43, hj44⟩ := Prod.mk.inj hj43
  subst hi43
  obtain ⟨hi44, hj45⟩ := Prod.mk.inj hj44
  subst hi44
  subst hj45
  exact then_n ⟨(HF.keep (HF.keep HF.nil rfl) rfl), HT⟩
  have h := (if_neg hb13).symm.trans h
  refine wp_if (b' := false) HF rfl (decide_eq_false hb13) ?_
  refine wp_skip ?_
  refine blk_n ?_
  have HT := HT.p2.p2
  have hj46 := Option.some.inj h
  obtain ⟨hi46, hj47⟩ := Prod.mk.inj hj46
  subst hi46
  obtain ⟨hi47, hj48⟩ := Prod.mk.inj hj47
  subst hi47
  obtain ⟨hi48, hj49⟩ := Prod.mk.inj hj48
  subst hi48
  obtain ⟨hi49, hj50⟩ := Prod.mk.inj hj49
  subst hi49
  subst hj50
  exact then_n ⟨(HF.keep (HF.keep HF.nil rfl) rfl), HT⟩
  rintro a w ⟨HF, HT⟩
  refine ?_
  refine wp_seq ?_
  refine wc_text ?_
  refine wc_loadA (vs := [.int .i64 x1, .int .i64 z1, .int .i64 z2, .int .i64 z3]) HF rfl ag25 rfl ((HT.boxAt 1 rfl).part 0 4) rfl rfl (fun a HF => ?_)
  refine wc_storeB (cs' := [.int .i64 x1, .int .i64 z1, .int .i64 z2, .int .i64 z3]) HF HT rfl rfl (fun w => (ag25 w).2) rfl rfl rfl rfl rfl (fun w HT => ⟨nS, ?_⟩)
  refine wc_end ?_
  refine then_n ?_
  refine wp_ret ?_
  have hj51 := Option.some.inj h
  obtain ⟨hi51, hj52⟩ := Prod.mk.inj hj51
  subst hi51
  obtain ⟨hi52, hj53⟩ := Prod.mk.inj hj52
  subst hi52
  obtain ⟨hi53, hj54⟩ := Prod.mk.inj hj53
  subst hi53
  obtain ⟨hi54, hj55⟩ := Prod.mk.inj hj54
  subst hi54
  obtain ⟨hi55, hj56⟩ := Prod.mk.inj hj55
  subst hi55
  subst hj56
  refine bp_ret HF (res_cell (vs := [.int .i64 x1, .int .i64 z1, .int .i64 z2, .int .i64 z3]) rfl HF rfl ag25 rfl (HT.boxAt 0 rfl)) ?_
  have HT := HT.p2.t1
  exact ⟨rfl, HT⟩

def m_spec_DrawReadOp (fuel : Nat) (x0 : List UInt8) : Option Str :=
  bind2 (m_spec_l1New fuel x0) fun y1 y2 =>
  bind3 (m_spec_l1Below fuel x0 y1 y2 16) fun y3 y4 y5 =>
  if in64 (1 + y3) then
    bind6 (m_spec_l4Plain fuel x0 y4 y5 (1 + y3)) fun y6 y7 y8 y9 y10 y11 =>
    (m_spec_ShowOp fuel y6 y7 y8 y9).bind fun y12 =>
    bind3 (m_spec_l1Below fuel x0 y10 y11 6) fun y13 y14 y15 =>
    if y13 = 0 then
      bind3 (m_spec_l1Spoil fuel x0 y14 y15 y12) fun y16 y17 y18 =>
      some y16
    else
    if y13 = 1 then
      bind3 (m_spec_l1Pick fuel x0 y14 y15 ([(⟨[]⟩ : SE), (⟨[115, 101, 116]⟩ : SE), (⟨[115, 101, 116, 32, 48]⟩ : SE), (⟨[115, 101, 116, 32, 48, 32, 54, 53, 53, 51, 54]⟩ : SE), (⟨[115, 101, 116, 32, 48, 32, 48, 49]⟩ : SE), (⟨[114, 101, 97, 100, 32, 52, 32, 48]⟩ : SE), (⟨[101, 110, 100, 32]⟩ : SE), (⟨[32, 101, 110, 100]⟩ : SE), (⟨[101, 110, 100, 32, 48]⟩ : SE), (⟨[112, 117, 116, 32, 48, 32, 48, 32, 48, 32, 48]⟩ : SE), (⟨[115, 107, 105, 112, 32, 48, 32, 48]⟩ : SE), (⟨[107, 105, 100]⟩ : SE)] : List SE)) fun y19 y20 y21 =>
      some y19
    else
    some y12
  else none

set_option maxRecDepth 100000 in
set_option maxHeartbeats 4000000 in
theorem w_spec_DrawReadOp (fuel : Nat) {x0 : List UInt8} {a_x0 : Option Addr} {n_x0 c_x0 : Nat} {r0 : Str} {w0 : World} (h : m_spec_DrawReadOp fuel x0 = some r0) (hr_x0 : RdT (fun b => ¬ False) w0 (rowT x0) (.slice a_x0 n_x0 c_x0)) :
    Calls Try.prog 39 #[.slice a_x0 n_x0 c_x0] w0 fun e w => e = .returned (sv r0) ∧ St w0 (fun _ => False) w [] := by
  obtain rfl := hr_x0.neq
  have HT : St w0 (fun _ => False) w0 [] := St.init0
  rw [m_spec_DrawReadOp] at h
  refine calls_fr (n := 26) [.slice a_x0 x0.length c_x0] Try.func39 rfl rfl rfl (fun a HF => ?_)
  have HT : St w0 (fun _ => False) w0 [] := HT
  refine wp_seq ?_
  refine wc_text ?_
  refine wc_assign HF nS rfl rfl rfl (fun a HF => ?_)
  refine wc_end ?_
  refine then_n ?_
  refine wp_seq ?_
  refine wc_text ?_
  refine wc_move HF nS rfl rfl rfl (fun a HF => ?_)
  obtain ⟨y1, y2, hx1, h⟩ := obs2 h
  refine wc_call HF cf62 rfl (w_spec_l1New fuel hx1 (HT.ro hr_x0).any) rfl rfl ?_
  rintro e w ⟨p1, rfl, hE⟩
  have hb := hE.below
  have HT := HT.pure hE
  have HT : St w0 (fun _ => False) w [Box p1 [.slice a_x0 x0.length c_x0, .int .i64 y1, .int .i64 y2]] := HT
  refine ⟨_, rfl, nS, fun a HF => ?_⟩
  refine wc_assign HF nS rfl rfl rfl (fun a HF => ?_)
  refine wc_end ?_
  refine then_n ?_
  refine wp_seq ?_
  refine wc_text ?_
  refine wc_move HF nS rfl rfl rfl (fun a HF => ?_)
  refine wc_move HF nS rfl rfl rfl (fun a HF => ?_)
  obtain ⟨y3, y4, y5, hx2, h⟩ := obs3 h
  obtain ⟨F1, hAF1, hFF1, hbackF1, hroF1, hownF1, hownAF1⟩ := St.handR2 (A := [Box p1 [.slice a_x0 x0.length c_x0, .int .i64 y1, .int .i64 y2]]) HT
  refine wc_call HF cf69 rfl (w_spec_l1Below fuel hx2 hAF1 (hroF1 hr_x0)) rfl rfl ?_
  rintro e w ⟨rfl, hE⟩
  have HT := hbackF1 _ _ hE
  have HT : St w0 (fun _ => False) w [Box p1 [.slice a_x0 x0.length c_x0, .int .i64 y4, .int .i64 y5]] := HT
  refine ⟨_, rfl, nS, fun a HF => ?_⟩
  obtain ⟨hg1, h⟩ := grd h
  refine wc_bin HF nS rfl rfl (b_add hg1) rfl rfl (fun a HF => ?_)
  obtain ⟨y6, y7, y8, y9, y10, y11, hx3, h⟩ := obs6 h
  obtain ⟨F2, hAF2, hFF2, hbackF2, hroF2, hownF2, hownAF2⟩ := St.handR2 (A := [Box p1 [.slice a_x0 x0.length c_x0, .int .i64 y4, .int .i64 y5]]) HT
  refine wc_call HF cf72 rfl (w_spec_l4Plain fuel hx3 hAF2 (hroF2 hr_x0)) rfl rfl ?_
  rintro e w ⟨rfl, hE⟩
  have HT := hbackF2 _ _ hE
  have HT : St w0 (fun _ => False) w [Box p1 [.slice a_x0 x0.length c_x0, .int .i64 y10, .int .i64 y11]] := HT
  refine ⟨_, rfl, nS, fun a HF => ?_⟩
  obtain ⟨y12, hx4, h⟩ := obs h
  refine wc_call HF cf10 rfl (w_spec_ShowOp fuel hx4) rfl rfl ?_
  rintro e w ⟨rfl, hE⟩
  have hb := hE.below
  have HT := HT.pure hE
  have HT : St w0 (fun _ => False) w [Box p1 [.slice a_x0 x0.length c_x0, .int .i64 y10, .int .i64 y11]] := HT
  refine ⟨_, rfl, nS, fun a HF => ?_⟩
  refine wc_assign HF nS rfl rfl rfl (fun a HF => ?_)
  refine wc_end ?_
  refine then_n ?_
  refine wp_seq ?_
  refine wp_seq ?_
  refine wc_text ?_
  refine wc_move HF nS rfl rfl rfl (fun a HF => ?_)
  obtain ⟨y13, y14, y15, hx5, h⟩ := obs3 h
  obtain ⟨F3, hAF3, hFF3, hbackF3, hroF3, hownF3, hownAF3⟩ := St.handR2 (A := [Box p1 [.slice a_x0 x0.length c_x0, .int .i64 y10, .int .i64 y11]]) HT
  refine wc_call HF cf69 rfl (w_spec_l1Below fuel hx5 hAF3 (hroF3 hr_x0)) rfl rfl ?_
  rintro e w ⟨rfl, hE⟩
  have HT := hbackF3 _ _ hE
  have HT : St w0 (fun _ => False) w [Box p1 [.slice a_x0 x0.length c_x0, .int .i64 y14, .int .i64 y15]] := HT
  refine ⟨_, rfl, nS, fun a HF => ?_⟩
  refine wc_end ?_
  refine then_n ?_
  refine wp_block ?_
  refine wp_seq ?_
  refine wc_text ?_
  refine wc_bin HF nS rfl rfl b_eq rfl rfl (fun a HF => ?_)
  refine wc_assign HF nS rfl rfl rfl (fun a HF => ?_)
  refine wc_end ?_
  refine then_n ?_
  by_cases hb1 : y13 = 0
  have h := (if_pos hb1).symm.trans h
  refine wp_if (b' := true) HF rfl (decide_eq_true hb1) ?_
  refine wp_seq ?_
  refine wc_text ?_
  refine wc_move HF nS rfl rfl rfl (fun a HF => ?_)
  refine wc_move HF nS rfl rfl rfl (fun a HF => ?_)
  obtain ⟨y16, y17, y18, hx6, h⟩ := obs3 h
  obtain ⟨F4, hAF4, hFF4, hbackF4, hroF4, hownF4, hownAF4⟩ := St.handR2 (A := [Box p1 [.slice a_x0 x0.length c_x0, .int .i64 y14, .int .i64 y15]]) HT
  refine wc_call HF cf70 rfl (w_spec_l1Spoil fuel hx6 hAF4 (hroF4 hr_x0)) rfl rfl ?_
  rintro e w ⟨rfl, hE⟩
  have HT := hbackF4 _ _ hE
  have HT : St w0 (fun _ => False) w [Box p1 [.slice a_x0 x0.length c_x0, .int .i64 y17, .int .i64 y18]] := HT
  refine ⟨_, rfl, nS, fun a HF => ?_⟩
  refine wc_assign HF nS rfl rfl rfl (fun a HF => ?_)
  refine wc_end ?_
  refine then_n ?_
  refine wp_ret ?_
  obtain rfl := Option.some.inj h
  refine blk_r (then_r (?_))
  refine bp_ret HF (res_one rfl HF rfl) ?_
  have HT := HT.t0
  exact ⟨rfl, HT⟩
  have h := (if_neg hb1).symm.trans h
  refine wp_if (b' := false) HF rfl (decide_eq_false hb1) ?_
  refine wp_seq ?_
  refine wc_text ?_
  refine wc_bin HF nS rfl rfl b_eq rfl rfl (fun a HF => ?_)
  refine wc_assign HF nS rfl rfl rfl (fun a HF => ?_)
  refine wc_end ?_
  refine then_n ?_
  by_cases hb2 : y13 = 1
  have h := (if_pos hb2).symm.trans h
  refine wp_if (b' := true) HF rfl (decide_eq_true hb2) ?_
  refine wp_seq ?_
  refine wc_text ?_
  refine wc_move HF nS rfl rfl rfl (fun a HF => ?_)
  refine wc_bslice (l := ([(⟨[]⟩ : SE), (⟨[115, 101, 116]⟩ : SE), (⟨[115, 101, 116, 32, 48]⟩ : SE), (⟨[115, 101, 116, 32, 48, 32, 54, 53, 53, 51, 54]⟩ : SE), (⟨[115, 101, 116, 32, 48, 32, 48, 49]⟩ : SE), (⟨[114, 101, 97, 100, 32, 52, 32, 48]⟩ : SE), (⟨[101, 110, 100, 32]⟩ : SE), (⟨[32, 101, 110, 100]⟩ : SE), (⟨[101, 110, 100, 32, 48]⟩ : SE), (⟨[112, 117, 116, 32, 48, 32, 48, 32, 48, 32, 48]⟩ : SE), (⟨[115, 107, 105, 112, 32, 48, 32, 48]⟩ : SE), (⟨[107, 105, 100]⟩ : SE)] : List SE)) (cs := [sv [], sv ([115, 101, 116]), sv ([115, 101, 116, 32, 48]), sv ([115, 101, 116, 32, 48, 32, 54, 53, 53, 51, 54]), sv ([115, 101, 116, 32, 48, 32, 48, 49]), sv ([114, 101, 97, 100, 32, 52, 32, 48]), sv ([101, 110, 100, 32]), sv ([32, 101, 110, 100]), sv ([101, 110, 100, 32, 48]), sv ([112, 117, 116, 32, 48, 32, 48, 32, 48, 32, 48]), sv ([115, 107, 105, 112, 32, 48, 32, 48]), sv ([107, 105, 100])]) (A := []) HF HT bs62_12 rfl rfl (gives_flat rfl) rfl (by decide) rfl rfl (fun p2 w HT hb  => ⟨nS, fun a HF => ?_⟩)
  obtain ⟨y19, y20, y21, hx7, h⟩ := obs3 h
  have HT := HT.p1
  obtain ⟨F5, hAF5, hFF5, hbackF5, hroF5, hownF5, hownAF5⟩ := St.handR2 (A := [Box p1 [.slice a_x0 x0.length c_x0, .int .i64 y14, .int .i64 y15]]) HT
  refine wc_call HF cf71 rfl (w_spec_l1Pick fuel hx7 hAF5 (hroF5 hr_x0) (hownF5 _ _ _ (List.mem_of_getElem? (i := 0) rfl))) rfl rfl ?_
  rintro e w ⟨rfl, hE⟩
  have HT := hbackF5 _ _ hE
  have HT : St w0 (fun _ => False) w [Box p1 [.slice a_x0 x0.length c_x0, .int .i64 y20, .int .i64 y21], Own 9 (rowT ([(⟨[]⟩ : SE), (⟨[115, 101, 116]⟩ : SE), (⟨[115, 101, 116, 32, 48]⟩ : SE), (⟨[115, 101, 116, 32, 48, 32, 54, 53, 53, 51, 54]⟩ : SE), (⟨[115, 101, 116, 32, 48, 32, 48, 49]⟩ : SE), (⟨[114, 101, 97, 100, 32, 52, 32, 48]⟩ : SE), (⟨[101, 110, 100, 32]⟩ : SE), (⟨[32, 101, 110, 100]⟩ : SE), (⟨[101, 110, 100, 32, 48]⟩ : SE), (⟨[112, 117, 116, 32, 48, 32, 48, 32, 48, 32, 48]⟩ : SE), (⟨[115, 107, 105, 112, 32, 48, 32, 48]⟩ : SE), (⟨[107, 105, 100]⟩ : SE)] : List SE)) (.slice (some ⟨p2, 0, none⟩) 12 12)] := HT
  refine ⟨_, rfl, nS, fun a HF => ?_⟩
  refine wc_assign HF nS rfl rfl rfl (fun a HF => ?_)
  refine wc_end ?_
  refine then_n ?_
  refine wp_ret ?_
  obtain rfl := Option.some.inj h
  refine blk_r (then_r (?_))
  refine bp_ret HF (res_one rfl HF rfl) ?_
  have HT := HT.t0
  exact ⟨rfl, HT⟩
  have h := (if_neg hb2).symm.trans h
  refine wp_if (b' := false) HF rfl (decide_eq_false hb2) ?_
  refine wp_skip ?_
  refine blk_n ?_
  refine then_n ?_
  refine wp_seq ?_
  refine wc_text ?_
  refine wc_move HF nS rfl rfl rfl (fun a HF => ?_)
  refine wc_assign HF nS rfl rfl rfl (fun a HF => ?_)
  refine wc_end ?_
  refine then_n ?_
  refine wp_ret ?_
  obtain rfl := Option.some.inj h
  refine bp_ret HF (res_one rfl HF rfl) ?_
  have HT := HT.t0
  exact ⟨rfl, HT⟩

def m_spec_ShowCode_L0 (fuel : Nat) (x0 : List I4) : Nat → Str → Int → Option Str
  | 0, _, _ => none
  | k1 + 1, z2, z3 =>
    if z3 < (x0.length : Int) then
      (at? x0 z3).bind fun e1 =>
      (m_spec_ShowOp fuel e1.a e1.b e1.c e1.d).bind fun y2 =>
      if ((z2.length + y2.length : Nat) : Int) ≤ 9223372036854775807 then
        if (((z2 ++ y2).length + [10].length : Nat) : Int) ≤ 9223372036854775807 then
          if in64 (z3 + 1) then
            m_spec_ShowCode_L0 fuel x0 k1 ((z2 ++ y2) ++ [10]) (z3 + 1)
          else none
        else none
      else none
    else
    some z2

def m_spec_ShowCode (fuel : Nat) (x0 : List I4) : Option Str :=
  (m_spec_CodeOk fuel x0).bind fun y1 =>
  if y1 = true then
    (m_spec_ShowCode_L0 fuel x0 fuel [] 0).bind fun z1 =>
    some z1
  else
  some []

set_option maxRecDepth 100000 in
set_option maxHeartbeats 4000000 in
theorem w_spec_ShowCode (fuel : Nat) {x0 : List I4} {a_x0 : Option Addr} {n_x0 c_x0 : Nat} {r0 : Str} {w0 : World} (h : m_spec_ShowCode fuel x0 = some r0) (hr_x0 : RdT (fun b => ¬ False) w0 (rowT x0) (.slice a_x0 n_x0 c_x0)) :
    Calls Try.prog 17 #[.slice a_x0 n_x0 c_x0] w0 fun e w => e = .returned (sv r0) ∧ St w0 (fun _ => False) w [] := by
  obtain rfl := hr_x0.neq
  have HT : St w0 (fun _ => False) w0 [] := St.init0
  rw [m_spec_ShowCode] at h
  refine calls_fr (n := 23) [.slice a_x0 x0.length c_x0] Try.func17 rfl rfl rfl (fun a HF => ?_)
  have HT : St w0 (fun _ => False) w0 [] := HT
  refine wp_seq ?_
  refine wc_text ?_
  refine wc_assign HF nS rfl rfl rfl (fun a HF => ?_)
  refine wc_end ?_
  refine then_n ?_
  refine wp_seq ?_
  refine wp_seq ?_
  refine wc_text ?_
  refine wc_move HF nS rfl rfl rfl (fun a HF => ?_)
  obtain ⟨y1, hx1, h⟩ := obs h
  refine wc_call HF cf52 rfl (w_spec_CodeOk fuel hx1 (HT.ro hr_x0).any) rfl rfl ?_
  rintro e w ⟨rfl, hE⟩
  have hb := hE.below
  have HT := HT.pure hE
  have HT : St w0 (fun _ => False) w [] := HT
  refine ⟨_, rfl, nS, fun a HF => ?_⟩
  refine wc_not HF nS rfl rfl rfl (fun a HF => ?_)
  refine wc_end ?_
  refine then_n ?_
  by_cases hb1 : y1 = true
  have h := (if_pos hb1).symm.trans h
  refine wp_if (b' := false) HF rfl (notT hb1) ?_
  refine wp_skip ?_
  refine then_n ?_
  refine wp_seq ?_
  refine wc_text ?_
  refine wc_assign HF nS rfl rfl rfl (fun a HF => ?_)
  refine wc_end ?_
  refine then_n ?_
  obtain ⟨z1, hx2, h⟩ := obs h
  refine wp_cut (fun a w => Fr a 23 [(3, sv z1)] ∧ St w0 (fun _ => False) w []) ?_ ?_
  have hk1 := h
  have h := hx2
  refine wp_seq ?_
  refine wc_text ?_
  refine wc_assign HF nS rfl rfl rfl (fun a HF => ?_)
  refine wc_end ?_
  refine then_n ?_
  refine wp_block ?_
  refine wp_loopN (fun k1 a w => ∃ z2 z3, m_spec_ShowCode_L0 fuel x0 k1 z2 z3 = some z1 ∧ Fr a 23 [(0, .slice a_x0 x0.length c_x0), (3, sv z2), (4, .int .i64 z3)] ∧ St w0 (fun _ => False) w []) fuel ⟨[], 0, h, (HF.keep (HF.keep (HF.keep HF.nil rfl) rfl) rfl), HT⟩ ?_
  rintro k1 a w ⟨z2, z3, h, HF, HT⟩
  rcases k1 with _ | k1
  cases h
  rw [m_spec_ShowCode_L0] at h
  refine ?_
  refine wp_seq ?_
  refine wp_seq ?_
  refine wc_text ?_
  refine wc_move HF nS rfl rfl rfl (fun a HF => ?_)
  refine wc_move HF nS rfl rfl rfl (fun a HF => ?_)
  refine wc_lenR HF nS Try.underlying35 rfl rfl rfl (fun a HF => ?_)
  refine wc_bin HF nS rfl rfl b_lt rfl rfl (fun a HF => ?_)
  refine wc_end ?_
  refine then_n ?_
  by_cases hb2 : z3 < (x0.length : Int)
  have h := (if_pos hb2).symm.trans h
  refine wp_if (b' := true) HF rfl (decide_eq_true hb2) ?_
  refine wp_skip ?_
  refine then_n ?_
  refine wp_seq ?_
  refine wp_block ?_
  refine wc_text ?_
  refine wc_move HF nS rfl rfl rfl (fun a HF => ?_)
  refine wc_move HF nS rfl rfl rfl (fun a HF => ?_)
  refine wc_move HF nS rfl rfl rfl (fun a HF => ?_)
  obtain ⟨e1, hx3, h⟩ := obs h
  obtain ⟨b1, o1, ha1⟩ := (HT.ro hr_x0).any.addr hx3
  refine wc_ixaddr HF nS el35 rfl ha1 ((HT.ro hr_x0).any).neq rfl hx3 rfl rfl (fun a HF => ?_)
  have hc1 := (HT.ro hr_x0).any.flatAt ha1 hx3
  refine wc_loadA (vs := [.int .i64 e1.a, .int .i64 e1.b, .int .i64 e1.c, .int .i64 e1.d]) HF rfl ag25 rfl (hc1.part 0 4) rfl rfl (fun a HF => ?_)
  obtain ⟨y2, hx4, h⟩ := obs h
  refine wc_call HF cf10 rfl (w_spec_ShowOp fuel hx4) rfl rfl ?_
  rintro e w ⟨rfl, hE⟩
  have hb := hE.below
  have HT := HT.pure hE
  have HT : St w0 (fun _ => False) w [] := HT
  refine ⟨_, rfl, nS, fun a HF => ?_⟩
  obtain ⟨hg1, h⟩ := grd h
  refine wc_bin HF nS rfl rfl (b_cat hg1) rfl rfl (fun a HF => ?_)
  obtain ⟨hg2, h⟩ := grd h
  refine wc_bin HF nS rfl rfl (b_cat hg2) rfl rfl (fun a HF => ?_)
  refine wc_assign HF nS rfl rfl rfl (fun a HF => ?_)
  refine wc_end ?_
  refine blk_n ?_
  refine then_n ?_
  refine wc_text ?_
  refine wc_move HF nS rfl rfl rfl (fun a HF => ?_)
  obtain ⟨hg3, h⟩ := grd h
  refine wc_bin HF nS rfl rfl (b_add hg3) rfl rfl (fun a HF => ?_)
  refine wc_assign HF nS rfl rfl rfl (fun a HF => ?_)
  refine wc_end ?_
  exact then_n ⟨k1, Nat.lt_succ_self k1, (z2 ++ y2) ++ [10], z3 + 1, h, (HF.keep (HF.keep (HF.keep HF.nil rfl) rfl) rfl), HT⟩
  have h := (if_neg hb2).symm.trans h
  refine wp_if (b' := false) HF rfl (decide_eq_false hb2) ?_
  refine wp_exit ?_
  refine then_x (then_x (?_))
  refine blk_x ?_
  obtain rfl := Option.some.inj h
  exact then_n ⟨(HF.keep HF.nil rfl), HT⟩
  rintro a w ⟨HF, HT⟩
  refine ?_
  refine wp_seq ?_
  refine wc_text ?_
  refine wc_move HF nS rfl rfl rfl (fun a HF => ?_)
  refine wc_assign HF nS rfl rfl rfl (fun a HF => ?_)
  refine wc_end ?_
  refine then_n ?_
  refine wp_ret ?_
  obtain rfl := Option.some.inj h
  refine bp_ret HF (res_one rfl HF rfl) ?_
  exact ⟨rfl, HT⟩
  have h := (if_neg hb1).symm.trans h
  refine wp_if (b' := true) HF rfl (notF (Bool.eq_false_iff.2 hb1)) ?_
  refine wp_seq ?_
  refine wc_text ?_
  refine wc_assign HF nS rfl rfl rfl (fun a HF => ?_)
  refine wc_end ?_
  refine then_n ?_
  refine wp_ret ?_
  obtain rfl := Option.some.inj h
  refine then_r (?_)
  refine bp_ret HF (res_one rfl HF rfl) ?_
  exact ⟨rfl, HT⟩

def m_spec_ShowProg_L0 (fuel : Nat) (x0_1 : List KidD) : Nat → Str → Int → Option Str
  | 0, _, _ => none
  | k1 + 1, z2, z3 =>
    if z3 < (x0_1.length : Int) then
      if ((z2.length + ([107, 105, 100, 10]).length : Nat) : Int) ≤ 9223372036854775807 then
        (at? x0_1 z3).bind fun e1 =>
        (m_spec_ShowCode fuel e1.code).bind fun y3 =>
        if (((z2 ++ ([107, 105, 100, 10])).length + y3.length : Nat) : Int) ≤ 9223372036854775807 then
          if in64 (z3 + 1) then
            m_spec_ShowProg_L0 fuel x0_1 k1 ((z2 ++ ([107, 105, 100, 10])) ++ y3) (z3 + 1)
          else none
        else none
      else none
    else
    some z2

def m_spec_ShowProg (fuel : Nat) (x0_0 : List I4) (x0_1 : List KidD) : Option Str :=
  (m_spec_ProgOk fuel x0_0 x0_1).bind fun y1 =>
  if y1 = true then
    (m_spec_ShowCode fuel x0_0).bind fun y2 =>
    (m_spec_ShowProg_L0 fuel x0_1 fuel y2 0).bind fun z1 =>
    some z1
  else
  some []

set_option maxRecDepth 100000 in
set_option maxHeartbeats 4000000 in
theorem w_spec_ShowProg (fuel : Nat) {x0_0 : List I4} {x0_1 : List KidD} {a_x0_0 : Option Addr} {n_x0_0 c_x0_0 : Nat} {a_x0_1 : Option Addr} {n_x0_1 c_x0_1 : Nat} {r0 : Str} {w0 : World} (h : m_spec_ShowProg fuel x0_0 x0_1 = some r0) (hr_x0_0 : RdT (fun b => ¬ False) w0 (rowT x0_0) (.slice a_x0_0 n_x0_0 c_x0_0)) (hr_x0_1 : RdT (fun b => ¬ False) w0 (rowT x0_1) (.slice a_x0_1 n_x0_1 c_x0_1)) :
    Calls Try.prog 26 #[.agg #[.slice a_x0_0 n_x0_0 c_x0_0, .slice a_x0_1 n_x0_1 c_x0_1]] w0 fun e w => e = .returned (sv r0) ∧ St w0 (fun _ => False) w [] := by
  obtain rfl := hr_x0_0.neq
  obtain rfl := hr_x0_1.neq
  have HT : St w0 (fun _ => False) w0 [] := St.init0
  rw [m_spec_ShowProg] at h
  refine calls_fr (n := 29) [.agg #[.slice a_x0_0 x0_0.length c_x0_0, .slice a_x0_1 x0_1.length c_x0_1]] Try.func26 rfl rfl rfl (fun a HF => ?_)
  have HT : St w0 (fun _ => False) w0 [] := HT
  refine wp_seq ?_
  refine wc_text ?_
  refine wc_box (cs := [.slice a_x0_0 x0_0.length c_x0_0, .slice a_x0_1 x0_1.length c_x0_1]) HF HT rfl rfl rfl rfl (fun p1 w HT hb => ⟨nS, fun a HF => ?_⟩)
  refine wc_assign HF nS rfl rfl rfl (fun a HF => ?_)
  refine wc_end ?_
  refine then_n ?_
  refine wp_seq ?_
  refine wp_seq ?_
  refine wc_text ?_
  refine wc_loadA (vs := [.slice a_x0_0 x0_0.length c_x0_0, .slice a_x0_1 x0_1.length c_x0_1]) HF rfl ag49 rfl ((HT.boxAt 0 rfl).part 0 2) rfl rfl (fun a HF => ?_)
  obtain ⟨y1, hx1, h⟩ := obs h
  refine wc_call HF cf36 rfl (w_spec_ProgOk fuel hx1 (HT.ro hr_x0_0).any (HT.ro hr_x0_1).any) rfl rfl ?_
  rintro e w ⟨rfl, hE⟩
  have hb := hE.below
  have HT := HT.pure hE
  have HT : St w0 (fun _ => False) w [Box p1 [.slice a_x0_0 x0_0.length c_x0_0, .slice a_x0_1 x0_1.length c_x0_1]] := HT
  refine ⟨_, rfl, nS, fun a HF => ?_⟩
  refine wc_not HF nS rfl rfl rfl (fun a HF => ?_)
  refine wc_end ?_
  refine then_n ?_
  by_cases hb1 : y1 = true
  have h := (if_pos hb1).symm.trans h
  refine wp_if (b' := false) HF rfl (notT hb1) ?_
  refine wp_skip ?_
  refine then_n ?_
  refine wp_seq ?_
  refine wc_text ?_
  refine wc_faddr HF nS rfl fl49_0 rfl rfl (fun a HF => ?_)
  refine wc_load HF rfl sc35 ((HT.boxAt 0 rfl).get 0 rfl) rfl rfl (fun a HF => ?_)
  obtain ⟨y2, hx2, h⟩ := obs h
  refine wc_call HF cf17 rfl (w_spec_ShowCode fuel hx2 (HT.ro hr_x0_0).any) rfl rfl ?_
  rintro e w ⟨rfl, hE⟩
  have hb := hE.below
  have HT := HT.pure hE
  have HT : St w0 (fun _ => False) w [Box p1 [.slice a_x0_0 x0_0.length c_x0_0, .slice a_x0_1 x0_1.length c_x0_1]] := HT
  refine ⟨_, rfl, nS, fun a HF => ?_⟩
  refine wc_assign HF nS rfl rfl rfl (fun a HF => ?_)
  refine wc_end ?_
  refine then_n ?_
  obtain ⟨z1, hx3, h⟩ := obs h
  refine wp_cut (fun a w => Fr a 29 [(3, sv z1)] ∧ St w0 (fun _ => False) w []) ?_ ?_
  have hk1 := h
  have h := hx3
  refine wp_seq ?_
  refine wc_text ?_
  refine wc_assign HF nS rfl rfl rfl (fun a HF => ?_)
  refine wc_end ?_
  refine then_n ?_
  refine wp_block ?_
  refine wp_loopN (fun k1 a w => ∃ z2 z3, m_spec_ShowProg_L0 fuel x0_1 k1 z2 z3 = some z1 ∧ Fr a 29 [(1, .pointer (some ⟨p1, 0, none⟩)), (3, sv z2), (4, .int .i64 z3)] ∧ St w0 (fun _ => False) w [Box p1 [.slice a_x0_0 x0_0.length c_x0_0, .slice a_x0_1 x0_1.length c_x0_1]]) fuel ⟨y2, 0, h, (HF.keep (HF.keep (HF.keep HF.nil rfl) rfl) rfl), HT⟩ ?_
  rintro k1 a w ⟨z2, z3, h, HF, HT⟩
  rcases k1 with _ | k1
  cases h
  rw [m_spec_ShowProg_L0] at h
  refine ?_
  refine wp_seq ?_
  refine wp_seq ?_
  refine wc_text ?_
  refine wc_move HF nS rfl rfl rfl (fun a HF => ?_)
  refine wc_faddr HF nS rfl fl49_1 rfl rfl (fun a HF => ?_)
  refine wc_load HF rfl sc47 ((HT.boxAt 0 rfl).get 1 rfl) rfl rfl (fun a HF => ?_)
  refine wc_lenR HF nS Try.underlying47 rfl rfl rfl (fun a HF => ?_)
  refine wc_bin HF nS rfl rfl b_lt rfl rfl (fun a HF => ?_)
  refine wc_end ?_
  refine then_n ?_
  by_cases hb2 : z3 < (x0_1.length : Int)
  have h := (if_pos hb2).symm.trans h
  refine wp_if (b' := true) HF rfl (decide_eq_true hb2) ?_
  refine wp_skip ?_
  refine then_n ?_
  refine wp_seq ?_
  refine wp_block ?_
  refine wc_text ?_
  refine wc_move HF nS rfl rfl rfl (fun a HF => ?_)
  obtain ⟨hg1, h⟩ := grd h
  refine wc_bin HF nS rfl rfl (b_cat hg1) rfl rfl (fun a HF => ?_)
  refine wc_faddr HF nS rfl fl49_1 rfl rfl (fun a HF => ?_)
  refine wc_load HF rfl sc47 ((HT.boxAt 0 rfl).get 1 rfl) rfl rfl (fun a HF => ?_)
  refine wc_move HF nS rfl rfl rfl (fun a HF => ?_)
  obtain ⟨e1, hx4, h⟩ := obs h
  obtain ⟨b1, o1, ha1⟩ := (HT.ro hr_x0_1).any.addr hx4
  refine wc_ixaddr HF nS el47 rfl ha1 ((HT.ro hr_x0_1).any).neq rfl hx4 rfl rfl (fun a HF => ?_)
  refine wc_faddr HF nS rfl fl77_0 rfl rfl (fun a HF => ?_)
  obtain ⟨_, hP1, hc1, hr1⟩ := hr_x0_1.elemAt ha1 hx4
  obtain ⟨a1, c1, rfl, hr2⟩ := cells_Kid hr1
  have hc2 := HT.roLd hP1 hc1
  refine wc_load HF rfl sc35 (hc2.get 0 rfl) rfl rfl (fun a HF => ?_)
  obtain ⟨y3, hx5, h⟩ := obs h
  refine wc_call HF cf17 rfl (w_spec_ShowCode fuel hx5 (HT.ro hr2).any) rfl rfl ?_
  rintro e w ⟨rfl, hE⟩
  have hb := hE.below
  have HT := HT.pure hE
  have HT : St w0 (fun _ => False) w [Box p1 [.slice a_x0_0 x0_0.length c_x0_0, .slice a_x0_1 x0_1.length c_x0_1]] := HT
  refine ⟨_, rfl, nS, fun a HF => ?_⟩
  obtain ⟨hg2, h⟩ := grd h
  refine wc_bin HF nS rfl rfl (b_cat hg2) rfl rfl (fun a HF => ?_)
  refine wc_assign HF nS rfl rfl rfl (fun a HF => ?_)
  refine wc_end ?_
  refine blk_n ?_
  refine then_n ?_
  refine wc_text ?_
  refine wc_move HF nS rfl rfl rfl (fun a HF => ?_)
  obtain ⟨hg3, h⟩ := grd h
  refine wc_bin HF nS rfl rfl (b_add hg3) rfl rfl (fun a HF => ?_)
  refine wc_assign HF nS rfl rfl rfl (fun a HF => ?_)
  refine wc_end ?_
  exact then_n ⟨k1, Nat.lt_succ_self k1, (z2 ++ ([107, 105, 100, 10])) ++ y3, z3 + 1, h, (HF.keep (HF.keep (HF.keep HF.nil rfl) rfl) rfl), HT⟩
  have h := (if_neg hb2).symm.trans h
  refine wp_if (b' := false) HF rfl (decide_eq_false hb2) ?_
  refine wp_exit ?_
  refine then_x (then_x (?_))
  refine blk_x ?_
  have HT := HT.t0
  obtain rfl := Option.some.inj h
  exact then_n ⟨(HF.keep HF.nil rfl), HT⟩
  rintro a w ⟨HF, HT⟩
  refine ?_
  refine wp_seq ?_
  refine wc_text ?_
  refine wc_move HF nS rfl rfl rfl (fun a HF => ?_)
  refine wc_assign HF nS rfl rfl rfl (fun a HF => ?_)
  refine wc_end ?_
  refine then_n ?_
  refine wp_ret ?_
  obtain rfl := Option.some.inj h
  refine bp_ret HF (res_one rfl HF rfl) ?_
  exact ⟨rfl, HT⟩
  have h := (if_neg hb1).symm.trans h
  refine wp_if (b' := true) HF rfl (notF (Bool.eq_false_iff.2 hb1)) ?_
  refine wp_seq ?_
  refine wc_text ?_
  refine wc_assign HF nS rfl rfl rfl (fun a HF => ?_)
  refine wc_end ?_
  refine then_n ?_
  refine wp_ret ?_
  obtain rfl := Option.some.inj h
  refine then_r (?_)
  refine bp_ret HF (res_one rfl HF rfl) ?_
  have HT := HT.t0
  exact ⟨rfl, HT⟩

def m_spec_l5Gen_L0 (fuel : Nat) (x0_0 : List UInt8) (x1 : Int) (x2 : Int) (x3 : Bool) (rcf : (List UInt8) → Int → Int → Int → Int → Bool → Option (List I4 × Int × Int)) : Nat → Int → Int → (List I4) → Int → Option (List I4 × Int × Int)
  | 0, _, _, _, _ => none
  | k1 + 1, z4, z5, z6, z7 =>
    (
      if 0 < z7 then
        some (decide ((z6.length : Int) < x1))
      else
      some false).bind fun z8 =>
    if z8 = true then
      bind3 (
        bind3 (m_spec_l1Below fuel x0_0 z4 z5 20) fun y4 y5 y6 =>
        if y4 < 5 then
          bind6 (m_spec_l4Plain fuel x0_0 y5 y6 5) fun y7 y8 y9 y10 y11 y12 =>
          if z6.length + 1 ≤ 17179869184 then
            some (y11, y12, z6 ++ ([(⟨y7, y8, y9, y10⟩ : I4)] : List I4))
          else none
        else
        if y4 < 10 then
          bind6 (m_spec_l4Plain fuel x0_0 y5 y6 6) fun y13 y14 y15 y16 y17 y18 =>
          if z6.length + 1 ≤ 17179869184 then
            some (y17, y18, z6 ++ ([(⟨y13, y14, y15, y16⟩ : I4)] : List I4))
          else none
        else
        if y4 < 12 then
          bind3 (m_spec_l1Below fuel x0_0 y5 y6 4) fun y19 y20 y21 =>
          if in64 (1 + y19) then
            bind6 (m_spec_l4Plain fuel x0_0 y20 y21 (1 + y19)) fun y22 y23 y24 y25 y26 y27 =>
            if z6.length + 1 ≤ 17179869184 then
              some (y26, y27, z6 ++ ([(⟨y22, y23, y24, y25⟩ : I4)] : List I4))
            else none
          else none
        else
        (
          if y4 = 12 then
            if 0 < x2 then
              if in64 (x1 - (z6.length : Int)) then
                some (decide (4 ≤ (x1 - (z6.length : Int))))
              else none
            else
            some false
          else
          some false).bind fun z12 =>
        if z12 = true then
          if in64 (x1 - (z6.length : Int)) then
            if in64 ((x1 - (z6.length : Int)) - 3) then
              if in64 (x2 - 1) then
                bind3 (rcf x0_0 y5 y6 ((x1 - (z6.length : Int)) - 3) (x2 - 1) x3) fun y28 y29 y30 =>
                bind6 (m_spec_l4Plain fuel x0_0 y29 y30 8) fun y31 y32 y33 y34 y35 y36 =>
                if z6.length + 1 ≤ 17179869184 then
                  if (z6 ++ ([(⟨y31, y32, y33, y34⟩ : I4)] : List I4)).length + y28.length ≤ 17179869184 then
                    bind3 (
                      bind3 (m_spec_l1Once fuel x0_0 y35 y36 3) fun y37 y38 y39 =>
                      if y37 = true then
                        if ((z6 ++ ([(⟨y31, y32, y33, y34⟩ : I4)] : List I4)) ++ y28).length + 1 ≤ 17179869184 then
                          some (y38, y39, ((z6 ++ ([(⟨y31, y32, y33, y34⟩ : I4)] : List I4)) ++ y28) ++ ([(⟨10, 0, 0, 0⟩ : I4)] : List I4))
                        else none
                      else
                      some (y38, y39, (z6 ++ ([(⟨y31, y32, y33, y34⟩ : I4)] : List I4)) ++ y28)) fun z13 z14 z15 =>
                    if z15.length + 1 ≤ 17179869184 then
                      some (z13, z14, z15 ++ ([(⟨9, 0, 0, 0⟩ : I4)] : List I4))
                    else none
                  else none
                else none
              else none
            else none
          else none
        else
        (
          if y4 = 13 then
            if in64 (x1 - (z6.length : Int)) then
              some (decide (3 ≤ (x1 - (z6.length : Int))))
            else none
          else
          some false).bind fun z16 =>
        if z16 = true then
          bind3 (rcf x0_0 y5 y6 2 0 x3) fun y40 y41 y42 =>
          bind6 (m_spec_l4Plain fuel x0_0 y41 y42 7) fun y43 y44 y45 y46 y47 y48 =>
          if z6.length + 1 ≤ 17179869184 then
            if (z6 ++ ([(⟨y43, y44, (y40.length : Int), y46⟩ : I4)] : List I4)).length + y40.length ≤ 17179869184 then
              some (y47, y48, (z6 ++ ([(⟨y43, y44, (y40.length : Int), y46⟩ : I4)] : List I4)) ++ y40)
            else none
          else none
        else
        bind3 (
          if y4 = 14 then
            bind3 (m_spec_l1Once fuel x0_0 y5 y6 6) fun y49 y50 y51 =>
            some (y50, y51, y49)
          else
          some (y5, y6, false)) fun z17 z18 z19 =>
        if z19 = true then
          if z6.length + 1 ≤ 17179869184 then
            some (z17, z18, z6 ++ ([(⟨10, 0, 0, 0⟩ : I4)] : List I4))
          else none
        else
        if x3 = true then
          bind3 (m_spec_l1Below fuel x0_0 z17 z18 3) fun y52 y53 y54 =>
          if in64 (1 + y52) then
            bind6 (m_spec_l4Plain fuel x0_0 y53 y54 (1 + y52)) fun y55 y56 y57 y58 y59 y60 =>
            if z6.length + 1 ≤ 17179869184 then
              some (y59, y60, z6 ++ ([(⟨y55, y56, y57, y58⟩ : I4)] : List I4))
            else none
          else none
        else
        bind3 (m_spec_l1Below fuel x0_0 z17 z18 5) fun y61 y62 y63 =>
        if in64 (12 + y61) then
          bind6 (m_spec_l4Plain fuel x0_0 y62 y63 (12 + y61)) fun y64 y65 y66 y67 y68 y69 =>
          if z6.length + 1 ≤ 17179869184 then
            some (y68, y69, z6 ++ ([(⟨y64, y65, y66, y67⟩ : I4)] : List I4))
          else none
        else none) fun z9 z10 z11 =>
      if in64 (z7 - 1) then
        m_spec_l5Gen_L0 fuel x0_0 x1 x2 x3 rcf k1 z9 z10 z11 (z7 - 1)
      else none
    else
    some (z6, z4, z5)

def m_spec_l5Gen_S (rcf : (List UInt8) → Int → Int → Int → Int → Bool → Option (List I4 × Int × Int)) (fuel : Nat) (x0_0 : List UInt8) (x0_1 : Int) (x0_2 : Int) (x1 : Int) (x2 : Int) (x3 : Bool) : Option (List I4 × Int × Int) :=
  bind3 (
    bind3 (m_spec_l1Below fuel x0_0 x0_1 x0_2 x1) fun y1 y2 y3 =>
    if in64 (1 + y1) then
      m_spec_l5Gen_L0 fuel x0_0 x1 x2 x3 rcf fuel y2 y3 ([] : List I4) (1 + y1)
    else none) fun z1 z2 z3 =>
  some (z1, z2, z3)
def m_spec_l5Gen_R (fuel : Nat) : Nat → (List UInt8) → Int → Int → Int → Int → Bool → Option (List I4 × Int × Int)
  | 0, _, _, _, _, _, _ => none
  | k + 1, x0_0, x0_1, x0_2, x1, x2, x3 => m_spec_l5Gen_S (m_spec_l5Gen_R fuel k) fuel x0_0 x0_1 x0_2 x1 x2 x3
def m_spec_l5Gen (fuel : Nat) (x0_0 : List UInt8) (x0_1 : Int) (x0_2 : Int) (x1 : Int) (x2 : Int) (x3 : Bool) : Option (List I4 × Int × Int) := m_spec_l5Gen_R fuel fuel x0_0 x0_1 x0_2 x1 x2 x3

set_option maxRecDepth 100000 in
set_option maxHeartbeats 4000000 in
theorem w_spec_l5Gen_S (rcf : (List UInt8) → Int → Int → Int → Int → Bool → Option (List I4 × Int × Int)) (ih : ∀ {x0_0 : List UInt8} {x0_1 : Int} {x0_2 : Int} {x1 : Int} {x2 : Int} {x3 : Bool} {a_x0_0 : Option Addr} {n_x0_0 c_x0_0 : Nat} {p_0 : Nat} {r0 : List I4} {x0_1' : Int} {x0_2' : Int} {F : Foot} {w0 : World} (h : rcf x0_0 x0_1 x0_2 x1 x2 x3 = some (r0, x0_1', x0_2')) (hA : StF w0 F [Box p_0 [.slice a_x0_0 n_x0_0 c_x0_0, .int .i64 x0_1, .int .i64 x0_2]]) (hr_x0_0 : RdT (fun b => ¬ F b) w0 (rowT x0_0) (.slice a_x0_0 n_x0_0 c_x0_0)), Calls Try.prog 92 #[.pointer (some ⟨p_0, 0, none⟩), .int .i64 x1, .int .i64 x2, .bool x3] w0 fun e w => ∃ a_r0 n_r0 c_r0, e = .returned (.slice a_r0 n_r0 c_r0) ∧ St w0 F w [Own 25 (rowT r0) (.slice a_r0 n_r0 c_r0), Box p_0 [.slice a_x0_0 n_x0_0 c_x0_0, .int .i64 x0_1', .int .i64 x0_2']]) (fuel : Nat) {x0_0 : List UInt8} {x0_1 : Int} {x0_2 : Int} {x1 : Int} {x2 : Int} {x3 : Bool} {a_x0_0 : Option Addr} {n_x0_0 c_x0_0 : Nat} {p_0 : Nat} {r0 : List I4} {x0_1' : Int} {x0_2' : Int} {F : Foot} {w0 : World} (h : m_spec_l5Gen_S rcf fuel x0_0 x0_1 x0_2 x1 x2 x3 = some (r0, x0_1', x0_2')) (hA : StF w0 F [Box p_0 [.slice a_x0_0 n_x0_0 c_x0_0, .int .i64 x0_1, .int .i64 x0_2]]) (hr_x0_0 : RdT (fun b => ¬ F b) w0 (rowT x0_0) (.slice a_x0_0 n_x0_0 c_x0_0)) :
    Calls Try.prog 92 #[.pointer (some ⟨p_0, 0, none⟩), .int .i64 x1, .int .i64 x2, .bool x3] w0 fun e w => ∃ a_r0 n_r0 c_r0, e = .returned (.slice a_r0 n_r0 c_r0) ∧ St w0 F w [Own 25 (rowT r0) (.slice a_r0 n_r0 c_r0), Box p_0 [.slice a_x0_0 n_x0_0 c_x0_0, .int .i64 x0_1', .int .i64 x0_2']] := by
  have HT0 := St.init hA
  obtain rfl := hr_x0_0.neq
  have HT : St w0 F w0 [Box p_0 [.slice a_x0_0 x0_0.length c_x0_0, .int .i64 x0_1, .int .i64 x0_2]] := St.init hA
  rw [m_spec_l5Gen_S] at h
  refine calls_fr (n := 156) [.pointer (some ⟨p_0, 0, none⟩), .int .i64 x1, .int .i64 x2, .bool x3] Try.func92 rfl rfl rfl (fun a HF => ?_)
  have HT : St w0 F w0 [Box p_0 [.slice a_x0_0 x0_0.length c_x0_0, .int .i64 x0_1, .int .i64 x0_2]] := HT
  refine wp_seq ?_
  refine wc_text ?_
  refine wc_assign HF nS rfl rfl rfl (fun a HF => ?_)
  refine wc_end ?_
  refine then_n ?_
  refine wp_seq ?_
  refine wc_text ?_
  refine wc_bslice (l := ([] : List I4)) (cs := []) (A := []) HF HT bs35_0 rfl rfl (gives_flat rfl) rfl (by decide) rfl rfl (fun p1 w HT hb  => ⟨nS, fun a HF => ?_⟩)
  refine wc_assign HF nS rfl rfl rfl (fun a HF => ?_)
  refine wc_end ?_
  refine then_n ?_
  obtain ⟨z1, z2, z3, hx1, h⟩ := obs3 h
  refine wp_cut (fun a w => ∃ a1 n1 c1, Fr a 156 [(9, .slice a1 n1 c1)] ∧ St w0 F w [Own 25 (rowT z1) (.slice a1 n1 c1), Box p_0 [.slice a_x0_0 x0_0.length c_x0_0, .int .i64 z2, .int .i64 z3]]) ?_ ?_
  have hk1 := h
  have h := hx1
  refine wp_seq ?_
  refine wc_text ?_
  refine wc_move HF nS rfl rfl rfl (fun a HF => ?_)
  refine wc_move HF nS rfl rfl rfl (fun a HF => ?_)
  obtain ⟨y1, y2, y3, hx2, h⟩ := obs3 h
  have HT := HT.p1
  obtain ⟨F1, hAF1, hFF1, hbackF1, hroF1, hownF1, hownAF1⟩ := St.handR2 (A := [Box p_0 [.slice a_x0_0 x0_0.length c_x0_0, .int .i64 x0_1, .int .i64 x0_2]]) HT
  refine wc_call HF cf69 rfl (w_spec_l1Below fuel hx2 hAF1 (hroF1 hr_x0_0)) rfl rfl ?_
  rintro e w ⟨rfl, hE⟩
  have HT := hbackF1 _ _ hE
  have HT : St w0 F w [Box p_0 [.slice a_x0_0 x0_0.length c_x0_0, .int .i64 y2, .int .i64 y3], Own 25 (rowT ([] : List I4)) (.slice (some ⟨p1, 0, none⟩) 0 0)] := HT
  refine ⟨_, rfl, nS, fun a HF => ?_⟩
  obtain ⟨hg1, h⟩ := grd h
  refine wc_bin HF nS rfl rfl (b_add hg1) rfl rfl (fun a HF => ?_)
  refine wc_assign HF nS rfl rfl rfl (fun a HF => ?_)
  refine wc_end ?_
  refine then_n ?_
  refine wp_block ?_
  refine wp_loopN (fun k1 a w => ∃ z4 z5 z6 z7 a2 n2 c2, m_spec_l5Gen_L0 fuel x0_0 x1 x2 x3 rcf k1 z4 z5 z6 z7 = some (z1, z2, z3) ∧ Fr a 156 [(0, .pointer (some ⟨p_0, 0, none⟩)), (1, .int .i64 x1), (2, .int .i64 x2), (3, .bool x3), (9, .slice a2 n2 c2), (10, .int .i64 z7)] ∧ St w0 F w [Box p_0 [.slice a_x0_0 x0_0.length c_x0_0, .int .i64 z4, .int .i64 z5], Own 25 (rowT z6) (.slice a2 n2 c2)]) fuel ⟨y2, y3, ([] : List I4), 1 + y1, (some ⟨p1, 0, none⟩), 0, 0, h, (HF.keep (HF.keep (HF.keep (HF.keep (HF.keep (HF.keep HF.nil rfl) rfl) rfl) rfl) rfl) rfl), HT⟩ ?_
  rintro k1 a w ⟨z4, z5, z6, z7, a2, n2, c2, h, HF, HT⟩
  rcases k1 with _ | k1
  cases h
  rw [m_spec_l5Gen_L0] at h
  obtain rfl := (HT.rdAt 1 rfl).neq
  refine ?_
  refine wp_seq ?_
  obtain ⟨z8, hx3, h⟩ := obs h
  refine wp_cut (fun a w => Fr a 156 [(0, .pointer (some ⟨p_0, 0, none⟩)), (1, .int .i64 x1), (2, .int .i64 x2), (3, .bool x3), (9, .slice a2 z6.length c2), (10, .int .i64 z7), (27, .bool z8)] ∧ St w0 F w [Box p_0 [.slice a_x0_0 x0_0.length c_x0_0, .int .i64 z4, .int .i64 z5], Own 25 (rowT z6) (.slice a2 z6.length c2)]) ?_ ?_
  have hk2 := h
  have h := hx3
  refine wc_text ?_
  refine wc_move HF nS rfl rfl rfl (fun a HF => ?_)
  refine wc_bin HF nS rfl rfl b_gt rfl rfl (fun a HF => ?_)
  refine wc_move HF nS rfl rfl rfl (fun a HF => ?_)
  by_cases hb1 : 0 < z7
  have h := (if_pos hb1).symm.trans h
  refine wc_move HF nS rfl (HF.wy rfl rfl rfl rfl (decide_eq_true hb1)) rfl (fun a HF => ?_)
  refine wc_lenR HF nS Try.underlying35 rfl (HF.wy rfl rfl rfl rfl (decide_eq_true hb1)) rfl (fun a HF => ?_)
  refine wc_move HF nS rfl (HF.wy rfl rfl rfl rfl (decide_eq_true hb1)) rfl (fun a HF => ?_)
  refine wc_bin HF nS rfl rfl b_lt (HF.wy rfl rfl rfl rfl (decide_eq_true hb1)) rfl (fun a HF => ?_)
  refine wc_pick (b := true) HF nS rfl (decide_eq_true hb1) rfl rfl rfl (fun a HF => ?_)
  refine wc_end ?_
  obtain rfl := Option.some.inj h
  exact then_n ⟨(HF.keep (HF.keep (HF.keep (HF.keep (HF.keep (HF.keep (HF.keep HF.nil rfl) rfl) rfl) rfl) rfl) rfl) rfl), HT⟩
  have h := (if_neg hb1).symm.trans h
  refine wc_skip HF nS (HF.wn rfl rfl rfl rfl (decide_eq_false hb1)) rfl (fun a HF => ?_)
  refine wc_skip HF nS (HF.wn rfl rfl rfl rfl (decide_eq_false hb1)) rfl (fun a HF => ?_)
  refine wc_skip HF nS (HF.wn rfl rfl rfl rfl (decide_eq_false hb1)) rfl (fun a HF => ?_)
  refine wc_skip HF nS (HF.wn rfl rfl rfl rfl (decide_eq_false hb1)) rfl (fun a HF => ?_)
  refine wc_pick (b := false) HF nS rfl (decide_eq_false hb1) rfl rfl rfl (fun a HF => ?_)
  refine wc_end ?_
  obtain rfl := Option.some.inj h
  exact then_n ⟨(HF.keep (HF.keep (HF.keep (HF.keep (HF.keep (HF.keep (HF.keep HF.nil rfl) rfl) rfl) rfl) rfl) rfl) rfl), HT⟩
  rintro a w ⟨HF, HT⟩
  refine ?_
  by_cases hb2 : z8 = true
  have h := (if_pos hb2).symm.trans h
  refine wp_if (b' := true) HF rfl hb2 ?_
  refine wp_skip ?_
  refine then_n ?_
  obtain ⟨z9, z10, z11, hx4, h⟩ := obs3 h
  refine wp_cut (fun a w => ∃ a3 n3 c3, Fr a 156 [(0, .pointer (some ⟨p_0, 0, none⟩)), (1, .int .i64 x1), (2, .int .i64 x2), (3, .bool x3), (9, .slice a3 n3 c3), (10, .int .i64 z7)] ∧ St w0 F w [Box p_0 [.slice a_x0_0 x0_0.length c_x0_0, .int .i64 z9, .int .i64 z10], Own 25 (rowT z11) (.slice a3 n3 c3)]) ?_ ?_
  have hk2 := h
  have h := hx4
  refine wp_block ?_
  refine wp_seq ?_
  refine wc_text ?_
  refine wc_move HF nS rfl rfl rfl (fun a HF => ?_)
  obtain ⟨y4, y5, y6, hx5, h⟩ := obs3 h
  obtain ⟨F2, hAF2, hFF2, hbackF2, hroF2, hownF2, hownAF2⟩ := St.handR2 (A := [Box p_0 [.slice a_x0_0 x0_0.length c_x0_0, .int .i64 z4, .int .i64 z5]]) HT
  refine wc_call HF cf69 rfl (w_spec_l1Below fuel hx5 hAF2 (hroF2 hr_x0_0)) rfl rfl ?_
  rintro e w ⟨rfl, hE⟩
  have HT := hbackF2 _ _ hE
  have HT : St w0 F w [Box p_0 [.slice a_x0_0 x0_0.length c_x0_0, .int .i64 y5, .int .i64 y6], Own 25 (rowT z6) (.slice a2 z6.length c2)] := HT
  refine ⟨_, rfl, nS, fun a HF => ?_⟩
  refine wc_assign HF nS rfl rfl rfl (fun a HF => ?_)
  refine wc_end ?_
  refine then_n ?_
  refine wp_block ?_
  refine wp_seq ?_
  refine wc_text ?_
  refine wc_move HF nS rfl rfl rfl (fun a HF => ?_)
  refine wc_bin HF nS rfl rfl b_lt rfl rfl (fun a HF => ?_)
  refine wc_assign HF nS rfl rfl rfl (fun a HF => ?_)
  refine wc_end ?_
  refine then_n ?_
  by_cases hb3 : y4 < 5
  have h := (if_pos hb3).symm.trans h
  refine wp_if (b' := true) HF rfl (decide_eq_true hb3) ?_
  refine wc_text ?_
  refine wc_move HF nS rfl rfl rfl (fun a HF => ?_)
  refine wc_move HF nS rfl rfl rfl (fun a HF => ?_)
  obtain ⟨y7, y8, y9, y10, y11, y12, hx6, h⟩ := obs6 h
  obtain ⟨F3, hAF3, hFF3, hbackF3, hroF3, hownF3, hownAF3⟩ := St.handR2 (A := [Box p_0 [.slice a_x0_0 x0_0.length c_x0_0, .int .i64 y5, .int .i64 y6]]) HT
  refine wc_call HF cf72 rfl (w_spec_l4Plain fuel hx6 hAF3 (hroF3 hr_x0_0)) rfl rfl ?_
  rintro e w ⟨rfl, hE⟩
  have HT := hbackF3 _ _ hE
  have HT : St w0 F w [Box p_0 [.slice a_x0_0 x0_0.length c_x0_0, .int .i64 y11, .int .i64 y12], Own 25 (rowT z6) (.slice a2 z6.length c2)] := HT
  refine ⟨_, rfl, nS, fun a HF => ?_⟩
  refine wc_bslice (l := ([(⟨y7, y8, y9, y10⟩ : I4)] : List I4)) (cs := [.int .i64 y7, .int .i64 y8, .int .i64 y9, .int .i64 y10]) (A := []) HF HT bs35_1 rfl rfl (gives_flat rfl) rfl (by decide) rfl rfl (fun p2 w HT hb  => ⟨nS, fun a HF => ?_⟩)
  obtain ⟨hg2, h⟩ := grd h
  have HT := HT.p2
  refine wc_append HF HT el35 rfl rfl (Nat.zero_lt_succ _) hg2 rfl rfl rfl (fun a4 c4 w HT => ⟨nS, fun a HF => ?_⟩)
  refine wc_assign HF nS rfl rfl rfl (fun a HF => ?_)
  refine wc_end ?_
  refine blk_n ?_
  refine blk_n ?_
  have HT := HT.p1
  have hj1 := Option.some.inj h
  obtain ⟨hi1, hj2⟩ := Prod.mk.inj hj1
  subst hi1
  obtain ⟨hi2, hj3⟩ := Prod.mk.inj hj2
  subst hi2
  subst hj3
  exact then_n ⟨a4, (z6 ++ ([(⟨y7, y8, y9, y10⟩ : I4)] : List I4)).length, c4, (HF.keep (HF.keep (HF.keep (HF.keep (HF.keep (HF.keep HF.nil rfl) rfl) rfl) rfl) rfl) rfl), HT⟩
  have h := (if_neg hb3).symm.trans h
  refine wp_if (b' := false) HF rfl (decide_eq_false hb3) ?_
  refine wp_seq ?_
  refine wc_text ?_
  refine wc_move HF nS rfl rfl rfl (fun a HF => ?_)
  refine wc_bin HF nS rfl rfl b_lt rfl rfl (fun a HF => ?_)
  refine wc_assign HF nS rfl rfl rfl (fun a HF => ?_)
  refine wc_end ?_
  refine then_n ?_
  by_cases hb4 : y4 < 10
  have h := (if_pos hb4).symm.trans h
  refine wp_if (b' := true) HF rfl (decide_eq_true hb4) ?_
  refine wc_text ?_
  refine wc_move HF nS rfl rfl rfl (fun a HF => ?_)
  refine wc_move HF nS rfl rfl rfl (fun a HF => ?_)
  obtain ⟨y13, y14, y15, y16, y17, y18, hx7, h⟩ := obs6 h
  obtain ⟨F4, hAF4, hFF4, hbackF4, hroF4, hownF4, hownAF4⟩ := St.handR2 (A := [Box p_0 [.slice a_x0_0 x0_0.length c_x0_0, .int .i64 y5, .int .i64 y6]]) HT
  refine wc_call HF cf72 rfl (w_spec_l4Plain fuel hx7 hAF4 (hroF4 hr_x0_0)) rfl rfl ?_
  rintro e w ⟨rfl, hE⟩
  have HT := hbackF4 _ _ hE
  have HT : St w0 F w [Box p_0 [.slice a_x0_0 x0_0.length c_x0_0, .int .i64 y17, .int .i64 y18], Own 25 (rowT z6) (.slice a2 z6.length c2)] := HT
  refine ⟨_, rfl, nS, fun a HF => ?_⟩
  refine wc_bslice (l := ([(⟨y13, y14, y15, y16⟩ : I4)] : List I4)) (cs := [.int .i64 y13, .int .i64 y14, .int .i64 y15, .int .i64 y16]) (A := []) HF HT bs35_1 rfl rfl (gives_flat rfl) rfl (by decide) rfl rfl (fun p3 w HT hb  => ⟨nS, fun a HF => ?_⟩)
  obtain ⟨hg3, h⟩ := grd h
  have HT := HT.p2
  refine wc_append HF HT el35 rfl rfl (Nat.zero_lt_succ _) hg3 rfl rfl rfl (fun a5 c5 w HT => ⟨nS, fun a HF => ?_⟩)
  refine wc_assign HF nS rfl rfl rfl (fun a HF => ?_)
  refine wc_end ?_
  refine blk_n ?_
  refine blk_n ?_
  have HT := HT.p1
  have hj4 := Option.some.inj h
  obtain ⟨hi4, hj5⟩ := Prod.mk.inj hj4
  subst hi4
  obtain ⟨hi5, hj6⟩ := Prod.mk.inj hj5
  subst hi5
  subst hj6
  exact then_n ⟨a5, (z6 ++ ([(⟨y13, y14, y15, y16⟩ : I4)] : List I4)).length, c5, (HF.keep (HF.keep (HF.keep (HF.keep (HF.keep (HF.keep HF.nil rfl) rfl) rfl) rfl) rfl) rfl), HT⟩
  have h := (if_neg hb4).symm.trans h
  refine wp_if (b' := false) HF rfl (decide_eq_false hb4) ?_
  refine wp_seq ?_
  refine wc_text ?_
  refine wc_move HF nS rfl rfl rfl (fun a HF => ?_)
  refine wc_bin HF nS rfl rfl b_lt rfl rfl (fun a HF => ?_)
  refine wc_assign HF nS rfl rfl rfl (fun a HF => ?_)
  refine wc_end ?_
  refine then_n ?_
  by_cases hb5 : y4 < 12
  have h := (if_pos hb5).symm.trans h
  refine wp_if (b' := true) HF rfl (decide_eq_true hb5) ?_
  refine wc_text ?_
  refine wc_move HF nS rfl rfl rfl (fun a HF => ?_)
  refine wc_move HF nS rfl rfl rfl (fun a HF => ?_)
  refine wc_move HF nS rfl rfl rfl (fun a HF => ?_)
  obtain ⟨y19, y20, y21, hx8, h⟩ := obs3 h
  obtain ⟨F5, hAF5, hFF5, hbackF5, hroF5, hownF5, hownAF5⟩ := St.handR2 (A := [Box p_0 [.slice a_x0_0 x0_0.length c_x0_0, .int .i64 y5, .int .i64 y6]]) HT
  refine wc_call HF cf69 rfl (w_spec_l1Below fuel hx8 hAF5 (hroF5 hr_x0_0)) rfl rfl ?_
  rintro e w ⟨rfl, hE⟩
  have HT := hbackF5 _ _ hE
  have HT : St w0 F w [Box p_0 [.slice a_x0_0 x0_0.length c_x0_0, .int .i64 y20, .int .i64 y21], Own 25 (rowT z6) (.slice a2 z6.length c2)] := HT
  refine ⟨_, rfl, nS, fun a HF => ?_⟩
  obtain ⟨hg4, h⟩ := grd h
  refine wc_bin HF nS rfl rfl (b_add hg4) rfl rfl (fun a HF => ?_)
  obtain ⟨y22, y23, y24, y25, y26, y27, hx9, h⟩ := obs6 h
  obtain ⟨F6, hAF6, hFF6, hbackF6, hroF6, hownF6, hownAF6⟩ := St.handR2 (A := [Box p_0 [.slice a_x0_0 x0_0.length c_x0_0, .int .i64 y20, .int .i64 y21]]) HT
  refine wc_call HF cf72 rfl (w_spec_l4Plain fuel hx9 hAF6 (hroF6 hr_x0_0)) rfl rfl ?_
  rintro e w ⟨rfl, hE⟩
  have HT := hbackF6 _ _ hE
  have HT : St w0 F w [Box p_0 [.slice a_x0_0 x0_0.length c_x0_0, .int .i64 y26, .int .i64 y27], Own 25 (rowT z6) (.slice a2 z6.length c2)] := HT
  refine ⟨_, rfl, nS, fun a HF => ?_⟩
  refine wc_bslice (l := ([(⟨y22, y23, y24, y25⟩ : I4)] : List I4)) (cs := [.int .i64 y22, .int .i64 y23, .int .i64 y24, .int .i64 y25]) (A := []) HF HT bs35_1 rfl rfl (gives_flat rfl) rfl (by decide) rfl rfl (fun p4 w HT hb  => ⟨nS, fun a HF => ?_⟩)
  obtain ⟨hg5, h⟩ := grd h
  have HT := HT.p2
  refine wc_append HF HT el35 rfl rfl (Nat.zero_lt_succ _) hg5 rfl rfl rfl (fun a6 c6 w HT => ⟨nS, fun a HF => ?_⟩)
  refine wc_assign HF nS rfl rfl rfl (fun a HF => ?_)
  refine wc_end ?_
  refine blk_n ?_
  refine blk_n ?_
  have HT := HT.p1
  have hj7 := Option.some.inj h
  obtain ⟨hi7, hj8⟩ := Prod.mk.inj hj7
  subst hi7
  obtain ⟨hi8, hj9⟩ := Prod.mk.inj hj8
  subst hi8
  subst hj9
  exact then_n ⟨a6, (z6 ++ ([(⟨y22, y23, y24, y25⟩ : I4)] : List I4)).length, c6, (HF.keep (HF.keep (HF.keep (HF.keep (HF.keep (HF.keep HF.nil rfl) rfl) rfl) rfl) rfl) rfl), HT⟩
  have h := (if_neg hb5).symm.trans h
  refine wp_if (b' := false) HF rfl (decide_eq_false hb5) ?_
  obtain ⟨z12, hx10, h⟩ := obs h
  refine wp_cut (fun a w => Fr a 156 [(0, .pointer (some ⟨p_0, 0, none⟩)), (1, .int .i64 x1), (2, .int .i64 x2), (3, .bool x3), (9, .slice a2 z6.length c2), (10, .int .i64 z7), (11, .int .i64 y4), (67, .bool z12)] ∧ St w0 F w [Box p_0 [.slice a_x0_0 x0_0.length c_x0_0, .int .i64 y5, .int .i64 y6], Own 25 (rowT z6) (.slice a2 z6.length c2)]) ?_ ?_
  have hk3 := h
  have h := hx10
  refine wc_text ?_
  refine wc_move HF nS rfl rfl rfl (fun a HF => ?_)
  refine wc_bin HF nS rfl rfl b_eq rfl rfl (fun a HF => ?_)
  refine wc_move HF nS rfl rfl rfl (fun a HF => ?_)
  by_cases hb6 : y4 = 12
  have h := (if_pos hb6).symm.trans h
  refine wc_move HF nS rfl (HF.wy rfl rfl rfl rfl (decide_eq_true hb6)) rfl (fun a HF => ?_)
  refine wc_bin HF nS rfl rfl b_gt (HF.wy rfl rfl rfl rfl (decide_eq_true hb6)) rfl (fun a HF => ?_)
  refine wc_pick (b := true) HF nS rfl (decide_eq_true hb6) rfl rfl rfl (fun a HF => ?_)
  refine wc_move HF nS rfl rfl rfl (fun a HF => ?_)
  by_cases hb7 : 0 < x2
  have h := (if_pos hb7).symm.trans h
  refine wc_move HF nS rfl (HF.wy rfl rfl rfl rfl (decide_eq_true hb7)) rfl (fun a HF => ?_)
  refine wc_move HF nS rfl (HF.wy rfl rfl rfl rfl (decide_eq_true hb7)) rfl (fun a HF => ?_)
  refine wc_lenR HF nS Try.underlying35 rfl (HF.wy rfl rfl rfl rfl (decide_eq_true hb7)) rfl (fun a HF => ?_)
  obtain ⟨hg6, h⟩ := grd h
  refine wc_bin HF nS rfl rfl (b_sub hg6) (HF.wy rfl rfl rfl rfl (decide_eq_true hb7)) rfl (fun a HF => ?_)
  refine wc_bin HF nS rfl rfl b_ge (HF.wy rfl rfl rfl rfl (decide_eq_true hb7)) rfl (fun a HF => ?_)
  refine wc_pick (b := true) HF nS rfl (decide_eq_true hb7) rfl rfl rfl (fun a HF => ?_)
  refine wc_assign HF nS rfl rfl rfl (fun a HF => ?_)
  refine wc_end ?_
  obtain rfl := Option.some.inj h
  exact then_n ⟨(HF.keep (HF.keep (HF.keep (HF.keep (HF.keep (HF.keep (HF.keep (HF.keep HF.nil rfl) rfl) rfl) rfl) rfl) rfl) rfl) rfl), HT⟩
  have h := (if_neg hb7).symm.trans h
  refine wc_skip HF nS (HF.wn rfl rfl rfl rfl (decide_eq_false hb7)) rfl (fun a HF => ?_)
  refine wc_skip HF nS (HF.wn rfl rfl rfl rfl (decide_eq_false hb7)) rfl (fun a HF => ?_)
  refine wc_skip HF nS (HF.wn rfl rfl rfl rfl (decide_eq_false hb7)) rfl (fun a HF => ?_)
  refine wc_skip HF nS (HF.wn rfl rfl rfl rfl (decide_eq_false hb7)) rfl (fun a HF => ?_)
  refine wc_skip HF nS (HF.wn rfl rfl rfl rfl (decide_eq_false hb7)) rfl (fun a HF => ?_)
  refine wc_pick (b := false) HF nS rfl (decide_eq_false hb7) rfl rfl rfl (fun a HF => ?_)
  refine wc_assign HF nS rfl rfl rfl (fun a HF => ?_)
  refine wc_end ?_
  obtain rfl := Option.some.inj h
  exact then_n ⟨(HF.keep (HF.keep (HF.keep (HF.keep (HF.keep (HF.keep (HF.keep (HF.keep HF.nil rfl) rfl) rfl) rfl) rfl) rfl) rfl) rfl), HT⟩
  have h := (if_neg hb6).symm.trans h
  refine wc_skip HF nS (HF.wn rfl rfl rfl rfl (decide_eq_false hb6)) rfl (fun a HF => ?_)
  refine wc_skip HF nS (HF.wn rfl rfl rfl rfl (decide_eq_false hb6)) rfl (fun a HF => ?_)
  refine wc_pick (b := false) HF nS rfl (decide_eq_false hb6) rfl rfl rfl (fun a HF => ?_)
  refine wc_move HF nS rfl rfl rfl (fun a HF => ?_)
  refine wc_skip HF nS (HF.wn rfl rfl rfl rfl rfl) rfl (fun a HF => ?_)
  refine wc_skip HF nS (HF.wn rfl rfl rfl rfl rfl) rfl (fun a HF => ?_)
  refine wc_skip HF nS (HF.wn rfl rfl rfl rfl rfl) rfl (fun a HF => ?_)
  refine wc_skip HF nS (HF.wn rfl rfl rfl rfl rfl) rfl (fun a HF => ?_)
  refine wc_skip HF nS (HF.wn rfl rfl rfl rfl rfl) rfl (fun a HF => ?_)
  refine wc_pick (b := false) HF nS rfl rfl rfl rfl rfl (fun a HF => ?_)
  refine wc_assign HF nS rfl rfl rfl (fun a HF => ?_)
  refine wc_end ?_
  obtain rfl := Option.some.inj h
  exact then_n ⟨(HF.keep (HF.keep (HF.keep (HF.keep (HF.keep (HF.keep (HF.keep (HF.keep HF.nil rfl) rfl) rfl) rfl) rfl) rfl) rfl) rfl), HT⟩
  rintro a w ⟨HF, HT⟩
  refine ?_
  by_cases hb8 : z12 = true
  have h := (if_pos hb8).symm.trans h
  refine wp_if (b' := true) HF rfl hb8 ?_
  refine wp_seq ?_
  refine wc_text ?_
  refine wc_move HF nS rfl rfl rfl (fun a HF => ?_)
  refine wc_move HF nS rfl rfl rfl (fun a HF => ?_)
  refine wc_move HF nS rfl rfl rfl (fun a HF => ?_)
  refine wc_lenR HF nS Try.underlying35 rfl rfl rfl (fun a HF => ?_)
  obtain ⟨hg7, h⟩ := grd h
  refine wc_bin HF nS rfl rfl (b_sub hg7) rfl rfl (fun a HF => ?_)
  obtain ⟨hg8, h⟩ := grd h
  refine wc_bin HF nS rfl rfl (b_sub hg8) rfl rfl (fun a HF => ?_)
  refine wc_move HF nS rfl rfl rfl (fun a HF => ?_)
  obtain ⟨hg9, h⟩ := grd h
  refine wc_bin HF nS rfl rfl (b_sub hg9) rfl rfl (fun a HF => ?_)
  refine wc_move HF nS rfl rfl rfl (fun a HF => ?_)
  obtain ⟨y28, y29, y30, hx11, h⟩ := obs3 h
  obtain ⟨F7, hAF7, hFF7, hbackF7, hroF7, hownF7, hownAF7⟩ := St.handR2 (A := [Box p_0 [.slice a_x0_0 x0_0.length c_x0_0, .int .i64 y5, .int .i64 y6]]) HT
  refine wc_call HF cf92 rfl (ih hx11 hAF7 (hroF7 hr_x0_0)) rfl rfl ?_
  rintro e w ⟨a7, n4, c7, rfl, hE⟩
  have HT := hbackF7 _ _ hE
  obtain rfl := (HT.rdAt 0 rfl).neq
  have HT : St w0 F w [Own 25 (rowT y28) (.slice a7 y28.length c7), Box p_0 [.slice a_x0_0 x0_0.length c_x0_0, .int .i64 y29, .int .i64 y30], Own 25 (rowT z6) (.slice a2 z6.length c2)] := HT
  refine ⟨_, rfl, nS, fun a HF => ?_⟩
  refine wc_assign HF nS rfl rfl rfl (fun a HF => ?_)
  refine wc_end ?_
  refine then_n ?_
  refine wp_seq ?_
  refine wc_text ?_
  refine wc_move HF nS rfl rfl rfl (fun a HF => ?_)
  refine wc_move HF nS rfl rfl rfl (fun a HF => ?_)
  obtain ⟨y31, y32, y33, y34, y35, y36, hx12, h⟩ := obs6 h
  have HT := HT.p1
  obtain ⟨F8, hAF8, hFF8, hbackF8, hroF8, hownF8, hownAF8⟩ := St.handR2 (A := [Box p_0 [.slice a_x0_0 x0_0.length c_x0_0, .int .i64 y29, .int .i64 y30]]) HT
  refine wc_call HF cf72 rfl (w_spec_l4Plain fuel hx12 hAF8 (hroF8 hr_x0_0)) rfl rfl ?_
  rintro e w ⟨rfl, hE⟩
  have HT := hbackF8 _ _ hE
  have HT : St w0 F w [Box p_0 [.slice a_x0_0 x0_0.length c_x0_0, .int .i64 y35, .int .i64 y36], Own 25 (rowT y28) (.slice a7 y28.length c7), Own 25 (rowT z6) (.slice a2 z6.length c2)] := HT
  refine ⟨_, rfl, nS, fun a HF => ?_⟩
  refine wc_bslice (l := ([(⟨y31, y32, y33, y34⟩ : I4)] : List I4)) (cs := [.int .i64 y31, .int .i64 y32, .int .i64 y33, .int .i64 y34]) (A := []) HF HT bs35_1 rfl rfl (gives_flat rfl) rfl (by decide) rfl rfl (fun p5 w HT hb  => ⟨nS, fun a HF => ?_⟩)
  obtain ⟨hg10, h⟩ := grd h
  have HT := HT.p3
  refine wc_append HF HT el35 rfl rfl (Nat.zero_lt_succ _) hg10 rfl rfl rfl (fun a8 c8 w HT => ⟨nS, fun a HF => ?_⟩)
  refine wc_assign HF nS rfl rfl rfl (fun a HF => ?_)
  refine wc_end ?_
  refine then_n ?_
  refine wp_seq ?_
  refine wc_text ?_
  refine wc_move HF nS rfl rfl rfl (fun a HF => ?_)
  refine wc_move HF nS rfl rfl rfl (fun a HF => ?_)
  obtain ⟨hg11, h⟩ := grd h
  refine wc_appendR HF HT (HT.rdAt 2 rfl) el35 rfl rfl hg11 rfl rfl rfl (fun a9 c9 w HT => ⟨nS, fun a HF => ?_⟩)
  refine wc_assign HF nS rfl rfl rfl (fun a HF => ?_)
  refine wc_end ?_
  refine then_n ?_
  obtain ⟨z13, z14, z15, hx13, h⟩ := obs3 h
  refine wp_cut (fun a w => ∃ a10 n5 c10, Fr a 156 [(0, .pointer (some ⟨p_0, 0, none⟩)), (1, .int .i64 x1), (2, .int .i64 x2), (3, .bool x3), (9, .slice a10 n5 c10), (10, .int .i64 z7)] ∧ St w0 F w [Box p_0 [.slice a_x0_0 x0_0.length c_x0_0, .int .i64 z13, .int .i64 z14], Own 25 (rowT z15) (.slice a10 n5 c10)]) ?_ ?_
  have hk3 := h
  have h := hx13
  refine wp_seq ?_
  refine wc_text ?_
  refine wc_move HF nS rfl rfl rfl (fun a HF => ?_)
  obtain ⟨y37, y38, y39, hx14, h⟩ := obs3 h
  have HT := HT.p1
  obtain ⟨F9, hAF9, hFF9, hbackF9, hroF9, hownF9, hownAF9⟩ := St.handR2 (A := [Box p_0 [.slice a_x0_0 x0_0.length c_x0_0, .int .i64 y35, .int .i64 y36]]) HT
  refine wc_call HF cf68 rfl (w_spec_l1Once fuel hx14 hAF9 (hroF9 hr_x0_0)) rfl rfl ?_
  rintro e w ⟨rfl, hE⟩
  have HT := hbackF9 _ _ hE
  have HT : St w0 F w [Box p_0 [.slice a_x0_0 x0_0.length c_x0_0, .int .i64 y38, .int .i64 y39], Own 25 (rowT ((z6 ++ ([(⟨y31, y32, y33, y34⟩ : I4)] : List I4)) ++ y28)) (.slice a9 (((z6 ++ ([(⟨y31, y32, y33, y34⟩ : I4)] : List I4)) ++ y28).length) c9), Own 25 (rowT y28) (.slice a7 y28.length c7)] := HT
  refine ⟨_, rfl, nS, fun a HF => ?_⟩
  refine wc_end ?_
  refine then_n ?_
  by_cases hb9 : y37 = true
  have h := (if_pos hb9).symm.trans h
  refine wp_if (b' := true) HF rfl hb9 ?_
  refine wc_text ?_
  refine wc_move HF nS rfl rfl rfl (fun a HF => ?_)
  refine wc_build (cs := #[.int .i64 10, .int .i64 0, .int .i64 0, .int .i64 0]) HF nS bd25 rfl rfl rfl rfl (fun a HF => ?_)
  refine wc_bslice (l := ([(⟨10, 0, 0, 0⟩ : I4)] : List I4)) (cs := [.int .i64 10, .int .i64 0, .int .i64 0, .int .i64 0]) (A := []) HF HT bs35_1 rfl rfl (gives_flat rfl) rfl (by decide) rfl rfl (fun p6 w HT hb  => ⟨nS, fun a HF => ?_⟩)
  obtain ⟨hg12, h⟩ := grd h
  have HT := HT.p2
  refine wc_append HF HT el35 rfl rfl (Nat.zero_lt_succ _) hg12 rfl rfl rfl (fun a11 c11 w HT => ⟨nS, fun a HF => ?_⟩)
  refine wc_assign HF nS rfl rfl rfl (fun a HF => ?_)
  refine wc_end ?_
  have HT := HT.p1.t2
  have hj10 := Option.some.inj h
  obtain ⟨hi10, hj11⟩ := Prod.mk.inj hj10
  subst hi10
  obtain ⟨hi11, hj12⟩ := Prod.mk.inj hj11
  subst hi11
  subst hj12
  exact then_n ⟨a11, (((z6 ++ ([(⟨y31, y32, y33, y34⟩ : I4)] : List I4)) ++ y28) ++ ([(⟨10, 0, 0, 0⟩ : I4)] : List I4)).length, c11, (HF.keep (HF.keep (HF.keep (HF.keep (HF.keep (HF.keep HF.nil rfl) rfl) rfl) rfl) rfl) rfl), HT⟩
  have h := (if_neg hb9).symm.trans h
  refine wp_if (b' := false) HF rfl (Bool.eq_false_iff.2 hb9) ?_
  refine wp_skip ?_
  have HT := HT.t2
  have hj13 := Option.some.inj h
  obtain ⟨hi13, hj14⟩ := Prod.mk.inj hj13
  subst hi13
  obtain ⟨hi14, hj15⟩ := Prod.mk.inj hj14
  subst hi14
  subst hj15
  exact then_n ⟨a9, ((z6 ++ ([(⟨y31, y32, y33, y34⟩ : I4)] : List I4)) ++ y28).length, c9, (HF.keep (HF.keep (HF.keep (HF.keep (HF.keep (HF.keep HF.nil rfl) rfl) rfl) rfl) rfl) rfl), HT⟩
  rintro a w ⟨a10, n5, c10, HF, HT⟩
  obtain rfl := (HT.rdAt 1 rfl).neq
  refine ?_
  refine wc_text ?_
  refine wc_move HF nS rfl rfl rfl (fun a HF => ?_)
  refine wc_build (cs := #[.int .i64 9, .int .i64 0, .int .i64 0, .int .i64 0]) HF nS bd25 rfl rfl rfl rfl (fun a HF => ?_)
  refine wc_bslice (l := ([(⟨9, 0, 0, 0⟩ : I4)] : List I4)) (cs := [.int .i64 9, .int .i64 0, .int .i64 0, .int .i64 0]) (A := []) HF HT bs35_1 rfl rfl (gives_flat rfl) rfl (by decide) rfl rfl (fun p7 w HT hb  => ⟨nS, fun a HF => ?_⟩)
  obtain ⟨hg13, h⟩ := grd h
  have HT := HT.p2
  refine wc_append HF HT el35 rfl rfl (Nat.zero_lt_succ _) hg13 rfl rfl rfl (fun a12 c12 w HT => ⟨nS, fun a HF => ?_⟩)
  refine wc_assign HF nS rfl rfl rfl (fun a HF => ?_)
  refine wc_end ?_
  refine blk_n ?_
  refine blk_n ?_
  have HT := HT.p1
  have hj16 := Option.some.inj h
  obtain ⟨hi16, hj17⟩ := Prod.mk.inj hj16
  subst hi16
  obtain ⟨hi17, hj18⟩ := Prod.mk.inj hj17
  subst hi17
  subst hj18
  exact then_n ⟨a12, (z15 ++ ([(⟨9, 0, 0, 0⟩ : I4)] : List I4)).length, c12, (HF.keep (HF.keep (HF.keep (HF.keep (HF.keep (HF.keep HF.nil rfl) rfl) rfl) rfl) rfl) rfl), HT⟩
  have h := (if_neg hb8).symm.trans h
  refine wp_if (b' := false) HF rfl (Bool.eq_false_iff.2 hb8) ?_
  obtain ⟨z16, hx15, h⟩ := obs h
  refine wp_cut (fun a w => Fr a 156 [(0, .pointer (some ⟨p_0, 0, none⟩)), (1, .int .i64 x1), (2, .int .i64 x2), (3, .bool x3), (9, .slice a2 z6.length c2), (10, .int .i64 z7), (11, .int .i64 y4), (109, .bool z16)] ∧ St w0 F w [Box p_0 [.slice a_x0_0 x0_0.length c_x0_0, .int .i64 y5, .int .i64 y6], Own 25 (rowT z6) (.slice a2 z6.length c2)]) ?_ ?_
  have hk3 := h
  have h := hx15
  refine wc_text ?_
  refine wc_move HF nS rfl rfl rfl (fun a HF => ?_)
  refine wc_bin HF nS rfl rfl b_eq rfl rfl (fun a HF => ?_)
  refine wc_move HF nS rfl rfl rfl (fun a HF => ?_)
  by_cases hb10 : y4 = 13
  have h := (if_pos hb10).symm.trans h
  refine wc_move HF nS rfl (HF.wy rfl rfl rfl rfl (decide_eq_true hb10)) rfl (fun a HF => ?_)
  refine wc_move HF nS rfl (HF.wy rfl rfl rfl rfl (decide_eq_true hb10)) rfl (fun a HF => ?_)
  refine wc_lenR HF nS Try.underlying35 rfl (HF.wy rfl rfl rfl rfl (decide_eq_true hb10)) rfl (fun a HF => ?_)
  obtain ⟨hg14, h⟩ := grd h
  refine wc_bin HF nS rfl rfl (b_sub hg14) (HF.wy rfl rfl rfl rfl (decide_eq_true hb10)) rfl (fun a HF => ?_)
  refine wc_bin HF nS rfl rfl b_ge (HF.wy rfl rfl rfl rfl (decide_eq_true hb10)) rfl (fun a HF => ?_)
  refine wc_pick (b := true) HF nS rfl (decide_eq_true hb10) rfl rfl rfl (fun a HF => ?_)
  refine wc_assign HF nS rfl rfl rfl (fun a HF => ?_)
  refine wc_end ?_
  obtain rfl := Option.some.inj h
  exact then_n ⟨(HF.keep (HF.keep (HF.keep (HF.keep (HF.keep (HF.keep (HF.keep (HF.keep HF.nil rfl) rfl) rfl) rfl) rfl) rfl) rfl) rfl), HT⟩
  have h := (if_neg hb10).symm.trans h
  refine wc_skip HF nS (HF.wn rfl rfl rfl rfl (decide_eq_false hb10)) rfl (fun a HF => ?_)
  refine wc_skip HF nS (HF.wn rfl rfl rfl rfl (decide_eq_false hb10)) rfl (fun a HF => ?_)
  refine wc_skip HF nS (HF.wn rfl rfl rfl rfl (decide_eq_false hb10)) rfl (fun a HF => ?_)
  refine wc_skip HF nS (HF.wn rfl rfl rfl rfl (decide_eq_false hb10)) rfl (fun a HF => ?_)
  refine wc_skip HF nS (HF.wn rfl rfl rfl rfl (decide_eq_false hb10)) rfl (fun a HF => ?_)
  refine wc_pick (b := false) HF nS rfl (decide_eq_false hb10) rfl rfl rfl (fun a HF => ?_)
  refine wc_assign HF nS rfl rfl rfl (fun a HF => ?_)
  refine wc_end ?_
  obtain rfl := Option.some.inj h
  exact then_n ⟨(HF.keep (HF.keep (HF.keep (HF.keep (HF.keep (HF.keep (HF.keep (HF.keep HF.nil rfl) rfl) rfl) rfl) rfl) rfl) rfl) rfl), HT⟩
  rintro a w ⟨HF, HT⟩
  refine ?_
  by_cases hb11 : z16 = true
  have h := (if_pos hb11).symm.trans h
  refine wp_if (b' := true) HF rfl hb11 ?_
  refine wp_seq ?_
  refine wc_text ?_
  refine wc_move HF nS rfl rfl rfl (fun a HF => ?_)
  refine wc_move HF nS rfl rfl rfl (fun a HF => ?_)
  obtain ⟨y40, y41, y42, hx16, h⟩ := obs3 h
  obtain ⟨F10, hAF10, hFF10, hbackF10, hroF10, hownF10, hownAF10⟩ := St.handR2 (A := [Box p_0 [.slice a_x0_0 x0_0.length c_x0_0, .int .i64 y5, .int .i64 y6]]) HT
  refine wc_call HF cf92 rfl (ih hx16 hAF10 (hroF10 hr_x0_0)) rfl rfl ?_
  rintro e w ⟨a13, n6, c13, rfl, hE⟩
  have HT := hbackF10 _ _ hE
  obtain rfl := (HT.rdAt 0 rfl).neq
  have HT : St w0 F w [Own 25 (rowT y40) (.slice a13 y40.length c13), Box p_0 [.slice a_x0_0 x0_0.length c_x0_0, .int .i64 y41, .int .i64 y42], Own 25 (rowT z6) (.slice a2 z6.length c2)] := HT
  refine ⟨_, rfl, nS, fun a HF => ?_⟩
  refine wc_assign HF nS rfl rfl rfl (fun a HF => ?_)
  refine wc_end ?_
  refine then_n ?_
  refine wp_seq ?_
  refine wc_text ?_
  refine wc_move HF nS rfl rfl rfl (fun a HF => ?_)
  obtain ⟨y43, y44, y45, y46, y47, y48, hx17, h⟩ := obs6 h
  have HT := HT.p1
  obtain ⟨F11, hAF11, hFF11, hbackF11, hroF11, hownF11, hownAF11⟩ := St.handR2 (A := [Box p_0 [.slice a_x0_0 x0_0.length c_x0_0, .int .i64 y41, .int .i64 y42]]) HT
  refine wc_call HF cf72 rfl (w_spec_l4Plain fuel hx17 hAF11 (hroF11 hr_x0_0)) rfl rfl ?_
  rintro e w ⟨rfl, hE⟩
  have HT := hbackF11 _ _ hE
  have HT : St w0 F w [Box p_0 [.slice a_x0_0 x0_0.length c_x0_0, .int .i64 y47, .int .i64 y48], Own 25 (rowT y40) (.slice a13 y40.length c13), Own 25 (rowT z6) (.slice a2 z6.length c2)] := HT
  refine ⟨_, rfl, nS, fun a HF => ?_⟩
  refine wc_alloc (cs := [.int .i64 0, .int .i64 0, .int .i64 0, .int .i64 0]) HF HT zr25 rfl rfl rfl (fun p8 w HT hb => ⟨nS, fun a HF => ?_⟩)
  refine wc_storeB (cs' := [.int .i64 y43, .int .i64 y44, .int .i64 y45, .int .i64 y46]) HF HT rfl rfl (fun w => (ag25 w).2) rfl rfl rfl rfl rfl (fun w HT => ⟨nS, ?_⟩)
  refine wc_end ?_
  refine then_n ?_
  refine wp_seq ?_
  refine wc_text ?_
  refine wc_move HF nS rfl rfl rfl (fun a HF => ?_)
  refine wc_lenR HF nS Try.underlying35 rfl rfl rfl (fun a HF => ?_)
  refine wc_faddr HF nS rfl fl25_2 rfl rfl (fun a HF => ?_)
  refine wc_storeB (cs' := [.int .i64 y43, .int .i64 y44, .int .i64 (y40.length : Int), .int .i64 y46]) HF HT rfl rfl (fun w => (sc3 w).2) rfl rfl rfl rfl rfl (fun w HT => ⟨nS, ?_⟩)
  refine wc_end ?_
  refine then_n ?_
  refine wp_seq ?_
  refine wc_text ?_
  refine wc_move HF nS rfl rfl rfl (fun a HF => ?_)
  refine wc_loadA (vs := [.int .i64 y43, .int .i64 y44, .int .i64 (y40.length : Int), .int .i64 y46]) HF rfl ag25 rfl ((HT.boxAt 0 rfl).part 0 4) rfl rfl (fun a HF => ?_)
  refine wc_bslice (l := ([(⟨y43, y44, (y40.length : Int), y46⟩ : I4)] : List I4)) (cs := [.int .i64 y43, .int .i64 y44, .int .i64 (y40.length : Int), .int .i64 y46]) (A := []) HF HT bs35_1 rfl rfl (gives_flat rfl) rfl (by decide) rfl rfl (fun p9 w HT hb  => ⟨nS, fun a HF => ?_⟩)
  obtain ⟨hg15, h⟩ := grd h
  have HT := HT.p4
  refine wc_append HF HT el35 rfl rfl (Nat.zero_lt_succ _) hg15 rfl rfl rfl (fun a14 c14 w HT => ⟨nS, fun a HF => ?_⟩)
  refine wc_assign HF nS rfl rfl rfl (fun a HF => ?_)
  refine wc_end ?_
  refine then_n ?_
  refine wc_text ?_
  refine wc_move HF nS rfl rfl rfl (fun a HF => ?_)
  refine wc_move HF nS rfl rfl rfl (fun a HF => ?_)
  obtain ⟨hg16, h⟩ := grd h
  refine wc_appendR HF HT (HT.rdAt 3 rfl) el35 rfl rfl hg16 rfl rfl rfl (fun a15 c15 w HT => ⟨nS, fun a HF => ?_⟩)
  refine wc_assign HF nS rfl rfl rfl (fun a HF => ?_)
  refine wc_end ?_
  refine blk_n ?_
  refine blk_n ?_
  have HT := HT.p2.t2
  have hj19 := Option.some.inj h
  obtain ⟨hi19, hj20⟩ := Prod.mk.inj hj19
  subst hi19
  obtain ⟨hi20, hj21⟩ := Prod.mk.inj hj20
  subst hi20
  subst hj21
  exact then_n ⟨a15, ((z6 ++ ([(⟨y43, y44, (y40.length : Int), y46⟩ : I4)] : List I4)) ++ y40).length, c15, (HF.keep (HF.keep (HF.keep (HF.keep (HF.keep (HF.keep HF.nil rfl) rfl) rfl) rfl) rfl) rfl), HT⟩
  have h := (if_neg hb11).symm.trans h
  refine wp_if (b' := false) HF rfl (Bool.eq_false_iff.2 hb11) ?_
  obtain ⟨z17, z18, z19, hx18, h⟩ := obs3 h
  refine wp_cut (fun a w => Fr a 156 [(0, .pointer (some ⟨p_0, 0, none⟩)), (1, .int .i64 x1), (2, .int .i64 x2), (3, .bool x3), (9, .slice a2 z6.length c2), (10, .int .i64 z7), (134, .bool z19)] ∧ St w0 F w [Box p_0 [.slice a_x0_0 x0_0.length c_x0_0, .int .i64 z17, .int .i64 z18], Own 25 (rowT z6) (.slice a2 z6.length c2)]) ?_ ?_
  have hk3 := h
  have h := hx18
  refine wc_text ?_
  refine wc_move HF nS rfl rfl rfl (fun a HF => ?_)
  refine wc_bin HF nS rfl rfl b_eq rfl rfl (fun a HF => ?_)
  refine wc_move HF nS rfl rfl rfl (fun a HF => ?_)
  by_cases hb12 : y4 = 14
  have h := (if_pos hb12).symm.trans h
  refine wc_move HF nS rfl (HF.wy rfl rfl rfl rfl (decide_eq_true hb12)) rfl (fun a HF => ?_)
  obtain ⟨y49, y50, y51, hx19, h⟩ := obs3 h
  obtain ⟨F12, hAF12, hFF12, hbackF12, hroF12, hownF12, hownAF12⟩ := St.handR2 (A := [Box p_0 [.slice a_x0_0 x0_0.length c_x0_0, .int .i64 y5, .int .i64 y6]]) HT
  refine wc_call HF cf68 rfl (w_spec_l1Once fuel hx19 hAF12 (hroF12 hr_x0_0)) (HF.wy rfl rfl rfl rfl (decide_eq_true hb12)) rfl ?_
  rintro e w ⟨rfl, hE⟩
  have HT := hbackF12 _ _ hE
  have HT : St w0 F w [Box p_0 [.slice a_x0_0 x0_0.length c_x0_0, .int .i64 y50, .int .i64 y51], Own 25 (rowT z6) (.slice a2 z6.length c2)] := HT
  refine ⟨_, rfl, nS, fun a HF => ?_⟩
  refine wc_pick (b := true) HF nS rfl (decide_eq_true hb12) rfl rfl rfl (fun a HF => ?_)
  refine wc_assign HF nS rfl rfl rfl (fun a HF => ?_)
  refine wc_end ?_
  have hj22 := Option.some.inj h
  obtain ⟨hi22, hj23⟩ := Prod.mk.inj hj22
  subst hi22
  obtain ⟨hi23, hj24⟩ := Prod.mk.inj hj23
  subst hi23
  subst hj24
  exact then_n ⟨(HF.keep (HF.keep (HF.keep (HF.keep (HF.keep (HF.keep (HF.keep HF.nil rfl) rfl) rfl) rfl) rfl) rfl) rfl), HT⟩
  have h := (if_neg hb12).symm.trans h
  refine wc_skip HF nS (HF.wn rfl rfl rfl rfl (decide_eq_false hb12)) rfl (fun a HF => ?_)
  refine wc_skip HF nS (HF.wn rfl rfl rfl rfl (decide_eq_false hb12)) rfl (fun a HF => ?_)
  refine wc_pick (b := false) HF nS rfl (decide_eq_false hb12) rfl rfl rfl (fun a HF => ?_)
  refine wc_assign HF nS rfl rfl rfl (fun a HF => ?_)
  refine wc_end ?_
  have hj25 := Option.some.inj h
  obtain ⟨hi25, hj26⟩ := Prod.mk.inj hj25
  subst hi25
  obtain ⟨hi26, hj27⟩ := Prod.mk.inj hj26
  subst hi26
  subst hj27
  exact then_n ⟨(HF.keep (HF.keep (HF.keep (HF.keep (HF.keep (HF.keep (HF.keep HF.nil rfl) rfl) rfl) rfl) rfl) rfl) rfl), HT⟩
  rintro a w ⟨HF, HT⟩
  refine ?_
  by_cases hb13 : z19 = true
  have h := (if_pos hb13).symm.trans h
  refine wp_if (b' := true) HF rfl hb13 ?_
  refine wc_text ?_
  refine wc_move HF nS rfl rfl rfl (fun a HF => ?_)
  refine wc_build (cs := #[.int .i64 10, .int .i64 0, .int .i64 0, .int .i64 0]) HF nS bd25 rfl rfl rfl rfl (fun a HF => ?_)
  refine wc_bslice (l := ([(⟨10, 0, 0, 0⟩ : I4)] : List I4)) (cs := [.int .i64 10, .int .i64 0, .int .i64 0, .int .i64 0]) (A := []) HF HT bs35_1 rfl rfl (gives_flat rfl) rfl (by decide) rfl rfl (fun p10 w HT hb  => ⟨nS, fun a HF => ?_⟩)
  obtain ⟨hg17, h⟩ := grd h
  have HT := HT.p2
  refine wc_append HF HT el35 rfl rfl (Nat.zero_lt_succ _) hg17 rfl rfl rfl (fun a16 c16 w HT => ⟨nS, fun a HF => ?_⟩)
  refine wc_assign HF nS rfl rfl rfl (fun a HF => ?_)
  refine wc_end ?_
  refine blk_n ?_
  refine blk_n ?_
  have HT := HT.p1
  have hj28 := Option.some.inj h
  obtain ⟨hi28, hj29⟩ := Prod.mk.inj hj28
  subst hi28
  obtain ⟨hi29, hj30⟩ := Prod.mk.inj hj29
  subst hi29
  subst hj30
  exact then_n ⟨a16, (z6 ++ ([(⟨10, 0, 0, 0⟩ : I4)] : List I4)).length, c16, (HF.keep (HF.keep (HF.keep (HF.keep (HF.keep (HF.keep HF.nil rfl) rfl) rfl) rfl) rfl) rfl), HT⟩
  have h := (if_neg hb13).symm.trans h
  refine wp_if (b' := false) HF rfl (Bool.eq_false_iff.2 hb13) ?_
  refine wp_seq ?_
  refine wc_text ?_
  refine wc_move HF nS rfl rfl rfl (fun a HF => ?_)
  refine wc_assign HF nS rfl rfl rfl (fun a HF => ?_)
  refine wc_end ?_
  refine then_n ?_
  by_cases hb14 : x3 = true
  have h := (if_pos hb14).symm.trans h
  refine wp_if (b' := true) HF rfl hb14 ?_
  refine wc_text ?_
  refine wc_move HF nS rfl rfl rfl (fun a HF => ?_)
  refine wc_move HF nS rfl rfl rfl (fun a HF => ?_)
  refine wc_move HF nS rfl rfl rfl (fun a HF => ?_)
  obtain ⟨y52, y53, y54, hx20, h⟩ := obs3 h
  obtain ⟨F13, hAF13, hFF13, hbackF13, hroF13, hownF13, hownAF13⟩ := St.handR2 (A := [Box p_0 [.slice a_x0_0 x0_0.length c_x0_0, .int .i64 z17, .int .i64 z18]]) HT
  refine wc_call HF cf69 rfl (w_spec_l1Below fuel hx20 hAF13 (hroF13 hr_x0_0)) rfl rfl ?_
  rintro e w ⟨rfl, hE⟩
  have HT := hbackF13 _ _ hE
  have HT : St w0 F w [Box p_0 [.slice a_x0_0 x0_0.length c_x0_0, .int .i64 y53, .int .i64 y54], Own 25 (rowT z6) (.slice a2 z6.length c2)] := HT
  refine ⟨_, rfl, nS, fun a HF => ?_⟩
  obtain ⟨hg18, h⟩ := grd h
  refine wc_bin HF nS rfl rfl (b_add hg18) rfl rfl (fun a HF => ?_)
  obtain ⟨y55, y56, y57, y58, y59, y60, hx21, h⟩ := obs6 h
  obtain ⟨F14, hAF14, hFF14, hbackF14, hroF14, hownF14, hownAF14⟩ := St.handR2 (A := [Box p_0 [.slice a_x0_0 x0_0.length c_x0_0, .int .i64 y53, .int .i64 y54]]) HT
  refine wc_call HF cf72 rfl (w_spec_l4Plain fuel hx21 hAF14 (hroF14 hr_x0_0)) rfl rfl ?_
  rintro e w ⟨rfl, hE⟩
  have HT := hbackF14 _ _ hE
  have HT : St w0 F w [Box p_0 [.slice a_x0_0 x0_0.length c_x0_0, .int .i64 y59, .int .i64 y60], Own 25 (rowT z6) (.slice a2 z6.length c2)] := HT
  refine ⟨_, rfl, nS, fun a HF => ?_⟩
  refine wc_bslice (l := ([(⟨y55, y56, y57, y58⟩ : I4)] : List I4)) (cs := [.int .i64 y55, .int .i64 y56, .int .i64 y57, .int .i64 y58]) (A := []) HF HT bs35_1 rfl rfl (gives_flat rfl) rfl (by decide) rfl rfl (fun p11 w HT hb  => ⟨nS, fun a HF => ?_⟩)
  obtain ⟨hg19, h⟩ := grd h
  have HT := HT.p2
  refine wc_append HF HT el35 rfl rfl (Nat.zero_lt_succ _) hg19 rfl rfl rfl (fun a17 c17 w HT => ⟨nS, fun a HF => ?_⟩)
  refine wc_assign HF nS rfl rfl rfl (fun a HF => ?_)
  refine wc_end ?_
  refine blk_n ?_
  refine blk_n ?_
  have HT := HT.p1
  have hj31 := Option.some.inj h
  obtain ⟨hi31, hj32⟩ := Prod.mk.inj hj31
  subst hi31
  obtain ⟨hi32, hj33⟩ := Prod.mk.inj hj32
  subst hi32
  subst hj33
  exact then_n ⟨a17, (z6 ++ ([(⟨y55, y56, y57, y58⟩ : I4)] : List I4)).length, c17, (HF.keep (HF.keep (HF.keep (HF.keep (HF.keep (HF.keep HF.nil rfl) rfl) rfl) rfl) rfl) rfl), HT⟩
  have h := (if_neg hb14).symm.trans h
  refine wp_if (b' := false) HF rfl (Bool.eq_false_iff.2 hb14) ?_
  refine wc_text ?_
  refine wc_move HF nS rfl rfl rfl (fun a HF => ?_)
  refine wc_move HF nS rfl rfl rfl (fun a HF => ?_)
  refine wc_move HF nS rfl rfl rfl (fun a HF => ?_)
  obtain ⟨y61, y62, y63, hx22, h⟩ := obs3 h
  obtain ⟨F15, hAF15, hFF15, hbackF15, hroF15, hownF15, hownAF15⟩ := St.handR2 (A := [Box p_0 [.slice a_x0_0 x0_0.length c_x0_0, .int .i64 z17, .int .i64 z18]]) HT
  refine wc_call HF cf69 rfl (w_spec_l1Below fuel hx22 hAF15 (hroF15 hr_x0_0)) rfl rfl ?_
  rintro e w ⟨rfl, hE⟩
  have HT := hbackF15 _ _ hE
  have HT : St w0 F w [Box p_0 [.slice a_x0_0 x0_0.length c_x0_0, .int .i64 y62, .int .i64 y63], Own 25 (rowT z6) (.slice a2 z6.length c2)] := HT
  refine ⟨_, rfl, nS, fun a HF => ?_⟩
  obtain ⟨hg20, h⟩ := grd h
  refine wc_bin HF nS rfl rfl (b_add hg20) rfl rfl (fun a HF => ?_)
  obtain ⟨y64, y65, y66, y67, y68, y69, hx23, h⟩ := obs6 h
  obtain ⟨F16, hAF16, hFF16, hbackF16, hroF16, hownF16, hownAF16⟩ := St.handR2 (A := [Box p_0 [.slice a_x0_0 x0_0.length c_x0_0, .int .i64 y62, .int .i64 y63]]) HT
  refine wc_call HF cf72 rfl (w_spec_l4Plain fuel hx23 hAF16 (hroF16 hr_x0_0)) rfl rfl ?_
  rintro e w ⟨rfl, hE⟩
  have HT := hbackF16 _ _ hE
  have HT : St w0 F w [Box p_0 [.slice a_x0_0 x0_0.length c_x0_0, .int .i64 y68, .int .i64 y69], Own 25 (rowT z6) (.slice a2 z6.length c2)] := HT
  refine ⟨_, rfl, nS, fun a HF => ?_⟩
  refine wc_bslice (l := ([(⟨y64, y65, y66, y67⟩ : I4)] : List I4)) (cs := [.int .i64 y64, .int .i64 y65, .int .i64 y66, .int .i64 y67]) (A := []) HF HT bs35_1 rfl rfl (gives_flat rfl) rfl (by decide) rfl rfl (fun p12 w HT hb  => ⟨nS, fun a HF => ?_⟩)
  obtain ⟨hg21, h⟩ := grd h
  have HT := HT.p2
  refine wc_append HF HT el35 rfl rfl (Nat.zero_lt_succ _) hg21 rfl rfl rfl (fun a18 c18 w HT => ⟨nS, fun a HF => ?_⟩)
  refine wc_assign HF nS rfl rfl rfl (fun a HF => ?_)
  refine wc_end ?_
  refine blk_n ?_
  refine blk_n ?_
  have HT := HT.p1
  have hj34 := Option.some.inj h
  obtain ⟨hi34, hj35⟩ := Prod.mk.inj hj34
  subst hi34
  obtain ⟨hi35, hj36⟩ := Prod.mk.inj hj35
  subst hi35
  subst hj36
  exact then_n ⟨a18, (z6 ++ ([(⟨y64, y65, y66, y67⟩ : I4)] : List I4)).length, c18, (HF.keep (HF.keep (HF.keep (HF.keep (HF.keep (HF.keep HF.nil rfl) rfl) rfl) rfl) rfl) rfl), HT⟩
  rintro a w ⟨a3, n3, c3, HF, HT⟩
  obtain rfl := (HT.rdAt 1 rfl).neq
  refine ?_
  refine wc_text ?_
  refine wc_move HF nS rfl rfl rfl (fun a HF => ?_)
  obtain ⟨hg22, h⟩ := grd h
  refine wc_bin HF nS rfl rfl (b_sub hg22) rfl rfl (fun a HF => ?_)
  refine wc_assign HF nS rfl rfl rfl (fun a HF => ?_)
  refine wc_end ?_
  exact then_n ⟨k1, Nat.lt_succ_self k1, z9, z10, z11, z7 - 1, a3, z11.length, c3, h, (HF.keep (HF.keep (HF.keep (HF.keep (HF.keep (HF.keep HF.nil rfl) rfl) rfl) rfl) rfl) rfl), HT⟩
  have h := (if_neg hb2).symm.trans h
  refine wp_if (b' := false) HF rfl (Bool.eq_false_iff.2 hb2) ?_
  refine wp_exit ?_
  refine then_x (then_x (?_))
  refine blk_x ?_
  have HT := HT.p1
  have hj37 := Option.some.inj h
  obtain ⟨hi37, hj38⟩ := Prod.mk.inj hj37
  subst hi37
  obtain ⟨hi38, hj39⟩ := Prod.mk.inj hj38
  subst hi38
  subst hj39
  exact then_n ⟨a2, z6.length, c2, (HF.keep HF.nil rfl), HT⟩
  rintro a w ⟨a1, n1, c1, HF, HT⟩
  obtain rfl := (HT.rdAt 0 rfl).neq
  refine ?_
  refine wp_seq ?_
  refine wc_text ?_
  refine wc_move HF nS rfl rfl rfl (fun a HF => ?_)
  refine wc_assign HF nS rfl rfl rfl (fun a HF => ?_)
  refine wc_end ?_
  refine then_n ?_
  refine wp_ret ?_
  have hj40 := Option.some.inj h
  obtain ⟨hi40, hj41⟩ := Prod.mk.inj hj40
  subst hi40
  obtain ⟨hi41, hj42⟩ := Prod.mk.inj hj41
  subst hi41
  subst hj42
  refine bp_ret HF (res_one rfl HF rfl) ?_
  exact ⟨a1, z1.length, c1, rfl, HT⟩

theorem w_spec_l5Gen_R (fuel : Nat) : ∀ (k : Nat) {x0_0 : List UInt8} {x0_1 : Int} {x0_2 : Int} {x1 : Int} {x2 : Int} {x3 : Bool} {a_x0_0 : Option Addr} {n_x0_0 c_x0_0 : Nat} {p_0 : Nat} {r0 : List I4} {x0_1' : Int} {x0_2' : Int} {F : Foot} {w0 : World} (h : m_spec_l5Gen_R fuel k x0_0 x0_1 x0_2 x1 x2 x3 = some (r0, x0_1', x0_2')) (hA : StF w0 F [Box p_0 [.slice a_x0_0 n_x0_0 c_x0_0, .int .i64 x0_1, .int .i64 x0_2]]) (hr_x0_0 : RdT (fun b => ¬ F b) w0 (rowT x0_0) (.slice a_x0_0 n_x0_0 c_x0_0)), Calls Try.prog 92 #[.pointer (some ⟨p_0, 0, none⟩), .int .i64 x1, .int .i64 x2, .bool x3] w0 fun e w => ∃ a_r0 n_r0 c_r0, e = .returned (.slice a_r0 n_r0 c_r0) ∧ St w0 F w [Own 25 (rowT r0) (.slice a_r0 n_r0 c_r0), Box p_0 [.slice a_x0_0 n_x0_0 c_x0_0, .int .i64 x0_1', .int .i64 x0_2']] := by
  intro k
  induction k with
  | zero => intro x0_0 x0_1 x0_2 x1 x2 x3 a_x0_0 n_x0_0 c_x0_0 p_0 r0 x0_1' x0_2' F w0 h hA hr_x0_0; simp [m_spec_l5Gen_R] at h
  | succ k ih => intro x0_0 x0_1 x0_2 x1 x2 x3 a_x0_0 n_x0_0 c_x0_0 p_0 r0 x0_1' x0_2' F w0 h hA hr_x0_0; exact w_spec_l5Gen_S (m_spec_l5Gen_R fuel k) (fun h hA hr_x0_0 => ih h hA hr_x0_0) fuel h hA hr_x0_0
theorem w_spec_l5Gen (fuel : Nat) {x0_0 : List UInt8} {x0_1 : Int} {x0_2 : Int} {x1 : Int} {x2 : Int} {x3 : Bool} {a_x0_0 : Option Addr} {n_x0_0 c_x0_0 : Nat} {p_0 : Nat} {r0 : List I4} {x0_1' : Int} {x0_2' : Int} {F : Foot} {w0 : World} (h : m_spec_l5Gen fuel x0_0 x0_1 x0_2 x1 x2 x3 = some (r0, x0_1', x0_2')) (hA : StF w0 F [Box p_0 [.slice a_x0_0 n_x0_0 c_x0_0, .int .i64 x0_1, .int .i64 x0_2]]) (hr_x0_0 : RdT (fun b => ¬ F b) w0 (rowT x0_0) (.slice a_x0_0 n_x0_0 c_x0_0)) :
    Calls Try.prog 92 #[.pointer (some ⟨p_0, 0, none⟩), .int .i64 x1, .int .i64 x2, .bool x3] w0 fun e w => ∃ a_r0 n_r0 c_r0, e = .returned (.slice a_r0 n_r0 c_r0) ∧ St w0 F w [Own 25 (rowT r0) (.slice a_r0 n_r0 c_r0), Box p_0 [.slice a_x0_0 n_x0_0 c_x0_0, .int .i64 x0_1', .int .i64 x0_2']] := w_spec_l5Gen_R fuel fuel h hA hr_x0_0

def m_spec_l5Prog_L0 (fuel : Nat) (x0_0 : List UInt8) : Nat → Int → Int → (List I4) → (List KidD) → Int → Option (List I4 × List KidD × Int × Int)
  | 0, _, _, _, _, _ => none
  | k1 + 1, z5, z6, z7, z8, z9 =>
    if 0 < z9 then
      bind3 (m_spec_l1Below fuel x0_0 z5 z6 5) fun y16 y17 y18 =>
      if in64 (2 + y16) then
        bind3 (m_spec_l5Gen fuel x0_0 y17 y18 (2 + y16) 1 true) fun y19 y20 y21 =>
        if z8.length + 1 ≤ 17179869184 then
          if in64 (z9 - 1) then
            m_spec_l5Prog_L0 fuel x0_0 k1 y20 y21 z7 (z8 ++ ([(⟨y19⟩ : KidD)] : List KidD)) (z9 - 1)
          else none
        else none
      else none
    else
    some (z7, z8, z5, z6)

def m_spec_l5Prog (fuel : Nat) (x0_0 : List UInt8) (x0_1 : Int) (x0_2 : Int) (x1 : Bool) : Option (List I4 × List KidD × Int × Int) :=
  if x1 = true then
    bind3 (m_spec_l1Below fuel x0_0 x0_1 x0_2 4) fun y1 y2 y3 =>
    if in64 (1 + y1) then
      bind3 (m_spec_l5Gen fuel x0_0 y2 y3 (1 + y1) 1 false) fun y4 y5 y6 =>
      bind3 (m_spec_l1Below fuel x0_0 y5 y6 4) fun y7 y8 y9 =>
      if in64 (1 + y7) then
        bind3 (m_spec_l5Gen fuel x0_0 y8 y9 (1 + y7) 1 false) fun y10 y11 y12 =>
        if y4.length + 1 ≤ 17179869184 then
          if (y4 ++ ([(⟨11, 0, 0, 0⟩ : I4)] : List I4)).length + y10.length ≤ 17179869184 then
            bind4 (
              bind3 (m_spec_l1Below fuel x0_0 y11 y12 3) fun y13 y14 y15 =>
              if in64 (1 + y13) then
                m_spec_l5Prog_L0 fuel x0_0 fuel y14 y15 ((y4 ++ ([(⟨11, 0, 0, 0⟩ : I4)] : List I4)) ++ y10) ([] : List KidD) (1 + y13)
              else none) fun z1 z2 z3 z4 =>
            some (z1, z2, z3, z4)
          else none
        else none
      else none
    else none
  else
  bind3 (m_spec_l1Below fuel x0_0 x0_1 x0_2 8) fun y22 y23 y24 =>
  if in64 (3 + y22) then
    bind3 (m_spec_l5Gen fuel x0_0 y23 y24 (3 + y22) 2 false) fun y25 y26 y27 =>
    some (y25, ([] : List KidD), y26, y27)
  else none

set_option maxRecDepth 100000 in
set_option maxHeartbeats 4000000 in
theorem w_spec_l5Prog (fuel : Nat) {x0_0 : List UInt8} {x0_1 : Int} {x0_2 : Int} {x1 : Bool} {a_x0_0 : Option Addr} {n_x0_0 c_x0_0 : Nat} {p_0 : Nat} {r0_0 : List I4} {r0_1 : List KidD} {x0_1' : Int} {x0_2' : Int} {F : Foot} {w0 : World} (h : m_spec_l5Prog fuel x0_0 x0_1 x0_2 x1 = some (r0_0, r0_1, x0_1', x0_2')) (hA : StF w0 F [Box p_0 [.slice a_x0_0 n_x0_0 c_x0_0, .int .i64 x0_1, .int .i64 x0_2]]) (hr_x0_0 : RdT (fun b => ¬ F b) w0 (rowT x0_0) (.slice a_x0_0 n_x0_0 c_x0_0)) :
    Calls Try.prog 67 #[.pointer (some ⟨p_0, 0, none⟩), .bool x1] w0 fun e w => ∃ a_r0_0 n_r0_0 c_r0_0, ∃ a_r0_1 n_r0_1 c_r0_1, e = .returned (.agg #[.slice a_r0_0 n_r0_0 c_r0_0, .slice a_r0_1 n_r0_1 c_r0_1]) ∧ St w0 F w [Own 25 (rowT r0_0) (.slice a_r0_0 n_r0_0 c_r0_0), Own 77 (rowT r0_1) (.slice a_r0_1 n_r0_1 c_r0_1), Box p_0 [.slice a_x0_0 n_x0_0 c_x0_0, .int .i64 x0_1', .int .i64 x0_2']] := by
  have HT0 := St.init hA
  obtain rfl := hr_x0_0.neq
  have HT : St w0 F w0 [Box p_0 [.slice a_x0_0 x0_0.length c_x0_0, .int .i64 x0_1, .int .i64 x0_2]] := St.init hA
  rw [m_spec_l5Prog] at h
  refine calls_fr (n := 53) [.pointer (some ⟨p_0, 0, none⟩), .bool x1] Try.func67 rfl rfl rfl (fun a HF => ?_)
  have HT : St w0 F w0 [Box p_0 [.slice a_x0_0 x0_0.length c_x0_0, .int .i64 x0_1, .int .i64 x0_2]] := HT
  refine wp_seq ?_
  refine wc_text ?_
  refine wc_alloc (cs := [.slice none 0 0, .slice none 0 0]) HF HT zr49 rfl rfl rfl (fun p1 w HT hb => ⟨nS, fun a HF => ?_⟩)
  refine wc_end ?_
  refine then_n ?_
  refine wp_seq ?_
  refine wp_seq ?_
  refine wc_text ?_
  refine wc_move HF nS rfl rfl rfl (fun a HF => ?_)
  refine wc_not HF nS rfl rfl rfl (fun a HF => ?_)
  refine wc_end ?_
  refine then_n ?_
  by_cases hb1 : x1 = true
  have h := (if_pos hb1).symm.trans h
  refine wp_if (b' := false) HF rfl (notT hb1) ?_
  refine wp_skip ?_
  refine then_n ?_
  refine wp_seq ?_
  refine wc_text ?_
  refine wc_move HF nS rfl rfl rfl (fun a HF => ?_)
  refine wc_move HF nS rfl rfl rfl (fun a HF => ?_)
  obtain ⟨y1, y2, y3, hx1, h⟩ := obs3 h
  have HT := HT.p1
  obtain ⟨F1, hAF1, hFF1, hbackF1, hroF1, hownF1, hownAF1⟩ := St.handR2 (A := [Box p_0 [.slice a_x0_0 x0_0.length c_x0_0, .int .i64 x0_1, .int .i64 x0_2]]) HT
  refine wc_call HF cf69 rfl (w_spec_l1Below fuel hx1 hAF1 (hroF1 hr_x0_0)) rfl rfl ?_
  rintro e w ⟨rfl, hE⟩
  have HT := hbackF1 _ _ hE
  have HT : St w0 F w [Box p_0 [.slice a_x0_0 x0_0.length c_x0_0, .int .i64 y2, .int .i64 y3], Box p1 [.slice none 0 0, .slice none 0 0]] := HT
  refine ⟨_, rfl, nS, fun a HF => ?_⟩
  obtain ⟨hg1, h⟩ := grd h
  refine wc_bin HF nS rfl rfl (b_add hg1) rfl rfl (fun a HF => ?_)
  obtain ⟨y4, y5, y6, hx2, h⟩ := obs3 h
  obtain ⟨F2, hAF2, hFF2, hbackF2, hroF2, hownF2, hownAF2⟩ := St.handR2 (A := [Box p_0 [.slice a_x0_0 x0_0.length c_x0_0, .int .i64 y2, .int .i64 y3]]) HT
  refine wc_call HF cf92 rfl (w_spec_l5Gen fuel hx2 hAF2 (hroF2 hr_x0_0)) rfl rfl ?_
  rintro e w ⟨a1, n1, c1, rfl, hE⟩
  have HT := hbackF2 _ _ hE
  obtain rfl := (HT.rdAt 0 rfl).neq
  have HT : St w0 F w [Own 25 (rowT y4) (.slice a1 y4.length c1), Box p_0 [.slice a_x0_0 x0_0.length c_x0_0, .int .i64 y5, .int .i64 y6], Box p1 [.slice none 0 0, .slice none 0 0]] := HT
  refine ⟨_, rfl, nS, fun a HF => ?_⟩
  refine wc_assign HF nS rfl rfl rfl (fun a HF => ?_)
  refine wc_end ?_
  refine then_n ?_
  refine wp_seq ?_
  refine wc_text ?_
  refine wc_move HF nS rfl rfl rfl (fun a HF => ?_)
  refine wc_move HF nS rfl rfl rfl (fun a HF => ?_)
  obtain ⟨y7, y8, y9, hx3, h⟩ := obs3 h
  have HT := HT.p1
  obtain ⟨F3, hAF3, hFF3, hbackF3, hroF3, hownF3, hownAF3⟩ := St.handR2 (A := [Box p_0 [.slice a_x0_0 x0_0.length c_x0_0, .int .i64 y5, .int .i64 y6]]) HT
  refine wc_call HF cf69 rfl (w_spec_l1Below fuel hx3 hAF3 (hroF3 hr_x0_0)) rfl rfl ?_
  rintro e w ⟨rfl, hE⟩
  have HT := hbackF3 _ _ hE
  have HT : St w0 F w [Box p_0 [.slice a_x0_0 x0_0.length c_x0_0, .int .i64 y8, .int .i64 y9], Own 25 (rowT y4) (.slice a1 y4.length c1), Box p1 [.slice none 0 0, .slice none 0 0]] := HT
  refine ⟨_, rfl, nS, fun a HF => ?_⟩
  obtain ⟨hg2, h⟩ := grd h
  refine wc_bin HF nS rfl rfl (b_add hg2) rfl rfl (fun a HF => ?_)
  obtain ⟨y10, y11, y12, hx4, h⟩ := obs3 h
  obtain ⟨F4, hAF4, hFF4, hbackF4, hroF4, hownF4, hownAF4⟩ := St.handR2 (A := [Box p_0 [.slice a_x0_0 x0_0.length c_x0_0, .int .i64 y8, .int .i64 y9]]) HT
  refine wc_call HF cf92 rfl (w_spec_l5Gen fuel hx4 hAF4 (hroF4 hr_x0_0)) rfl rfl ?_
  rintro e w ⟨a2, n2, c2, rfl, hE⟩
  have HT := hbackF4 _ _ hE
  obtain rfl := (HT.rdAt 0 rfl).neq
  have HT : St w0 F w [Own 25 (rowT y10) (.slice a2 y10.length c2), Box p_0 [.slice a_x0_0 x0_0.length c_x0_0, .int .i64 y11, .int .i64 y12], Own 25 (rowT y4) (.slice a1 y4.length c1), Box p1 [.slice none 0 0, .slice none 0 0]] := HT
  refine ⟨_, rfl, nS, fun a HF => ?_⟩
  refine wc_assign HF nS rfl rfl rfl (fun a HF => ?_)
  refine wc_end ?_
  refine then_n ?_
  refine wp_seq ?_
  refine wc_text ?_
  refine wc_move HF nS rfl rfl rfl (fun a HF => ?_)
  refine wc_build (cs := #[.int .i64 11, .int .i64 0, .int .i64 0, .int .i64 0]) HF nS bd25 rfl rfl rfl rfl (fun a HF => ?_)
  refine wc_bslice (l := ([(⟨11, 0, 0, 0⟩ : I4)] : List I4)) (cs := [.int .i64 11, .int .i64 0, .int .i64 0, .int .i64 0]) (A := []) HF HT bs35_1 rfl rfl (gives_flat rfl) rfl (by decide) rfl rfl (fun p2 w HT hb  => ⟨nS, fun a HF => ?_⟩)
  obtain ⟨hg3, h⟩ := grd h
  have HT := HT.p3
  refine wc_append HF HT el35 rfl rfl (Nat.zero_lt_succ _) hg3 rfl rfl rfl (fun a3 c3 w HT => ⟨nS, fun a HF => ?_⟩)
  refine wc_move HF nS rfl rfl rfl (fun a HF => ?_)
  obtain ⟨hg4, h⟩ := grd h
  refine wc_appendR HF HT (HT.rdAt 1 rfl) el35 rfl rfl hg4 rfl rfl rfl (fun a4 c4 w HT => ⟨nS, fun a HF => ?_⟩)
  refine wc_build (cs := #[.slice a4 (((y4 ++ ([(⟨11, 0, 0, 0⟩ : I4)] : List I4)) ++ y10).length) c4, .slice none 0 0]) HF nS bd49 rfl rfl rfl rfl (fun a HF => ?_)
  refine wc_alloc (cs := [.slice none 0 0, .slice none 0 0]) HF HT zr49 rfl rfl rfl (fun p3 w HT hb => ⟨nS, fun a HF => ?_⟩)
  refine wc_storeB (cs' := [.slice a4 (((y4 ++ ([(⟨11, 0, 0, 0⟩ : I4)] : List I4)) ++ y10).length) c4, .slice none 0 0]) HF HT rfl rfl (fun w => (ag49 w).2) rfl rfl rfl rfl rfl (fun w HT => ⟨nS, ?_⟩)
  refine wc_end ?_
  refine then_n ?_
  obtain ⟨z1, z2, z3, z4, hx5, h⟩ := obs4 h
  refine wp_cut (fun a w => ∃ a5 n3 c5 a6 n4 c6, Fr a 53 [(4, .pointer (some ⟨p1, 0, none⟩)), (7, .pointer (some ⟨p3, 0, none⟩))] ∧ St w0 F w [Box p1 [.slice none 0 0, .slice none 0 0], Own 25 (rowT z1) (.slice a5 n3 c5), Own 77 (rowT z2) (.slice a6 n4 c6), Box p3 [.slice a5 n3 c5, .slice a6 n4 c6], Box p_0 [.slice a_x0_0 x0_0.length c_x0_0, .int .i64 z3, .int .i64 z4]]) ?_ ?_
  have hk1 := h
  have h := hx5
  refine wp_seq ?_
  refine wc_text ?_
  refine wc_move HF nS rfl rfl rfl (fun a HF => ?_)
  obtain ⟨y13, y14, y15, hx6, h⟩ := obs3 h
  have HT := HT.p3
  obtain ⟨F5, hAF5, hFF5, hbackF5, hroF5, hownF5, hownAF5⟩ := St.handR2 (A := [Box p_0 [.slice a_x0_0 x0_0.length c_x0_0, .int .i64 y11, .int .i64 y12]]) HT
  refine wc_call HF cf69 rfl (w_spec_l1Below fuel hx6 hAF5 (hroF5 hr_x0_0)) rfl rfl ?_
  rintro e w ⟨rfl, hE⟩
  have HT := hbackF5 _ _ hE
  have HT : St w0 F w [Box p_0 [.slice a_x0_0 x0_0.length c_x0_0, .int .i64 y14, .int .i64 y15], Box p3 [.slice a4 (((y4 ++ ([(⟨11, 0, 0, 0⟩ : I4)] : List I4)) ++ y10).length) c4, .slice none 0 0], Own 25 (rowT ((y4 ++ ([(⟨11, 0, 0, 0⟩ : I4)] : List I4)) ++ y10)) (.slice a4 (((y4 ++ ([(⟨11, 0, 0, 0⟩ : I4)] : List I4)) ++ y10).length) c4), Own 25 (rowT y10) (.slice a2 y10.length c2), Box p1 [.slice none 0 0, .slice none 0 0]] := HT
  refine ⟨_, rfl, nS, fun a HF => ?_⟩
  obtain ⟨hg5, h⟩ := grd h
  refine wc_bin HF nS rfl rfl (b_add hg5) rfl rfl (fun a HF => ?_)
  refine wc_assign HF nS rfl rfl rfl (fun a HF => ?_)
  refine wc_end ?_
  refine then_n ?_
  refine wp_block ?_
  have HT := HT.nilrow (E := KidD) 77
  have HT := HT.p2.p1.p3.p5.p4.t5
  refine wp_loopN (fun k1 a w => ∃ z5 z6 z7 z8 z9 a7 n5 c7 a8 n6 c8, m_spec_l5Prog_L0 fuel x0_0 k1 z5 z6 z7 z8 z9 = some (z1, z2, z3, z4) ∧ Fr a 53 [(0, .pointer (some ⟨p_0, 0, none⟩)), (4, .pointer (some ⟨p1, 0, none⟩)), (7, .pointer (some ⟨p3, 0, none⟩)), (8, .int .i64 z9)] ∧ St w0 F w [Box p_0 [.slice a_x0_0 x0_0.length c_x0_0, .int .i64 z5, .int .i64 z6], Box p1 [.slice none 0 0, .slice none 0 0], Own 25 (rowT z7) (.slice a7 n5 c7), Own 77 (rowT z8) (.slice a8 n6 c8), Box p3 [.slice a7 n5 c7, .slice a8 n6 c8]]) fuel ⟨y14, y15, (y4 ++ ([(⟨11, 0, 0, 0⟩ : I4)] : List I4)) ++ y10, ([] : List KidD), 1 + y13, a4, ((y4 ++ ([(⟨11, 0, 0, 0⟩ : I4)] : List I4)) ++ y10).length, c4, none, 0, 0, h, (HF.keep (HF.keep (HF.keep (HF.keep HF.nil rfl) rfl) rfl) rfl), HT⟩ ?_
  rintro k1 a w ⟨z5, z6, z7, z8, z9, a7, n5, c7, a8, n6, c8, h, HF, HT⟩
  rcases k1 with _ | k1
  cases h
  rw [m_spec_l5Prog_L0] at h
  obtain rfl := (HT.rdAt 2 rfl).neq
  obtain rfl := (HT.rdAt 3 rfl).neq
  refine ?_
  refine wp_seq ?_
  refine wp_seq ?_
  refine wc_text ?_
  refine wc_move HF nS rfl rfl rfl (fun a HF => ?_)
  refine wc_bin HF nS rfl rfl b_gt rfl rfl (fun a HF => ?_)
  refine wc_end ?_
  refine then_n ?_
  by_cases hb2 : 0 < z9
  have h := (if_pos hb2).symm.trans h
  refine wp_if (b' := true) HF rfl (decide_eq_true hb2) ?_
  refine wp_skip ?_
  refine then_n ?_
  refine wp_seq ?_
  refine wp_block ?_
  refine wp_region_can [(0, false), (1, false), (2, false), (3, true), (4, false), (5, true), (6, false), (7, true), (8, false), (9, true), (10, true), (11, true)] (fun w' => w'.cell? ⟨p3, 1, none⟩ = some (.slice a8 z8.length c8) ∧ True) (by kernel_rfl) (by kernel_rfl) ?_
  have HT := HT.drew
  refine wc_faddr HF (fun _ => ⟨(HT.boxAt 4 rfl).get 1 rfl, trivial⟩) rfl fl49_1 rfl rfl (fun a HF => ?_)
  refine wc_loadS HF ⟨(HT.boxAt 4 rfl).get 1 rfl, trivial⟩ rfl sc47 (fun w hS => hS.1) rfl rfl (fun a HF => ?_)
  refine wc_move HF (fun _ => ⟨(HT.boxAt 4 rfl).get 1 rfl, trivial⟩) rfl rfl rfl (fun a HF => ?_)
  refine wc_move HF nS rfl rfl rfl (fun a HF => ?_)
  obtain ⟨y16, y17, y18, hx7, h⟩ := obs3 h
  obtain ⟨F6, hAF6, hFF6, hbackF6, hroF6, hownF6, hownAF6⟩ := St.handR2 (A := [Box p_0 [.slice a_x0_0 x0_0.length c_x0_0, .int .i64 z5, .int .i64 z6]]) HT
  refine wc_call HF cf69 rfl (w_spec_l1Below fuel hx7 hAF6 (hroF6 hr_x0_0)) rfl rfl ?_
  rintro e w ⟨rfl, hE⟩
  have HT := hbackF6 _ _ hE
  have HT : St w0 F w [Box p_0 [.slice a_x0_0 x0_0.length c_x0_0, .int .i64 y17, .int .i64 y18], Box p1 [.slice none 0 0, .slice none 0 0], Own 25 (rowT z7) (.slice a7 z7.length c7), Own 77 (rowT z8) (.slice a8 z8.length c8), Box p3 [.slice a7 z7.length c7, .slice a8 z8.length c8]] := HT
  refine ⟨_, rfl, (fun _ => ⟨(HT.boxAt 4 rfl).get 1 rfl, trivial⟩), fun a HF => ?_⟩
  obtain ⟨hg6, h⟩ := grd h
  refine wc_bin HF nS rfl rfl (b_add hg6) rfl rfl (fun a HF => ?_)
  obtain ⟨y19, y20, y21, hx8, h⟩ := obs3 h
  obtain ⟨F7, hAF7, hFF7, hbackF7, hroF7, hownF7, hownAF7⟩ := St.handR2 (A := [Box p_0 [.slice a_x0_0 x0_0.length c_x0_0, .int .i64 y17, .int .i64 y18]]) HT
  refine wc_call HF cf92 rfl (w_spec_l5Gen fuel hx8 hAF7 (hroF7 hr_x0_0)) rfl rfl ?_
  rintro e w ⟨a9, n7, c9, rfl, hE⟩
  have HT := hbackF7 _ _ hE
  obtain rfl := (HT.rdAt 0 rfl).neq
  have HT : St w0 F w [Own 25 (rowT y19) (.slice a9 y19.length c9), Box p_0 [.slice a_x0_0 x0_0.length c_x0_0, .int .i64 y20, .int .i64 y21], Box p1 [.slice none 0 0, .slice none 0 0], Own 25 (rowT z7) (.slice a7 z7.length c7), Own 77 (rowT z8) (.slice a8 z8.length c8), Box p3 [.slice a7 z7.length c7, .slice a8 z8.length c8]] := HT
  refine ⟨_, rfl, (fun _ => ⟨(HT.boxAt 5 rfl).get 1 rfl, trivial⟩), fun a HF => ?_⟩
  refine wc_build (cs := #[.slice a9 y19.length c9]) HF nS bd77 rfl rfl rfl rfl (fun a HF => ?_)
  refine wc_bslice (l := ([(⟨y19⟩ : KidD)] : List KidD)) (cs := [.slice a9 y19.length c9]) (A := [Own 25 (rowT y19) (.slice a9 y19.length c9)]) HF HT bs47_1 rfl rfl (gives_own gives_nil) rfl (by decide) rfl rfl (fun p4 w HT hb  => ⟨(fun _ => ⟨(HT.boxAt 5 rfl).get 1 rfl, trivial⟩), fun a HF => ?_⟩)
  obtain ⟨hg7, h⟩ := grd h
  have HT := HT.p4
  refine wc_append HF HT el47 rfl rfl (Nat.zero_lt_succ _) hg7 rfl rfl rfl (fun a10 c10 w HT => ⟨nS, fun a HF => ?_⟩)
  refine wc_faddr HF nS rfl fl49_1 rfl rfl (fun a HF => ?_)
  have HT := HT.p4
  refine wc_storeB (cs' := [.slice a7 z7.length c7, .slice a10 ((z8 ++ ([(⟨y19⟩ : KidD)] : List KidD)).length) c10]) HF HT rfl rfl (fun w => (sc47 w).2) rfl rfl rfl rfl rfl (fun w HT => ⟨nS, ?_⟩)
  refine wc_endN ?_
  refine blk_n ?_
  refine then_n ?_
  refine wc_text ?_
  refine wc_move HF nS rfl rfl rfl (fun a HF => ?_)
  obtain ⟨hg8, h⟩ := grd h
  refine wc_bin HF nS rfl rfl (b_sub hg8) rfl rfl (fun a HF => ?_)
  refine wc_assign HF nS rfl rfl rfl (fun a HF => ?_)
  refine wc_end ?_
  have HT := HT.p1.p4.p4.p4
  exact then_n ⟨k1, Nat.lt_succ_self k1, y20, y21, z7, z8 ++ ([(⟨y19⟩ : KidD)] : List KidD), z9 - 1, a7, z7.length, c7, a10, (z8 ++ ([(⟨y19⟩ : KidD)] : List KidD)).length, c10, h, (HF.keep (HF.keep (HF.keep (HF.keep HF.nil rfl) rfl) rfl) rfl), HT⟩
  have h := (if_neg hb2).symm.trans h
  refine wp_if (b' := false) HF rfl (decide_eq_false hb2) ?_
  refine wp_exit ?_
  refine then_x (then_x (?_))
  refine blk_x ?_
  have HT := HT.p4.p4.p4.p4
  have hj1 := Option.some.inj h
  obtain ⟨hi1, hj2⟩ := Prod.mk.inj hj1
  subst hi1
  obtain ⟨hi2, hj3⟩ := Prod.mk.inj hj2
  subst hi2
  obtain ⟨hi3, hj4⟩ := Prod.mk.inj hj3
  subst hi3
  subst hj4
  exact then_n ⟨a7, z7.length, c7, a8, z8.length, c8, (HF.keep (HF.keep HF.nil rfl) rfl), HT⟩
  rintro a w ⟨a5, n3, c5, a6, n4, c6, HF, HT⟩
  obtain rfl := (HT.rdAt 1 rfl).neq
  obtain rfl := (HT.rdAt 2 rfl).neq
  refine ?_
  refine wp_seq ?_
  refine wc_text ?_
  refine wc_loadA (vs := [.slice a5 z1.length c5, .slice a6 z2.length c6]) HF rfl ag49 rfl ((HT.boxAt 3 rfl).part 0 2) rfl rfl (fun a HF => ?_)
  refine wc_storeB (cs' := [.slice a5 z1.length c5, .slice a6 z2.length c6]) HF HT rfl rfl (fun w => (ag49 w).2) rfl rfl rfl rfl rfl (fun w HT => ⟨nS, ?_⟩)
  refine wc_end ?_
  refine then_n ?_
  refine wp_ret ?_
  have hj5 := Option.some.inj h
  obtain ⟨hi5, hj6⟩ := Prod.mk.inj hj5
  subst hi5
  obtain ⟨hi6, hj7⟩ := Prod.mk.inj hj6
  subst hi6
  obtain ⟨hi7, hj8⟩ := Prod.mk.inj hj7
  subst hi7
  subst hj8
  refine bp_ret HF (res_cell (vs := [.slice a5 z1.length c5, .slice a6 z2.length c6]) rfl HF rfl ag49 rfl (HT.boxAt 0 rfl)) ?_
  have HT := HT.p4.p3.p3.t3
  exact ⟨a5, z1.length, c5, a6, z2.length, c6, rfl, HT⟩
  have h := (if_neg hb1).symm.trans h
  refine wp_if (b' := true) HF rfl (notF (Bool.eq_false_iff.2 hb1)) ?_
  refine wp_seq ?_
  refine wc_text ?_
  refine wc_move HF nS rfl rfl rfl (fun a HF => ?_)
  refine wc_move HF nS rfl rfl rfl (fun a HF => ?_)
  obtain ⟨y22, y23, y24, hx9, h⟩ := obs3 h
  have HT := HT.p1
  obtain ⟨F8, hAF8, hFF8, hbackF8, hroF8, hownF8, hownAF8⟩ := St.handR2 (A := [Box p_0 [.slice a_x0_0 x0_0.length c_x0_0, .int .i64 x0_1, .int .i64 x0_2]]) HT
  refine wc_call HF cf69 rfl (w_spec_l1Below fuel hx9 hAF8 (hroF8 hr_x0_0)) rfl rfl ?_
  rintro e w ⟨rfl, hE⟩
  have HT := hbackF8 _ _ hE
  have HT : St w0 F w [Box p_0 [.slice a_x0_0 x0_0.length c_x0_0, .int .i64 y23, .int .i64 y24], Box p1 [.slice none 0 0, .slice none 0 0]] := HT
  refine ⟨_, rfl, nS, fun a HF => ?_⟩
  obtain ⟨hg9, h⟩ := grd h
  refine wc_bin HF nS rfl rfl (b_add hg9) rfl rfl (fun a HF => ?_)
  obtain ⟨y25, y26, y27, hx10, h⟩ := obs3 h
  obtain ⟨F9, hAF9, hFF9, hbackF9, hroF9, hownF9, hownAF9⟩ := St.handR2 (A := [Box p_0 [.slice a_x0_0 x0_0.length c_x0_0, .int .i64 y23, .int .i64 y24]]) HT
  refine wc_call HF cf92 rfl (w_spec_l5Gen fuel hx10 hAF9 (hroF9 hr_x0_0)) rfl rfl ?_
  rintro e w ⟨a11, n8, c11, rfl, hE⟩
  have HT := hbackF9 _ _ hE
  obtain rfl := (HT.rdAt 0 rfl).neq
  have HT : St w0 F w [Own 25 (rowT y25) (.slice a11 y25.length c11), Box p_0 [.slice a_x0_0 x0_0.length c_x0_0, .int .i64 y26, .int .i64 y27], Box p1 [.slice none 0 0, .slice none 0 0]] := HT
  refine ⟨_, rfl, nS, fun a HF => ?_⟩
  refine wc_build (cs := #[.slice a11 y25.length c11, .slice none 0 0]) HF nS bd49 rfl rfl rfl rfl (fun a HF => ?_)
  have HT := HT.p2
  refine wc_storeB (cs' := [.slice a11 y25.length c11, .slice none 0 0]) HF HT rfl rfl (fun w => (ag49 w).2) rfl rfl rfl rfl rfl (fun w HT => ⟨nS, ?_⟩)
  refine wc_end ?_
  refine then_n ?_
  refine wp_ret ?_
  have HT := HT.nilrow (E := KidD) 77
  have hj9 := Option.some.inj h
  obtain ⟨hi9, hj10⟩ := Prod.mk.inj hj9
  subst hi9
  obtain ⟨hi10, hj11⟩ := Prod.mk.inj hj10
  subst hi10
  obtain ⟨hi11, hj12⟩ := Prod.mk.inj hj11
  subst hi11
  subst hj12
  refine then_r (?_)
  refine bp_ret HF (res_cell (vs := [.slice a11 y25.length c11, .slice none 0 0]) rfl HF rfl ag49 rfl (HT.boxAt 1 rfl)) ?_
  have HT := HT.p3.p1.p3.t3
  exact ⟨a11, y25.length, c11, none, 0, 0, rfl, HT⟩

def m_spec_DrawReadProg (fuel : Nat) (x0 : List UInt8) : Option Str :=
  bind2 (m_spec_l1New fuel x0) fun y1 y2 =>
  bind3 (m_spec_l1Once fuel x0 y1 y2 2) fun y3 y4 y5 =>
  bind4 (m_spec_l5Prog fuel x0 y4 y5 y3) fun y6 y7 y8 y9 =>
  (m_spec_ShowProg fuel y6 y7).bind fun y10 =>
  bind3 (m_spec_l1Below fuel x0 y8 y9 7) fun y11 y12 y13 =>
  if y11 = 0 then
    bind3 (m_spec_l1Spoil fuel x0 y12 y13 y10) fun y14 y15 y16 =>
    some y14
  else
  if y11 = 1 then
    bind3 (m_spec_l1Pick fuel x0 y12 y13 ([(⟨[107, 105, 100, 10]⟩ : SE), (⟨[107, 105, 100, 10, 115, 101, 116, 32, 48, 32, 49, 10]⟩ : SE), (⟨[107, 105, 100]⟩ : SE), (⟨[115, 101, 116, 32, 48, 32, 49, 10]⟩ : SE), (⟨[102, 111, 114, 107, 10]⟩ : SE)] : List SE)) fun y17 y18 y19 =>
    if ((y10.length + y17.length : Nat) : Int) ≤ 9223372036854775807 then
      some (y10 ++ y17)
    else none
  else
  some y10

set_option maxRecDepth 100000 in
set_option maxHeartbeats 4000000 in
theorem w_spec_DrawReadProg (fuel : Nat) {x0 : List UInt8} {a_x0 : Option Addr} {n_x0 c_x0 : Nat} {r0 : Str} {w0 : World} (h : m_spec_DrawReadProg fuel x0 = some r0) (hr_x0 : RdT (fun b => ¬ False) w0 (rowT x0) (.slice a_x0 n_x0 c_x0)) :
    Calls Try.prog 38 #[.slice a_x0 n_x0 c_x0] w0 fun e w => e = .returned (sv r0) ∧ St w0 (fun _ => False) w [] := by
  obtain rfl := hr_x0.neq
  have HT : St w0 (fun _ => False) w0 [] := St.init0
  rw [m_spec_DrawReadProg] at h
  refine calls_fr (n := 27) [.slice a_x0 x0.length c_x0] Try.func38 rfl rfl rfl (fun a HF => ?_)
  have HT : St w0 (fun _ => False) w0 [] := HT
  refine wp_seq ?_
  refine wc_text ?_
  refine wc_assign HF nS rfl rfl rfl (fun a HF => ?_)
  refine wc_end ?_
  refine then_n ?_
  refine wp_seq ?_
  refine wc_text ?_
  refine wc_move HF nS rfl rfl rfl (fun a HF => ?_)
  obtain ⟨y1, y2, hx1, h⟩ := obs2 h
  refine wc_call HF cf62 rfl (w_spec_l1New fuel hx1 (HT.ro hr_x0).any) rfl rfl ?_
  rintro e w ⟨p1, rfl, hE⟩
  have hb := hE.below
  have HT := HT.pure hE
  have HT : St w0 (fun _ => False) w [Box p1 [.slice a_x0 x0.length c_x0, .int .i64 y1, .int .i64 y2]] := HT
  refine ⟨_, rfl, nS, fun a HF => ?_⟩
  refine wc_assign HF nS rfl rfl rfl (fun a HF => ?_)
  refine wc_end ?_
  refine then_n ?_
  refine wp_seq ?_
  refine wc_text ?_
  refine wc_move HF nS rfl rfl rfl (fun a HF => ?_)
  refine wc_move HF nS rfl rfl rfl (fun a HF => ?_)
  obtain ⟨y3, y4, y5, hx2, h⟩ := obs3 h
  obtain ⟨F1, hAF1, hFF1, hbackF1, hroF1, hownF1, hownAF1⟩ := St.handR2 (A := [Box p1 [.slice a_x0 x0.length c_x0, .int .i64 y1, .int .i64 y2]]) HT
  refine wc_call HF cf68 rfl (w_spec_l1Once fuel hx2 hAF1 (hroF1 hr_x0)) rfl rfl ?_
  rintro e w ⟨rfl, hE⟩
  have HT := hbackF1 _ _ hE
  have HT : St w0 (fun _ => False) w [Box p1 [.slice a_x0 x0.length c_x0, .int .i64 y4, .int .i64 y5]] := HT
  refine ⟨_, rfl, nS, fun a HF => ?_⟩
  obtain ⟨y6, y7, y8, y9, hx3, h⟩ := obs4 h
  obtain ⟨F2, hAF2, hFF2, hbackF2, hroF2, hownF2, hownAF2⟩ := St.handR2 (A := [Box p1 [.slice a_x0 x0.length c_x0, .int .i64 y4, .int .i64 y5]]) HT
  refine wc_call HF cf67 rfl (w_spec_l5Prog fuel hx3 hAF2 (hroF2 hr_x0)) rfl rfl ?_
  rintro e w ⟨a1, n1, c1, a2, n2, c2, rfl, hE⟩
  have HT := hbackF2 _ _ hE
  obtain rfl := (HT.rdAt 0 rfl).neq
  obtain rfl := (HT.rdAt 1 rfl).neq
  have HT : St w0 (fun _ => False) w [Own 25 (rowT y6) (.slice a1 y6.length c1), Own 77 (rowT y7) (.slice a2 y7.length c2), Box p1 [.slice a_x0 x0.length c_x0, .int .i64 y8, .int .i64 y9]] := HT
  refine ⟨_, rfl, nS, fun a HF => ?_⟩
  obtain ⟨y10, hx4, h⟩ := obs h
  refine wc_call HF cf26 rfl (w_spec_ShowProg fuel hx4 (HT.rdAt 0 rfl) (HT.rdAt 1 rfl)) rfl rfl ?_
  rintro e w ⟨rfl, hE⟩
  have hb := hE.below
  have HT := HT.pure hE
  have HT : St w0 (fun _ => False) w [Own 25 (rowT y6) (.slice a1 y6.length c1), Own 77 (rowT y7) (.slice a2 y7.length c2), Box p1 [.slice a_x0 x0.length c_x0, .int .i64 y8, .int .i64 y9]] := HT
  refine ⟨_, rfl, nS, fun a HF => ?_⟩
  refine wc_assign HF nS rfl rfl rfl (fun a HF => ?_)
  refine wc_end ?_
  refine then_n ?_
  refine wp_seq ?_
  refine wp_seq ?_
  refine wc_text ?_
  refine wc_move HF nS rfl rfl rfl (fun a HF => ?_)
  obtain ⟨y11, y12, y13, hx5, h⟩ := obs3 h
  have HT := HT.p2
  obtain ⟨F3, hAF3, hFF3, hbackF3, hroF3, hownF3, hownAF3⟩ := St.handR2 (A := [Box p1 [.slice a_x0 x0.length c_x0, .int .i64 y8, .int .i64 y9]]) HT
  refine wc_call HF cf69 rfl (w_spec_l1Below fuel hx5 hAF3 (hroF3 hr_x0)) rfl rfl ?_
  rintro e w ⟨rfl, hE⟩
  have HT := hbackF3 _ _ hE
  have HT : St w0 (fun _ => False) w [Box p1 [.slice a_x0 x0.length c_x0, .int .i64 y12, .int .i64 y13], Own 25 (rowT y6) (.slice a1 y6.length c1), Own 77 (rowT y7) (.slice a2 y7.length c2)] := HT
  refine ⟨_, rfl, nS, fun a HF => ?_⟩
  refine wc_end ?_
  refine then_n ?_
  refine wp_block ?_
  refine wp_seq ?_
  refine wc_text ?_
  refine wc_bin HF nS rfl rfl b_eq rfl rfl (fun a HF => ?_)
  refine wc_assign HF nS rfl rfl rfl (fun a HF => ?_)
  refine wc_end ?_
  refine then_n ?_
  by_cases hb1 : y11 = 0
  have h := (if_pos hb1).symm.trans h
  refine wp_if (b' := true) HF rfl (decide_eq_true hb1) ?_
  refine wp_seq ?_
  refine wc_text ?_
  refine wc_move HF nS rfl rfl rfl (fun a HF => ?_)
  refine wc_move HF nS rfl rfl rfl (fun a HF => ?_)
  obtain ⟨y14, y15, y16, hx6, h⟩ := obs3 h
  obtain ⟨F4, hAF4, hFF4, hbackF4, hroF4, hownF4, hownAF4⟩ := St.handR2 (A := [Box p1 [.slice a_x0 x0.length c_x0, .int .i64 y12, .int .i64 y13]]) HT
  refine wc_call HF cf70 rfl (w_spec_l1Spoil fuel hx6 hAF4 (hroF4 hr_x0)) rfl rfl ?_
  rintro e w ⟨rfl, hE⟩
  have HT := hbackF4 _ _ hE
  have HT : St w0 (fun _ => False) w [Box p1 [.slice a_x0 x0.length c_x0, .int .i64 y15, .int .i64 y16], Own 25 (rowT y6) (.slice a1 y6.length c1), Own 77 (rowT y7) (.slice a2 y7.length c2)] := HT
  refine ⟨_, rfl, nS, fun a HF => ?_⟩
  refine wc_assign HF nS rfl rfl rfl (fun a HF => ?_)
  refine wc_end ?_
  refine then_n ?_
  refine wp_ret ?_
  obtain rfl := Option.some.inj h
  refine blk_r (then_r (?_))
  refine bp_ret HF (res_one rfl HF rfl) ?_
  have HT := HT.t0
  exact ⟨rfl, HT⟩
  have h := (if_neg hb1).symm.trans h
  refine wp_if (b' := false) HF rfl (decide_eq_false hb1) ?_
  refine wp_seq ?_
  refine wc_text ?_
  refine wc_bin HF nS rfl rfl b_eq rfl rfl (fun a HF => ?_)
  refine wc_assign HF nS rfl rfl rfl (fun a HF => ?_)
  refine wc_end ?_
  refine then_n ?_
  by_cases hb2 : y11 = 1
  have h := (if_pos hb2).symm.trans h
  refine wp_if (b' := true) HF rfl (decide_eq_true hb2) ?_
  refine wp_seq ?_
  refine wc_text ?_
  refine wc_move HF nS rfl rfl rfl (fun a HF => ?_)
  refine wc_move HF nS rfl rfl rfl (fun a HF => ?_)
  refine wc_bslice (l := ([(⟨[107, 105, 100, 10]⟩ : SE), (⟨[107, 105, 100, 10, 115, 101, 116, 32, 48, 32, 49, 10]⟩ : SE), (⟨[107, 105, 100]⟩ : SE), (⟨[115, 101, 116, 32, 48, 32, 49, 10]⟩ : SE), (⟨[102, 111, 114, 107, 10]⟩ : SE)] : List SE)) (cs := [sv ([107, 105, 100, 10]), sv ([107, 105, 100, 10, 115, 101, 116, 32, 48, 32, 49, 10]), sv ([107, 105, 100]), sv ([115, 101, 116, 32, 48, 32, 49, 10]), sv ([102, 111, 114, 107, 10])]) (A := []) HF HT bs62_5 rfl rfl (gives_flat rfl) rfl (by decide) rfl rfl (fun p2 w HT hb  => ⟨nS, fun a HF => ?_⟩)
  obtain ⟨y17, y18, y19, hx7, h⟩ := obs3 h
  have HT := HT.p1
  obtain ⟨F5, hAF5, hFF5, hbackF5, hroF5, hownF5, hownAF5⟩ := St.handR2 (A := [Box p1 [.slice a_x0 x0.length c_x0, .int .i64 y12, .int .i64 y13]]) HT
  refine wc_call HF cf71 rfl (w_spec_l1Pick fuel hx7 hAF5 (hroF5 hr_x0) (hownF5 _ _ _ (List.mem_of_getElem? (i := 0) rfl))) rfl rfl ?_
  rintro e w ⟨rfl, hE⟩
  have HT := hbackF5 _ _ hE
  have HT : St w0 (fun _ => False) w [Box p1 [.slice a_x0 x0.length c_x0, .int .i64 y18, .int .i64 y19], Own 9 (rowT ([(⟨[107, 105, 100, 10]⟩ : SE), (⟨[107, 105, 100, 10, 115, 101, 116, 32, 48, 32, 49, 10]⟩ : SE), (⟨[107, 105, 100]⟩ : SE), (⟨[115, 101, 116, 32, 48, 32, 49, 10]⟩ : SE), (⟨[102, 111, 114, 107, 10]⟩ : SE)] : List SE)) (.slice (some ⟨p2, 0, none⟩) 5 5), Own 25 (rowT y6) (.slice a1 y6.length c1), Own 77 (rowT y7) (.slice a2 y7.length c2)] := HT
  refine ⟨_, rfl, nS, fun a HF => ?_⟩
  obtain ⟨hg1, h⟩ := grd h
  refine wc_bin HF nS rfl rfl (b_cat hg1) rfl rfl (fun a HF => ?_)
  refine wc_assign HF nS rfl rfl rfl (fun a HF => ?_)
  refine wc_end ?_
  refine then_n ?_
  refine wp_ret ?_
  obtain rfl := Option.some.inj h
  refine blk_r (then_r (?_))
  refine bp_ret HF (res_one rfl HF rfl) ?_
  have HT := HT.t0
  exact ⟨rfl, HT⟩
  have h := (if_neg hb2).symm.trans h
  refine wp_if (b' := false) HF rfl (decide_eq_false hb2) ?_
  refine wp_skip ?_
  refine blk_n ?_
  refine then_n ?_
  refine wp_seq ?_
  refine wc_text ?_
  refine wc_move HF nS rfl rfl rfl (fun a HF => ?_)
  refine wc_assign HF nS rfl rfl rfl (fun a HF => ?_)
  refine wc_end ?_
  refine then_n ?_
  refine wp_ret ?_
  obtain rfl := Option.some.inj h
  refine bp_ret HF (res_one rfl HF rfl) ?_
  have HT := HT.t0
  exact ⟨rfl, HT⟩

def m_spec_l4Any (fuel : Nat) (x0_0 : List UInt8) (x0_1 : Int) (x0_2 : Int) : Option (Int × Int × Int × Int × Int × Int) :=
  bind3 (m_spec_l1Below fuel x0_0 x0_1 x0_2 16) fun y1 y2 y3 =>
  if in64 (1 + y1) then
    bind6 (m_spec_l4Plain fuel x0_0 y2 y3 (1 + y1)) fun y4 y5 y6 y7 y8 y9 =>
    bind6 (
      bind3 (m_spec_l1Below fuel x0_0 y8 y9 16) fun y10 y11 y12 =>
      if y10 = 0 then
        bind3 (m_spec_l1PickInt fuel x0_0 y11 y12 ([(-1), 4, 8] : List Int)) fun y13 y14 y15 =>
        some (y4, y13, y6, y7, y14, y15)
      else
      if y10 = 1 then
        bind3 (m_spec_l1PickInt fuel x0_0 y11 y12 ([(-1), 4, 8, 65536, 21] : List Int)) fun y16 y17 y18 =>
        some (y4, y5, y16, y7, y17, y18)
      else
      if y10 = 2 then
        bind3 (m_spec_l1PickInt fuel x0_0 y11 y12 ([(-1), 4, 1] : List Int)) fun y19 y20 y21 =>
        some (y4, y5, y6, y19, y20, y21)
      else
      if y10 = 3 then
        bind3 (m_spec_l1PickInt fuel x0_0 y11 y12 ([0, 17, (-3)] : List Int)) fun y22 y23 y24 =>
        some (y22, y5, y6, y7, y23, y24)
      else
      some (y4, y5, y6, y7, y11, y12)) fun z1 z2 z3 z4 z5 z6 =>
    some (z1, z2, z3, z4, z5, z6)
  else none

set_option maxRecDepth 100000 in
set_option maxHeartbeats 4000000 in
theorem w_spec_l4Any (fuel : Nat) {x0_0 : List UInt8} {x0_1 : Int} {x0_2 : Int} {a_x0_0 : Option Addr} {n_x0_0 c_x0_0 : Nat} {p_0 : Nat} {r0_0 : Int} {r0_1 : Int} {r0_2 : Int} {r0_3 : Int} {x0_1' : Int} {x0_2' : Int} {F : Foot} {w0 : World} (h : m_spec_l4Any fuel x0_0 x0_1 x0_2 = some (r0_0, r0_1, r0_2, r0_3, x0_1', x0_2')) (hA : StF w0 F [Box p_0 [.slice a_x0_0 n_x0_0 c_x0_0, .int .i64 x0_1, .int .i64 x0_2]]) (hr_x0_0 : RdT (fun b => ¬ F b) w0 (rowT x0_0) (.slice a_x0_0 n_x0_0 c_x0_0)) :
    Calls Try.prog 103 #[.pointer (some ⟨p_0, 0, none⟩)] w0 fun e w => e = .returned (.agg #[.int .i64 r0_0, .int .i64 r0_1, .int .i64 r0_2, .int .i64 r0_3]) ∧ St w0 F w [Box p_0 [.slice a_x0_0 n_x0_0 c_x0_0, .int .i64 x0_1', .int .i64 x0_2']] := by
  have HT0 := St.init hA
  obtain rfl := hr_x0_0.neq
  have HT : St w0 F w0 [Box p_0 [.slice a_x0_0 x0_0.length c_x0_0, .int .i64 x0_1, .int .i64 x0_2]] := St.init hA
  rw [m_spec_l4Any] at h
  refine calls_fr (n := 36) [.pointer (some ⟨p_0, 0, none⟩)] Try.func103 rfl rfl rfl (fun a HF => ?_)
  have HT : St w0 F w0 [Box p_0 [.slice a_x0_0 x0_0.length c_x0_0, .int .i64 x0_1, .int .i64 x0_2]] := HT
  refine wp_seq ?_
  refine wc_text ?_
  refine wc_alloc (cs := [.int .i64 0, .int .i64 0, .int .i64 0, .int .i64 0]) HF HT zr25 rfl rfl rfl (fun p1 w HT hb => ⟨nS, fun a HF => ?_⟩)
  refine wc_end ?_
  refine then_n ?_
  refine wp_seq ?_
  refine wc_text ?_
  refine wc_move HF nS rfl rfl rfl (fun a HF => ?_)
  refine wc_move HF nS rfl rfl rfl (fun a HF => ?_)
  obtain ⟨y1, y2, y3, hx1, h⟩ := obs3 h
  have HT := HT.p1
  obtain ⟨F1, hAF1, hFF1, hbackF1, hroF1, hownF1, hownAF1⟩ := St.handR2 (A := [Box p_0 [.slice a_x0_0 x0_0.length c_x0_0, .int .i64 x0_1, .int .i64 x0_2]]) HT
  refine wc_call HF cf69 rfl (w_spec_l1Below fuel hx1 hAF1 (hroF1 hr_x0_0)) rfl rfl ?_
  rintro e w ⟨rfl, hE⟩
  have HT := hbackF1 _ _ hE
  have HT : St w0 F w [Box p_0 [.slice a_x0_0 x0_0.length c_x0_0, .int .i64 y2, .int .i64 y3], Box p1 [.int .i64 0, .int .i64 0, .int .i64 0, .int .i64 0]] := HT
  refine ⟨_, rfl, nS, fun a HF => ?_⟩
  obtain ⟨hg1, h⟩ := grd h
  refine wc_bin HF nS rfl rfl (b_add hg1) rfl rfl (fun a HF => ?_)
  obtain ⟨y4, y5, y6, y7, y8, y9, hx2, h⟩ := obs6 h
  obtain ⟨F2, hAF2, hFF2, hbackF2, hroF2, hownF2, hownAF2⟩ := St.handR2 (A := [Box p_0 [.slice a_x0_0 x0_0.length c_x0_0, .int .i64 y2, .int .i64 y3]]) HT
  refine wc_call HF cf72 rfl (w_spec_l4Plain fuel hx2 hAF2 (hroF2 hr_x0_0)) rfl rfl ?_
  rintro e w ⟨rfl, hE⟩
  have HT := hbackF2 _ _ hE
  have HT : St w0 F w [Box p_0 [.slice a_x0_0 x0_0.length c_x0_0, .int .i64 y8, .int .i64 y9], Box p1 [.int .i64 0, .int .i64 0, .int .i64 0, .int .i64 0]] := HT
  refine ⟨_, rfl, nS, fun a HF => ?_⟩
  refine wc_alloc (cs := [.int .i64 0, .int .i64 0, .int .i64 0, .int .i64 0]) HF HT zr25 rfl rfl rfl (fun p2 w HT hb => ⟨nS, fun a HF => ?_⟩)
  refine wc_storeB (cs' := [.int .i64 y4, .int .i64 y5, .int .i64 y6, .int .i64 y7]) HF HT rfl rfl (fun w => (ag25 w).2) rfl rfl rfl rfl rfl (fun w HT => ⟨nS, ?_⟩)
  refine wc_end ?_
  refine then_n ?_
  obtain ⟨z1, z2, z3, z4, z5, z6, hx3, h⟩ := obs6 h
  refine wp_cut (fun a w => Fr a 36 [(2, .pointer (some ⟨p1, 0, none⟩)), (3, .pointer (some ⟨p2, 0, none⟩))] ∧ St w0 F w [Box p1 [.int .i64 0, .int .i64 0, .int .i64 0, .int .i64 0], Box p2 [.int .i64 z1, .int .i64 z2, .int .i64 z3, .int .i64 z4], Box p_0 [.slice a_x0_0 x0_0.length c_x0_0, .int .i64 z5, .int .i64 z6]]) ?_ ?_
  have hk1 := h
  have h := hx3
  refine wp_seq ?_
  refine wc_text ?_
  refine wc_move HF nS rfl rfl rfl (fun a HF => ?_)
  obtain ⟨y10, y11, y12, hx4, h⟩ := obs3 h
  have HT := HT.p1
  obtain ⟨F3, hAF3, hFF3, hbackF3, hroF3, hownF3, hownAF3⟩ := St.handR2 (A := [Box p_0 [.slice a_x0_0 x0_0.length c_x0_0, .int .i64 y8, .int .i64 y9]]) HT
  refine wc_call HF cf69 rfl (w_spec_l1Below fuel hx4 hAF3 (hroF3 hr_x0_0)) rfl rfl ?_
  rintro e w ⟨rfl, hE⟩
  have HT := hbackF3 _ _ hE
  have HT : St w0 F w [Box p_0 [.slice a_x0_0 x0_0.length c_x0_0, .int .i64 y11, .int .i64 y12], Box p2 [.int .i64 y4, .int .i64 y5, .int .i64 y6, .int .i64 y7], Box p1 [.int .i64 0, .int .i64 0, .int .i64 0, .int .i64 0]] := HT
  refine ⟨_, rfl, nS, fun a HF => ?_⟩
  refine wc_end ?_
  refine then_n ?_
  refine wp_block ?_
  refine wp_seq ?_
  refine wc_text ?_
  refine wc_bin HF nS rfl rfl b_eq rfl rfl (fun a HF => ?_)
  refine wc_assign HF nS rfl rfl rfl (fun a HF => ?_)
  refine wc_end ?_
  refine then_n ?_
  by_cases hb1 : y10 = 0
  have h := (if_pos hb1).symm.trans h
  refine wp_if (b' := true) HF rfl (decide_eq_true hb1) ?_
  refine wc_text ?_
  refine wc_move HF nS rfl rfl rfl (fun a HF => ?_)
  refine wc_bslice (l := ([(-1), 4, 8] : List Int)) (cs := [.int .i64 (-1), .int .i64 4, .int .i64 8]) (A := []) HF HT bs66_3 rfl rfl (gives_flat rfl) rfl (by decide) rfl rfl (fun p3 w HT hb  => ⟨nS, fun a HF => ?_⟩)
  obtain ⟨y13, y14, y15, hx5, h⟩ := obs3 h
  have HT := HT.p1
  obtain ⟨F4, hAF4, hFF4, hbackF4, hroF4, hownF4, hownAF4⟩ := St.handR2 (A := [Box p_0 [.slice a_x0_0 x0_0.length c_x0_0, .int .i64 y11, .int .i64 y12]]) HT
  refine wc_call HF cf104 rfl (w_spec_l1PickInt fuel hx5 hAF4 (hroF4 hr_x0_0) (hownF4 _ _ _ (List.mem_of_getElem? (i := 0) rfl))) rfl rfl ?_
  rintro e w ⟨rfl, hE⟩
  have HT := hbackF4 _ _ hE
  have HT : St w0 F w [Box p_0 [.slice a_x0_0 x0_0.length c_x0_0, .int .i64 y14, .int .i64 y15], Own 3 (rowT ([(-1), 4, 8] : List Int)) (.slice (some ⟨p3, 0, none⟩) 3 3), Box p2 [.int .i64 y4, .int .i64 y5, .int .i64 y6, .int .i64 y7], Box p1 [.int .i64 0, .int .i64 0, .int .i64 0, .int .i64 0]] := HT
  refine ⟨_, rfl, nS, fun a HF => ?_⟩
  refine wc_faddr HF nS rfl fl25_1 rfl rfl (fun a HF => ?_)
  have HT := HT.p2
  refine wc_storeB (cs' := [.int .i64 y4, .int .i64 y13, .int .i64 y6, .int .i64 y7]) HF HT rfl rfl (fun w => (sc3 w).2) rfl rfl rfl rfl rfl (fun w HT => ⟨nS, ?_⟩)
  refine wc_end ?_
  refine blk_n ?_
  have HT := HT.p1.p1.p3.t3
  have hj1 := Option.some.inj h
  obtain ⟨hi1, hj2⟩ := Prod.mk.inj hj1
  subst hi1
  obtain ⟨hi2, hj3⟩ := Prod.mk.inj hj2
  subst hi2
  obtain ⟨hi3, hj4⟩ := Prod.mk.inj hj3
  subst hi3
  obtain ⟨hi4, hj5⟩ := Prod.mk.inj hj4
  subst hi4
  obtain ⟨hi5, hj6⟩ := Prod.mk.inj hj5
  subst hi5
  subst hj6
  exact then_n ⟨(HF.keep (HF.keep HF.nil rfl) rfl), HT⟩
  have h := (if_neg hb1).symm.trans h
  refine wp_if (b' := false) HF rfl (decide_eq_false hb1) ?_
  refine wp_seq ?_
  refine wc_text ?_
  refine wc_bin HF nS rfl rfl b_eq rfl rfl (fun a HF => ?_)
  refine wc_assign HF nS rfl rfl rfl (fun a HF => ?_)
  refine wc_end ?_
  refine then_n ?_
  by_cases hb2 : y10 = 1
  have h := (if_pos hb2).symm.trans h
  refine wp_if (b' := true) HF rfl (decide_eq_true hb2) ?_
  refine wc_text ?_
  refine wc_move HF nS rfl rfl rfl (fun a HF => ?_)
  refine wc_bslice (l := ([(-1), 4, 8, 65536, 21] : List Int)) (cs := [.int .i64 (-1), .int .i64 4, .int .i64 8, .int .i64 65536, .int .i64 21]) (A := []) HF HT bs66_5 rfl rfl (gives_flat rfl) rfl (by decide) rfl rfl (fun p4 w HT hb  => ⟨nS, fun a HF => ?_⟩)
  obtain ⟨y16, y17, y18, hx6, h⟩ := obs3 h
  have HT := HT.p1
  obtain ⟨F5, hAF5, hFF5, hbackF5, hroF5, hownF5, hownAF5⟩ := St.handR2 (A := [Box p_0 [.slice a_x0_0 x0_0.length c_x0_0, .int .i64 y11, .int .i64 y12]]) HT
  refine wc_call HF cf104 rfl (w_spec_l1PickInt fuel hx6 hAF5 (hroF5 hr_x0_0) (hownF5 _ _ _ (List.mem_of_getElem? (i := 0) rfl))) rfl rfl ?_
  rintro e w ⟨rfl, hE⟩
  have HT := hbackF5 _ _ hE
  have HT : St w0 F w [Box p_0 [.slice a_x0_0 x0_0.length c_x0_0, .int .i64 y17, .int .i64 y18], Own 3 (rowT ([(-1), 4, 8, 65536, 21] : List Int)) (.slice (some ⟨p4, 0, none⟩) 5 5), Box p2 [.int .i64 y4, .int .i64 y5, .int .i64 y6, .int .i64 y7], Box p1 [.int .i64 0, .int .i64 0, .int .i64 0, .int .i64 0]] := HT
  refine ⟨_, rfl, nS, fun a HF => ?_⟩
  refine wc_faddr HF nS rfl fl25_2 rfl rfl (fun a HF => ?_)
  have HT := HT.p2
  refine wc_storeB (cs' := [.int .i64 y4, .int .i64 y5, .int .i64 y16, .int .i64 y7]) HF HT rfl rfl (fun w => (sc3 w).2) rfl rfl rfl rfl rfl (fun w HT => ⟨nS, ?_⟩)
  refine wc_end ?_
  refine blk_n ?_
  have HT := HT.p1.p1.p3.t3
  have hj7 := Option.some.inj h
  obtain ⟨hi7, hj8⟩ := Prod.mk.inj hj7
  subst hi7
  obtain ⟨hi8, hj9⟩ := Prod.mk.inj hj8
  subst hi8
  obtain ⟨hi9, hj10⟩ := Prod.mk.inj hj9
  subst hi9
  obtain ⟨hi10, hj11⟩ := Prod.mk.inj hj10
  subst hi10
  obtain ⟨hi11, hj12⟩ := Prod.mk.inj hj11
  subst hi11
  subst hj12
  exact then_n ⟨(HF.keep (HF.keep HF.nil rfl) rfl), HT⟩
  have h := (if_neg hb2).symm.trans h
  refine wp_if (b' := false) HF rfl (decide_eq_false hb2) ?_
  refine wp_seq ?_
  refine wc_text ?_
  refine wc_bin HF nS rfl rfl b_eq rfl rfl (fun a HF => ?_)
  refine wc_assign HF nS rfl rfl rfl (fun a HF => ?_)
  refine wc_end ?_
  refine then_n ?_
  by_cases hb3 : y10 = 2
  have h := (if_pos hb3).symm.trans h
  refine wp_if (b' := true) HF rfl (decide_eq_true hb3) ?_
  refine wc_text ?_
  refine wc_move HF nS rfl rfl rfl (fun a HF => ?_)
  refine wc_bslice (l := ([(-1), 4, 1] : List Int)) (cs := [.int .i64 (-1), .int .i64 4, .int .i64 1]) (A := []) HF HT bs66_3 rfl rfl (gives_flat rfl) rfl (by decide) rfl rfl (fun p5 w HT hb  => ⟨nS, fun a HF => ?_⟩)
  obtain ⟨y19, y20, y21, hx7, h⟩ := obs3 h
  have HT := HT.p1
  obtain ⟨F6, hAF6, hFF6, hbackF6, hroF6, hownF6, hownAF6⟩ := St.handR2 (A := [Box p_0 [.slice a_x0_0 x0_0.length c_x0_0, .int .i64 y11, .int .i64 y12]]) HT
  refine wc_call HF cf104 rfl (w_spec_l1PickInt fuel hx7 hAF6 (hroF6 hr_x0_0) (hownF6 _ _ _ (List.mem_of_getElem? (i := 0) rfl))) rfl rfl ?_
  rintro e w ⟨rfl, hE⟩
  have HT := hbackF6 _ _ hE
  have HT : St w0 F w [Box p_0 [.slice a_x0_0 x0_0.length c_x0_0, .int .i64 y20, .int .i64 y21], Own 3 (rowT ([(-1), 4, 1] : List Int)) (.slice (some ⟨p5, 0, none⟩) 3 3), Box p2 [.int .i64 y4, .int .i64 y5, .int .i64 y6, .int .i64 y7], Box p1 [.int .i64 0, .int .i64 0, .int .i64 0, .int .i64 0]] := HT
  refine ⟨_, rfl, nS, fun a HF => ?_⟩
  refine wc_faddr HF nS rfl fl25_3 rfl rfl (fun a HF => ?_)
  have HT := HT.p2
  refine wc_storeB (cs' := [.int .i64 y4, .int .i64 y5, .int .i64 y6, .int .i64 y19]) HF HT rfl rfl (fun w => (sc3 w).2) rfl rfl rfl rfl rfl (fun w HT => ⟨nS, ?_⟩)
  refine wc_end ?_
  refine blk_n ?_
  have HT := HT.p1.p1.p3.t3
  have hj13 := Option.some.inj h
  obtain ⟨hi13, hj14⟩ := Prod.mk.inj hj13
  subst hi13
  obtain ⟨hi14, hj15⟩ := Prod.mk.inj hj14
  subst hi14
  obtain ⟨hi15, hj16⟩ := Prod.mk.inj hj15
  subst hi15
  obtain ⟨hi16, hj17⟩ := Prod.mk.inj hj16
  subst hi16
  obtain ⟨hi17, hj18⟩ := Prod.mk.inj hj17
  subst hi17
  subst hj18
  exact then_n ⟨(HF.keep (HF.keep HF.nil rfl) rfl), HT⟩
  have h := (if_neg hb3).symm.trans h
  refine wp_if (b' := false) HF rfl (decide_eq_false hb3) ?_
  refine wp_seq ?_
  refine wc_text ?_
  refine wc_bin HF nS rfl rfl b_eq rfl rfl (fun a HF => ?_)
  refine wc_assign HF nS rfl rfl rfl (fun a HF => ?_)
  refine wc_end ?_
  refine then_n ?_
  by_cases hb4 : y10 = 3
  have h := (if_pos hb4).symm.trans h
  refine wp_if (b' := true) HF rfl (decide_eq_true hb4) ?_
  refine wc_text ?_
  refine wc_move HF nS rfl rfl rfl (fun a HF => ?_)
  refine wc_bslice (l := ([0, 17, (-3)] : List Int)) (cs := [.int .i64 0, .int .i64 17, .int .i64 (-3)]) (A := []) HF HT bs66_3 rfl rfl (gives_flat rfl) rfl (by decide) rfl rfl (fun p6 w HT hb  => ⟨nS, fun a HF => ?_⟩)
  obtain ⟨y22, y23, y24, hx8, h⟩ := obs3 h
  have HT := HT.p1
  obtain ⟨F7, hAF7, hFF7, hbackF7, hroF7, hownF7, hownAF7⟩ := St.handR2 (A := [Box p_0 [.slice a_x0_0 x0_0.length c_x0_0, .int .i64 y11, .int .i64 y12]]) HT
  refine wc_call HF cf104 rfl (w_spec_l1PickInt fuel hx8 hAF7 (hroF7 hr_x0_0) (hownF7 _ _ _ (List.mem_of_getElem? (i := 0) rfl))) rfl rfl ?_
  rintro e w ⟨rfl, hE⟩
  have HT := hbackF7 _ _ hE
  have HT : St w0 F w [Box p_0 [.slice a_x0_0 x0_0.length c_x0_0, .int .i64 y23, .int .i64 y24], Own 3 (rowT ([0, 17, (-3)] : List Int)) (.slice (some ⟨p6, 0, none⟩) 3 3), Box p2 [.int .i64 y4, .int .i64 y5, .int .i64 y6, .int .i64 y7], Box p1 [.int .i64 0, .int .i64 0, .int .i64 0, .int .i64 0]] := HT
  refine ⟨_, rfl, nS, fun a HF => ?_⟩
  refine wc_faddr HF nS rfl fl25_0 rfl rfl (fun a HF => ?_)
  have HT := HT.p2
  refine wc_storeB (cs' := [.int .i64 y22, .int .i64 y5, .int .i64 y6, .int .i64 y7]) HF HT rfl rfl (fun w => (sc3 w).2) rfl rfl rfl rfl rfl (fun w HT => ⟨nS, ?_⟩)
  refine wc_end ?_
  refine blk_n ?_
  have HT := HT.p1.p1.p3.t3
  have hj19 := Option.some.inj h
  obtain ⟨hi19, hj20⟩ := Prod.mk.inj hj19
  subst hi19
  obtain ⟨hi20, hj21⟩ := Prod.mk.inj hj20
  subst hi20
  obtain ⟨hi21, hj22⟩ := Prod.mk.inj hj21
  subst hi21
  obtain ⟨hi22, hj23⟩ := Prod.mk.inj hj22
  subst hi22
  obtain ⟨hi23, hj24⟩ := Prod.mk.inj hj23
  subst hi23
  subst hj24
  exact then_n ⟨(HF.keep (HF.keep HF.nil rfl) rfl), HT⟩
  have h := (if_neg hb4).symm.trans h
  refine wp_if (b' := false) HF rfl (decide_eq_false hb4) ?_
  refine wp_skip ?_
  refine blk_n ?_
  have HT := HT.p1.p2
  have hj25 := Option.some.inj h
  obtain ⟨hi25, hj26⟩ := Prod.mk.inj hj25
  subst hi25
  obtain ⟨hi26, hj27⟩ := Prod.mk.inj hj26
  subst hi26
  obtain ⟨hi27, hj28⟩ := Prod.mk.inj hj27
  subst hi27
  obtain ⟨hi28, hj29⟩ := Prod.mk.inj hj28
  subst hi28
  obtain ⟨hi29, hj30⟩ := Prod.mk.inj hj29
  subst hi29
  subst hj30
  exact then_n ⟨(HF.keep (HF.keep HF.nil rfl) rfl), HT⟩
  rintro a w ⟨HF, HT⟩
  refine ?_
  refine wp_seq ?_
  refine wc_text ?_
  refine wc_loadA (vs := [.int .i64 z1, .int .i64 z2, .int .i64 z3, .int .i64 z4]) HF rfl ag25 rfl ((HT.boxAt 1 rfl).part 0 4) rfl rfl (fun a HF => ?_)
  refine wc_storeB (cs' := [.int .i64 z1, .int .i64 z2, .int .i64 z3, .int .i64 z4]) HF HT rfl rfl (fun w => (ag25 w).2) rfl rfl rfl rfl rfl (fun w HT => ⟨nS, ?_⟩)
  refine wc_end ?_
  refine then_n ?_
  refine wp_ret ?_
  have hj31 := Option.some.inj h
  obtain ⟨hi31, hj32⟩ := Prod.mk.inj hj31
  subst hi31
  obtain ⟨hi32, hj33⟩ := Prod.mk.inj hj32
  subst hi32
  obtain ⟨hi33, hj34⟩ := Prod.mk.inj hj33
  subst hi33
  obtain ⟨hi34, hj35⟩ := Prod.mk.inj hj34
  subst hi34
  obtain ⟨hi35, hj36⟩ := Prod.mk.inj hj35
  subst hi35
  subst hj36
  refine bp_ret HF (res_cell (vs := [.int .i64 z1, .int .i64 z2, .int .i64 z3, .int .i64 z4]) rfl HF rfl ag25 rfl (HT.boxAt 0 rfl)) ?_
  have HT := HT.p2.t1
  exact ⟨rfl, HT⟩

def m_spec_l5Bend_L0 (fuel : Nat) (x0_0 : List UInt8) : Nat → Int → Int → (List I4) → Option (Lp (List I4 × Int × Int) (List I4 × Int × Int))
  | 0, _, _, _ => none
  | k1 + 1, z4, z5, z6 =>
    bind3 (m_spec_l1Below fuel x0_0 z4 z5 2) fun y13 y14 y15 =>
    if in64 (24 + y13) then
      if (z6.length : Int) < (24 + y13) then
        if z6.length + 1 ≤ 17179869184 then
          m_spec_l5Bend_L0 fuel x0_0 k1 y14 y15 (z6 ++ ([(⟨1, 0, 0, 0⟩ : I4)] : List I4))
        else none
      else
      some (.brk (z6, y14, y15))
    else none

def m_spec_l5Bend (fuel : Nat) (x0_0 : List UInt8) (x0_1 : Int) (x0_2 : Int) (x1 : List I4) : Option (List I4 × Int × Int) :=
  if ([] : List I4).length + x1.length ≤ 17179869184 then
    if ((([] : List I4) ++ x1).length : Int) = 0 then
      some (([(⟨9, 0, 0, 0⟩ : I4)] : List I4), x0_1, x0_2)
    else
    bind3 (m_spec_l1Below fuel x0_0 x0_1 x0_2 ((([] : List I4) ++ x1).length : Int)) fun y1 y2 y3 =>
    (
      bind3 (m_spec_l1Below fuel x0_0 y2 y3 6) fun y4 y5 y6 =>
      if y4 = 0 then
        bind6 (m_spec_l4Any fuel x0_0 y5 y6) fun y7 y8 y9 y10 y11 y12 =>
        (at? (([] : List I4) ++ x1) y1).bind fun e1 =>
        some (.brk ((([] : List I4) ++ x1).set y1.toNat (⟨y7, y8, y9, y10⟩ : I4), y11, y12))
      else
      if y4 = 1 then
        (at? (([] : List I4) ++ x1) y1).bind fun e2 =>
        some (.brk ((([] : List I4) ++ x1).set y1.toNat (⟨11, 0, 0, 0⟩ : I4), y5, y6))
      else
      if y4 = 2 then
        if 0 ≤ (y1 : Int) ∧ y1 ≤ ((([] : List I4) ++ x1).length : Int) then
          if in64 (y1 + 1) then
            if 0 ≤ (y1 + 1 : Int) ∧ (y1 + 1 : Int) ≤ ((([] : List I4) ++ x1).length : Int) ∧ ((([] : List I4) ++ x1).length : Int) ≤ ((([] : List I4) ++ x1).length : Int) then
              if (subl (([] : List I4) ++ x1) 0 y1).length + (subl (([] : List I4) ++ x1) (y1 + 1) ((([] : List I4) ++ x1).length : Int)).length ≤ 17179869184 then
                some (.ret ((subl (([] : List I4) ++ x1) 0 y1) ++ (subl (([] : List I4) ++ x1) (y1 + 1) ((([] : List I4) ++ x1).length : Int)), y5, y6))
              else none
            else none
          else none
        else none
      else
      if y4 = 3 then
        m_spec_l5Bend_L0 fuel x0_0 fuel y5 y6 (([] : List I4) ++ x1)
      else
      if y4 = 4 then
        (at? (([] : List I4) ++ x1) y1).bind fun e3 =>
        if in64 (e3.c + 1) then
          some (.brk ((([] : List I4) ++ x1).set y1.toNat (⟨e3.a, e3.b, e3.c + 1, e3.d⟩ : I4), y5, y6))
        else none
      else
      bind3 (m_spec_l1Below fuel x0_0 y5 y6 2) fun y16 y17 y18 =>
      if in64 (9 - y16) then
        (at? (([] : List I4) ++ x1) y1).bind fun e4 =>
        some (.brk ((([] : List I4) ++ x1).set y1.toNat (⟨9 - y16, 0, 0, 0⟩ : I4), y17, y18))
      else none).bind <| contL <| un3 fun z1 z2 z3 =>
    some (z1, z2, z3)
  else none

set_option maxRecDepth 100000 in
set_option maxHeartbeats 4000000 in
theorem w_spec_l5Bend (fuel : Nat) {x0_0 : List UInt8} {x0_1 : Int} {x0_2 : Int} {x1 : List I4} {a_x0_0 : Option Addr} {n_x0_0 c_x0_0 : Nat} {a_x1 : Option Addr} {n_x1 c_x1 : Nat} {p_0 : Nat} {r0 : List I4} {x0_1' : Int} {x0_2' : Int} {F : Foot} {w0 : World} (h : m_spec_l5Bend fuel x0_0 x0_1 x0_2 x1 = some (r0, x0_1', x0_2')) (hA : StF w0 F [Box p_0 [.slice a_x0_0 n_x0_0 c_x0_0, .int .i64 x0_1, .int .i64 x0_2]]) (hr_x0_0 : RdT (fun b => ¬ F b) w0 (rowT x0_0) (.slice a_x0_0 n_x0_0 c_x0_0)) (hr_x1 : RdT (fun b => ¬ F b) w0 (rowT x1) (.slice a_x1 n_x1 c_x1)) :
    Calls Try.prog 90 #[.pointer (some ⟨p_0, 0, none⟩), .slice a_x1 n_x1 c_x1] w0 fun e w => ∃ a_r0 n_r0 c_r0, e = .returned (.slice a_r0 n_r0 c_r0) ∧ St w0 F w [Own 25 (rowT r0) (.slice a_r0 n_r0 c_r0), Box p_0 [.slice a_x0_0 n_x0_0 c_x0_0, .int .i64 x0_1', .int .i64 x0_2']] := by
  have HT0 := St.init hA
  obtain rfl := hr_x0_0.neq
  obtain rfl := hr_x1.neq
  have HT : St w0 F w0 [Box p_0 [.slice a_x0_0 x0_0.length c_x0_0, .int .i64 x0_1, .int .i64 x0_2]] := St.init hA
  rw [m_spec_l5Bend] at h
  refine calls_fr (n := 76) [.pointer (some ⟨p_0, 0, none⟩), .slice a_x1 x1.length c_x1] Try.func90 rfl rfl rfl (fun a HF => ?_)
  have HT : St w0 F w0 [Box p_0 [.slice a_x0_0 x0_0.length c_x0_0, .int .i64 x0_1, .int .i64 x0_2]] := HT
  refine wp_seq ?_
  refine wc_text ?_
  refine wc_assign HF nS rfl rfl rfl (fun a HF => ?_)
  refine wc_end ?_
  refine then_n ?_
  refine wp_seq ?_
  refine wc_text ?_
  refine wc_bslice (l := ([] : List I4)) (cs := []) (A := []) HF HT bs35_0 rfl rfl (gives_flat rfl) rfl (by decide) rfl rfl (fun p1 w HT hb  => ⟨nS, fun a HF => ?_⟩)
  refine wc_move HF nS rfl rfl rfl (fun a HF => ?_)
  obtain ⟨hg1, h⟩ := grd h
  refine wc_appendR HF HT (HT.ro hr_x1).any el35 rfl rfl hg1 rfl rfl rfl (fun a1 c1 w HT => ⟨nS, fun a HF => ?_⟩)
  refine wc_assign HF nS rfl rfl rfl (fun a HF => ?_)
  refine wc_end ?_
  refine then_n ?_
  refine wp_seq ?_
  refine wp_seq ?_
  refine wc_text ?_
  refine wc_move HF nS rfl rfl rfl (fun a HF => ?_)
  refine wc_lenR HF nS Try.underlying35 rfl rfl rfl (fun a HF => ?_)
  refine wc_bin HF nS rfl rfl b_eq rfl rfl (fun a HF => ?_)
  refine wc_end ?_
  refine then_n ?_
  by_cases hb1 : ((([] : List I4) ++ x1).length : Int) = 0
  have h := (if_pos hb1).symm.trans h
  refine wp_if (b' := true) HF rfl (decide_eq_true hb1) ?_
  refine wp_seq ?_
  refine wc_text ?_
  refine wc_build (cs := #[.int .i64 9, .int .i64 0, .int .i64 0, .int .i64 0]) HF nS bd25 rfl rfl rfl rfl (fun a HF => ?_)
  refine wc_bslice (l := ([(⟨9, 0, 0, 0⟩ : I4)] : List I4)) (cs := [.int .i64 9, .int .i64 0, .int .i64 0, .int .i64 0]) (A := []) HF HT bs35_1 rfl rfl (gives_flat rfl) rfl (by decide) rfl rfl (fun p2 w HT hb  => ⟨nS, fun a HF => ?_⟩)
  refine wc_assign HF nS rfl rfl rfl (fun a HF => ?_)
  refine wc_end ?_
  refine then_n ?_
  refine wp_ret ?_
  have hj1 := Option.some.inj h
  obtain ⟨hi1, hj2⟩ := Prod.mk.inj hj1
  subst hi1
  obtain ⟨hi2, hj3⟩ := Prod.mk.inj hj2
  subst hi2
  subst hj3
  refine then_r (?_)
  refine bp_ret HF (res_one rfl HF rfl) ?_
  have HT := HT.p2.p1.t2
  exact ⟨(some ⟨p2, 0, none⟩), 1, 1, rfl, HT⟩
  have h := (if_neg hb1).symm.trans h
  refine wp_if (b' := false) HF rfl (decide_eq_false hb1) ?_
  refine wp_skip ?_
  refine then_n ?_
  refine wp_seq ?_
  refine wc_text ?_
  refine wc_move HF nS rfl rfl rfl (fun a HF => ?_)
  refine wc_move HF nS rfl rfl rfl (fun a HF => ?_)
  refine wc_lenR HF nS Try.underlying35 rfl rfl rfl (fun a HF => ?_)
  obtain ⟨y1, y2, y3, hx1, h⟩ := obs3 h
  have HT := HT.p1
  obtain ⟨F1, hAF1, hFF1, hbackF1, hroF1, hownF1, hownAF1⟩ := St.handR2 (A := [Box p_0 [.slice a_x0_0 x0_0.length c_x0_0, .int .i64 x0_1, .int .i64 x0_2]]) HT
  refine wc_call HF cf69 rfl (w_spec_l1Below fuel hx1 hAF1 (hroF1 hr_x0_0)) rfl rfl ?_
  rintro e w ⟨rfl, hE⟩
  have HT := hbackF1 _ _ hE
  have HT : St w0 F w [Box p_0 [.slice a_x0_0 x0_0.length c_x0_0, .int .i64 y2, .int .i64 y3], Own 25 (rowT (([] : List I4) ++ x1)) (.slice a1 ((([] : List I4) ++ x1).length) c1)] := HT
  refine ⟨_, rfl, nS, fun a HF => ?_⟩
  refine wc_assign HF nS rfl rfl rfl (fun a HF => ?_)
  refine wc_end ?_
  refine then_n ?_
  obtain ⟨q1, hx2, h⟩ := obs h
  refine wp_cut (fun a w => ∃ z1 z2 z3 a2 n1 c2, q1 = .brk (z1, z2, z3) ∧ Fr a 76 [(5, .slice a2 n1 c2)] ∧ St w0 F w [Own 25 (rowT z1) (.slice a2 n1 c2), Box p_0 [.slice a_x0_0 x0_0.length c_x0_0, .int .i64 z2, .int .i64 z3]]) ?_ ?_
  have hk1 := h
  have h := hx2
  refine wp_seq ?_
  refine wc_text ?_
  refine wc_move HF nS rfl rfl rfl (fun a HF => ?_)
  obtain ⟨y4, y5, y6, hx3, h⟩ := obs3 h
  obtain ⟨F2, hAF2, hFF2, hbackF2, hroF2, hownF2, hownAF2⟩ := St.handR2 (A := [Box p_0 [.slice a_x0_0 x0_0.length c_x0_0, .int .i64 y2, .int .i64 y3]]) HT
  refine wc_call HF cf69 rfl (w_spec_l1Below fuel hx3 hAF2 (hroF2 hr_x0_0)) rfl rfl ?_
  rintro e w ⟨rfl, hE⟩
  have HT := hbackF2 _ _ hE
  have HT : St w0 F w [Box p_0 [.slice a_x0_0 x0_0.length c_x0_0, .int .i64 y5, .int .i64 y6], Own 25 (rowT (([] : List I4) ++ x1)) (.slice a1 ((([] : List I4) ++ x1).length) c1)] := HT
  refine ⟨_, rfl, nS, fun a HF => ?_⟩
  refine wc_end ?_
  refine then_n ?_
  refine wp_block ?_
  refine wp_seq ?_
  refine wc_text ?_
  refine wc_bin HF nS rfl rfl b_eq rfl rfl (fun a HF => ?_)
  refine wc_assign HF nS rfl rfl rfl (fun a HF => ?_)
  refine wc_end ?_
  refine then_n ?_
  by_cases hb2 : y4 = 0
  have h := (if_pos hb2).symm.trans h
  refine wp_if (b' := true) HF rfl (decide_eq_true hb2) ?_
  refine wc_text ?_
  refine wc_move HF nS rfl rfl rfl (fun a HF => ?_)
  refine wc_move HF nS rfl rfl rfl (fun a HF => ?_)
  refine wc_move HF nS rfl rfl rfl (fun a HF => ?_)
  obtain ⟨y7, y8, y9, y10, y11, y12, hx4, h⟩ := obs6 h
  obtain ⟨F3, hAF3, hFF3, hbackF3, hroF3, hownF3, hownAF3⟩ := St.handR2 (A := [Box p_0 [.slice a_x0_0 x0_0.length c_x0_0, .int .i64 y5, .int .i64 y6]]) HT
  refine wc_call HF cf103 rfl (w_spec_l4Any fuel hx4 hAF3 (hroF3 hr_x0_0)) rfl rfl ?_
  rintro e w ⟨rfl, hE⟩
  have HT := hbackF3 _ _ hE
  have HT : St w0 F w [Box p_0 [.slice a_x0_0 x0_0.length c_x0_0, .int .i64 y11, .int .i64 y12], Own 25 (rowT (([] : List I4) ++ x1)) (.slice a1 ((([] : List I4) ++ x1).length) c1)] := HT
  refine ⟨_, rfl, nS, fun a HF => ?_⟩
  obtain ⟨e1, hx5, h⟩ := obs h
  obtain ⟨b1, o1, ha1⟩ := (HT.rdAt 1 rfl).addr hx5
  refine wc_ixaddr HF nS el35 rfl ha1 ((HT.rdAt 1 rfl)).neq rfl hx5 rfl rfl (fun a HF => ?_)
  have HT := HT.p1
  refine wc_storeR (i := y1) (j := 0) (x' := (⟨y7, y8, y9, y10⟩ : I4)) HF HT ha1 rfl rfl (fun w => (ag25 w).2) rfl rfl hx5 rfl rfl rfl rfl (fun w HT => ⟨nS, ?_⟩)
  refine wc_end ?_
  refine blk_n ?_
  exact then_n ⟨(([] : List I4) ++ x1).set y1.toNat (⟨y7, y8, y9, y10⟩ : I4), y11, y12, a1, (([] : List I4) ++ x1).length, c1, (Option.some.inj h).symm, (HF.keep HF.nil rfl), HT⟩
  have h := (if_neg hb2).symm.trans h
  refine wp_if (b' := false) HF rfl (decide_eq_false hb2) ?_
  refine wp_seq ?_
  refine wc_text ?_
  refine wc_bin HF nS rfl rfl b_eq rfl rfl (fun a HF => ?_)
  refine wc_assign HF nS rfl rfl rfl (fun a HF => ?_)
  refine wc_end ?_
  refine then_n ?_
  by_cases hb3 : y4 = 1
  have h := (if_pos hb3).symm.trans h
  refine wp_if (b' := true) HF rfl (decide_eq_true hb3) ?_
  refine wc_text ?_
  refine wc_move HF nS rfl rfl rfl (fun a HF => ?_)
  refine wc_move HF nS rfl rfl rfl (fun a HF => ?_)
  refine wc_build (cs := #[.int .i64 11, .int .i64 0, .int .i64 0, .int .i64 0]) HF nS bd25 rfl rfl rfl rfl (fun a HF => ?_)
  obtain ⟨e2, hx6, h⟩ := obs h
  obtain ⟨b2, o2, ha2⟩ := (HT.rdAt 1 rfl).addr hx6
  refine wc_ixaddr HF nS el35 rfl ha2 ((HT.rdAt 1 rfl)).neq rfl hx6 rfl rfl (fun a HF => ?_)
  have HT := HT.p1
  refine wc_storeR (i := y1) (j := 0) (x' := (⟨11, 0, 0, 0⟩ : I4)) HF HT ha2 rfl rfl (fun w => (ag25 w).2) rfl rfl hx6 rfl rfl rfl rfl (fun w HT => ⟨nS, ?_⟩)
  refine wc_end ?_
  refine blk_n ?_
  exact then_n ⟨(([] : List I4) ++ x1).set y1.toNat (⟨11, 0, 0, 0⟩ : I4), y5, y6, a1, (([] : List I4) ++ x1).length, c1, (Option.some.inj h).symm, (HF.keep HF.nil rfl), HT⟩
  have h := (if_neg hb3).symm.trans h
  refine wp_if (b' := false) HF rfl (decide_eq_false hb3) ?_
  refine wp_seq ?_
  refine wc_text ?_
  refine wc_bin HF nS rfl rfl b_eq rfl rfl (fun a HF => ?_)
  refine wc_assign HF nS rfl rfl rfl (fun a HF => ?_)
  refine wc_end ?_
  refine then_n ?_
  by_cases hb4 : y4 = 2
  have h := (if_pos hb4).symm.trans h
  refine wp_if (b' := true) HF rfl (decide_eq_true hb4) ?_
  refine wp_seq ?_
  refine wp_region_can [(0, true), (1, true), (2, true), (3, true), (4, true), (5, true), (6, true), (7, true), (8, true)] (fun w' => True) (by kernel_rfl) (by kernel_rfl) ?_
  have HT := HT.drew
  refine wc_move HF nS rfl rfl rfl (fun a HF => ?_)
  refine wc_move HF nS rfl rfl rfl (fun a HF => ?_)
  have HT := HT.p1
  obtain ⟨hg2, h⟩ := grd h
  obtain ⟨_, hcut⟩ := St.cutO HT hg2
  refine wc_slrH HF nS el35 rfl rfl hcut rfl rfl (fun a HF => ?_)
  refine wc_move HF nS rfl rfl rfl (fun a HF => ?_)
  refine wc_move HF nS rfl rfl rfl (fun a HF => ?_)
  obtain ⟨hg3, h⟩ := grd h
  refine wc_bin HF nS rfl rfl (b_add hg3) rfl rfl (fun a HF => ?_)
  obtain ⟨hg4, h⟩ := grd h
  obtain ⟨a3, c3, hr1, hcut⟩ := RdT.cutI (HT.rdAt 0 rfl) hg4
  refine wc_slrL (j := 0) HF nS el35 rfl rfl hcut rfl rfl (fun a HF => ?_)
  have HT := (St.cutO HT hg2).1
  obtain ⟨hg5, h⟩ := grd h
  refine wc_appendR HF HT hr1 el35 rfl rfl hg5 rfl rfl rfl (fun a4 c4 w HT => ⟨nS, fun a HF => ?_⟩)
  refine wc_assign HF nS rfl rfl rfl (fun a HF => ?_)
  refine wc_endN ?_
  refine then_n ?_
  refine wp_ret ?_
  obtain rfl := Option.some.inj h
  have h := retL hk1
  have hj4 := Option.some.inj h
  obtain ⟨hi4, hj5⟩ := Prod.mk.inj hj4
  subst hi4
  obtain ⟨hi5, hj6⟩ := Prod.mk.inj hj5
  subst hi5
  subst hj6
  refine blk_r (then_r (?_))
  refine bp_ret HF (res_one rfl HF rfl) ?_
  exact ⟨a4, ((subl (([] : List I4) ++ x1) 0 y1) ++ (subl (([] : List I4) ++ x1) (y1 + 1) ((([] : List I4) ++ x1).length : Int))).length, c4, rfl, HT⟩
  have h := (if_neg hb4).symm.trans h
  refine wp_if (b' := false) HF rfl (decide_eq_false hb4) ?_
  refine wp_seq ?_
  refine wc_text ?_
  refine wc_bin HF nS rfl rfl b_eq rfl rfl (fun a HF => ?_)
  refine wc_assign HF nS rfl rfl rfl (fun a HF => ?_)
  refine wc_end ?_
  refine then_n ?_
  by_cases hb5 : y4 = 3
  have h := (if_pos hb5).symm.trans h
  refine wp_if (b' := true) HF rfl (decide_eq_true hb5) ?_
  refine wp_block ?_
  refine wp_loopN (fun k1 a w => ∃ z4 z5 z6 a5 n2 c5, m_spec_l5Bend_L0 fuel x0_0 k1 z4 z5 z6 = some q1 ∧ Fr a 76 [(0, .pointer (some ⟨p_0, 0, none⟩)), (5, .slice a5 n2 c5)] ∧ St w0 F w [Box p_0 [.slice a_x0_0 x0_0.length c_x0_0, .int .i64 z4, .int .i64 z5], Own 25 (rowT z6) (.slice a5 n2 c5)]) fuel ⟨y5, y6, ([] : List I4) ++ x1, a1, (([] : List I4) ++ x1).length, c1, h, (HF.keep (HF.keep HF.nil rfl) rfl), HT⟩ ?_
  rintro k1 a w ⟨z4, z5, z6, a5, n2, c5, h, HF, HT⟩
  rcases k1 with _ | k1
  cases h
  rw [m_spec_l5Bend_L0] at h
  obtain rfl := (HT.rdAt 1 rfl).neq
  refine ?_
  refine wp_seq ?_
  refine wp_seq ?_
  refine wc_text ?_
  refine wc_move HF nS rfl rfl rfl (fun a HF => ?_)
  refine wc_lenR HF nS Try.underlying35 rfl rfl rfl (fun a HF => ?_)
  refine wc_move HF nS rfl rfl rfl (fun a HF => ?_)
  obtain ⟨y13, y14, y15, hx7, h⟩ := obs3 h
  obtain ⟨F4, hAF4, hFF4, hbackF4, hroF4, hownF4, hownAF4⟩ := St.handR2 (A := [Box p_0 [.slice a_x0_0 x0_0.length c_x0_0, .int .i64 z4, .int .i64 z5]]) HT
  refine wc_call HF cf69 rfl (w_spec_l1Below fuel hx7 hAF4 (hroF4 hr_x0_0)) rfl rfl ?_
  rintro e w ⟨rfl, hE⟩
  have HT := hbackF4 _ _ hE
  have HT : St w0 F w [Box p_0 [.slice a_x0_0 x0_0.length c_x0_0, .int .i64 y14, .int .i64 y15], Own 25 (rowT z6) (.slice a5 z6.length c5)] := HT
  refine ⟨_, rfl, nS, fun a HF => ?_⟩
  obtain ⟨hg6, h⟩ := grd h
  refine wc_bin HF nS rfl rfl (b_add hg6) rfl rfl (fun a HF => ?_)
  refine wc_bin HF nS rfl rfl b_lt rfl rfl (fun a HF => ?_)
  refine wc_end ?_
  refine then_n ?_
  by_cases hb6 : (z6.length : Int) < (24 + y13)
  have h := (if_pos hb6).symm.trans h
  refine wp_if (b' := true) HF rfl (decide_eq_true hb6) ?_
  refine wp_skip ?_
  refine then_n ?_
  refine wp_block ?_
  refine wc_text ?_
  refine wc_move HF nS rfl rfl rfl (fun a HF => ?_)
  refine wc_build (cs := #[.int .i64 1, .int .i64 0, .int .i64 0, .int .i64 0]) HF nS bd25 rfl rfl rfl rfl (fun a HF => ?_)
  refine wc_bslice (l := ([(⟨1, 0, 0, 0⟩ : I4)] : List I4)) (cs := [.int .i64 1, .int .i64 0, .int .i64 0, .int .i64 0]) (A := []) HF HT bs35_1 rfl rfl (gives_flat rfl) rfl (by decide) rfl rfl (fun p3 w HT hb  => ⟨nS, fun a HF => ?_⟩)
  obtain ⟨hg7, h⟩ := grd h
  have HT := HT.p2
  refine wc_append HF HT el35 rfl rfl (Nat.zero_lt_succ _) hg7 rfl rfl rfl (fun a6 c6 w HT => ⟨nS, fun a HF => ?_⟩)
  refine wc_assign HF nS rfl rfl rfl (fun a HF => ?_)
  refine wc_end ?_
  refine blk_n ?_
  have HT := HT.p1
  exact then_n ⟨k1, Nat.lt_succ_self k1, y14, y15, z6 ++ ([(⟨1, 0, 0, 0⟩ : I4)] : List I4), a6, (z6 ++ ([(⟨1, 0, 0, 0⟩ : I4)] : List I4)).length, c6, h, (HF.keep (HF.keep HF.nil rfl) rfl), HT⟩
  have h := (if_neg hb6).symm.trans h
  refine wp_if (b' := false) HF rfl (decide_eq_false hb6) ?_
  refine wp_exit ?_
  refine then_x (then_x (?_))
  refine blk_x ?_
  refine blk_n ?_
  have HT := HT.p1
  exact then_n ⟨z6, y14, y15, a5, z6.length, c5, (Option.some.inj h).symm, (HF.keep HF.nil rfl), HT⟩
  have h := (if_neg hb5).symm.trans h
  refine wp_if (b' := false) HF rfl (decide_eq_false hb5) ?_
  refine wp_seq ?_
  refine wc_text ?_
  refine wc_bin HF nS rfl rfl b_eq rfl rfl (fun a HF => ?_)
  refine wc_assign HF nS rfl rfl rfl (fun a HF => ?_)
  refine wc_end ?_
  refine then_n ?_
  by_cases hb7 : y4 = 4
  have h := (if_pos hb7).symm.trans h
  refine wp_if (b' := true) HF rfl (decide_eq_true hb7) ?_
  refine wc_text ?_
  refine wc_move HF nS rfl rfl rfl (fun a HF => ?_)
  refine wc_move HF nS rfl rfl rfl (fun a HF => ?_)
  refine wc_move HF nS rfl rfl rfl (fun a HF => ?_)
  refine wc_move HF nS rfl rfl rfl (fun a HF => ?_)
  obtain ⟨e3, hx8, h⟩ := obs h
  obtain ⟨b3, o3, ha3⟩ := (HT.rdAt 1 rfl).addr hx8
  refine wc_ixaddr HF nS el35 rfl ha3 ((HT.rdAt 1 rfl)).neq rfl hx8 rfl rfl (fun a HF => ?_)
  refine wc_faddr HF nS rfl fl25_2 rfl rfl (fun a HF => ?_)
  have hc1 := (HT.rdAt 1 rfl).flatAt ha3 hx8
  refine wc_load HF rfl sc3 (hc1.get 2 rfl) rfl rfl (fun a HF => ?_)
  obtain ⟨hg8, h⟩ := grd h
  refine wc_bin HF nS rfl rfl (b_add hg8) rfl rfl (fun a HF => ?_)
  refine wc_ixaddr HF nS el35 rfl ha3 ((HT.rdAt 1 rfl)).neq rfl hx8 rfl rfl (fun a HF => ?_)
  refine wc_faddr HF nS rfl fl25_2 rfl rfl (fun a HF => ?_)
  have HT := HT.p1
  refine wc_storeR (i := y1) (j := 2) (x' := (⟨e3.a, e3.b, e3.c + 1, e3.d⟩ : I4)) HF HT ha3 rfl rfl (fun w => (sc3 w).2) rfl rfl hx8 rfl rfl rfl rfl (fun w HT => ⟨nS, ?_⟩)
  refine wc_end ?_
  refine blk_n ?_
  exact then_n ⟨(([] : List I4) ++ x1).set y1.toNat (⟨e3.a, e3.b, e3.c + 1, e3.d⟩ : I4), y5, y6, a1, (([] : List I4) ++ x1).length, c1, (Option.some.inj h).symm, (HF.keep HF.nil rfl), HT⟩
  have h := (if_neg hb7).symm.trans h
  refine wp_if (b' := false) HF rfl (decide_eq_false hb7) ?_
  refine wc_text ?_
  refine wc_move HF nS rfl rfl rfl (fun a HF => ?_)
  refine wc_move HF nS rfl rfl rfl (fun a HF => ?_)
  refine wc_move HF nS rfl rfl rfl (fun a HF => ?_)
  obtain ⟨y16, y17, y18, hx9, h⟩ := obs3 h
  obtain ⟨F5, hAF5, hFF5, hbackF5, hroF5, hownF5, hownAF5⟩ := St.handR2 (A := [Box p_0 [.slice a_x0_0 x0_0.length c_x0_0, .int .i64 y5, .int .i64 y6]]) HT
  refine wc_call HF cf69 rfl (w_spec_l1Below fuel hx9 hAF5 (hroF5 hr_x0_0)) rfl rfl ?_
  rintro e w ⟨rfl, hE⟩
  have HT := hbackF5 _ _ hE
  have HT : St w0 F w [Box p_0 [.slice a_x0_0 x0_0.length c_x0_0, .int .i64 y17, .int .i64 y18], Own 25 (rowT (([] : List I4) ++ x1)) (.slice a1 ((([] : List I4) ++ x1).length) c1)] := HT
  refine ⟨_, rfl, nS, fun a HF => ?_⟩
  obtain ⟨hg9, h⟩ := grd h
  refine wc_bin HF nS rfl rfl (b_sub hg9) rfl rfl (fun a HF => ?_)
  refine wc_build (cs := #[.int .i64 (9 - y16), .int .i64 0, .int .i64 0, .int .i64 0]) HF nS bd25 rfl rfl rfl rfl (fun a HF => ?_)
  obtain ⟨e4, hx10, h⟩ := obs h
  obtain ⟨b4, o4, ha4⟩ := (HT.rdAt 1 rfl).addr hx10
  refine wc_ixaddr HF nS el35 rfl ha4 ((HT.rdAt 1 rfl)).neq rfl hx10 rfl rfl (fun a HF => ?_)
  have HT := HT.p1
  refine wc_storeR (i := y1) (j := 0) (x' := (⟨9 - y16, 0, 0, 0⟩ : I4)) HF HT ha4 rfl rfl (fun w => (ag25 w).2) rfl rfl hx10 rfl rfl rfl rfl (fun w HT => ⟨nS, ?_⟩)
  refine wc_end ?_
  refine blk_n ?_
  exact then_n ⟨(([] : List I4) ++ x1).set y1.toNat (⟨9 - y16, 0, 0, 0⟩ : I4), y17, y18, a1, (([] : List I4) ++ x1).length, c1, (Option.some.inj h).symm, (HF.keep HF.nil rfl), HT⟩
  rintro a w ⟨z1, z2, z3, a2, n1, c2, rfl, HF, HT⟩
  have h := brkL3 h
  obtain rfl := (HT.rdAt 0 rfl).neq
  refine ?_
  refine wp_seq ?_
  refine wc_text ?_
  refine wc_move HF nS rfl rfl rfl (fun a HF => ?_)
  refine wc_assign HF nS rfl rfl rfl (fun a HF => ?_)
  refine wc_end ?_
  refine then_n ?_
  refine wp_ret ?_
  have hj7 := Option.some.inj h
  obtain ⟨hi7, hj8⟩ := Prod.mk.inj hj7
  subst hi7
  obtain ⟨hi8, hj9⟩ := Prod.mk.inj hj8
  subst hi8
  subst hj9
  refine bp_ret HF (res_one rfl HF rfl) ?_
  exact ⟨a2, z1.length, c2, rfl, HT⟩

def m_spec_l5AnyProg (fuel : Nat) (x0_0 : List UInt8) (x0_1 : Int) (x0_2 : Int) : Option (List I4 × List KidD × Int × Int) :=
  bind3 (m_spec_l1Once fuel x0_0 x0_1 x0_2 2) fun y1 y2 y3 =>
  bind4 (m_spec_l5Prog fuel x0_0 y2 y3 y1) fun y4 y5 y6 y7 =>
  bind4 (
    bind3 (m_spec_l1Below fuel x0_0 y6 y7 10) fun y8 y9 y10 =>
    if y8 = 0 then
      bind3 (m_spec_l5Bend fuel x0_0 y9 y10 y4) fun y11 y12 y13 =>
      some (y11, y5, y12, y13)
    else
    if y8 = 1 then
      if 0 < (y5.length : Int) then
        bind3 (m_spec_l1Below fuel x0_0 y9 y10 (y5.length : Int)) fun y14 y15 y16 =>
        (at? y5 y14).bind fun e1 =>
        bind3 (m_spec_l5Bend fuel x0_0 y15 y16 e1.code) fun y17 y18 y19 =>
        some (y4, y5.set y14.toNat (⟨y17⟩ : KidD), y18, y19)
      else
      some (y4, y5, y9, y10)
    else
    if y8 = 2 then
      if y5.length + 1 ≤ 17179869184 then
        some (y4, y5 ++ ([(⟨([] : List I4)⟩ : KidD)] : List KidD), y9, y10)
      else none
    else
    if y8 = 3 then
      some (y4, ([] : List KidD), y9, y10)
    else
    some (y4, y5, y9, y10)) fun z1 z2 z3 z4 =>
  some (z1, z2, z3, z4)

set_option maxRecDepth 100000 in
set_option maxHeartbeats 4000000 in
theorem w_spec_l5AnyProg (fuel : Nat) {x0_0 : List UInt8} {x0_1 : Int} {x0_2 : Int} {a_x0_0 : Option Addr} {n_x0_0 c_x0_0 : Nat} {p_0 : Nat} {r0_0 : List I4} {r0_1 : List KidD} {x0_1' : Int} {x0_2' : Int} {F : Foot} {w0 : World} (h : m_spec_l5AnyProg fuel x0_0 x0_1 x0_2 = some (r0_0, r0_1, x0_1', x0_2')) (hA : StF w0 F [Box p_0 [.slice a_x0_0 n_x0_0 c_x0_0, .int .i64 x0_1, .int .i64 x0_2]]) (hr_x0_0 : RdT (fun b => ¬ F b) w0 (rowT x0_0) (.slice a_x0_0 n_x0_0 c_x0_0)) :
    Calls Try.prog 63 #[.pointer (some ⟨p_0, 0, none⟩)] w0 fun e w => ∃ a_r0_0 n_r0_0 c_r0_0, ∃ a_r0_1 n_r0_1 c_r0_1, e = .returned (.agg #[.slice a_r0_0 n_r0_0 c_r0_0, .slice a_r0_1 n_r0_1 c_r0_1]) ∧ St w0 F w [Own 25 (rowT r0_0) (.slice a_r0_0 n_r0_0 c_r0_0), Own 77 (rowT r0_1) (.slice a_r0_1 n_r0_1 c_r0_1), Box p_0 [.slice a_x0_0 n_x0_0 c_x0_0, .int .i64 x0_1', .int .i64 x0_2']] := by
  have HT0 := St.init hA
  obtain rfl := hr_x0_0.neq
  have HT : St w0 F w0 [Box p_0 [.slice a_x0_0 x0_0.length c_x0_0, .int .i64 x0_1, .int .i64 x0_2]] := St.init hA
  rw [m_spec_l5AnyProg] at h
  refine calls_fr (n := 54) [.pointer (some ⟨p_0, 0, none⟩)] Try.func63 rfl rfl rfl (fun a HF => ?_)
  have HT : St w0 F w0 [Box p_0 [.slice a_x0_0 x0_0.length c_x0_0, .int .i64 x0_1, .int .i64 x0_2]] := HT
  refine wp_seq ?_
  refine wc_text ?_
  refine wc_alloc (cs := [.slice none 0 0, .slice none 0 0]) HF HT zr49 rfl rfl rfl (fun p1 w HT hb => ⟨nS, fun a HF => ?_⟩)
  refine wc_end ?_
  refine then_n ?_
  refine wp_seq ?_
  refine wc_text ?_
  refine wc_move HF nS rfl rfl rfl (fun a HF => ?_)
  refine wc_move HF nS rfl rfl rfl (fun a HF => ?_)
  obtain ⟨y1, y2, y3, hx1, h⟩ := obs3 h
  have HT := HT.p1
  obtain ⟨F1, hAF1, hFF1, hbackF1, hroF1, hownF1, hownAF1⟩ := St.handR2 (A := [Box p_0 [.slice a_x0_0 x0_0.length c_x0_0, .int .i64 x0_1, .int .i64 x0_2]]) HT
  refine wc_call HF cf68 rfl (w_spec_l1Once fuel hx1 hAF1 (hroF1 hr_x0_0)) rfl rfl ?_
  rintro e w ⟨rfl, hE⟩
  have HT := hbackF1 _ _ hE
  have HT : St w0 F w [Box p_0 [.slice a_x0_0 x0_0.length c_x0_0, .int .i64 y2, .int .i64 y3], Box p1 [.slice none 0 0, .slice none 0 0]] := HT
  refine ⟨_, rfl, nS, fun a HF => ?_⟩
  obtain ⟨y4, y5, y6, y7, hx2, h⟩ := obs4 h
  obtain ⟨F2, hAF2, hFF2, hbackF2, hroF2, hownF2, hownAF2⟩ := St.handR2 (A := [Box p_0 [.slice a_x0_0 x0_0.length c_x0_0, .int .i64 y2, .int .i64 y3]]) HT
  refine wc_call HF cf67 rfl (w_spec_l5Prog fuel hx2 hAF2 (hroF2 hr_x0_0)) rfl rfl ?_
  rintro e w ⟨a1, n1, c1, a2, n2, c2, rfl, hE⟩
  have HT := hbackF2 _ _ hE
  obtain rfl := (HT.rdAt 0 rfl).neq
  obtain rfl := (HT.rdAt 1 rfl).neq
  have HT : St w0 F w [Own 25 (rowT y4) (.slice a1 y4.length c1), Own 77 (rowT y5) (.slice a2 y5.length c2), Box p_0 [.slice a_x0_0 x0_0.length c_x0_0, .int .i64 y6, .int .i64 y7], Box p1 [.slice none 0 0, .slice none 0 0]] := HT
  refine ⟨_, rfl, nS, fun a HF => ?_⟩
  refine wc_alloc (cs := [.slice none 0 0, .slice none 0 0]) HF HT zr49 rfl rfl rfl (fun p2 w HT hb => ⟨nS, fun a HF => ?_⟩)
  refine wc_storeB (cs' := [.slice a1 y4.length c1, .slice a2 y5.length c2]) HF HT rfl rfl (fun w => (ag49 w).2) rfl rfl rfl rfl rfl (fun w HT => ⟨nS, ?_⟩)
  refine wc_end ?_
  refine then_n ?_
  obtain ⟨z1, z2, z3, z4, hx3, h⟩ := obs4 h
  refine wp_cut (fun a w => ∃ a3 n3 c3 a4 n4 c4, Fr a 54 [(2, .pointer (some ⟨p1, 0, none⟩)), (3, .pointer (some ⟨p2, 0, none⟩))] ∧ St w0 F w [Box p1 [.slice none 0 0, .slice none 0 0], Own 25 (rowT z1) (.slice a3 n3 c3), Own 77 (rowT z2) (.slice a4 n4 c4), Box p2 [.slice a3 n3 c3, .slice a4 n4 c4], Box p_0 [.slice a_x0_0 x0_0.length c_x0_0, .int .i64 z3, .int .i64 z4]]) ?_ ?_
  have hk1 := h
  have h := hx3
  refine wp_seq ?_
  refine wc_text ?_
  refine wc_move HF nS rfl rfl rfl (fun a HF => ?_)
  obtain ⟨y8, y9, y10, hx4, h⟩ := obs3 h
  have HT := HT.p3
  obtain ⟨F3, hAF3, hFF3, hbackF3, hroF3, hownF3, hownAF3⟩ := St.handR2 (A := [Box p_0 [.slice a_x0_0 x0_0.length c_x0_0, .int .i64 y6, .int .i64 y7]]) HT
  refine wc_call HF cf69 rfl (w_spec_l1Below fuel hx4 hAF3 (hroF3 hr_x0_0)) rfl rfl ?_
  rintro e w ⟨rfl, hE⟩
  have HT := hbackF3 _ _ hE
  have HT : St w0 F w [Box p_0 [.slice a_x0_0 x0_0.length c_x0_0, .int .i64 y9, .int .i64 y10], Box p2 [.slice a1 y4.length c1, .slice a2 y5.length c2], Own 25 (rowT y4) (.slice a1 y4.length c1), Own 77 (rowT y5) (.slice a2 y5.length c2), Box p1 [.slice none 0 0, .slice none 0 0]] := HT
  refine ⟨_, rfl, nS, fun a HF => ?_⟩
  refine wc_end ?_
  refine then_n ?_
  refine wp_block ?_
  refine wp_seq ?_
  refine wc_text ?_
  refine wc_bin HF nS rfl rfl b_eq rfl rfl (fun a HF => ?_)
  refine wc_assign HF nS rfl rfl rfl (fun a HF => ?_)
  refine wc_end ?_
  refine then_n ?_
  by_cases hb1 : y8 = 0
  have h := (if_pos hb1).symm.trans h
  refine wp_if (b' := true) HF rfl (decide_eq_true hb1) ?_
  refine wc_text ?_
  refine wc_move HF nS rfl rfl rfl (fun a HF => ?_)
  refine wc_faddr HF nS rfl fl49_0 rfl rfl (fun a HF => ?_)
  refine wc_load HF rfl sc35 ((HT.boxAt 1 rfl).get 0 rfl) rfl rfl (fun a HF => ?_)
  obtain ⟨y11, y12, y13, hx5, h⟩ := obs3 h
  obtain ⟨F4, hAF4, hFF4, hbackF4, hroF4, hownF4, hownAF4⟩ := St.handR2 (A := [Box p_0 [.slice a_x0_0 x0_0.length c_x0_0, .int .i64 y9, .int .i64 y10]]) HT
  refine wc_call HF cf90 rfl (w_spec_l5Bend fuel hx5 hAF4 (hroF4 hr_x0_0) (hownF4 _ _ _ (List.mem_of_getElem? (i := 1) rfl))) rfl rfl ?_
  rintro e w ⟨a5, n5, c5, rfl, hE⟩
  have HT := hbackF4 _ _ hE
  obtain rfl := (HT.rdAt 0 rfl).neq
  have HT : St w0 F w [Own 25 (rowT y11) (.slice a5 y11.length c5), Box p_0 [.slice a_x0_0 x0_0.length c_x0_0, .int .i64 y12, .int .i64 y13], Box p2 [.slice a1 y4.length c1, .slice a2 y5.length c2], Own 25 (rowT y4) (.slice a1 y4.length c1), Own 77 (rowT y5) (.slice a2 y5.length c2), Box p1 [.slice none 0 0, .slice none 0 0]] := HT
  refine ⟨_, rfl, nS, fun a HF => ?_⟩
  refine wc_faddr HF nS rfl fl49_0 rfl rfl (fun a HF => ?_)
  have HT := HT.p2
  refine wc_storeB (cs' := [.slice a5 y11.length c5, .slice a2 y5.length c2]) HF HT rfl rfl (fun w => (sc35 w).2) rfl rfl rfl rfl rfl (fun w HT => ⟨nS, ?_⟩)
  refine wc_end ?_
  refine blk_n ?_
  have HT := HT.p2.p1.p4.p3.p5.t5
  have hj1 := Option.some.inj h
  obtain ⟨hi1, hj2⟩ := Prod.mk.inj hj1
  subst hi1
  obtain ⟨hi2, hj3⟩ := Prod.mk.inj hj2
  subst hi2
  obtain ⟨hi3, hj4⟩ := Prod.mk.inj hj3
  subst hi3
  subst hj4
  exact then_n ⟨a5, y11.length, c5, a2, y5.length, c2, (HF.keep (HF.keep HF.nil rfl) rfl), HT⟩
  have h := (if_neg hb1).symm.trans h
  refine wp_if (b' := false) HF rfl (decide_eq_false hb1) ?_
  refine wp_seq ?_
  refine wc_text ?_
  refine wc_bin HF nS rfl rfl b_eq rfl rfl (fun a HF => ?_)
  refine wc_assign HF nS rfl rfl rfl (fun a HF => ?_)
  refine wc_end ?_
  refine then_n ?_
  by_cases hb2 : y8 = 1
  have h := (if_pos hb2).symm.trans h
  refine wp_if (b' := true) HF rfl (decide_eq_true hb2) ?_
  refine wp_seq ?_
  refine wc_text ?_
  refine wc_faddr HF nS rfl fl49_1 rfl rfl (fun a HF => ?_)
  refine wc_load HF rfl sc47 ((HT.boxAt 1 rfl).get 1 rfl) rfl rfl (fun a HF => ?_)
  refine wc_lenR HF nS Try.underlying47 rfl rfl rfl (fun a HF => ?_)
  refine wc_bin HF nS rfl rfl b_gt rfl rfl (fun a HF => ?_)
  refine wc_end ?_
  refine then_n ?_
  by_cases hb3 : 0 < (y5.length : Int)
  have h := (if_pos hb3).symm.trans h
  refine wp_if (b' := true) HF rfl (decide_eq_true hb3) ?_
  refine wp_seq ?_
  refine wc_text ?_
  refine wc_move HF nS rfl rfl rfl (fun a HF => ?_)
  refine wc_faddr HF nS rfl fl49_1 rfl rfl (fun a HF => ?_)
  refine wc_load HF rfl sc47 ((HT.boxAt 1 rfl).get 1 rfl) rfl rfl (fun a HF => ?_)
  refine wc_lenR HF nS Try.underlying47 rfl rfl rfl (fun a HF => ?_)
  obtain ⟨y14, y15, y16, hx6, h⟩ := obs3 h
  obtain ⟨F5, hAF5, hFF5, hbackF5, hroF5, hownF5, hownAF5⟩ := St.handR2 (A := [Box p_0 [.slice a_x0_0 x0_0.length c_x0_0, .int .i64 y9, .int .i64 y10]]) HT
  refine wc_call HF cf69 rfl (w_spec_l1Below fuel hx6 hAF5 (hroF5 hr_x0_0)) rfl rfl ?_
  rintro e w ⟨rfl, hE⟩
  have HT := hbackF5 _ _ hE
  have HT : St w0 F w [Box p_0 [.slice a_x0_0 x0_0.length c_x0_0, .int .i64 y15, .int .i64 y16], Box p2 [.slice a1 y4.length c1, .slice a2 y5.length c2], Own 25 (rowT y4) (.slice a1 y4.length c1), Own 77 (rowT y5) (.slice a2 y5.length c2), Box p1 [.slice none 0 0, .slice none 0 0]] := HT
  refine ⟨_, rfl, nS, fun a HF => ?_⟩
  refine wc_assign HF nS rfl rfl rfl (fun a HF => ?_)
  refine wc_end ?_
  refine then_n ?_
  refine wp_region_can [(0, false), (1, false), (2, false), (3, true), (4, true), (5, true), (6, true), (7, true), (8, true), (9, true), (10, false), (11, true), (12, true), (13, true)] (fun w' => w'.cell? ⟨p2, 1, none⟩ = some (.slice a2 y5.length c2) ∧ True) (by kernel_rfl) (by kernel_rfl) ?_
  have HT := HT.drew
  refine wc_faddr HF (fun _ => ⟨(HT.boxAt 1 rfl).get 1 rfl, trivial⟩) rfl fl49_1 rfl rfl (fun a HF => ?_)
  refine wc_loadS HF ⟨(HT.boxAt 1 rfl).get 1 rfl, trivial⟩ rfl sc47 (fun w hS => hS.1) rfl rfl (fun a HF => ?_)
  refine wc_move HF (fun _ => ⟨(HT.boxAt 1 rfl).get 1 rfl, trivial⟩) rfl rfl rfl (fun a HF => ?_)
  refine wc_move HF nS rfl rfl rfl (fun a HF => ?_)
  refine wc_faddr HF nS rfl fl49_1 rfl rfl (fun a HF => ?_)
  refine wc_load HF rfl sc47 ((HT.boxAt 1 rfl).get 1 rfl) rfl rfl (fun a HF => ?_)
  refine wc_move HF nS rfl rfl rfl (fun a HF => ?_)
  obtain ⟨e1, hx7, h⟩ := obs h
  obtain ⟨b1, o1, ha1⟩ := (HT.rdAt 3 rfl).addr hx7
  refine wc_ixaddr HF nS el47 rfl ha1 ((HT.rdAt 3 rfl)).neq rfl hx7 rfl rfl (fun a HF => ?_)
  refine wc_faddr HF nS rfl fl77_0 rfl rfl (fun a HF => ?_)
  have hq1 := ((HT.rdAt 3 rfl)).neq
  have HT := HT.p3
  obtain ⟨us1, HT⟩ := HT.focus hx7
  obtain ⟨a6, c6, rfl, HT⟩ := HT.pieces_Kid
  have HT : St w0 F w.drew [OwnA (rowT e1.code) (.slice a6 e1.code.length c6), HoleR (some 77) y5 (y14 : Int).toNat (.slice a2 y5.length c2) [.slice a6 e1.code.length c6], Box p_0 [.slice a_x0_0 x0_0.length c_x0_0, .int .i64 y15, .int .i64 y16], Box p2 [.slice a1 y4.length c1, .slice a2 y5.length c2], Own 25 (rowT y4) (.slice a1 y4.length c1), Box p1 [.slice none 0 0, .slice none 0 0]] := HT
  have hc1 := HT.holeAt 1 rfl ha1
  refine wc_load HF rfl sc35 (hc1.get 0 rfl) rfl rfl (fun a HF => ?_)
  obtain ⟨y17, y18, y19, hx8, h⟩ := obs3 h
  have HT := HT.p2
  obtain ⟨F6, hAF6, hFF6, hbackF6, hroF6, hownF6, hownAF6⟩ := St.handR2 (A := [Box p_0 [.slice a_x0_0 x0_0.length c_x0_0, .int .i64 y15, .int .i64 y16]]) HT
  refine wc_call HF cf90 rfl (w_spec_l5Bend fuel hx8 hAF6 (hroF6 hr_x0_0) (hownAF6 _ _ (List.mem_of_getElem? (i := 0) rfl))) rfl rfl ?_
  rintro e w ⟨a7, n6, c7, rfl, hE⟩
  have HT := hbackF6 _ _ hE
  obtain rfl := (HT.rdAt 0 rfl).neq
  have HT : St w0 F w [Own 25 (rowT y17) (.slice a7 y17.length c7), Box p_0 [.slice a_x0_0 x0_0.length c_x0_0, .int .i64 y18, .int .i64 y19], OwnA (rowT e1.code) (.slice a6 e1.code.length c6), HoleR (some 77) y5 (y14 : Int).toNat (.slice a2 y5.length c2) [.slice a6 e1.code.length c6], Box p2 [.slice a1 y4.length c1, .slice a2 y5.length c2], Own 25 (rowT y4) (.slice a1 y4.length c1), Box p1 [.slice none 0 0, .slice none 0 0]] := HT
  refine ⟨_, rfl, (fun _ => ⟨(HT.boxAt 4 rfl).get 1 rfl, trivial⟩), fun a HF => ?_⟩
  refine wc_ixaddr HF nS el47 rfl ha1 hq1 rfl hx7 rfl rfl (fun a HF => ?_)
  refine wc_faddr HF nS rfl fl77_0 rfl rfl (fun a HF => ?_)
  have HT := HT.p2.p3
  have HT := St.unfocusS (A := [OwnA (rowT e1.code) (.slice a6 e1.code.length c6)]) hx7 HT (gives_ownA gives_nil)
  have HT : St w0 F w [Own 77 (rowT y5) (.slice a2 y5.length c2), Own 25 (rowT y17) (.slice a7 y17.length c7), Box p_0 [.slice a_x0_0 x0_0.length c_x0_0, .int .i64 y18, .int .i64 y19], Box p2 [.slice a1 y4.length c1, .slice a2 y5.length c2], Own 25 (rowT y4) (.slice a1 y4.length c1), Box p1 [.slice none 0 0, .slice none 0 0]] := HT
  refine wc_storeN (i := y14) (x' := (⟨y17⟩ : KidD)) (A := [Own 25 (rowT y17) (.slice a7 y17.length c7)]) HF HT ha1 rfl rfl (fun w => (sc35 w).2) rfl hx7 (fun w => (gives_own gives_nil)) rfl (fun w HT => ⟨nS, ?_⟩)
  refine wc_endN ?_
  refine blk_n ?_
  have HT := HT.p1.p2.p2.p3.p4
  have hj5 := Option.some.inj h
  obtain ⟨hi5, hj6⟩ := Prod.mk.inj hj5
  subst hi5
  obtain ⟨hi6, hj7⟩ := Prod.mk.inj hj6
  subst hi6
  obtain ⟨hi7, hj8⟩ := Prod.mk.inj hj7
  subst hi7
  subst hj8
  exact then_n ⟨a1, y4.length, c1, a2, y5.length, c2, (HF.keep (HF.keep HF.nil rfl) rfl), HT⟩
  have h := (if_neg hb3).symm.trans h
  refine wp_if (b' := false) HF rfl (decide_eq_false hb3) ?_
  refine wp_skip ?_
  refine blk_n ?_
  have HT := HT.p1.p3.p3.p4
  have hj9 := Option.some.inj h
  obtain ⟨hi9, hj10⟩ := Prod.mk.inj hj9
  subst hi9
  obtain ⟨hi10, hj11⟩ := Prod.mk.inj hj10
  subst hi10
  obtain ⟨hi11, hj12⟩ := Prod.mk.inj hj11
  subst hi11
  subst hj12
  exact then_n ⟨a1, y4.length, c1, a2, y5.length, c2, (HF.keep (HF.keep HF.nil rfl) rfl), HT⟩
  have h := (if_neg hb2).symm.trans h
  refine wp_if (b' := false) HF rfl (decide_eq_false hb2) ?_
  refine wp_seq ?_
  refine wc_text ?_
  refine wc_bin HF nS rfl rfl b_eq rfl rfl (fun a HF => ?_)
  refine wc_assign HF nS rfl rfl rfl (fun a HF => ?_)
  refine wc_end ?_
  refine then_n ?_
  by_cases hb4 : y8 = 2
  have h := (if_pos hb4).symm.trans h
  refine wp_if (b' := true) HF rfl (decide_eq_true hb4) ?_
  refine wc_text ?_
  refine wc_faddr HF nS rfl fl49_1 rfl rfl (fun a HF => ?_)
  refine wc_load HF rfl sc47 ((HT.boxAt 1 rfl).get 1 rfl) rfl rfl (fun a HF => ?_)
  refine wc_build (cs := #[.slice none 0 0]) HF nS bd77 rfl rfl rfl rfl (fun a HF => ?_)
  have HT := HT.nilrow (E := I4) 25
  refine wc_bslice (l := ([(⟨([] : List I4)⟩ : KidD)] : List KidD)) (cs := [.slice none 0 0]) (A := [Own 25 (rowT ([] : List I4)) (.slice none 0 0)]) HF HT bs47_1 rfl rfl (gives_own gives_nil) rfl (by decide) rfl rfl (fun p3 w HT hb  => ⟨nS, fun a HF => ?_⟩)
  obtain ⟨hg1, h⟩ := grd h
  have HT := HT.p4
  refine wc_append HF HT el47 rfl rfl (Nat.zero_lt_succ _) hg1 rfl rfl rfl (fun a8 c8 w HT => ⟨nS, fun a HF => ?_⟩)
  refine wc_faddr HF nS rfl fl49_1 rfl rfl (fun a HF => ?_)
  have HT := HT.p2
  refine wc_storeB (cs' := [.slice a1 y4.length c1, .slice a8 ((y5 ++ ([(⟨([] : List I4)⟩ : KidD)] : List KidD)).length) c8]) HF HT rfl rfl (fun w => (sc47 w).2) rfl rfl rfl rfl rfl (fun w HT => ⟨nS, ?_⟩)
  refine wc_end ?_
  refine blk_n ?_
  have HT := HT.p2.p1.p2.p3.p4
  have hj13 := Option.some.inj h
  obtain ⟨hi13, hj14⟩ := Prod.mk.inj hj13
  subst hi13
  obtain ⟨hi14, hj15⟩ := Prod.mk.inj hj14
  subst hi14
  obtain ⟨hi15, hj16⟩ := Prod.mk.inj hj15
  subst hi15
  subst hj16
  exact then_n ⟨a1, y4.length, c1, a8, (y5 ++ ([(⟨([] : List I4)⟩ : KidD)] : List KidD)).length, c8, (HF.keep (HF.keep HF.nil rfl) rfl), HT⟩
  have h := (if_neg hb4).symm.trans h
  refine wp_if (b' := false) HF rfl (decide_eq_false hb4) ?_
  refine wp_seq ?_
  refine wc_text ?_
  refine wc_bin HF nS rfl rfl b_eq rfl rfl (fun a HF => ?_)
  refine wc_assign HF nS rfl rfl rfl (fun a HF => ?_)
  refine wc_end ?_
  refine then_n ?_
  by_cases hb5 : y8 = 3
  have h := (if_pos hb5).symm.trans h
  refine wp_if (b' := true) HF rfl (decide_eq_true hb5) ?_
  refine wc_text ?_
  refine wc_faddr HF nS rfl fl49_1 rfl rfl (fun a HF => ?_)
  have HT := HT.p1
  refine wc_storeB (cs' := [.slice a1 y4.length c1, .slice none 0 0]) HF HT rfl rfl (fun w => (sc47 w).2) rfl rfl rfl rfl rfl (fun w HT => ⟨nS, ?_⟩)
  refine wc_end ?_
  refine blk_n ?_
  have HT := HT.nilrow (E := KidD) 77
  have HT := HT.p2.p2.p2.p3.p5.t5
  have hj17 := Option.some.inj h
  obtain ⟨hi17, hj18⟩ := Prod.mk.inj hj17
  subst hi17
  obtain ⟨hi18, hj19⟩ := Prod.mk.inj hj18
  subst hi18
  obtain ⟨hi19, hj20⟩ := Prod.mk.inj hj19
  subst hi19
  subst hj20
  exact then_n ⟨a1, y4.length, c1, none, 0, 0, (HF.keep (HF.keep HF.nil rfl) rfl), HT⟩
  have h := (if_neg hb5).symm.trans h
  refine wp_if (b' := false) HF rfl (decide_eq_false hb5) ?_
  refine wp_skip ?_
  refine blk_n ?_
  have HT := HT.p1.p3.p3.p4
  have hj21 := Option.some.inj h
  obtain ⟨hi21, hj22⟩ := Prod.mk.inj hj21
  subst hi21
  obtain ⟨hi22, hj23⟩ := Prod.mk.inj hj22
  subst hi22
  obtain ⟨hi23, hj24⟩ := Prod.mk.inj hj23
  subst hi23
  subst hj24
  exact then_n ⟨a1, y4.length, c1, a2, y5.length, c2, (HF.keep (HF.keep HF.nil rfl) rfl), HT⟩
  rintro a w ⟨a3, n3, c3, a4, n4, c4, HF, HT⟩
  obtain rfl := (HT.rdAt 1 rfl).neq
  obtain rfl := (HT.rdAt 2 rfl).neq
  refine ?_
  refine wp_seq ?_
  refine wc_text ?_
  refine wc_loadA (vs := [.slice a3 z1.length c3, .slice a4 z2.length c4]) HF rfl ag49 rfl ((HT.boxAt 3 rfl).part 0 2) rfl rfl (fun a HF => ?_)
  refine wc_storeB (cs' := [.slice a3 z1.length c3, .slice a4 z2.length c4]) HF HT rfl rfl (fun w => (ag49 w).2) rfl rfl rfl rfl rfl (fun w HT => ⟨nS, ?_⟩)
  refine wc_end ?_
  refine then_n ?_
  refine wp_ret ?_
  have hj25 := Option.some.inj h
  obtain ⟨hi25, hj26⟩ := Prod.mk.inj hj25
  subst hi25
  obtain ⟨hi26, hj27⟩ := Prod.mk.inj hj26
  subst hi26
  obtain ⟨hi27, hj28⟩ := Prod.mk.inj hj27
  subst hi27
  subst hj28
  refine bp_ret HF (res_cell (vs := [.slice a3 z1.length c3, .slice a4 z2.length c4]) rfl HF rfl ag49 rfl (HT.boxAt 0 rfl)) ?_
  have HT := HT.p4.p3.p3.t3
  exact ⟨a3, z1.length, c3, a4, z2.length, c4, rfl, HT⟩

def m_spec_DrawShowProg (fuel : Nat) (x0 : List UInt8) : Option (List I4 × List KidD) :=
  bind2 (m_spec_l1New fuel x0) fun y1 y2 =>
  bind4 (m_spec_l5AnyProg fuel x0 y1 y2) fun y3 y4 y5 y6 =>
  some (y3, y4)

set_option maxRecDepth 100000 in
set_option maxHeartbeats 4000000 in
theorem w_spec_DrawShowProg (fuel : Nat) {x0 : List UInt8} {a_x0 : Option Addr} {n_x0 c_x0 : Nat} {r0_0 : List I4} {r0_1 : List KidD} {w0 : World} (h : m_spec_DrawShowProg fuel x0 = some (r0_0, r0_1)) (hr_x0 : RdT (fun b => ¬ False) w0 (rowT x0) (.slice a_x0 n_x0 c_x0)) :
    Calls Try.prog 35 #[.slice a_x0 n_x0 c_x0] w0 fun e w => ∃ a_r0_0 n_r0_0 c_r0_0, ∃ a_r0_1 n_r0_1 c_r0_1, e = .returned (.agg #[.slice a_r0_0 n_r0_0 c_r0_0, .slice a_r0_1 n_r0_1 c_r0_1]) ∧ St w0 (fun _ => False) w [Own 25 (rowT r0_0) (.slice a_r0_0 n_r0_0 c_r0_0), Own 77 (rowT r0_1) (.slice a_r0_1 n_r0_1 c_r0_1)] := by
  obtain rfl := hr_x0.neq
  have HT : St w0 (fun _ => False) w0 [] := St.init0
  rw [m_spec_DrawShowProg] at h
  refine calls_fr (n := 8) [.slice a_x0 x0.length c_x0] Try.func35 rfl rfl rfl (fun a HF => ?_)
  have HT : St w0 (fun _ => False) w0 [] := HT
  refine wp_seq ?_
  refine wc_text ?_
  refine wc_alloc (cs := [.slice none 0 0, .slice none 0 0]) HF HT zr49 rfl rfl rfl (fun p1 w HT hb => ⟨nS, fun a HF => ?_⟩)
  refine wc_end ?_
  refine then_n ?_
  refine wp_seq ?_
  refine wc_text ?_
  refine wc_move HF nS rfl rfl rfl (fun a HF => ?_)
  obtain ⟨y1, y2, hx1, h⟩ := obs2 h
  refine wc_call HF cf62 rfl (w_spec_l1New fuel hx1 (HT.ro hr_x0).any) rfl rfl ?_
  rintro e w ⟨p2, rfl, hE⟩
  have hb := hE.below
  have HT := HT.pure hE
  have HT : St w0 (fun _ => False) w [Box p2 [.slice a_x0 x0.length c_x0, .int .i64 y1, .int .i64 y2], Box p1 [.slice none 0 0, .slice none 0 0]] := HT
  refine ⟨_, rfl, nS, fun a HF => ?_⟩
  refine wc_assign HF nS rfl rfl rfl (fun a HF => ?_)
  refine wc_end ?_
  refine then_n ?_
  refine wp_seq ?_
  refine wc_text ?_
  refine wc_move HF nS rfl rfl rfl (fun a HF => ?_)
  obtain ⟨y3, y4, y5, y6, hx2, h⟩ := obs4 h
  obtain ⟨F1, hAF1, hFF1, hbackF1, hroF1, hownF1, hownAF1⟩ := St.handR2 (A := [Box p2 [.slice a_x0 x0.length c_x0, .int .i64 y1, .int .i64 y2]]) HT
  refine wc_call HF cf63 rfl (w_spec_l5AnyProg fuel hx2 hAF1 (hroF1 hr_x0)) rfl rfl ?_
  rintro e w ⟨a1, n1, c1, a2, n2, c2, rfl, hE⟩
  have HT := hbackF1 _ _ hE
  obtain rfl := (HT.rdAt 0 rfl).neq
  obtain rfl := (HT.rdAt 1 rfl).neq
  have HT : St w0 (fun _ => False) w [Own 25 (rowT y3) (.slice a1 y3.length c1), Own 77 (rowT y4) (.slice a2 y4.length c2), Box p2 [.slice a_x0 x0.length c_x0, .int .i64 y5, .int .i64 y6], Box p1 [.slice none 0 0, .slice none 0 0]] := HT
  refine ⟨_, rfl, nS, fun a HF => ?_⟩
  have HT := HT.p3
  refine wc_storeB (cs' := [.slice a1 y3.length c1, .slice a2 y4.length c2]) HF HT rfl rfl (fun w => (ag49 w).2) rfl rfl rfl rfl rfl (fun w HT => ⟨nS, ?_⟩)
  refine wc_end ?_
  refine then_n ?_
  refine wp_ret ?_
  have hj1 := Option.some.inj h
  obtain ⟨hi1, hj2⟩ := Prod.mk.inj hj1
  subst hi1
  subst hj2
  refine bp_ret HF (res_cell (vs := [.slice a1 y3.length c1, .slice a2 y4.length c2]) rfl HF rfl ag49 rfl (HT.boxAt 0 rfl)) ?_
  have HT := HT.p2.p2.t2
  exact ⟨a1, y3.length, c1, a2, y4.length, c2, rfl, HT⟩

def m_spec_l5Same_L0 (fuel : Nat) (x0 : List I4) (x1 : List I4) : Nat → Int → Option (Lp Unit Bool)
  | 0, _ => none
  | k1 + 1, z1 =>
    if z1 < (x0.length : Int) then
      (at? x0 z1).bind fun e1 =>
      (at? x1 z1).bind fun e2 =>
      if [e1.a, e1.b, e1.c, e1.d] = [e2.a, e2.b, e2.c, e2.d] then
        if in64 (z1 + 1) then
          m_spec_l5Same_L0 fuel x0 x1 k1 (z1 + 1)
        else none
      else
      some (.ret false)
    else
    some (.brk ())

def m_spec_l5Same (fuel : Nat) (x0 : List I4) (x1 : List I4) : Option Bool :=
  if (x0.length : Int) = (x1.length : Int) then
    (m_spec_l5Same_L0 fuel x0 x1 fuel 0).bind <| contL <| un1 fun _ =>
    some true
  else
  some false

set_option maxRecDepth 100000 in
set_option maxHeartbeats 4000000 in
theorem w_spec_l5Same (fuel : Nat) {x0 : List I4} {x1 : List I4} {a_x0 : Option Addr} {n_x0 c_x0 : Nat} {a_x1 : Option Addr} {n_x1 c_x1 : Nat} {r0 : Bool} {w0 : World} (h : m_spec_l5Same fuel x0 x1 = some r0) (hr_x0 : RdT (fun b => ¬ False) w0 (rowT x0) (.slice a_x0 n_x0 c_x0)) (hr_x1 : RdT (fun b => ¬ False) w0 (rowT x1) (.slice a_x1 n_x1 c_x1)) :
    Calls Try.prog 66 #[.slice a_x0 n_x0 c_x0, .slice a_x1 n_x1 c_x1] w0 fun e w => e = .returned (.bool r0) ∧ St w0 (fun _ => False) w [] := by
  obtain rfl := hr_x0.neq
  obtain rfl := hr_x1.neq
  have HT : St w0 (fun _ => False) w0 [] := St.init0
  rw [m_spec_l5Same] at h
  refine calls_fr (n := 26) [.slice a_x0 x0.length c_x0, .slice a_x1 x1.length c_x1] Try.func66 rfl rfl rfl (fun a HF => ?_)
  have HT : St w0 (fun _ => False) w0 [] := HT
  refine wp_seq ?_
  refine wc_text ?_
  refine wc_assign HF nS rfl rfl rfl (fun a HF => ?_)
  refine wc_end ?_
  refine then_n ?_
  refine wp_seq ?_
  refine wp_seq ?_
  refine wc_text ?_
  refine wc_move HF nS rfl rfl rfl (fun a HF => ?_)
  refine wc_lenR HF nS Try.underlying35 rfl rfl rfl (fun a HF => ?_)
  refine wc_move HF nS rfl rfl rfl (fun a HF => ?_)
  refine wc_lenR HF nS Try.underlying35 rfl rfl rfl (fun a HF => ?_)
  refine wc_bin HF nS rfl rfl b_ne rfl rfl (fun a HF => ?_)
  refine wc_end ?_
  refine then_n ?_
  by_cases hb1 : (x0.length : Int) = (x1.length : Int)
  have h := (if_pos hb1).symm.trans h
  refine wp_if (b' := false) HF rfl (notT (decide_eq_true hb1)) ?_
  refine wp_skip ?_
  refine then_n ?_
  obtain ⟨q1, hx1, h⟩ := obs h
  refine wp_cut (fun a w => q1 = .brk () ∧ Fr a 26 [] ∧ St w0 (fun _ => False) w []) ?_ ?_
  have hk1 := h
  have h := hx1
  refine wp_seq ?_
  refine wc_text ?_
  refine wc_assign HF nS rfl rfl rfl (fun a HF => ?_)
  refine wc_end ?_
  refine then_n ?_
  refine wp_block ?_
  refine wp_loopN (fun k1 a w => ∃ z1, m_spec_l5Same_L0 fuel x0 x1 k1 z1 = some q1 ∧ Fr a 26 [(0, .slice a_x0 x0.length c_x0), (1, .slice a_x1 x1.length c_x1), (5, .int .i64 z1)] ∧ St w0 (fun _ => False) w []) fuel ⟨0, h, (HF.keep (HF.keep (HF.keep HF.nil rfl) rfl) rfl), HT⟩ ?_
  rintro k1 a w ⟨z1, h, HF, HT⟩
  rcases k1 with _ | k1
  cases h
  rw [m_spec_l5Same_L0] at h
  refine ?_
  refine wp_seq ?_
  refine wp_seq ?_
  refine wc_text ?_
  refine wc_move HF nS rfl rfl rfl (fun a HF => ?_)
  refine wc_move HF nS rfl rfl rfl (fun a HF => ?_)
  refine wc_lenR HF nS Try.underlying35 rfl rfl rfl (fun a HF => ?_)
  refine wc_bin HF nS rfl rfl b_lt rfl rfl (fun a HF => ?_)
  refine wc_end ?_
  refine then_n ?_
  by_cases hb2 : z1 < (x0.length : Int)
  have h := (if_pos hb2).symm.trans h
  refine wp_if (b' := true) HF rfl (decide_eq_true hb2) ?_
  refine wp_skip ?_
  refine then_n ?_
  refine wp_seq ?_
  refine wp_block ?_
  refine wp_seq ?_
  refine wp_region_can [(0, true), (1, true), (2, true), (3, true), (4, true), (5, true), (6, true), (7, true), (8, true)] (fun w' => True) (by kernel_rfl) (by kernel_rfl) ?_
  have HT := HT.drew
  refine wc_move HF nS rfl rfl rfl (fun a HF => ?_)
  refine wc_move HF nS rfl rfl rfl (fun a HF => ?_)
  obtain ⟨e1, hx2, h⟩ := obs h
  obtain ⟨b1, o1, ha1⟩ := (HT.ro hr_x0).any.addr hx2
  refine wc_ixaddr HF nS el35 rfl ha1 ((HT.ro hr_x0).any).neq rfl hx2 rfl rfl (fun a HF => ?_)
  have hc1 := (HT.ro hr_x0).any.flatAt ha1 hx2
  refine wc_loadA (vs := [.int .i64 e1.a, .int .i64 e1.b, .int .i64 e1.c, .int .i64 e1.d]) HF rfl ag25 rfl (hc1.part 0 4) rfl rfl (fun a HF => ?_)
  refine wc_move HF nS rfl rfl rfl (fun a HF => ?_)
  refine wc_move HF nS rfl rfl rfl (fun a HF => ?_)
  obtain ⟨e2, hx3, h⟩ := obs h
  obtain ⟨b2, o2, ha2⟩ := (HT.ro hr_x1).any.addr hx3
  refine wc_ixaddr HF nS el35 rfl ha2 ((HT.ro hr_x1).any).neq rfl hx3 rfl rfl (fun a HF => ?_)
  have hc2 := (HT.ro hr_x1).any.flatAt ha2 hx3
  refine wc_loadA (vs := [.int .i64 e2.a, .int .i64 e2.b, .int .i64 e2.c, .int .i64 e2.d]) HF rfl ag25 rfl (hc2.part 0 4) rfl rfl (fun a HF => ?_)
  refine wc_bin HF nS rfl rfl (b_ane eq25 [e1.a, e1.b, e1.c, e1.d] [e2.a, e2.b, e2.c, e2.d] rfl rfl) rfl rfl (fun a HF => ?_)
  refine wc_endN ?_
  refine then_n ?_
  by_cases hb3 : [e1.a, e1.b, e1.c, e1.d] = [e2.a, e2.b, e2.c, e2.d]
  have h := (if_pos hb3).symm.trans h
  refine wp_if (b' := false) HF rfl (notT (decide_eq_true hb3)) ?_
  refine wp_skip ?_
  refine blk_n ?_
  refine then_n ?_
  refine wc_text ?_
  refine wc_move HF nS rfl rfl rfl (fun a HF => ?_)
  obtain ⟨hg1, h⟩ := grd h
  refine wc_bin HF nS rfl rfl (b_add hg1) rfl rfl (fun a HF => ?_)
  refine wc_assign HF nS rfl rfl rfl (fun a HF => ?_)
  refine wc_end ?_
  exact then_n ⟨k1, Nat.lt_succ_self k1, z1 + 1, h, (HF.keep (HF.keep (HF.keep HF.nil rfl) rfl) rfl), HT⟩
  have h := (if_neg hb3).symm.trans h
  refine wp_if (b' := true) HF rfl (notF (decide_eq_false hb3)) ?_
  refine wp_seq ?_
  refine wc_text ?_
  refine wc_assign HF nS rfl rfl rfl (fun a HF => ?_)
  refine wc_end ?_
  refine then_n ?_
  refine wp_ret ?_
  obtain rfl := Option.some.inj h
  have h := retL hk1
  obtain rfl := Option.some.inj h
  refine blk_r (then_r (then_r (blk_r (then_r (?_)))))
  refine bp_ret HF (res_one rfl HF rfl) ?_
  exact ⟨rfl, HT⟩
  have h := (if_neg hb2).symm.trans h
  refine wp_if (b' := false) HF rfl (decide_eq_false hb2) ?_
  refine wp_exit ?_
  refine then_x (then_x (?_))
  refine blk_x ?_
  exact then_n ⟨(Option.some.inj h).symm, HF.nil, HT⟩
  rintro a w ⟨rfl, HF, HT⟩
  have h := brkL1u h
  refine ?_
  refine wp_seq ?_
  refine wc_text ?_
  refine wc_assign HF nS rfl rfl rfl (fun a HF => ?_)
  refine wc_end ?_
  refine then_n ?_
  refine wp_ret ?_
  obtain rfl := Option.some.inj h
  refine bp_ret HF (res_one rfl HF rfl) ?_
  exact ⟨rfl, HT⟩
  have h := (if_neg hb1).symm.trans h
  refine wp_if (b' := true) HF rfl (notF (decide_eq_false hb1)) ?_
  refine wp_seq ?_
  refine wc_text ?_
  refine wc_assign HF nS rfl rfl rfl (fun a HF => ?_)
  refine wc_end ?_
  refine then_n ?_
  refine wp_ret ?_
  obtain rfl := Option.some.inj h
  refine then_r (?_)
  refine bp_ret HF (res_one rfl HF rfl) ?_
  exact ⟨rfl, HT⟩

def m_spec_SameProg_L0 (fuel : Nat) (x0_1 : List KidD) (x1_1 : List KidD) : Nat → Int → Option (Lp Unit Bool)
  | 0, _ => none
  | k1 + 1, z1 =>
    if z1 < (x0_1.length : Int) then
      (at? x0_1 z1).bind fun e1 =>
      (at? x1_1 z1).bind fun e2 =>
      (m_spec_l5Same fuel e1.code e2.code).bind fun y2 =>
      if y2 = true then
        if in64 (z1 + 1) then
          m_spec_SameProg_L0 fuel x0_1 x1_1 k1 (z1 + 1)
        else none
      else
      some (.ret false)
    else
    some (.brk ())

def m_spec_SameProg (fuel : Nat) (x0_0 : List I4) (x0_1 : List KidD) (x1_0 : List I4) (x1_1 : List KidD) : Option Bool :=
  (m_spec_l5Same fuel x0_0 x1_0).bind fun y1 =>
  if y1 = true then
    if (x0_1.length : Int) = (x1_1.length : Int) then
      (m_spec_SameProg_L0 fuel x0_1 x1_1 fuel 0).bind <| contL <| un1 fun _ =>
      some true
    else
    some false
  else
  some false

set_option maxRecDepth 100000 in
set_option maxHeartbeats 4000000 in
theorem w_spec_SameProg (fuel : Nat) {x0_0 : List I4} {x0_1 : List KidD} {x1_0 : List I4} {x1_1 : List KidD} {a_x0_0 : Option Addr} {n_x0_0 c_x0_0 : Nat} {a_x0_1 : Option Addr} {n_x0_1 c_x0_1 : Nat} {a_x1_0 : Option Addr} {n_x1_0 c_x1_0 : Nat} {a_x1_1 : Option Addr} {n_x1_1 c_x1_1 : Nat} {r0 : Bool} {w0 : World} (h : m_spec_SameProg fuel x0_0 x0_1 x1_0 x1_1 = some r0) (hr_x0_0 : RdT (fun b => ¬ False) w0 (rowT x0_0) (.slice a_x0_0 n_x0_0 c_x0_0)) (hr_x0_1 : RdT (fun b => ¬ False) w0 (rowT x0_1) (.slice a_x0_1 n_x0_1 c_x0_1)) (hr_x1_0 : RdT (fun b => ¬ False) w0 (rowT x1_0) (.slice a_x1_0 n_x1_0 c_x1_0)) (hr_x1_1 : RdT (fun b => ¬ False) w0 (rowT x1_1) (.slice a_x1_1 n_x1_1 c_x1_1)) :
    Calls Try.prog 37 #[.agg #[.slice a_x0_0 n_x0_0 c_x0_0, .slice a_x0_1 n_x0_1 c_x0_1], .agg #[.slice a_x1_0 n_x1_0 c_x1_0, .slice a_x1_1 n_x1_1 c_x1_1]] w0 fun e w => e = .returned (.bool r0) ∧ St w0 (fun _ => False) w [] := by
  obtain rfl := hr_x0_0.neq
  obtain rfl := hr_x0_1.neq
  obtain rfl := hr_x1_0.neq
  obtain rfl := hr_x1_1.neq
  have HT : St w0 (fun _ => False) w0 [] := St.init0
  rw [m_spec_SameProg] at h
  refine calls_fr (n := 42) [.agg #[.slice a_x0_0 x0_0.length c_x0_0, .slice a_x0_1 x0_1.length c_x0_1], .agg #[.slice a_x1_0 x1_0.length c_x1_0, .slice a_x1_1 x1_1.length c_x1_1]] Try.func37 rfl rfl rfl (fun a HF => ?_)
  have HT : St w0 (fun _ => False) w0 [] := HT
  refine wp_seq ?_
  refine wc_text ?_
  refine wc_box (cs := [.slice a_x0_0 x0_0.length c_x0_0, .slice a_x0_1 x0_1.length c_x0_1]) HF HT rfl rfl rfl rfl (fun p1 w HT hb => ⟨nS, fun a HF => ?_⟩)
  refine wc_box (cs := [.slice a_x1_0 x1_0.length c_x1_0, .slice a_x1_1 x1_1.length c_x1_1]) HF HT rfl rfl rfl rfl (fun p2 w HT hb => ⟨nS, fun a HF => ?_⟩)
  refine wc_assign HF nS rfl rfl rfl (fun a HF => ?_)
  refine wc_end ?_
  refine then_n ?_
  refine wp_seq ?_
  refine wp_seq ?_
  refine wc_text ?_
  refine wc_faddr HF nS rfl fl49_0 rfl rfl (fun a HF => ?_)
  refine wc_load HF rfl sc35 ((HT.boxAt 1 rfl).get 0 rfl) rfl rfl (fun a HF => ?_)
  refine wc_faddr HF nS rfl fl49_0 rfl rfl (fun a HF => ?_)
  refine wc_load HF rfl sc35 ((HT.boxAt 0 rfl).get 0 rfl) rfl rfl (fun a HF => ?_)
  obtain ⟨y1, hx1, h⟩ := obs h
  refine wc_call HF cf66 rfl (w_spec_l5Same fuel hx1 (HT.ro hr_x0_0).any (HT.ro hr_x1_0).any) rfl rfl ?_
  rintro e w ⟨rfl, hE⟩
  have hb := hE.below
  have HT := HT.pure hE
  have HT : St w0 (fun _ => False) w [Box p2 [.slice a_x1_0 x1_0.length c_x1_0, .slice a_x1_1 x1_1.length c_x1_1], Box p1 [.slice a_x0_0 x0_0.length c_x0_0, .slice a_x0_1 x0_1.length c_x0_1]] := HT
  refine ⟨_, rfl, nS, fun a HF => ?_⟩
  refine wc_not HF nS rfl rfl rfl (fun a HF => ?_)
  refine wc_move HF nS rfl rfl rfl (fun a HF => ?_)
  by_cases hb1 : y1 = true
  have h := (if_pos hb1).symm.trans h
  refine wc_faddr HF nS rfl fl49_1 (HF.wy rfl rfl rfl rfl (notT hb1)) rfl (fun a HF => ?_)
  refine wc_load HF rfl sc47 ((HT.boxAt 1 rfl).get 1 rfl) (HF.wy rfl rfl rfl rfl (notT hb1)) rfl (fun a HF => ?_)
  refine wc_lenR HF nS Try.underlying47 rfl (HF.wy rfl rfl rfl rfl (notT hb1)) rfl (fun a HF => ?_)
  refine wc_faddr HF nS rfl fl49_1 (HF.wy rfl rfl rfl rfl (notT hb1)) rfl (fun a HF => ?_)
  refine wc_load HF rfl sc47 ((HT.boxAt 0 rfl).get 1 rfl) (HF.wy rfl rfl rfl rfl (notT hb1)) rfl (fun a HF => ?_)
  refine wc_lenR HF nS Try.underlying47 rfl (HF.wy rfl rfl rfl rfl (notT hb1)) rfl (fun a HF => ?_)
  refine wc_bin HF nS rfl rfl b_ne (HF.wy rfl rfl rfl rfl (notT hb1)) rfl (fun a HF => ?_)
  refine wc_pick (b := false) HF nS rfl (notT hb1) rfl rfl rfl (fun a HF => ?_)
  refine wc_end ?_
  refine then_n ?_
  by_cases hb2 : (x0_1.length : Int) = (x1_1.length : Int)
  have h := (if_pos hb2).symm.trans h
  refine wp_if (b' := false) HF rfl (notT (decide_eq_true hb2)) ?_
  refine wp_skip ?_
  refine then_n ?_
  obtain ⟨q1, hx2, h⟩ := obs h
  refine wp_cut (fun a w => q1 = .brk () ∧ Fr a 42 [] ∧ St w0 (fun _ => False) w []) ?_ ?_
  have hk1 := h
  have h := hx2
  refine wp_seq ?_
  refine wc_text ?_
  refine wc_assign HF nS rfl rfl rfl (fun a HF => ?_)
  refine wc_end ?_
  refine then_n ?_
  refine wp_block ?_
  have HT := HT.p1
  refine wp_loopN (fun k1 a w => ∃ z1, m_spec_SameProg_L0 fuel x0_1 x1_1 k1 z1 = some q1 ∧ Fr a 42 [(2, .pointer (some ⟨p1, 0, none⟩)), (3, .pointer (some ⟨p2, 0, none⟩)), (5, .int .i64 z1)] ∧ St w0 (fun _ => False) w [Box p1 [.slice a_x0_0 x0_0.length c_x0_0, .slice a_x0_1 x0_1.length c_x0_1], Box p2 [.slice a_x1_0 x1_0.length c_x1_0, .slice a_x1_1 x1_1.length c_x1_1]]) fuel ⟨0, h, (HF.keep (HF.keep (HF.keep HF.nil rfl) rfl) rfl), HT⟩ ?_
  rintro k1 a w ⟨z1, h, HF, HT⟩
  rcases k1 with _ | k1
  cases h
  rw [m_spec_SameProg_L0] at h
  refine ?_
  refine wp_seq ?_
  refine wp_seq ?_
  refine wc_text ?_
  refine wc_move HF nS rfl rfl rfl (fun a HF => ?_)
  refine wc_faddr HF nS rfl fl49_1 rfl rfl (fun a HF => ?_)
  refine wc_load HF rfl sc47 ((HT.boxAt 0 rfl).get 1 rfl) rfl rfl (fun a HF => ?_)
  refine wc_lenR HF nS Try.underlying47 rfl rfl rfl (fun a HF => ?_)
  refine wc_bin HF nS rfl rfl b_lt rfl rfl (fun a HF => ?_)
  refine wc_end ?_
  refine then_n ?_
  by_cases hb3 : z1 < (x0_1.length : Int)
  have h := (if_pos hb3).symm.trans h
  refine wp_if (b' := true) HF rfl (decide_eq_true hb3) ?_
  refine wp_skip ?_
  refine then_n ?_
  refine wp_seq ?_
  refine wp_block ?_
  refine wp_seq ?_
  refine wp_region_can [(0, true), (1, true), (2, true), (3, true), (4, true), (5, true), (6, true), (7, true), (8, true), (9, true), (10, true), (11, true), (12, true), (13, true)] (fun w' => True) (by kernel_rfl) (by kernel_rfl) ?_
  have HT := HT.drew
  refine wc_faddr HF nS rfl fl49_1 rfl rfl (fun a HF => ?_)
  refine wc_load HF rfl sc47 ((HT.boxAt 0 rfl).get 1 rfl) rfl rfl (fun a HF => ?_)
  refine wc_move HF nS rfl rfl rfl (fun a HF => ?_)
  obtain ⟨e1, hx3, h⟩ := obs h
  obtain ⟨b1, o1, ha1⟩ := (HT.ro hr_x0_1).any.addr hx3
  refine wc_ixaddr HF nS el47 rfl ha1 ((HT.ro hr_x0_1).any).neq rfl hx3 rfl rfl (fun a HF => ?_)
  refine wc_faddr HF nS rfl fl77_0 rfl rfl (fun a HF => ?_)
  obtain ⟨_, hP1, hc1, hr1⟩ := hr_x0_1.elemAt ha1 hx3
  obtain ⟨a1, c1, rfl, hr2⟩ := cells_Kid hr1
  have hc2 := HT.roLd hP1 hc1
  refine wc_load HF rfl sc35 (hc2.get 0 rfl) rfl rfl (fun a HF => ?_)
  refine wc_faddr HF nS rfl fl49_1 rfl rfl (fun a HF => ?_)
  refine wc_load HF rfl sc47 ((HT.boxAt 1 rfl).get 1 rfl) rfl rfl (fun a HF => ?_)
  refine wc_move HF nS rfl rfl rfl (fun a HF => ?_)
  obtain ⟨e2, hx4, h⟩ := obs h
  obtain ⟨b2, o2, ha2⟩ := (HT.ro hr_x1_1).any.addr hx4
  refine wc_ixaddr HF nS el47 rfl ha2 ((HT.ro hr_x1_1).any).neq rfl hx4 rfl rfl (fun a HF => ?_)
  refine wc_faddr HF nS rfl fl77_0 rfl rfl (fun a HF => ?_)
  obtain ⟨_, hP2, hc3, hr3⟩ := hr_x1_1.elemAt ha2 hx4
  obtain ⟨a2, c2, rfl, hr4⟩ := cells_Kid hr3
  have hc4 := HT.roLd hP2 hc3
  refine wc_load HF rfl sc35 (hc4.get 0 rfl) rfl rfl (fun a HF => ?_)
  obtain ⟨y2, hx5, h⟩ := obs h
  refine wc_call HF cf66 rfl (w_spec_l5Same fuel hx5 (HT.ro hr2).any (HT.ro hr4).any) rfl rfl ?_
  rintro e w ⟨rfl, hE⟩
  have hb := hE.below
  have HT := HT.pure hE
  have HT : St w0 (fun _ => False) w [Box p1 [.slice a_x0_0 x0_0.length c_x0_0, .slice a_x0_1 x0_1.length c_x0_1], Box p2 [.slice a_x1_0 x1_0.length c_x1_0, .slice a_x1_1 x1_1.length c_x1_1]] := HT
  refine ⟨_, rfl, nS, fun a HF => ?_⟩
  refine wc_not HF nS rfl rfl rfl (fun a HF => ?_)
  refine wc_endN ?_
  refine then_n ?_
  by_cases hb4 : y2 = true
  have h := (if_pos hb4).symm.trans h
  refine wp_if (b' := false) HF rfl (notT hb4) ?_
  refine wp_skip ?_
  refine blk_n ?_
  refine then_n ?_
  refine wc_text ?_
  refine wc_move HF nS rfl rfl rfl (fun a HF => ?_)
  obtain ⟨hg1, h⟩ := grd h
  refine wc_bin HF nS rfl rfl (b_add hg1) rfl rfl (fun a HF => ?_)
  refine wc_assign HF nS rfl rfl rfl (fun a HF => ?_)
  refine wc_end ?_
  exact then_n ⟨k1, Nat.lt_succ_self k1, z1 + 1, h, (HF.keep (HF.keep (HF.keep HF.nil rfl) rfl) rfl), HT⟩
  have h := (if_neg hb4).symm.trans h
  refine wp_if (b' := true) HF rfl (notF (Bool.eq_false_iff.2 hb4)) ?_
  refine wp_seq ?_
  refine wc_text ?_
  refine wc_assign HF nS rfl rfl rfl (fun a HF => ?_)
  refine wc_end ?_
  refine then_n ?_
  refine wp_ret ?_
  obtain rfl := Option.some.inj h
  have h := retL hk1
  obtain rfl := Option.some.inj h
  refine blk_r (then_r (then_r (blk_r (then_r (?_)))))
  refine bp_ret HF (res_one rfl HF rfl) ?_
  have HT := HT.t0
  exact ⟨rfl, HT⟩
  have h := (if_neg hb3).symm.trans h
  refine wp_if (b' := false) HF rfl (decide_eq_false hb3) ?_
  refine wp_exit ?_
  refine then_x (then_x (?_))
  refine blk_x ?_
  have HT := HT.t0
  exact then_n ⟨(Option.some.inj h).symm, HF.nil, HT⟩
  rintro a w ⟨rfl, HF, HT⟩
  have h := brkL1u h
  refine ?_
  refine wp_seq ?_
  refine wc_text ?_
  refine wc_assign HF nS rfl rfl rfl (fun a HF => ?_)
  refine wc_end ?_
  refine then_n ?_
  refine wp_ret ?_
  obtain rfl := Option.some.inj h
  refine bp_ret HF (res_one rfl HF rfl) ?_
  exact ⟨rfl, HT⟩
  have h := (if_neg hb2).symm.trans h
  refine wp_if (b' := true) HF rfl (notF (decide_eq_false hb2)) ?_
  refine wp_seq ?_
  refine wc_text ?_
  refine wc_assign HF nS rfl rfl rfl (fun a HF => ?_)
  refine wc_end ?_
  refine then_n ?_
  refine wp_ret ?_
  obtain rfl := Option.some.inj h
  refine then_r (?_)
  refine bp_ret HF (res_one rfl HF rfl) ?_
  have HT := HT.t0
  exact ⟨rfl, HT⟩
  have h := (if_neg hb1).symm.trans h
  refine wc_skip HF nS (HF.wn rfl rfl rfl rfl (notF (Bool.eq_false_iff.2 hb1))) rfl (fun a HF => ?_)
  refine wc_skip HF nS (HF.wn rfl rfl rfl rfl (notF (Bool.eq_false_iff.2 hb1))) rfl (fun a HF => ?_)
  refine wc_skip HF nS (HF.wn rfl rfl rfl rfl (notF (Bool.eq_false_iff.2 hb1))) rfl (fun a HF => ?_)
  refine wc_skip HF nS (HF.wn rfl rfl rfl rfl (notF (Bool.eq_false_iff.2 hb1))) rfl (fun a HF => ?_)
  refine wc_skip HF nS (HF.wn rfl rfl rfl rfl (notF (Bool.eq_false_iff.2 hb1))) rfl (fun a HF => ?_)
  refine wc_skip HF nS (HF.wn rfl rfl rfl rfl (notF (Bool.eq_false_iff.2 hb1))) rfl (fun a HF => ?_)
  refine wc_skip HF nS (HF.wn rfl rfl rfl rfl (notF (Bool.eq_false_iff.2 hb1))) rfl (fun a HF => ?_)
  refine wc_pick (b := true) HF nS rfl (notF (Bool.eq_false_iff.2 hb1)) rfl rfl rfl (fun a HF => ?_)
  refine wc_end ?_
  refine then_n ?_
  refine wp_if (b' := true) HF rfl rfl ?_
  refine wp_seq ?_
  refine wc_text ?_
  refine wc_assign HF nS rfl rfl rfl (fun a HF => ?_)
  refine wc_end ?_
  refine then_n ?_
  refine wp_ret ?_
  obtain rfl := Option.some.inj h
  refine then_r (?_)
  refine bp_ret HF (res_one rfl HF rfl) ?_
  have HT := HT.t0
  exact ⟨rfl, HT⟩

def m_laws_FnSource (fuel : Nat) (x0 : List UInt8) : Option Bool :=
  (m_laws_big fuel x0).bind fun y1 =>
  if y1 = true then
    some true
  else
  bind2 (m_spec_DrawShowProg fuel x0) fun y2 y3 =>
  (m_impl_ShowProg fuel y2 y3).bind fun y4 =>
  (
    (m_spec_ProgOk fuel y2 y3).bind fun y5 =>
    if y5 = true then
      bind3 (m_impl_ReadProg fuel y4) fun y6 y7 y8 =>
      (
        if y8 = true then
          (m_spec_SameProg fuel y2 y3 y6 y7).bind fun y9 =>
          some !(y9)
        else
        some true).bind fun z1 =>
      if z1 = true then
        some (.ret false)
      else
      some (.brk ())
    else
    if y4 = [] then
      some (.brk ())
    else
    some (.ret false)).bind <| contL <| un1 fun _ =>
  (m_spec_DrawReadProg fuel x0).bind fun y10 =>
  bind3 (m_impl_ReadProg fuel y10) fun y11 y12 y13 =>
  bind3 (m_spec_ReadProg fuel y10) fun y14 y15 y16 =>
  (m_spec_DrawReadOp fuel x0).bind fun y17 =>
  bind5 (m_impl_ReadOp fuel y17) fun y18 y19 y20 y21 y22 =>
  (
    if (y13 == y16) = true then
      if y13 = true then
        (m_impl_ShowProg fuel y11 y12).bind fun y23 =>
        if y23 = y10 then
          if y22 = true then
            (m_impl_ShowOp fuel y18 y19 y20 y21).bind fun y24 =>
            (m_spec_DrawReadOp fuel x0).bind fun y25 =>
            some (decide (y24 = y25))
          else
          some true
        else
        some false
      else
      if y22 = true then
        (m_impl_ShowOp fuel y18 y19 y20 y21).bind fun y26 =>
        (m_spec_DrawReadOp fuel x0).bind fun y27 =>
        some (decide (y26 = y27))
      else
      some true
    else
    some false).bind fun z2 =>
  some z2

set_option maxRecDepth 100000 in
set_option maxHeartbeats 4000000 in
theorem w_laws_FnSource (fuel : Nat) {x0 : List UInt8} {a_x0 : Option Addr} {n_x0 c_x0 : Nat} {r0 : Bool} {w0 : World} (h : m_laws_FnSource fuel x0 = some r0) (hr_x0 : RdT (fun b => ¬ False) w0 (rowT x0) (.slice a_x0 n_x0 c_x0)) :
    Calls Try.prog 9 #[.slice a_x0 n_x0 c_x0] w0 fun e w => e = .returned (.bool r0) ∧ St w0 (fun _ => False) w [] := by
  obtain rfl := hr_x0.neq
  have HT : St w0 (fun _ => False) w0 [] := St.init0
  rw [m_laws_FnSource] at h
  refine calls_fr (n := 79) [.slice a_x0 x0.length c_x0] Try.func9 rfl rfl rfl (fun a HF => ?_)
  have HT : St w0 (fun _ => False) w0 [] := HT
  refine wp_seq ?_
  refine wc_text ?_
  refine wc_assign HF nS rfl rfl rfl (fun a HF => ?_)
  refine wc_end ?_
  refine then_n ?_
  refine wp_seq ?_
  refine wp_seq ?_
  refine wc_text ?_
  refine wc_move HF nS rfl rfl rfl (fun a HF => ?_)
  obtain ⟨y1, hx1, h⟩ := obs h
  refine wc_call HF cf34 rfl (w_laws_big fuel hx1 (HT.ro hr_x0).any) rfl rfl ?_
  rintro e w ⟨rfl, hE⟩
  have hb := hE.below
  have HT := HT.pure hE
  have HT : St w0 (fun _ => False) w [] := HT
  refine ⟨_, rfl, nS, fun a HF => ?_⟩
  refine wc_end ?_
  refine then_n ?_
  by_cases hb1 : y1 = true
  have h := (if_pos hb1).symm.trans h
  refine wp_if (b' := true) HF rfl hb1 ?_
  refine wp_seq ?_
  refine wc_text ?_
  refine wc_assign HF nS rfl rfl rfl (fun a HF => ?_)
  refine wc_end ?_
  refine then_n ?_
  refine wp_ret ?_
  obtain rfl := Option.some.inj h
  refine then_r (?_)
  refine bp_ret HF (res_one rfl HF rfl) ?_
  exact ⟨rfl, HT⟩
  have h := (if_neg hb1).symm.trans h
  refine wp_if (b' := false) HF rfl (Bool.eq_false_iff.2 hb1) ?_
  refine wp_skip ?_
  refine then_n ?_
  refine wp_seq ?_
  refine wc_text ?_
  refine wc_move HF nS rfl rfl rfl (fun a HF => ?_)
  obtain ⟨y2, y3, hx2, h⟩ := obs2 h
  refine wc_call HF cf35 rfl (w_spec_DrawShowProg fuel hx2 (HT.ro hr_x0).any) rfl rfl ?_
  rintro e w ⟨a1, n1, c1, a2, n2, c2, rfl, hE⟩
  have hb := hE.below
  have HT := HT.pure hE
  obtain rfl := (HT.rdAt 0 rfl).neq
  obtain rfl := (HT.rdAt 1 rfl).neq
  have HT : St w0 (fun _ => False) w [Own 25 (rowT y2) (.slice a1 y2.length c1), Own 77 (rowT y3) (.slice a2 y3.length c2)] := HT
  refine ⟨_, rfl, nS, fun a HF => ?_⟩
  refine wc_alloc (cs := [.slice none 0 0, .slice none 0 0]) HF HT zr49 rfl rfl rfl (fun p1 w HT hb => ⟨nS, fun a HF => ?_⟩)
  refine wc_storeB (cs' := [.slice a1 y2.length c1, .slice a2 y3.length c2]) HF HT rfl rfl (fun w => (ag49 w).2) rfl rfl rfl rfl rfl (fun w HT => ⟨nS, ?_⟩)
  refine wc_end ?_
  refine then_n ?_
  refine wp_seq ?_
  refine wc_text ?_
  refine wc_loadA (vs := [.slice a1 y2.length c1, .slice a2 y3.length c2]) HF rfl ag49 rfl ((HT.boxAt 0 rfl).part 0 2) rfl rfl (fun a HF => ?_)
  obtain ⟨y4, hx3, h⟩ := obs h
  refine wc_call HF cf28 rfl (w_impl_ShowProg fuel hx3 (HT.rdAt 1 rfl) (HT.rdAt 2 rfl)) rfl rfl ?_
  rintro e w ⟨rfl, hE⟩
  have hb := hE.below
  have HT := HT.pure hE
  have HT : St w0 (fun _ => False) w [Box p1 [.slice a1 y2.length c1, .slice a2 y3.length c2], Own 25 (rowT y2) (.slice a1 y2.length c1), Own 77 (rowT y3) (.slice a2 y3.length c2)] := HT
  refine ⟨_, rfl, nS, fun a HF => ?_⟩
  refine wc_assign HF nS rfl rfl rfl (fun a HF => ?_)
  refine wc_end ?_
  refine then_n ?_
  obtain ⟨q1, hx4, h⟩ := obs h
  refine wp_cut (fun a w => q1 = .brk () ∧ Fr a 79 [(0, .slice a_x0 x0.length c_x0)] ∧ St w0 (fun _ => False) w []) ?_ ?_
  have hk1 := h
  have h := hx4
  refine wp_seq ?_
  refine wc_text ?_
  refine wc_loadA (vs := [.slice a1 y2.length c1, .slice a2 y3.length c2]) HF rfl ag49 rfl ((HT.boxAt 0 rfl).part 0 2) rfl rfl (fun a HF => ?_)
  obtain ⟨y5, hx5, h⟩ := obs h
  refine wc_call HF cf36 rfl (w_spec_ProgOk fuel hx5 (HT.rdAt 1 rfl) (HT.rdAt 2 rfl)) rfl rfl ?_
  rintro e w ⟨rfl, hE⟩
  have hb := hE.below
  have HT := HT.pure hE
  have HT : St w0 (fun _ => False) w [Box p1 [.slice a1 y2.length c1, .slice a2 y3.length c2], Own 25 (rowT y2) (.slice a1 y2.length c1), Own 77 (rowT y3) (.slice a2 y3.length c2)] := HT
  refine ⟨_, rfl, nS, fun a HF => ?_⟩
  refine wc_end ?_
  refine then_n ?_
  by_cases hb2 : y5 = true
  have h := (if_pos hb2).symm.trans h
  refine wp_if (b' := true) HF rfl hb2 ?_
  refine wp_seq ?_
  refine wc_text ?_
  refine wc_move HF nS rfl rfl rfl (fun a HF => ?_)
  obtain ⟨y6, y7, y8, hx6, h⟩ := obs3 h
  refine wc_call HF cf31 rfl (w_impl_ReadProg fuel hx6) rfl rfl ?_
  rintro e w ⟨a3, n3, c3, a4, n4, c4, rfl, hE⟩
  have hb := hE.below
  have HT := HT.pure hE
  obtain rfl := (HT.rdAt 0 rfl).neq
  obtain rfl := (HT.rdAt 1 rfl).neq
  have HT : St w0 (fun _ => False) w [Own 25 (rowT y6) (.slice a3 y6.length c3), Own 77 (rowT y7) (.slice a4 y7.length c4), Box p1 [.slice a1 y2.length c1, .slice a2 y3.length c2], Own 25 (rowT y2) (.slice a1 y2.length c1), Own 77 (rowT y3) (.slice a2 y3.length c2)] := HT
  refine ⟨_, rfl, nS, fun a HF => ?_⟩
  refine wc_move HF nS rfl rfl rfl (fun a HF => ?_)
  refine wc_extract (v := .agg #[.slice a3 y6.length c3, .slice a4 y7.length c4]) HF nS rfl rfl rfl rfl (fun a HF => ?_)
  refine wc_extract (v := .bool y8) HF nS rfl rfl rfl rfl (fun a HF => ?_)
  refine wc_alloc (cs := [.slice none 0 0, .slice none 0 0]) HF HT zr49 rfl rfl rfl (fun p2 w HT hb => ⟨nS, fun a HF => ?_⟩)
  refine wc_storeB (cs' := [.slice a3 y6.length c3, .slice a4 y7.length c4]) HF HT rfl rfl (fun w => (ag49 w).2) rfl rfl rfl rfl rfl (fun w HT => ⟨nS, ?_⟩)
  refine wc_assign HF nS rfl rfl rfl (fun a HF => ?_)
  refine wc_end ?_
  refine then_n ?_
  obtain ⟨z1, hx7, h⟩ := obs h
  refine wp_cut (fun a w => Fr a 79 [(0, .slice a_x0 x0.length c_x0), (34, .bool z1)] ∧ St w0 (fun _ => False) w []) ?_ ?_
  have hk2 := h
  have h := hx7
  refine wc_text ?_
  refine wc_move HF nS rfl rfl rfl (fun a HF => ?_)
  refine wc_not HF nS rfl rfl rfl (fun a HF => ?_)
  refine wc_move HF nS rfl rfl rfl (fun a HF => ?_)
  by_cases hb3 : y8 = true
  have h := (if_pos hb3).symm.trans h
  refine wc_loadA (vs := [.slice a1 y2.length c1, .slice a2 y3.length c2]) HF rfl ag49 rfl ((HT.boxAt 3 rfl).part 0 2) (HF.wy rfl rfl rfl rfl (notT hb3)) rfl (fun a HF => ?_)
  refine wc_loadA (vs := [.slice a3 y6.length c3, .slice a4 y7.length c4]) HF rfl ag49 rfl ((HT.boxAt 0 rfl).part 0 2) (HF.wy rfl rfl rfl rfl (notT hb3)) rfl (fun a HF => ?_)
  obtain ⟨y9, hx8, h⟩ := obs h
  refine wc_call HF cf37 rfl (w_spec_SameProg fuel hx8 (HT.rdAt 4 rfl) (HT.rdAt 5 rfl) (HT.rdAt 1 rfl) (HT.rdAt 2 rfl)) (HF.wy rfl rfl rfl rfl (notT hb3)) rfl ?_
  rintro e w ⟨rfl, hE⟩
  have hb := hE.below
  have HT := HT.pure hE
  have HT : St w0 (fun _ => False) w [Box p2 [.slice a3 y6.length c3, .slice a4 y7.length c4], Own 25 (rowT y6) (.slice a3 y6.length c3), Own 77 (rowT y7) (.slice a4 y7.length c4), Box p1 [.slice a1 y2.length c1, .slice a2 y3.length c2], Own 25 (rowT y2) (.slice a1 y2.length c1), Own 77 (rowT y3) (.slice a2 y3.length c2)] := HT
  refine ⟨_, rfl, nS, fun a HF => ?_⟩
  refine wc_not HF nS rfl (HF.wy rfl rfl rfl rfl (notT hb3)) rfl (fun a HF => ?_)
  refine wc_pick (b := false) HF nS rfl (notT hb3) rfl rfl rfl (fun a HF => ?_)
  refine wc_end ?_
  have HT := HT.t0
  obtain rfl := Option.some.inj h
  exact then_n ⟨(HF.keep (HF.keep HF.nil rfl) rfl), HT⟩
  have h := (if_neg hb3).symm.trans h
  refine wc_skip HF nS (HF.wn rfl rfl rfl rfl (notF (Bool.eq_false_iff.2 hb3))) rfl (fun a HF => ?_)
  refine wc_skip HF nS (HF.wn rfl rfl rfl rfl (notF (Bool.eq_false_iff.2 hb3))) rfl (fun a HF => ?_)
  refine wc_skip HF nS (HF.wn rfl rfl rfl rfl (notF (Bool.eq_false_iff.2 hb3))) rfl (fun a HF => ?_)
  refine wc_skip HF nS (HF.wn rfl rfl rfl rfl (notF (Bool.eq_false_iff.2 hb3))) rfl (fun a HF => ?_)
  refine wc_pick (b := true) HF nS rfl (notF (Bool.eq_false_iff.2 hb3)) rfl rfl rfl (fun a HF => ?_)
  refine wc_end ?_
  have HT := HT.t0
  obtain rfl := Option.some.inj h
  exact then_n ⟨(HF.keep (HF.keep HF.nil rfl) rfl), HT⟩
  rintro a w ⟨HF, HT⟩
  refine ?_
  by_cases hb4 : z1 = true
  have h := (if_pos hb4).symm.trans h
  refine wp_if (b' := true) HF rfl hb4 ?_
  refine wp_seq ?_
  refine wc_text ?_
  refine wc_assign HF nS rfl rfl rfl (fun a HF => ?_)
  refine wc_end ?_
  refine then_n ?_
  refine wp_ret ?_
  obtain rfl := Option.some.inj h
  have h := retL hk1
  obtain rfl := Option.some.inj h
  refine then_r (?_)
  refine bp_ret HF (res_one rfl HF rfl) ?_
  exact ⟨rfl, HT⟩
  have h := (if_neg hb4).symm.trans h
  refine wp_if (b' := false) HF rfl (Bool.eq_false_iff.2 hb4) ?_
  refine wp_skip ?_
  exact then_n ⟨(Option.some.inj h).symm, (HF.keep HF.nil rfl), HT⟩
  have h := (if_neg hb2).symm.trans h
  refine wp_if (b' := false) HF rfl (Bool.eq_false_iff.2 hb2) ?_
  refine wp_seq ?_
  refine wc_text ?_
  refine wc_move HF nS rfl rfl rfl (fun a HF => ?_)
  refine wc_bin HF nS rfl rfl b_sne rfl rfl (fun a HF => ?_)
  refine wc_end ?_
  refine then_n ?_
  by_cases hb5 : y4 = []
  have h := (if_pos hb5).symm.trans h
  refine wp_if (b' := false) HF rfl (notT (decide_eq_true hb5)) ?_
  refine wp_skip ?_
  have HT := HT.t0
  exact then_n ⟨(Option.some.inj h).symm, (HF.keep HF.nil rfl), HT⟩
  have h := (if_neg hb5).symm.trans h
  refine wp_if (b' := true) HF rfl (notF (decide_eq_false hb5)) ?_
  refine wp_seq ?_
  refine wc_text ?_
  refine wc_assign HF nS rfl rfl rfl (fun a HF => ?_)
  refine wc_end ?_
  refine then_n ?_
  refine wp_ret ?_
  obtain rfl := Option.some.inj h
  have h := retL hk1
  obtain rfl := Option.some.inj h
  refine then_r (?_)
  refine bp_ret HF (res_one rfl HF rfl) ?_
  have HT := HT.t0
  exact ⟨rfl, HT⟩
  rintro a w ⟨rfl, HF, HT⟩
  have h := brkL1u h
  refine ?_
  refine wp_seq ?_
  refine wc_text ?_
  refine wc_move HF nS rfl rfl rfl (fun a HF => ?_)
  obtain ⟨y10, hx9, h⟩ := obs h
  refine wc_call HF cf38 rfl (w_spec_DrawReadProg fuel hx9 (HT.ro hr_x0).any) rfl rfl ?_
  rintro e w ⟨rfl, hE⟩
  have hb := hE.below
  have HT := HT.pure hE
  have HT : St w0 (fun _ => False) w [] := HT
  refine ⟨_, rfl, nS, fun a HF => ?_⟩
  refine wc_assign HF nS rfl rfl rfl (fun a HF => ?_)
  refine wc_end ?_
  refine then_n ?_
  refine wp_seq ?_
  refine wc_text ?_
  refine wc_move HF nS rfl rfl rfl (fun a HF => ?_)
  obtain ⟨y11, y12, y13, hx10, h⟩ := obs3 h
  refine wc_call HF cf31 rfl (w_impl_ReadProg fuel hx10) rfl rfl ?_
  rintro e w ⟨a5, n5, c5, a6, n6, c6, rfl, hE⟩
  have hb := hE.below
  have HT := HT.pure hE
  obtain rfl := (HT.rdAt 0 rfl).neq
  obtain rfl := (HT.rdAt 1 rfl).neq
  have HT : St w0 (fun _ => False) w [Own 25 (rowT y11) (.slice a5 y11.length c5), Own 77 (rowT y12) (.slice a6 y12.length c6)] := HT
  refine ⟨_, rfl, nS, fun a HF => ?_⟩
  refine wc_move HF nS rfl rfl rfl (fun a HF => ?_)
  refine wc_extract (v := .agg #[.slice a5 y11.length c5, .slice a6 y12.length c6]) HF nS rfl rfl rfl rfl (fun a HF => ?_)
  refine wc_extract (v := .bool y13) HF nS rfl rfl rfl rfl (fun a HF => ?_)
  refine wc_alloc (cs := [.slice none 0 0, .slice none 0 0]) HF HT zr49 rfl rfl rfl (fun p3 w HT hb => ⟨nS, fun a HF => ?_⟩)
  refine wc_storeB (cs' := [.slice a5 y11.length c5, .slice a6 y12.length c6]) HF HT rfl rfl (fun w => (ag49 w).2) rfl rfl rfl rfl rfl (fun w HT => ⟨nS, ?_⟩)
  refine wc_assign HF nS rfl rfl rfl (fun a HF => ?_)
  refine wc_end ?_
  refine then_n ?_
  refine wp_seq ?_
  refine wc_text ?_
  refine wc_move HF nS rfl rfl rfl (fun a HF => ?_)
  obtain ⟨y14, y15, y16, hx11, h⟩ := obs3 h
  refine wc_call HF cf30 rfl (w_spec_ReadProg fuel hx11) rfl rfl ?_
  rintro e w ⟨a7, n7, c7, a8, n8, c8, rfl, hE⟩
  have hb := hE.below
  have HT := HT.pure hE
  obtain rfl := (HT.rdAt 0 rfl).neq
  obtain rfl := (HT.rdAt 1 rfl).neq
  have HT : St w0 (fun _ => False) w [Own 25 (rowT y14) (.slice a7 y14.length c7), Own 77 (rowT y15) (.slice a8 y15.length c8), Box p3 [.slice a5 y11.length c5, .slice a6 y12.length c6], Own 25 (rowT y11) (.slice a5 y11.length c5), Own 77 (rowT y12) (.slice a6 y12.length c6)] := HT
  refine ⟨_, rfl, nS, fun a HF => ?_⟩
  refine wc_move HF nS rfl rfl rfl (fun a HF => ?_)
  refine wc_extract (v := .agg #[.slice a7 y14.length c7, .slice a8 y15.length c8]) HF nS rfl rfl rfl rfl (fun a HF => ?_)
  refine wc_extract (v := .bool y16) HF nS rfl rfl rfl rfl (fun a HF => ?_)
  refine wc_alloc (cs := [.slice none 0 0, .slice none 0 0]) HF HT zr49 rfl rfl rfl (fun p4 w HT hb => ⟨nS, fun a HF => ?_⟩)
  refine wc_storeB (cs' := [.slice a7 y14.length c7, .slice a8 y15.length c8]) HF HT rfl rfl (fun w => (ag49 w).2) rfl rfl rfl rfl rfl (fun w HT => ⟨nS, ?_⟩)
  refine wc_assign HF nS rfl rfl rfl (fun a HF => ?_)
  refine wc_end ?_
  refine then_n ?_
  refine wp_seq ?_
  refine wc_text ?_
  refine wc_move HF nS rfl rfl rfl (fun a HF => ?_)
  obtain ⟨y17, hx12, h⟩ := obs h
  refine wc_call HF cf39 rfl (w_spec_DrawReadOp fuel hx12 (HT.ro hr_x0).any) rfl rfl ?_
  rintro e w ⟨rfl, hE⟩
  have hb := hE.below
  have HT := HT.pure hE
  have HT : St w0 (fun _ => False) w [Box p4 [.slice a7 y14.length c7, .slice a8 y15.length c8], Own 25 (rowT y14) (.slice a7 y14.length c7), Own 77 (rowT y15) (.slice a8 y15.length c8), Box p3 [.slice a5 y11.length c5, .slice a6 y12.length c6], Own 25 (rowT y11) (.slice a5 y11.length c5), Own 77 (rowT y12) (.slice a6 y12.length c6)] := HT
  refine ⟨_, rfl, nS, fun a HF => ?_⟩
  obtain ⟨y18, y19, y20, y21, y22, hx13, h⟩ := obs5 h
  refine wc_call HF cf14 rfl (w_impl_ReadOp fuel hx13) rfl rfl ?_
  rintro e w ⟨rfl, hE⟩
  have hb := hE.below
  have HT := HT.pure hE
  have HT : St w0 (fun _ => False) w [Box p4 [.slice a7 y14.length c7, .slice a8 y15.length c8], Own 25 (rowT y14) (.slice a7 y14.length c7), Own 77 (rowT y15) (.slice a8 y15.length c8), Box p3 [.slice a5 y11.length c5, .slice a6 y12.length c6], Own 25 (rowT y11) (.slice a5 y11.length c5), Own 77 (rowT y12) (.slice a6 y12.length c6)] := HT
  refine ⟨_, rfl, nS, fun a HF => ?_⟩
  refine wc_move HF nS rfl rfl rfl (fun a HF => ?_)
  refine wc_extract (v := .agg #[.int .i64 y18, .int .i64 y19, .int .i64 y20, .int .i64 y21]) HF nS rfl rfl rfl rfl (fun a HF => ?_)
  refine wc_extract (v := .bool y22) HF nS rfl rfl rfl rfl (fun a HF => ?_)
  refine wc_alloc (cs := [.int .i64 0, .int .i64 0, .int .i64 0, .int .i64 0]) HF HT zr25 rfl rfl rfl (fun p5 w HT hb => ⟨nS, fun a HF => ?_⟩)
  refine wc_storeB (cs' := [.int .i64 y18, .int .i64 y19, .int .i64 y20, .int .i64 y21]) HF HT rfl rfl (fun w => (ag25 w).2) rfl rfl rfl rfl rfl (fun w HT => ⟨nS, ?_⟩)
  refine wc_assign HF nS rfl rfl rfl (fun a HF => ?_)
  refine wc_end ?_
  refine then_n ?_
  obtain ⟨z2, hx14, h⟩ := obs h
  refine wp_cut (fun a w => Fr a 79 [(2, .bool z2)] ∧ St w0 (fun _ => False) w []) ?_ ?_
  have hk1 := h
  have h := hx14
  refine wc_text ?_
  refine wc_move HF nS rfl rfl rfl (fun a HF => ?_)
  refine wc_move HF nS rfl rfl rfl (fun a HF => ?_)
  refine wc_bin HF nS rfl rfl (b_beq Try.underlying4) rfl rfl (fun a HF => ?_)
  refine wc_move HF nS rfl rfl rfl (fun a HF => ?_)
  by_cases hb6 : (y13 == y16) = true
  have h := (if_pos hb6).symm.trans h
  refine wc_move HF nS rfl (HF.wy rfl rfl rfl rfl hb6) rfl (fun a HF => ?_)
  refine wc_not HF nS rfl (HF.wy rfl rfl rfl rfl hb6) rfl (fun a HF => ?_)
  refine wc_move HF nS rfl (HF.wy rfl rfl rfl rfl hb6) rfl (fun a HF => ?_)
  by_cases hb7 : y13 = true
  have h := (if_pos hb7).symm.trans h
  refine wc_loadA (vs := [.slice a5 y11.length c5, .slice a6 y12.length c6]) HF rfl ag49 rfl ((HT.boxAt 4 rfl).part 0 2) (HF.wy rfl rfl rfl rfl (notT hb7)) rfl (fun a HF => ?_)
  obtain ⟨y23, hx15, h⟩ := obs h
  refine wc_call HF cf28 rfl (w_impl_ShowProg fuel hx15 (HT.rdAt 5 rfl) (HT.rdAt 6 rfl)) (HF.wy rfl rfl rfl rfl (notT hb7)) rfl ?_
  rintro e w ⟨rfl, hE⟩
  have hb := hE.below
  have HT := HT.pure hE
  have HT : St w0 (fun _ => False) w [Box p5 [.int .i64 y18, .int .i64 y19, .int .i64 y20, .int .i64 y21], Box p4 [.slice a7 y14.length c7, .slice a8 y15.length c8], Own 25 (rowT y14) (.slice a7 y14.length c7), Own 77 (rowT y15) (.slice a8 y15.length c8), Box p3 [.slice a5 y11.length c5, .slice a6 y12.length c6], Own 25 (rowT y11) (.slice a5 y11.length c5), Own 77 (rowT y12) (.slice a6 y12.length c6)] := HT
  refine ⟨_, rfl, nS, fun a HF => ?_⟩
  refine wc_move HF nS rfl (HF.wy rfl rfl rfl rfl (notT hb7)) rfl (fun a HF => ?_)
  refine wc_bin HF nS rfl rfl b_seq (HF.wy rfl rfl rfl rfl (notT hb7)) rfl (fun a HF => ?_)
  refine wc_pick (b := false) HF nS rfl (notT hb7) rfl (HF.wy rfl rfl rfl rfl hb6) rfl (fun a HF => ?_)
  refine wc_pick (b := true) HF nS rfl hb6 rfl rfl rfl (fun a HF => ?_)
  refine wc_move HF nS rfl rfl rfl (fun a HF => ?_)
  by_cases hb8 : y23 = y10
  have h := (if_pos hb8).symm.trans h
  refine wc_move HF nS rfl (HF.wy rfl rfl rfl rfl (decide_eq_true hb8)) rfl (fun a HF => ?_)
  refine wc_not HF nS rfl (HF.wy rfl rfl rfl rfl (decide_eq_true hb8)) rfl (fun a HF => ?_)
  refine wc_move HF nS rfl (HF.wy rfl rfl rfl rfl (decide_eq_true hb8)) rfl (fun a HF => ?_)
  by_cases hb9 : y22 = true
  have h := (if_pos hb9).symm.trans h
  refine wc_loadA (vs := [.int .i64 y18, .int .i64 y19, .int .i64 y20, .int .i64 y21]) HF rfl ag25 rfl ((HT.boxAt 0 rfl).part 0 4) (HF.wy rfl rfl rfl rfl (notT hb9)) rfl (fun a HF => ?_)
  obtain ⟨y24, hx16, h⟩ := obs h
  refine wc_call HF cf12 rfl (w_impl_ShowOp fuel hx16) (HF.wy rfl rfl rfl rfl (notT hb9)) rfl ?_
  rintro e w ⟨rfl, hE⟩
  have hb := hE.below
  have HT := HT.pure hE
  have HT : St w0 (fun _ => False) w [Box p5 [.int .i64 y18, .int .i64 y19, .int .i64 y20, .int .i64 y21], Box p4 [.slice a7 y14.length c7, .slice a8 y15.length c8], Own 25 (rowT y14) (.slice a7 y14.length c7), Own 77 (rowT y15) (.slice a8 y15.length c8), Box p3 [.slice a5 y11.length c5, .slice a6 y12.length c6], Own 25 (rowT y11) (.slice a5 y11.length c5), Own 77 (rowT y12) (.slice a6 y12.length c6)] := HT
  refine ⟨_, rfl, nS, fun a HF => ?_⟩
  refine wc_move HF nS rfl (HF.wy rfl rfl rfl rfl (notT hb9)) rfl (fun a HF => ?_)
  obtain ⟨y25, hx17, h⟩ := obs h
  refine wc_call HF cf39 rfl (w_spec_DrawReadOp fuel hx17 (HT.ro hr_x0).any) (HF.wy rfl rfl rfl rfl (notT hb9)) rfl ?_
  rintro e w ⟨rfl, hE⟩
  have hb := hE.below
  have HT := HT.pure hE
  have HT : St w0 (fun _ => False) w [Box p5 [.int .i64 y18, .int .i64 y19, .int .i64 y20, .int .i64 y21], Box p4 [.slice a7 y14.length c7, .slice a8 y15.length c8], Own 25 (rowT y14) (.slice a7 y14.length c7), Own 77 (rowT y15) (.slice a8 y15.length c8), Box p3 [.slice a5 y11.length c5, .slice a6 y12.length c6], Own 25 (rowT y11) (.slice a5 y11.length c5), Own 77 (rowT y12) (.slice a6 y12.length c6)] := HT
  refine ⟨_, rfl, nS, fun a HF => ?_⟩
  refine wc_bin HF nS rfl rfl b_seq (HF.wy rfl rfl rfl rfl (notT hb9)) rfl (fun a HF => ?_)
  refine wc_pick (b := false) HF nS rfl (notT hb9) rfl (HF.wy rfl rfl rfl rfl (decide_eq_true hb8)) rfl (fun a HF => ?_)
  refine wc_pick (b := true) HF nS rfl (decide_eq_true hb8) rfl rfl rfl (fun a HF => ?_)
  refine wc_assign HF nS rfl rfl rfl (fun a HF => ?_)
  refine wc_end ?_
  have HT := HT.t0
  obtain rfl := Option.some.inj h
  exact then_n ⟨(HF.keep HF.nil rfl), HT⟩
  have h := (if_neg hb9).symm.trans h
  refine wc_skip HF nS (HF.wn rfl rfl rfl rfl (notF (Bool.eq_false_iff.2 hb9))) rfl (fun a HF => ?_)
  refine wc_skip HF nS (HF.wn rfl rfl rfl rfl (notF (Bool.eq_false_iff.2 hb9))) rfl (fun a HF => ?_)
  refine wc_skip HF nS (HF.wn rfl rfl rfl rfl (notF (Bool.eq_false_iff.2 hb9))) rfl (fun a HF => ?_)
  refine wc_skip HF nS (HF.wn rfl rfl rfl rfl (notF (Bool.eq_false_iff.2 hb9))) rfl (fun a HF => ?_)
  refine wc_skip HF nS (HF.wn rfl rfl rfl rfl (notF (Bool.eq_false_iff.2 hb9))) rfl (fun a HF => ?_)
  refine wc_pick (b := true) HF nS rfl (notF (Bool.eq_false_iff.2 hb9)) rfl (HF.wy rfl rfl rfl rfl (decide_eq_true hb8)) rfl (fun a HF => ?_)
  refine wc_pick (b := true) HF nS rfl (decide_eq_true hb8) rfl rfl rfl (fun a HF => ?_)
  refine wc_assign HF nS rfl rfl rfl (fun a HF => ?_)
  refine wc_end ?_
  have HT := HT.t0
  obtain rfl := Option.some.inj h
  exact then_n ⟨(HF.keep HF.nil rfl), HT⟩
  have h := (if_neg hb8).symm.trans h
  refine wc_skip HF nS (HF.wn rfl rfl rfl rfl (decide_eq_false hb8)) rfl (fun a HF => ?_)
  refine wc_skip HF nS (HF.wn rfl rfl rfl rfl (decide_eq_false hb8)) rfl (fun a HF => ?_)
  refine wc_skip HF nS (HF.wn rfl rfl rfl rfl (decide_eq_false hb8)) rfl (fun a HF => ?_)
  refine wc_skip HF nS (HF.unwanted rfl rfl rfl rfl) rfl (fun a HF => ?_)
  refine wc_skip HF nS (HF.unwanted rfl rfl rfl rfl) rfl (fun a HF => ?_)
  refine wc_skip HF nS (HF.unwanted rfl rfl rfl rfl) rfl (fun a HF => ?_)
  refine wc_skip HF nS (HF.unwanted rfl rfl rfl rfl) rfl (fun a HF => ?_)
  refine wc_skip HF nS (HF.unwanted rfl rfl rfl rfl) rfl (fun a HF => ?_)
  refine wc_skip HF nS (HF.wn rfl rfl rfl rfl (decide_eq_false hb8)) rfl (fun a HF => ?_)
  refine wc_pick (b := false) HF nS rfl (decide_eq_false hb8) rfl rfl rfl (fun a HF => ?_)
  refine wc_assign HF nS rfl rfl rfl (fun a HF => ?_)
  refine wc_end ?_
  have HT := HT.t0
  obtain rfl := Option.some.inj h
  exact then_n ⟨(HF.keep HF.nil rfl), HT⟩
  have h := (if_neg hb7).symm.trans h
  refine wc_skip HF nS (HF.wn rfl rfl rfl rfl (notF (Bool.eq_false_iff.2 hb7))) rfl (fun a HF => ?_)
  refine wc_skip HF nS (HF.wn rfl rfl rfl rfl (notF (Bool.eq_false_iff.2 hb7))) rfl (fun a HF => ?_)
  refine wc_skip HF nS (HF.wn rfl rfl rfl rfl (notF (Bool.eq_false_iff.2 hb7))) rfl (fun a HF => ?_)
  refine wc_skip HF nS (HF.wn rfl rfl rfl rfl (notF (Bool.eq_false_iff.2 hb7))) rfl (fun a HF => ?_)
  refine wc_pick (b := true) HF nS rfl (notF (Bool.eq_false_iff.2 hb7)) rfl (HF.wy rfl rfl rfl rfl hb6) rfl (fun a HF => ?_)
  refine wc_pick (b := true) HF nS rfl hb6 rfl rfl rfl (fun a HF => ?_)
  refine wc_move HF nS rfl rfl rfl (fun a HF => ?_)
  refine wc_move HF nS rfl (HF.wy rfl rfl rfl rfl rfl) rfl (fun a HF => ?_)
  refine wc_not HF nS rfl (HF.wy rfl rfl rfl rfl rfl) rfl (fun a HF => ?_)
  refine wc_move HF nS rfl (HF.wy rfl rfl rfl rfl rfl) rfl (fun a HF => ?_)
  by_cases hb10 : y22 = true
  have h := (if_pos hb10).symm.trans h
  refine wc_loadA (vs := [.int .i64 y18, .int .i64 y19, .int .i64 y20, .int .i64 y21]) HF rfl ag25 rfl ((HT.boxAt 0 rfl).part 0 4) (HF.wy rfl rfl rfl rfl (notT hb10)) rfl (fun a HF => ?_)
  obtain ⟨y26, hx18, h⟩ := obs h
  refine wc_call HF cf12 rfl (w_impl_ShowOp fuel hx18) (HF.wy rfl rfl rfl rfl (notT hb10)) rfl ?_
  rintro e w ⟨rfl, hE⟩
  have hb := hE.below
  have HT := HT.pure hE
  have HT : St w0 (fun _ => False) w [Box p5 [.int .i64 y18, .int .i64 y19, .int .i64 y20, .int .i64 y21], Box p4 [.slice a7 y14.length c7, .slice a8 y15.length c8], Own 25 (rowT y14) (.slice a7 y14.length c7), Own 77 (rowT y15) (.slice a8 y15.length c8), Box p3 [.slice a5 y11.length c5, .slice a6 y12.length c6], Own 25 (rowT y11) (.slice a5 y11.length c5), Own 77 (rowT y12) (.slice a6 y12.length c6)] := HT
  refine ⟨_, rfl, nS, fun a HF => ?_⟩
  refine wc_move HF nS rfl (HF.wy rfl rfl rfl rfl (notT hb10)) rfl (fun a HF => ?_)
  obtain ⟨y27, hx19, h⟩ := obs h
  refine wc_call HF cf39 rfl (w_spec_DrawReadOp fuel hx19 (HT.ro hr_x0).any) (HF.wy rfl rfl rfl rfl (notT hb10)) rfl ?_
  rintro e w ⟨rfl, hE⟩
  have hb := hE.below
  have HT := HT.pure hE
  have HT : St w0 (fun _ => False) w [Box p5 [.int .i64 y18, .int .i64 y19, .int .i64 y20, .int .i64 y21], Box p4 [.slice a7 y14.length c7, .slice a8 y15.length c8], Own 25 (rowT y14) (.slice a7 y14.length c7), Own 77 (rowT y15) (.slice a8 y15.length c8), Box p3 [.slice a5 y11.length c5, .slice a6 y12.length c6], Own 25 (rowT y11) (.slice a5 y11.length c5), Own 77 (rowT y12) (.slice a6 y12.length c6)] := HT
  refine ⟨_, rfl, nS, fun a HF => ?_⟩
  refine wc_bin HF nS rfl rfl b_seq (HF.wy rfl rfl rfl rfl (notT hb10)) rfl (fun a HF => ?_)
  refine wc_pick (b := false) HF nS rfl (notT hb10) rfl (HF.wy rfl rfl rfl rfl rfl) rfl (fun a HF => ?_)
  refine wc_pick (b := true) HF nS rfl rfl rfl rfl rfl (fun a HF => ?_)
  refine wc_assign HF nS rfl rfl rfl (fun a HF => ?_)
  refine wc_end ?_
  have HT := HT.t0
  obtain rfl := Option.some.inj h
  exact then_n ⟨(HF.keep HF.nil rfl), HT⟩
  have h := (if_neg hb10).symm.trans h
  refine wc_skip HF nS (HF.wn rfl rfl rfl rfl (notF (Bool.eq_false_iff.2 hb10))) rfl (fun a HF => ?_)
  refine wc_skip HF nS (HF.wn rfl rfl rfl rfl (notF (Bool.eq_false_iff.2 hb10))) rfl (fun a HF => ?_)
  refine wc_skip HF nS (HF.wn rfl rfl rfl rfl (notF (Bool.eq_false_iff.2 hb10))) rfl (fun a HF => ?_)
  refine wc_skip HF nS (HF.wn rfl rfl rfl rfl (notF (Bool.eq_false_iff.2 hb10))) rfl (fun a HF => ?_)
  refine wc_skip HF nS (HF.wn rfl rfl rfl rfl (notF (Bool.eq_false_iff.2 hb10))) rfl (fun a HF => ?_)
  refine wc_pick (b := true) HF nS rfl (notF (Bool.eq_false_iff.2 hb10)) rfl (HF.wy rfl rfl rfl rfl rfl) rfl (fun a HF => ?_)
  refine wc_pick (b := true) HF nS rfl rfl rfl rfl rfl (fun a HF => ?_)
  refine wc_assign HF nS rfl rfl rfl (fun a HF => ?_)
  refine wc_end ?_
  have HT := HT.t0
  obtain rfl := Option.some.inj h
  exact then_n ⟨(HF.keep HF.nil rfl), HT⟩
  have h := (if_neg hb6).symm.trans h
  refine wc_skip HF nS (HF.wn rfl rfl rfl rfl (Bool.eq_false_iff.2 hb6)) rfl (fun a HF => ?_)
  refine wc_skip HF nS (HF.wn rfl rfl rfl rfl (Bool.eq_false_iff.2 hb6)) rfl (fun a HF => ?_)
  refine wc_skip HF nS (HF.wn rfl rfl rfl rfl (Bool.eq_false_iff.2 hb6)) rfl (fun a HF => ?_)
  refine wc_skip HF nS (HF.unwanted rfl rfl rfl rfl) rfl (fun a HF => ?_)
  refine wc_skip HF nS (HF.unwanted rfl rfl rfl rfl) rfl (fun a HF => ?_)
  refine wc_skip HF nS (HF.unwanted rfl rfl rfl rfl) rfl (fun a HF => ?_)
  refine wc_skip HF nS (HF.unwanted rfl rfl rfl rfl) rfl (fun a HF => ?_)
  refine wc_skip HF nS (HF.wn rfl rfl rfl rfl (Bool.eq_false_iff.2 hb6)) rfl (fun a HF => ?_)
  refine wc_pick (b := false) HF nS rfl (Bool.eq_false_iff.2 hb6) rfl rfl rfl (fun a HF => ?_)
  refine wc_move HF nS rfl rfl rfl (fun a HF => ?_)
  refine wc_skip HF nS (HF.wn rfl rfl rfl rfl rfl) rfl (fun a HF => ?_)
  refine wc_skip HF nS (HF.wn rfl rfl rfl rfl rfl) rfl (fun a HF => ?_)
  refine wc_skip HF nS (HF.wn rfl rfl rfl rfl rfl) rfl (fun a HF => ?_)
  refine wc_skip HF nS (HF.unwanted rfl rfl rfl rfl) rfl (fun a HF => ?_)
  refine wc_skip HF nS (HF.unwanted rfl rfl rfl rfl) rfl (fun a HF => ?_)
  refine wc_skip HF nS (HF.unwanted rfl rfl rfl rfl) rfl (fun a HF => ?_)
  refine wc_skip HF nS (HF.unwanted rfl rfl rfl rfl) rfl (fun a HF => ?_)
  refine wc_skip HF nS (HF.unwanted rfl rfl rfl rfl) rfl (fun a HF => ?_)
  refine wc_skip HF nS (HF.wn rfl rfl rfl rfl rfl) rfl (fun a HF => ?_)
  refine wc_pick (b := false) HF nS rfl rfl rfl rfl rfl (fun a HF => ?_)
  refine wc_assign HF nS rfl rfl rfl (fun a HF => ?_)
  refine wc_end ?_
  have HT := HT.t0
  obtain rfl := Option.some.inj h
  exact then_n ⟨(HF.keep HF.nil rfl), HT⟩
  rintro a w ⟨HF, HT⟩
  refine ?_
  refine wp_ret ?_
  obtain rfl := Option.some.inj h
  refine bp_ret HF (res_one rfl HF rfl) ?_
  exact ⟨rfl, HT⟩
end Go.Proofs.Ytpbfppelmgjfpaa
