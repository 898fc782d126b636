/- Walks of functions, by program: spec.OpOk, spec.l5Skip, spec.CodeOk, spec.l1New, spec.l1Byte, spec.l1Below, spec.l1Once, spec.l1PickInt, spec.l3Draw, spec.l4DrawCell, spec.l4DrawKey, spec.l4DrawReg, spec.l4Plain, spec.l4Any, spec.l5Bend. -/
import Derived.Test.YtikfmmfifhnbjaaTy
import Derived.Test.YtikfmmfifhnbjaaG1
namespace Go.Proofs.Ytikfmmfifhnbjaa
open Go Go.RowKit
set_option linter.unusedVariables false
set_option linter.unusedSimpArgs false
def m_spec_OpOk (fuel : Nat) (x0_0 : Int) (x0_1 : Int) (x0_2 : Int) (x0_3 : Int) : Option Bool :=
  (
    if x0_0 = 1 then
      (m_spec_l4Reg fuel x0_1).bind fun y1 =>
      if y1 = true then
        (m_spec_l3Val fuel x0_2).bind fun y2 =>
        if y2 = true then
          some (.ret (decide (x0_3 = 0)))
        else
        some (.ret false)
      else
      some (.ret false)
    else
    (
      if x0_0 = 2 then
        some (decide (x0_0 = 2))
      else
      if x0_0 = 3 then
        some (decide (x0_0 = 3))
      else
      some (decide (x0_0 = 4))).bind fun z1 =>
    if z1 = true then
      (m_spec_l4Reg fuel x0_1).bind fun y3 =>
      if y3 = true then
        (m_spec_l4Reg fuel x0_2).bind fun y4 =>
        if y4 = true then
          (m_spec_l4Reg fuel x0_3).bind fun y5 =>
          some (.ret y5)
        else
        some (.ret false)
      else
      some (.ret false)
    else
    if x0_0 = 5 then
      (m_spec_l4Reg fuel x0_1).bind fun y6 =>
      if y6 = true then
        (m_spec_l3Cell fuel x0_2).bind fun y7 =>
        if y7 = true then
          some (.ret (decide (x0_3 = 0)))
        else
        some (.ret false)
      else
      some (.ret false)
    else
    if x0_0 = 6 then
      (m_spec_l3Cell fuel x0_1).bind fun y8 =>
      if y8 = true then
        (m_spec_l4Reg fuel x0_2).bind fun y9 =>
        if y9 = true then
          some (.ret (decide (x0_3 = 0)))
        else
        some (.ret false)
      else
      some (.ret false)
    else
    if x0_0 = 7 then
      (m_spec_l4Reg fuel x0_1).bind fun y10 =>
      if y10 = true then
        (m_spec_l1In fuel x0_2 1 20).bind fun y11 =>
        if y11 = true then
          some (.ret (decide (x0_3 = 0)))
        else
        some (.ret false)
      else
      some (.ret false)
    else
    (
      if x0_0 = 8 then
        some (decide (x0_0 = 8))
      else
      if x0_0 = 15 then
        some (decide (x0_0 = 15))
      else
      some (decide (x0_0 = 16))).bind fun z2 =>
    if z2 = true then
      (m_spec_l4Reg fuel x0_1).bind fun y12 =>
      if y12 = true then
        if x0_2 = 0 then
          some (.ret (decide (x0_3 = 0)))
        else
        some (.ret false)
      else
      some (.ret false)
    else
    (
      if x0_0 = 9 then
        some (decide (x0_0 = 9))
      else
      if x0_0 = 10 then
        some (decide (x0_0 = 10))
      else
      some (decide (x0_0 = 11))).bind fun z3 =>
    if z3 = true then
      if x0_1 = 0 then
        if x0_2 = 0 then
          some (.ret (decide (x0_3 = 0)))
        else
        some (.ret false)
      else
      some (.ret false)
    else
    if x0_0 = 12 then
      (m_spec_l1In fuel x0_1 0 7).bind fun y13 =>
      if y13 = true then
        (m_spec_l4Reg fuel x0_2).bind fun y14 =>
        if y14 = true then
          (m_spec_l4Reg fuel x0_3).bind fun y15 =>
          some (.ret y15)
        else
        some (.ret false)
      else
      some (.ret false)
    else
    if x0_0 = 13 then
      (m_spec_l4Reg fuel x0_1).bind fun y16 =>
      if y16 = true then
        (m_spec_l1In fuel x0_2 0 7).bind fun y17 =>
        if y17 = true then
          some (.ret (decide (x0_3 = 0)))
        else
        some (.ret false)
      else
      some (.ret false)
    else
    if x0_0 = 14 then
      (m_spec_l1In fuel x0_1 0 7).bind fun y18 =>
      if y18 = true then
        (m_spec_l4Reg fuel x0_2).bind fun y19 =>
        if y19 = true then
          some (.ret (decide (x0_3 = 0)))
        else
        some (.ret false)
      else
      some (.ret false)
    else
    some (.brk ())).bind <| contL <| un1 fun _ =>
  some false

set_option maxRecDepth 100000 in
set_option maxHeartbeats 4000000 in
theorem w_spec_OpOk (fuel : Nat) {x0_0 : Int} {x0_1 : Int} {x0_2 : Int} {x0_3 : Int} {r0 : Bool} {w0 : World} (h : m_spec_OpOk fuel x0_0 x0_1 x0_2 x0_3 = some r0) :
    Calls Try.prog 36 #[.agg #[.int .i64 x0_0, .int .i64 x0_1, .int .i64 x0_2, .int .i64 x0_3]] w0 fun e w => e = .returned (.bool r0) ∧ St w0 (fun _ => False) w [] := by
  have HT : St w0 (fun _ => False) w0 [] := St.init0
  rw [m_spec_OpOk] at h
  refine calls_fr (n := 161) [.agg #[.int .i64 x0_0, .int .i64 x0_1, .int .i64 x0_2, .int .i64 x0_3]] Try.func36 rfl rfl rfl (fun a HF => ?_)
  have HT : St w0 (fun _ => False) w0 [] := HT
  refine wp_seq ?_
  refine wc_text ?_
  refine wc_box (cs := [.int .i64 x0_0, .int .i64 x0_1, .int .i64 x0_2, .int .i64 x0_3]) HF HT rfl rfl rfl rfl (fun p1 w HT hb => ⟨nS, fun a HF => ?_⟩)
  refine wc_assign HF nS rfl rfl rfl (fun a HF => ?_)
  refine wc_end ?_
  refine then_n ?_
  obtain ⟨q1, hx1, h⟩ := obs h
  refine wp_cut (fun a w => q1 = .brk () ∧ Fr a 161 [] ∧ St w0 (fun _ => False) w []) ?_ ?_
  · have hk1 := h
    have h := hx1
    refine wp_seq ?_
    refine wc_text ?_
    refine wc_faddr HF nS rfl fl45_0 rfl rfl (fun a HF => ?_)
    refine wc_load HF rfl sc3 ((HT.boxAt 0 rfl).get 0 rfl) rfl rfl (fun a HF => ?_)
    refine wc_end ?_
    refine then_n ?_
    refine wp_block ?_
    refine wp_seq ?_
    refine wc_text ?_
    refine wc_bin HF nS rfl rfl b_eq rfl rfl (fun a HF => ?_)
    refine wc_assign HF nS rfl rfl rfl (fun a HF => ?_)
    refine wc_end ?_
    refine then_n ?_
    by_cases hb1 : x0_0 = 1
    · have h := (if_pos hb1).symm.trans h
      refine wp_if (b' := true) HF rfl (decide_eq_true hb1) ?_
      refine wp_seq ?_
      refine wc_text ?_
      refine wc_faddr HF nS rfl fl45_1 rfl rfl (fun a HF => ?_)
      refine wc_load HF rfl sc3 ((HT.boxAt 0 rfl).get 1 rfl) rfl rfl (fun a HF => ?_)
      obtain ⟨y1, hx2, h⟩ := obs h
      refine wc_call HF cf54 rfl (w_spec_l4Reg fuel hx2) rfl rfl ?_
      rintro e w ⟨rfl, hE⟩
      have hb := hE.below
      have HT := HT.pure hE
      have HT : St w0 (fun _ => False) w [Box p1 [.int .i64 x0_0, .int .i64 x0_1, .int .i64 x0_2, .int .i64 x0_3]] := HT
      refine ⟨_, rfl, nS, fun a HF => ?_⟩
      refine wc_move HF nS rfl rfl rfl (fun a HF => ?_)
      by_cases hb2 : y1 = true
      · have h := (if_pos hb2).symm.trans h
        refine wc_faddr HF nS rfl fl45_2 (HF.wy rfl rfl rfl rfl hb2) rfl (fun a HF => ?_)
        refine wc_load HF rfl sc3 ((HT.boxAt 0 rfl).get 2 rfl) (HF.wy rfl rfl rfl rfl hb2) rfl (fun a HF => ?_)
        obtain ⟨y2, hx3, h⟩ := obs h
        refine wc_call HF cf55 rfl (w_spec_l3Val fuel hx3) (HF.wy rfl rfl rfl rfl hb2) rfl ?_
        rintro e w ⟨rfl, hE⟩
        have hb := hE.below
        have HT := HT.pure hE
        have HT : St w0 (fun _ => False) w [Box p1 [.int .i64 x0_0, .int .i64 x0_1, .int .i64 x0_2, .int .i64 x0_3]] := HT
        refine ⟨_, rfl, nS, fun a HF => ?_⟩
        refine wc_pick (b := true) HF nS rfl hb2 rfl rfl rfl (fun a HF => ?_)
        refine wc_move HF nS rfl rfl rfl (fun a HF => ?_)
        by_cases hb3 : y2 = true
        · have h := (if_pos hb3).symm.trans h
          refine wc_faddr HF nS rfl fl45_3 (HF.wy rfl rfl rfl rfl hb3) rfl (fun a HF => ?_)
          refine wc_load HF rfl sc3 ((HT.boxAt 0 rfl).get 3 rfl) (HF.wy rfl rfl rfl rfl hb3) rfl (fun a HF => ?_)
          refine wc_bin HF nS rfl rfl b_eq (HF.wy rfl rfl rfl rfl hb3) rfl (fun a HF => ?_)
          refine wc_pick (b := true) HF nS rfl hb3 rfl rfl rfl (fun a HF => ?_)
          refine wc_assign HF nS rfl rfl rfl (fun a HF => ?_)
          refine wc_end ?_
          refine then_n ?_
          refine wp_ret ?_
          obtain rfl := Option.some.inj h
          have h := retL hk1
          obtain rfl := Option.some.inj h
          refine blk_r (then_r (?_))
          refine bp_ret HF (res_one rfl HF rfl) ?_
          have HT : St w0 (fun _ => False) w [] := HT.take 0
          exact ⟨rfl, HT⟩
        have h := (if_neg hb3).symm.trans h
        refine wc_skip HF nS (HF.wn rfl rfl rfl rfl (Bool.eq_false_iff.2 hb3)) rfl (fun a HF => ?_)
        refine wc_skip HF nS (HF.wn rfl rfl rfl rfl (Bool.eq_false_iff.2 hb3)) rfl (fun a HF => ?_)
        refine wc_skip HF nS (HF.wn rfl rfl rfl rfl (Bool.eq_false_iff.2 hb3)) rfl (fun a HF => ?_)
        refine wc_pick (b := false) HF nS rfl (Bool.eq_false_iff.2 hb3) rfl rfl rfl (fun a HF => ?_)
        refine wc_assign HF nS rfl rfl rfl (fun a HF => ?_)
        refine wc_end ?_
        refine then_n ?_
        refine wp_ret ?_
        obtain rfl := Option.some.inj h
        have h := retL hk1
        obtain rfl := Option.some.inj h
        refine blk_r (then_r (?_))
        refine bp_ret HF (res_one rfl HF rfl) ?_
        have HT : St w0 (fun _ => False) w [] := HT.take 0
        exact ⟨rfl, HT⟩
      have h := (if_neg hb2).symm.trans h
      refine wc_skip HF nS (HF.wn rfl rfl rfl rfl (Bool.eq_false_iff.2 hb2)) rfl (fun a HF => ?_)
      refine wc_skip HF nS (HF.wn rfl rfl rfl rfl (Bool.eq_false_iff.2 hb2)) rfl (fun a HF => ?_)
      refine wc_skip HF nS (HF.wn rfl rfl rfl rfl (Bool.eq_false_iff.2 hb2)) rfl (fun a HF => ?_)
      refine wc_pick (b := false) HF nS rfl (Bool.eq_false_iff.2 hb2) rfl rfl rfl (fun a HF => ?_)
      refine wc_move HF nS rfl rfl rfl (fun a HF => ?_)
      refine wc_skip HF nS (HF.wn rfl rfl rfl rfl rfl) rfl (fun a HF => ?_)
      refine wc_skip HF nS (HF.wn rfl rfl rfl rfl rfl) rfl (fun a HF => ?_)
      refine wc_skip HF nS (HF.wn rfl rfl rfl rfl rfl) rfl (fun a HF => ?_)
      refine wc_pick (b := false) HF nS rfl rfl rfl rfl rfl (fun a HF => ?_)
      refine wc_assign HF nS rfl rfl rfl (fun a HF => ?_)
      refine wc_end ?_
      refine then_n ?_
      refine wp_ret ?_
      obtain rfl := Option.some.inj h
      have h := retL hk1
      obtain rfl := Option.some.inj h
      refine blk_r (then_r (?_))
      refine bp_ret HF (res_one rfl HF rfl) ?_
      have HT : St w0 (fun _ => False) w [] := HT.take 0
      exact ⟨rfl, HT⟩
    have h := (if_neg hb1).symm.trans h
    refine wp_if (b' := false) HF rfl (decide_eq_false hb1) ?_
    obtain ⟨z1, hx4, h⟩ := obs h
    refine wp_cut (fun a w => Fr a 161 [(1, .pointer (some ⟨p1, 0, none⟩)), (4, .int .i64 x0_0), (20, .bool z1)] ∧ St w0 (fun _ => False) w [Box p1 [.int .i64 x0_0, .int .i64 x0_1, .int .i64 x0_2, .int .i64 x0_3]]) ?_ ?_
    · have hk2 := h
      have h := hx4
      refine wp_seq ?_
      refine wc_text ?_
      refine wc_bin HF nS rfl rfl b_eq rfl rfl (fun a HF => ?_)
      refine wc_assign HF nS rfl rfl rfl (fun a HF => ?_)
      refine wc_end ?_
      refine then_n ?_
      by_cases hb4 : x0_0 = 2
      · have h := (if_pos hb4).symm.trans h
        refine wp_if (b' := true) HF rfl (decide_eq_true hb4) ?_
        refine wp_skip ?_
        obtain rfl := Option.some.inj h
        exact then_n ⟨(HF.keep (HF.keep (HF.keep HF.nil rfl) rfl) rfl), HT⟩
      have h := (if_neg hb4).symm.trans h
      refine wp_if (b' := false) HF rfl (decide_eq_false hb4) ?_
      refine wp_seq ?_
      refine wc_text ?_
      refine wc_bin HF nS rfl rfl b_eq rfl rfl (fun a HF => ?_)
      refine wc_assign HF nS rfl rfl rfl (fun a HF => ?_)
      refine wc_end ?_
      refine then_n ?_
      by_cases hb5 : x0_0 = 3
      · have h := (if_pos hb5).symm.trans h
        refine wp_if (b' := true) HF rfl (decide_eq_true hb5) ?_
        refine wp_skip ?_
        obtain rfl := Option.some.inj h
        exact then_n ⟨(HF.keep (HF.keep (HF.keep HF.nil rfl) rfl) rfl), HT⟩
      have h := (if_neg hb5).symm.trans h
      refine wp_if (b' := false) HF rfl (decide_eq_false hb5) ?_
      refine wc_text ?_
      refine wc_bin HF nS rfl rfl b_eq rfl rfl (fun a HF => ?_)
      refine wc_assign HF nS rfl rfl rfl (fun a HF => ?_)
      refine wc_end ?_
      obtain rfl := Option.some.inj h
      exact then_n ⟨(HF.keep (HF.keep (HF.keep HF.nil rfl) rfl) rfl), HT⟩
    rintro a w ⟨HF, HT⟩
    refine ?_
    by_cases hb6 : z1 = true
    · have h := (if_pos hb6).symm.trans h
      refine wp_if (b' := true) HF rfl hb6 ?_
      refine wp_seq ?_
      refine wc_text ?_
      refine wc_faddr HF nS rfl fl45_1 rfl rfl (fun a HF => ?_)
      refine wc_load HF rfl sc3 ((HT.boxAt 0 rfl).get 1 rfl) rfl rfl (fun a HF => ?_)
      obtain ⟨y3, hx5, h⟩ := obs h
      refine wc_call HF cf54 rfl (w_spec_l4Reg fuel hx5) rfl rfl ?_
      rintro e w ⟨rfl, hE⟩
      have hb := hE.below
      have HT := HT.pure hE
      have HT : St w0 (fun _ => False) w [Box p1 [.int .i64 x0_0, .int .i64 x0_1, .int .i64 x0_2, .int .i64 x0_3]] := HT
      refine ⟨_, rfl, nS, fun a HF => ?_⟩
      refine wc_move HF nS rfl rfl rfl (fun a HF => ?_)
      by_cases hb7 : y3 = true
      · have h := (if_pos hb7).symm.trans h
        refine wc_faddr HF nS rfl fl45_2 (HF.wy rfl rfl rfl rfl hb7) rfl (fun a HF => ?_)
        refine wc_load HF rfl sc3 ((HT.boxAt 0 rfl).get 2 rfl) (HF.wy rfl rfl rfl rfl hb7) rfl (fun a HF => ?_)
        obtain ⟨y4, hx6, h⟩ := obs h
        refine wc_call HF cf54 rfl (w_spec_l4Reg fuel hx6) (HF.wy rfl rfl rfl rfl hb7) rfl ?_
        rintro e w ⟨rfl, hE⟩
        have hb := hE.below
        have HT := HT.pure hE
        have HT : St w0 (fun _ => False) w [Box p1 [.int .i64 x0_0, .int .i64 x0_1, .int .i64 x0_2, .int .i64 x0_3]] := HT
        refine ⟨_, rfl, nS, fun a HF => ?_⟩
        refine wc_pick (b := true) HF nS rfl hb7 rfl rfl rfl (fun a HF => ?_)
        refine wc_move HF nS rfl rfl rfl (fun a HF => ?_)
        by_cases hb8 : y4 = true
        · have h := (if_pos hb8).symm.trans h
          refine wc_faddr HF nS rfl fl45_3 (HF.wy rfl rfl rfl rfl hb8) rfl (fun a HF => ?_)
          refine wc_load HF rfl sc3 ((HT.boxAt 0 rfl).get 3 rfl) (HF.wy rfl rfl rfl rfl hb8) rfl (fun a HF => ?_)
          obtain ⟨y5, hx7, h⟩ := obs h
          refine wc_call HF cf54 rfl (w_spec_l4Reg fuel hx7) (HF.wy rfl rfl rfl rfl hb8) rfl ?_
          rintro e w ⟨rfl, hE⟩
          have hb := hE.below
          have HT := HT.pure hE
          have HT : St w0 (fun _ => False) w [Box p1 [.int .i64 x0_0, .int .i64 x0_1, .int .i64 x0_2, .int .i64 x0_3]] := HT
          refine ⟨_, rfl, nS, fun a HF => ?_⟩
          refine wc_pick (b := true) HF nS rfl hb8 rfl rfl rfl (fun a HF => ?_)
          refine wc_assign HF nS rfl rfl rfl (fun a HF => ?_)
          refine wc_end ?_
          refine then_n ?_
          refine wp_ret ?_
          obtain rfl := Option.some.inj h
          have h := retL hk1
          obtain rfl := Option.some.inj h
          refine blk_r (then_r (?_))
          refine bp_ret HF (res_one rfl HF rfl) ?_
          have HT : St w0 (fun _ => False) w [] := HT.take 0
          exact ⟨rfl, HT⟩
        have h := (if_neg hb8).symm.trans h
        refine wc_skip HF nS (HF.wn rfl rfl rfl rfl (Bool.eq_false_iff.2 hb8)) rfl (fun a HF => ?_)
        refine wc_skip HF nS (HF.wn rfl rfl rfl rfl (Bool.eq_false_iff.2 hb8)) rfl (fun a HF => ?_)
        refine wc_skip HF nS (HF.wn rfl rfl rfl rfl (Bool.eq_false_iff.2 hb8)) rfl (fun a HF => ?_)
        refine wc_pick (b := false) HF nS rfl (Bool.eq_false_iff.2 hb8) rfl rfl rfl (fun a HF => ?_)
        refine wc_assign HF nS rfl rfl rfl (fun a HF => ?_)
        refine wc_end ?_
        refine then_n ?_
        refine wp_ret ?_
        obtain rfl := Option.some.inj h
        have h := retL hk1
        obtain rfl := Option.some.inj h
        refine blk_r (then_r (?_))
        refine bp_ret HF (res_one rfl HF rfl) ?_
        have HT : St w0 (fun _ => False) w [] := HT.take 0
        exact ⟨rfl, HT⟩
      have h := (if_neg hb7).symm.trans h
      refine wc_skip HF nS (HF.wn rfl rfl rfl rfl (Bool.eq_false_iff.2 hb7)) rfl (fun a HF => ?_)
      refine wc_skip HF nS (HF.wn rfl rfl rfl rfl (Bool.eq_false_iff.2 hb7)) rfl (fun a HF => ?_)
      refine wc_skip HF nS (HF.wn rfl rfl rfl rfl (Bool.eq_false_iff.2 hb7)) rfl (fun a HF => ?_)
      refine wc_pick (b := false) HF nS rfl (Bool.eq_false_iff.2 hb7) rfl rfl rfl (fun a HF => ?_)
      refine wc_move HF nS rfl rfl rfl (fun a HF => ?_)
      refine wc_skip HF nS (HF.wn rfl rfl rfl rfl rfl) rfl (fun a HF => ?_)
      refine wc_skip HF nS (HF.wn rfl rfl rfl rfl rfl) rfl (fun a HF => ?_)
      refine wc_skip HF nS (HF.wn rfl rfl rfl rfl rfl) rfl (fun a HF => ?_)
      refine wc_pick (b := false) HF nS rfl rfl rfl rfl rfl (fun a HF => ?_)
      refine wc_assign HF nS rfl rfl rfl (fun a HF => ?_)
      refine wc_end ?_
      refine then_n ?_
      refine wp_ret ?_
      obtain rfl := Option.some.inj h
      have h := retL hk1
      obtain rfl := Option.some.inj h
      refine blk_r (then_r (?_))
      refine bp_ret HF (res_one rfl HF rfl) ?_
      have HT : St w0 (fun _ => False) w [] := HT.take 0
      exact ⟨rfl, HT⟩
    have h := (if_neg hb6).symm.trans h
    refine wp_if (b' := false) HF rfl (Bool.eq_false_iff.2 hb6) ?_
    refine wp_seq ?_
    refine wc_text ?_
    refine wc_bin HF nS rfl rfl b_eq rfl rfl (fun a HF => ?_)
    refine wc_assign HF nS rfl rfl rfl (fun a HF => ?_)
    refine wc_end ?_
    refine then_n ?_
    by_cases hb9 : x0_0 = 5
    · have h := (if_pos hb9).symm.trans h
      refine wp_if (b' := true) HF rfl (decide_eq_true hb9) ?_
      refine wp_seq ?_
      refine wc_text ?_
      refine wc_faddr HF nS rfl fl45_1 rfl rfl (fun a HF => ?_)
      refine wc_load HF rfl sc3 ((HT.boxAt 0 rfl).get 1 rfl) rfl rfl (fun a HF => ?_)
      obtain ⟨y6, hx8, h⟩ := obs h
      refine wc_call HF cf54 rfl (w_spec_l4Reg fuel hx8) rfl rfl ?_
      rintro e w ⟨rfl, hE⟩
      have hb := hE.below
      have HT := HT.pure hE
      have HT : St w0 (fun _ => False) w [Box p1 [.int .i64 x0_0, .int .i64 x0_1, .int .i64 x0_2, .int .i64 x0_3]] := HT
      refine ⟨_, rfl, nS, fun a HF => ?_⟩
      refine wc_move HF nS rfl rfl rfl (fun a HF => ?_)
      by_cases hb10 : y6 = true
      · have h := (if_pos hb10).symm.trans h
        refine wc_faddr HF nS rfl fl45_2 (HF.wy rfl rfl rfl rfl hb10) rfl (fun a HF => ?_)
        refine wc_load HF rfl sc3 ((HT.boxAt 0 rfl).get 2 rfl) (HF.wy rfl rfl rfl rfl hb10) rfl (fun a HF => ?_)
        obtain ⟨y7, hx9, h⟩ := obs h
        refine wc_call HF cf56 rfl (w_spec_l3Cell fuel hx9) (HF.wy rfl rfl rfl rfl hb10) rfl ?_
        rintro e w ⟨rfl, hE⟩
        have hb := hE.below
        have HT := HT.pure hE
        have HT : St w0 (fun _ => False) w [Box p1 [.int .i64 x0_0, .int .i64 x0_1, .int .i64 x0_2, .int .i64 x0_3]] := HT
        refine ⟨_, rfl, nS, fun a HF => ?_⟩
        refine wc_pick (b := true) HF nS rfl hb10 rfl rfl rfl (fun a HF => ?_)
        refine wc_move HF nS rfl rfl rfl (fun a HF => ?_)
        by_cases hb11 : y7 = true
        · have h := (if_pos hb11).symm.trans h
          refine wc_faddr HF nS rfl fl45_3 (HF.wy rfl rfl rfl rfl hb11) rfl (fun a HF => ?_)
          refine wc_load HF rfl sc3 ((HT.boxAt 0 rfl).get 3 rfl) (HF.wy rfl rfl rfl rfl hb11) rfl (fun a HF => ?_)
          refine wc_bin HF nS rfl rfl b_eq (HF.wy rfl rfl rfl rfl hb11) rfl (fun a HF => ?_)
          refine wc_pick (b := true) HF nS rfl hb11 rfl rfl rfl (fun a HF => ?_)
          refine wc_assign HF nS rfl rfl rfl (fun a HF => ?_)
          refine wc_end ?_
          refine then_n ?_
          refine wp_ret ?_
          obtain rfl := Option.some.inj h
          have h := retL hk1
          obtain rfl := Option.some.inj h
          refine blk_r (then_r (?_))
          refine bp_ret HF (res_one rfl HF rfl) ?_
          have HT : St w0 (fun _ => False) w [] := HT.take 0
          exact ⟨rfl, HT⟩
        have h := (if_neg hb11).symm.trans h
        refine wc_skip HF nS (HF.wn rfl rfl rfl rfl (Bool.eq_false_iff.2 hb11)) rfl (fun a HF => ?_)
        refine wc_skip HF nS (HF.wn rfl rfl rfl rfl (Bool.eq_false_iff.2 hb11)) rfl (fun a HF => ?_)
        refine wc_skip HF nS (HF.wn rfl rfl rfl rfl (Bool.eq_false_iff.2 hb11)) rfl (fun a HF => ?_)
        refine wc_pick (b := false) HF nS rfl (Bool.eq_false_iff.2 hb11) rfl rfl rfl (fun a HF => ?_)
        refine wc_assign HF nS rfl rfl rfl (fun a HF => ?_)
        refine wc_end ?_
        refine then_n ?_
        refine wp_ret ?_
        obtain rfl := Option.some.inj h
        have h := retL hk1
        obtain rfl := Option.some.inj h
        refine blk_r (then_r (?_))
        refine bp_ret HF (res_one rfl HF rfl) ?_
        have HT : St w0 (fun _ => False) w [] := HT.take 0
        exact ⟨rfl, HT⟩
      have h := (if_neg hb10).symm.trans h
      refine wc_skip HF nS (HF.wn rfl rfl rfl rfl (Bool.eq_false_iff.2 hb10)) rfl (fun a HF => ?_)
      refine wc_skip HF nS (HF.wn rfl rfl rfl rfl (Bool.eq_false_iff.2 hb10)) rfl (fun a HF => ?_)
      refine wc_skip HF nS (HF.wn rfl rfl rfl rfl (Bool.eq_false_iff.2 hb10)) rfl (fun a HF => ?_)
      refine wc_pick (b := false) HF nS rfl (Bool.eq_false_iff.2 hb10) rfl rfl rfl (fun a HF => ?_)
      refine wc_move HF nS rfl rfl rfl (fun a HF => ?_)
      refine wc_skip HF nS (HF.wn rfl rfl rfl rfl rfl) rfl (fun a HF => ?_)
      refine wc_skip HF nS (HF.wn rfl rfl rfl rfl rfl) rfl (fun a HF => ?_)
      refine wc_skip HF nS (HF.wn rfl rfl rfl rfl rfl) rfl (fun a HF => ?_)
      refine wc_pick (b := false) HF nS rfl rfl rfl rfl rfl (fun a HF => ?_)
      refine wc_assign HF nS rfl rfl rfl (fun a HF => ?_)
      refine wc_end ?_
      refine then_n ?_
      refine wp_ret ?_
      obtain rfl := Option.some.inj h
      have h := retL hk1
      obtain rfl := Option.some.inj h
      refine blk_r (then_r (?_))
      refine bp_ret HF (res_one rfl HF rfl) ?_
      have HT : St w0 (fun _ => False) w [] := HT.take 0
      exact ⟨rfl, HT⟩
    have h := (if_neg hb9).symm.trans h
    refine wp_if (b' := false) HF rfl (decide_eq_false hb9) ?_
    refine wp_seq ?_
    refine wc_text ?_
    refine wc_bin HF nS rfl rfl b_eq rfl rfl (fun a HF => ?_)
    refine wc_assign HF nS rfl rfl rfl (fun a HF => ?_)
    refine wc_end ?_
    refine then_n ?_
    by_cases hb12 : x0_0 = 6
    · have h := (if_pos hb12).symm.trans h
      refine wp_if (b' := true) HF rfl (decide_eq_true hb12) ?_
      refine wp_seq ?_
      refine wc_text ?_
      refine wc_faddr HF nS rfl fl45_1 rfl rfl (fun a HF => ?_)
      refine wc_load HF rfl sc3 ((HT.boxAt 0 rfl).get 1 rfl) rfl rfl (fun a HF => ?_)
      obtain ⟨y8, hx10, h⟩ := obs h
      refine wc_call HF cf56 rfl (w_spec_l3Cell fuel hx10) rfl rfl ?_
      rintro e w ⟨rfl, hE⟩
      have hb := hE.below
      have HT := HT.pure hE
      have HT : St w0 (fun _ => False) w [Box p1 [.int .i64 x0_0, .int .i64 x0_1, .int .i64 x0_2, .int .i64 x0_3]] := HT
      refine ⟨_, rfl, nS, fun a HF => ?_⟩
      refine wc_move HF nS rfl rfl rfl (fun a HF => ?_)
      by_cases hb13 : y8 = true
      · have h := (if_pos hb13).symm.trans h
        refine wc_faddr HF nS rfl fl45_2 (HF.wy rfl rfl rfl rfl hb13) rfl (fun a HF => ?_)
        refine wc_load HF rfl sc3 ((HT.boxAt 0 rfl).get 2 rfl) (HF.wy rfl rfl rfl rfl hb13) rfl (fun a HF => ?_)
        obtain ⟨y9, hx11, h⟩ := obs h
        refine wc_call HF cf54 rfl (w_spec_l4Reg fuel hx11) (HF.wy rfl rfl rfl rfl hb13) rfl ?_
        rintro e w ⟨rfl, hE⟩
        have hb := hE.below
        have HT := HT.pure hE
        have HT : St w0 (fun _ => False) w [Box p1 [.int .i64 x0_0, .int .i64 x0_1, .int .i64 x0_2, .int .i64 x0_3]] := HT
        refine ⟨_, rfl, nS, fun a HF => ?_⟩
        refine wc_pick (b := true) HF nS rfl hb13 rfl rfl rfl (fun a HF => ?_)
        refine wc_move HF nS rfl rfl rfl (fun a HF => ?_)
        by_cases hb14 : y9 = true
        · have h := (if_pos hb14).symm.trans h
          refine wc_faddr HF nS rfl fl45_3 (HF.wy rfl rfl rfl rfl hb14) rfl (fun a HF => ?_)
          refine wc_load HF rfl sc3 ((HT.boxAt 0 rfl).get 3 rfl) (HF.wy rfl rfl rfl rfl hb14) rfl (fun a HF => ?_)
          refine wc_bin HF nS rfl rfl b_eq (HF.wy rfl rfl rfl rfl hb14) rfl (fun a HF => ?_)
          refine wc_pick (b := true) HF nS rfl hb14 rfl rfl rfl (fun a HF => ?_)
          refine wc_assign HF nS rfl rfl rfl (fun a HF => ?_)
          refine wc_end ?_
          refine then_n ?_
          refine wp_ret ?_
          obtain rfl := Option.some.inj h
          have h := retL hk1
          obtain rfl := Option.some.inj h
          refine blk_r (then_r (?_))
          refine bp_ret HF (res_one rfl HF rfl) ?_
          have HT : St w0 (fun _ => False) w [] := HT.take 0
          exact ⟨rfl, HT⟩
        have h := (if_neg hb14).symm.trans h
        refine wc_skip HF nS (HF.wn rfl rfl rfl rfl (Bool.eq_false_iff.2 hb14)) rfl (fun a HF => ?_)
        refine wc_skip HF nS (HF.wn rfl rfl rfl rfl (Bool.eq_false_iff.2 hb14)) rfl (fun a HF => ?_)
        refine wc_skip HF nS (HF.wn rfl rfl rfl rfl (Bool.eq_false_iff.2 hb14)) rfl (fun a HF => ?_)
        refine wc_pick (b := false) HF nS rfl (Bool.eq_false_iff.2 hb14) rfl rfl rfl (fun a HF => ?_)
        refine wc_assign HF nS rfl rfl rfl (fun a HF => ?_)
        refine wc_end ?_
        refine then_n ?_
        refine wp_ret ?_
        obtain rfl := Option.some.inj h
        have h := retL hk1
        obtain rfl := Option.some.inj h
        refine blk_r (then_r (?_))
        refine bp_ret HF (res_one rfl HF rfl) ?_
        have HT : St w0 (fun _ => False) w [] := HT.take 0
        exact ⟨rfl, HT⟩
      have h := (if_neg hb13).symm.trans h
      refine wc_skip HF nS (HF.wn rfl rfl rfl rfl (Bool.eq_false_iff.2 hb13)) rfl (fun a HF => ?_)
      refine wc_skip HF nS (HF.wn rfl rfl rfl rfl (Bool.eq_false_iff.2 hb13)) rfl (fun a HF => ?_)
      refine wc_skip HF nS (HF.wn rfl rfl rfl rfl (Bool.eq_false_iff.2 hb13)) rfl (fun a HF => ?_)
      refine wc_pick (b := false) HF nS rfl (Bool.eq_false_iff.2 hb13) rfl rfl rfl (fun a HF => ?_)
      refine wc_move HF nS rfl rfl rfl (fun a HF => ?_)
      refine wc_skip HF nS (HF.wn rfl rfl rfl rfl rfl) rfl (fun a HF => ?_)
      refine wc_skip HF nS (HF.wn rfl rfl rfl rfl rfl) rfl (fun a HF => ?_)
      refine wc_skip HF nS (HF.wn rfl rfl rfl rfl rfl) rfl (fun a HF => ?_)
      refine wc_pick (b := false) HF nS rfl rfl rfl rfl rfl (fun a HF => ?_)
      refine wc_assign HF nS rfl rfl rfl (fun a HF => ?_)
      refine wc_end ?_
      refine then_n ?_
      refine wp_ret ?_
      obtain rfl := Option.some.inj h
      have h := retL hk1
      obtain rfl := Option.some.inj h
      refine blk_r (then_r (?_))
      refine bp_ret HF (res_one rfl HF rfl) ?_
      have HT : St w0 (fun _ => False) w [] := HT.take 0
      exact ⟨rfl, HT⟩
    have h := (if_neg hb12).symm.trans h
    refine wp_if (b' := false) HF rfl (decide_eq_false hb12) ?_
    refine wp_seq ?_
    refine wc_text ?_
    refine wc_bin HF nS rfl rfl b_eq rfl rfl (fun a HF => ?_)
    refine wc_assign HF nS rfl rfl rfl (fun a HF => ?_)
    refine wc_end ?_
    refine then_n ?_
    by_cases hb15 : x0_0 = 7
    · have h := (if_pos hb15).symm.trans h
      refine wp_if (b' := true) HF rfl (decide_eq_true hb15) ?_
      refine wp_seq ?_
      refine wc_text ?_
      refine wc_faddr HF nS rfl fl45_1 rfl rfl (fun a HF => ?_)
      refine wc_load HF rfl sc3 ((HT.boxAt 0 rfl).get 1 rfl) rfl rfl (fun a HF => ?_)
      obtain ⟨y10, hx12, h⟩ := obs h
      refine wc_call HF cf54 rfl (w_spec_l4Reg fuel hx12) rfl rfl ?_
      rintro e w ⟨rfl, hE⟩
      have hb := hE.below
      have HT := HT.pure hE
      have HT : St w0 (fun _ => False) w [Box p1 [.int .i64 x0_0, .int .i64 x0_1, .int .i64 x0_2, .int .i64 x0_3]] := HT
      refine ⟨_, rfl, nS, fun a HF => ?_⟩
      refine wc_move HF nS rfl rfl rfl (fun a HF => ?_)
      by_cases hb16 : y10 = true
      · have h := (if_pos hb16).symm.trans h
        refine wc_faddr HF nS rfl fl45_2 (HF.wy rfl rfl rfl rfl hb16) rfl (fun a HF => ?_)
        refine wc_load HF rfl sc3 ((HT.boxAt 0 rfl).get 2 rfl) (HF.wy rfl rfl rfl rfl hb16) rfl (fun a HF => ?_)
        obtain ⟨y11, hx13, h⟩ := obs h
        refine wc_call HF cf47 rfl (w_spec_l1In fuel hx13) (HF.wy rfl rfl rfl rfl hb16) rfl ?_
        rintro e w ⟨rfl, hE⟩
        have hb := hE.below
        have HT := HT.pure hE
        have HT : St w0 (fun _ => False) w [Box p1 [.int .i64 x0_0, .int .i64 x0_1, .int .i64 x0_2, .int .i64 x0_3]] := HT
        refine ⟨_, rfl, nS, fun a HF => ?_⟩
        refine wc_pick (b := true) HF nS rfl hb16 rfl rfl rfl (fun a HF => ?_)
        refine wc_move HF nS rfl rfl rfl (fun a HF => ?_)
        by_cases hb17 : y11 = true
        · have h := (if_pos hb17).symm.trans h
          refine wc_faddr HF nS rfl fl45_3 (HF.wy rfl rfl rfl rfl hb17) rfl (fun a HF => ?_)
          refine wc_load HF rfl sc3 ((HT.boxAt 0 rfl).get 3 rfl) (HF.wy rfl rfl rfl rfl hb17) rfl (fun a HF => ?_)
          refine wc_bin HF nS rfl rfl b_eq (HF.wy rfl rfl rfl rfl hb17) rfl (fun a HF => ?_)
          refine wc_pick (b := true) HF nS rfl hb17 rfl rfl rfl (fun a HF => ?_)
          refine wc_assign HF nS rfl rfl rfl (fun a HF => ?_)
          refine wc_end ?_
          refine then_n ?_
          refine wp_ret ?_
          obtain rfl := Option.some.inj h
          have h := retL hk1
          obtain rfl := Option.some.inj h
          refine blk_r (then_r (?_))
          refine bp_ret HF (res_one rfl HF rfl) ?_
          have HT : St w0 (fun _ => False) w [] := HT.take 0
          exact ⟨rfl, HT⟩
        have h := (if_neg hb17).symm.trans h
        refine wc_skip HF nS (HF.wn rfl rfl rfl rfl (Bool.eq_false_iff.2 hb17)) rfl (fun a HF => ?_)
        refine wc_skip HF nS (HF.wn rfl rfl rfl rfl (Bool.eq_false_iff.2 hb17)) rfl (fun a HF => ?_)
        refine wc_skip HF nS (HF.wn rfl rfl rfl rfl (Bool.eq_false_iff.2 hb17)) rfl (fun a HF => ?_)
        refine wc_pick (b := false) HF nS rfl (Bool.eq_false_iff.2 hb17) rfl rfl rfl (fun a HF => ?_)
        refine wc_assign HF nS rfl rfl rfl (fun a HF => ?_)
        refine wc_end ?_
        refine then_n ?_
        refine wp_ret ?_
        obtain rfl := Option.some.inj h
        have h := retL hk1
        obtain rfl := Option.some.inj h
        refine blk_r (then_r (?_))
        refine bp_ret HF (res_one rfl HF rfl) ?_
        have HT : St w0 (fun _ => False) w [] := HT.take 0
        exact ⟨rfl, HT⟩
      have h := (if_neg hb16).symm.trans h
      refine wc_skip HF nS (HF.wn rfl rfl rfl rfl (Bool.eq_false_iff.2 hb16)) rfl (fun a HF => ?_)
      refine wc_skip HF nS (HF.wn rfl rfl rfl rfl (Bool.eq_false_iff.2 hb16)) rfl (fun a HF => ?_)
      refine wc_skip HF nS (HF.wn rfl rfl rfl rfl (Bool.eq_false_iff.2 hb16)) rfl (fun a HF => ?_)
      refine wc_pick (b := false) HF nS rfl (Bool.eq_false_iff.2 hb16) rfl rfl rfl (fun a HF => ?_)
      refine wc_move HF nS rfl rfl rfl (fun a HF => ?_)
      refine wc_skip HF nS (HF.wn rfl rfl rfl rfl rfl) rfl (fun a HF => ?_)
      refine wc_skip HF nS (HF.wn rfl rfl rfl rfl rfl) rfl (fun a HF => ?_)
      refine wc_skip HF nS (HF.wn rfl rfl rfl rfl rfl) rfl (fun a HF => ?_)
      refine wc_pick (b := false) HF nS rfl rfl rfl rfl rfl (fun a HF => ?_)
      refine wc_assign HF nS rfl rfl rfl (fun a HF => ?_)
      refine wc_end ?_
      refine then_n ?_
      refine wp_ret ?_
      obtain rfl := Option.some.inj h
      have h := retL hk1
      obtain rfl := Option.some.inj h
      refine blk_r (then_r (?_))
      refine bp_ret HF (res_one rfl HF rfl) ?_
      have HT : St w0 (fun _ => False) w [] := HT.take 0
      exact ⟨rfl, HT⟩
    have h := (if_neg hb15).symm.trans h
    refine wp_if (b' := false) HF rfl (decide_eq_false hb15) ?_
    obtain ⟨z2, hx14, h⟩ := obs h
    refine wp_cut (fun a w => Fr a 161 [(1, .pointer (some ⟨p1, 0, none⟩)), (4, .int .i64 x0_0), (82, .bool z2)] ∧ St w0 (fun _ => False) w [Box p1 [.int .i64 x0_0, .int .i64 x0_1, .int .i64 x0_2, .int .i64 x0_3]]) ?_ ?_
    · have hk2 := h
      have h := hx14
      refine wp_seq ?_
      refine wc_text ?_
      refine wc_bin HF nS rfl rfl b_eq rfl rfl (fun a HF => ?_)
      refine wc_assign HF nS rfl rfl rfl (fun a HF => ?_)
      refine wc_end ?_
      refine then_n ?_
      by_cases hb18 : x0_0 = 8
      · have h := (if_pos hb18).symm.trans h
        refine wp_if (b' := true) HF rfl (decide_eq_true hb18) ?_
        refine wp_skip ?_
        obtain rfl := Option.some.inj h
        exact then_n ⟨(HF.keep (HF.keep (HF.keep HF.nil rfl) rfl) rfl), HT⟩
      have h := (if_neg hb18).symm.trans h
      refine wp_if (b' := false) HF rfl (decide_eq_false hb18) ?_
      refine wp_seq ?_
      refine wc_text ?_
      refine wc_bin HF nS rfl rfl b_eq rfl rfl (fun a HF => ?_)
      refine wc_assign HF nS rfl rfl rfl (fun a HF => ?_)
      refine wc_end ?_
      refine then_n ?_
      by_cases hb19 : x0_0 = 15
      · have h := (if_pos hb19).symm.trans h
        refine wp_if (b' := true) HF rfl (decide_eq_true hb19) ?_
        refine wp_skip ?_
        obtain rfl := Option.some.inj h
        exact then_n ⟨(HF.keep (HF.keep (HF.keep HF.nil rfl) rfl) rfl), HT⟩
      have h := (if_neg hb19).symm.trans h
      refine wp_if (b' := false) HF rfl (decide_eq_false hb19) ?_
      refine wc_text ?_
      refine wc_bin HF nS rfl rfl b_eq rfl rfl (fun a HF => ?_)
      refine wc_assign HF nS rfl rfl rfl (fun a HF => ?_)
      refine wc_end ?_
      obtain rfl := Option.some.inj h
      exact then_n ⟨(HF.keep (HF.keep (HF.keep HF.nil rfl) rfl) rfl), HT⟩
    rintro a w ⟨HF, HT⟩
    refine ?_
    by_cases hb20 : z2 = true
    · have h := (if_pos hb20).symm.trans h
      refine wp_if (b' := true) HF rfl hb20 ?_
      refine wp_seq ?_
      refine wc_text ?_
      refine wc_faddr HF nS rfl fl45_1 rfl rfl (fun a HF => ?_)
      refine wc_load HF rfl sc3 ((HT.boxAt 0 rfl).get 1 rfl) rfl rfl (fun a HF => ?_)
      obtain ⟨y12, hx15, h⟩ := obs h
      refine wc_call HF cf54 rfl (w_spec_l4Reg fuel hx15) rfl rfl ?_
      rintro e w ⟨rfl, hE⟩
      have hb := hE.below
      have HT := HT.pure hE
      have HT : St w0 (fun _ => False) w [Box p1 [.int .i64 x0_0, .int .i64 x0_1, .int .i64 x0_2, .int .i64 x0_3]] := HT
      refine ⟨_, rfl, nS, fun a HF => ?_⟩
      refine wc_move HF nS rfl rfl rfl (fun a HF => ?_)
      by_cases hb21 : y12 = true
      · have h := (if_pos hb21).symm.trans h
        refine wc_faddr HF nS rfl fl45_2 (HF.wy rfl rfl rfl rfl hb21) rfl (fun a HF => ?_)
        refine wc_load HF rfl sc3 ((HT.boxAt 0 rfl).get 2 rfl) (HF.wy rfl rfl rfl rfl hb21) rfl (fun a HF => ?_)
        refine wc_bin HF nS rfl rfl b_eq (HF.wy rfl rfl rfl rfl hb21) rfl (fun a HF => ?_)
        refine wc_pick (b := true) HF nS rfl hb21 rfl rfl rfl (fun a HF => ?_)
        refine wc_move HF nS rfl rfl rfl (fun a HF => ?_)
        by_cases hb22 : x0_2 = 0
        · have h := (if_pos hb22).symm.trans h
          refine wc_faddr HF nS rfl fl45_3 (HF.wy rfl rfl rfl rfl (decide_eq_true hb22)) rfl (fun a HF => ?_)
          refine wc_load HF rfl sc3 ((HT.boxAt 0 rfl).get 3 rfl) (HF.wy rfl rfl rfl rfl (decide_eq_true hb22)) rfl (fun a HF => ?_)
          refine wc_bin HF nS rfl rfl b_eq (HF.wy rfl rfl rfl rfl (decide_eq_true hb22)) rfl (fun a HF => ?_)
          refine wc_pick (b := true) HF nS rfl (decide_eq_true hb22) rfl rfl rfl (fun a HF => ?_)
          refine wc_assign HF nS rfl rfl rfl (fun a HF => ?_)
          refine wc_end ?_
          refine then_n ?_
          refine wp_ret ?_
          obtain rfl := Option.some.inj h
          have h := retL hk1
          obtain rfl := Option.some.inj h
          refine blk_r (then_r (?_))
          refine bp_ret HF (res_one rfl HF rfl) ?_
          have HT : St w0 (fun _ => False) w [] := HT.take 0
          exact ⟨rfl, HT⟩
        have h := (if_neg hb22).symm.trans h
        refine wc_skip HF nS (HF.wn rfl rfl rfl rfl (decide_eq_false hb22)) rfl (fun a HF => ?_)
        refine wc_skip HF nS (HF.wn rfl rfl rfl rfl (decide_eq_false hb22)) rfl (fun a HF => ?_)
        refine wc_skip HF nS (HF.wn rfl rfl rfl rfl (decide_eq_false hb22)) rfl (fun a HF => ?_)
        refine wc_pick (b := false) HF nS rfl (decide_eq_false hb22) rfl rfl rfl (fun a HF => ?_)
        refine wc_assign HF nS rfl rfl rfl (fun a HF => ?_)
        refine wc_end ?_
        refine then_n ?_
        refine wp_ret ?_
        obtain rfl := Option.some.inj h
        have h := retL hk1
        obtain rfl := Option.some.inj h
        refine blk_r (then_r (?_))
        refine bp_ret HF (res_one rfl HF rfl) ?_
        have HT : St w0 (fun _ => False) w [] := HT.take 0
        exact ⟨rfl, HT⟩
      have h := (if_neg hb21).symm.trans h
      refine wc_skip HF nS (HF.wn rfl rfl rfl rfl (Bool.eq_false_iff.2 hb21)) rfl (fun a HF => ?_)
      refine wc_skip HF nS (HF.wn rfl rfl rfl rfl (Bool.eq_false_iff.2 hb21)) rfl (fun a HF => ?_)
      refine wc_skip HF nS (HF.wn rfl rfl rfl rfl (Bool.eq_false_iff.2 hb21)) rfl (fun a HF => ?_)
      refine wc_pick (b := false) HF nS rfl (Bool.eq_false_iff.2 hb21) rfl rfl rfl (fun a HF => ?_)
      refine wc_move HF nS rfl rfl rfl (fun a HF => ?_)
      refine wc_skip HF nS (HF.wn rfl rfl rfl rfl rfl) rfl (fun a HF => ?_)
      refine wc_skip HF nS (HF.wn rfl rfl rfl rfl rfl) rfl (fun a HF => ?_)
      refine wc_skip HF nS (HF.wn rfl rfl rfl rfl rfl) rfl (fun a HF => ?_)
      refine wc_pick (b := false) HF nS rfl rfl rfl rfl rfl (fun a HF => ?_)
      refine wc_assign HF nS rfl rfl rfl (fun a HF => ?_)
      refine wc_end ?_
      refine then_n ?_
      refine wp_ret ?_
      obtain rfl := Option.some.inj h
      have h := retL hk1
      obtain rfl := Option.some.inj h
      refine blk_r (then_r (?_))
      refine bp_ret HF (res_one rfl HF rfl) ?_
      have HT : St w0 (fun _ => False) w [] := HT.take 0
      exact ⟨rfl, HT⟩
    have h := (if_neg hb20).symm.trans h
    refine wp_if (b' := false) HF rfl (Bool.eq_false_iff.2 hb20) ?_
    obtain ⟨z3, hx16, h⟩ := obs h
    refine wp_cut (fun a w => Fr a 161 [(1, .pointer (some ⟨p1, 0, none⟩)), (4, .int .i64 x0_0), (99, .bool z3)] ∧ St w0 (fun _ => False) w [Box p1 [.int .i64 x0_0, .int .i64 x0_1, .int .i64 x0_2, .int .i64 x0_3]]) ?_ ?_
    · have hk2 := h
      have h := hx16
      refine wp_seq ?_
      refine wc_text ?_
      refine wc_bin HF nS rfl rfl b_eq rfl rfl (fun a HF => ?_)
      refine wc_assign HF nS rfl rfl rfl (fun a HF => ?_)
      refine wc_end ?_
      refine then_n ?_
      by_cases hb23 : x0_0 = 9
      · have h := (if_pos hb23).symm.trans h
        refine wp_if (b' := true) HF rfl (decide_eq_true hb23) ?_
        refine wp_skip ?_
        obtain rfl := Option.some.inj h
        exact then_n ⟨(HF.keep (HF.keep (HF.keep HF.nil rfl) rfl) rfl), HT⟩
      have h := (if_neg hb23).symm.trans h
      refine wp_if (b' := false) HF rfl (decide_eq_false hb23) ?_
      refine wp_seq ?_
      refine wc_text ?_
      refine wc_bin HF nS rfl rfl b_eq rfl rfl (fun a HF => ?_)
      refine wc_assign HF nS rfl rfl rfl (fun a HF => ?_)
      refine wc_end ?_
      refine then_n ?_
      by_cases hb24 : x0_0 = 10
      · have h := (if_pos hb24).symm.trans h
        refine wp_if (b' := true) HF rfl (decide_eq_true hb24) ?_
        refine wp_skip ?_
        obtain rfl := Option.some.inj h
        exact then_n ⟨(HF.keep (HF.keep (HF.keep HF.nil rfl) rfl) rfl), HT⟩
      have h := (if_neg hb24).symm.trans h
      refine wp_if (b' := false) HF rfl (decide_eq_false hb24) ?_
      refine wc_text ?_
      refine wc_bin HF nS rfl rfl b_eq rfl rfl (fun a HF => ?_)
      refine wc_assign HF nS rfl rfl rfl (fun a HF => ?_)
      refine wc_end ?_
      obtain rfl := Option.some.inj h
      exact then_n ⟨(HF.keep (HF.keep (HF.keep HF.nil rfl) rfl) rfl), HT⟩
    rintro a w ⟨HF, HT⟩
    refine ?_
    by_cases hb25 : z3 = true
    · have h := (if_pos hb25).symm.trans h
      refine wp_if (b' := true) HF rfl hb25 ?_
      refine wp_seq ?_
      refine wc_text ?_
      refine wc_faddr HF nS rfl fl45_1 rfl rfl (fun a HF => ?_)
      refine wc_load HF rfl sc3 ((HT.boxAt 0 rfl).get 1 rfl) rfl rfl (fun a HF => ?_)
      refine wc_bin HF nS rfl rfl b_eq rfl rfl (fun a HF => ?_)
      refine wc_move HF nS rfl rfl rfl (fun a HF => ?_)
      by_cases hb26 : x0_1 = 0
      · have h := (if_pos hb26).symm.trans h
        refine wc_faddr HF nS rfl fl45_2 (HF.wy rfl rfl rfl rfl (decide_eq_true hb26)) rfl (fun a HF => ?_)
        refine wc_load HF rfl sc3 ((HT.boxAt 0 rfl).get 2 rfl) (HF.wy rfl rfl rfl rfl (decide_eq_true hb26)) rfl (fun a HF => ?_)
        refine wc_bin HF nS rfl rfl b_eq (HF.wy rfl rfl rfl rfl (decide_eq_true hb26)) rfl (fun a HF => ?_)
        refine wc_pick (b := true) HF nS rfl (decide_eq_true hb26) rfl rfl rfl (fun a HF => ?_)
        refine wc_move HF nS rfl rfl rfl (fun a HF => ?_)
        by_cases hb27 : x0_2 = 0
        · have h := (if_pos hb27).symm.trans h
          refine wc_faddr HF nS rfl fl45_3 (HF.wy rfl rfl rfl rfl (decide_eq_true hb27)) rfl (fun a HF => ?_)
          refine wc_load HF rfl sc3 ((HT.boxAt 0 rfl).get 3 rfl) (HF.wy rfl rfl rfl rfl (decide_eq_true hb27)) rfl (fun a HF => ?_)
          refine wc_bin HF nS rfl rfl b_eq (HF.wy rfl rfl rfl rfl (decide_eq_true hb27)) rfl (fun a HF => ?_)
          refine wc_pick (b := true) HF nS rfl (decide_eq_true hb27) rfl rfl rfl (fun a HF => ?_)
          refine wc_assign HF nS rfl rfl rfl (fun a HF => ?_)
          refine wc_end ?_
          refine then_n ?_
          refine wp_ret ?_
          obtain rfl := Option.some.inj h
          have h := retL hk1
          obtain rfl := Option.some.inj h
          refine blk_r (then_r (?_))
          refine bp_ret HF (res_one rfl HF rfl) ?_
          have HT : St w0 (fun _ => False) w [] := HT.take 0
          exact ⟨rfl, HT⟩
        have h := (if_neg hb27).symm.trans h
        refine wc_skip HF nS (HF.wn rfl rfl rfl rfl (decide_eq_false hb27)) rfl (fun a HF => ?_)
        refine wc_skip HF nS (HF.wn rfl rfl rfl rfl (decide_eq_false hb27)) rfl (fun a HF => ?_)
        refine wc_skip HF nS (HF.wn rfl rfl rfl rfl (decide_eq_false hb27)) rfl (fun a HF => ?_)
        refine wc_pick (b := false) HF nS rfl (decide_eq_false hb27) rfl rfl rfl (fun a HF => ?_)
        refine wc_assign HF nS rfl rfl rfl (fun a HF => ?_)
        refine wc_end ?_
        refine then_n ?_
        refine wp_ret ?_
        obtain rfl := Option.some.inj h
        have h := retL hk1
        obtain rfl := Option.some.inj h
        refine blk_r (then_r (?_))
        refine bp_ret HF (res_one rfl HF rfl) ?_
        have HT : St w0 (fun _ => False) w [] := HT.take 0
        exact ⟨rfl, HT⟩
      have h := (if_neg hb26).symm.trans h
      refine wc_skip HF nS (HF.wn rfl rfl rfl rfl (decide_eq_false hb26)) rfl (fun a HF => ?_)
      refine wc_skip HF nS (HF.wn rfl rfl rfl rfl (decide_eq_false hb26)) rfl (fun a HF => ?_)
      refine wc_skip HF nS (HF.wn rfl rfl rfl rfl (decide_eq_false hb26)) rfl (fun a HF => ?_)
      refine wc_pick (b := false) HF nS rfl (decide_eq_false hb26) rfl rfl rfl (fun a HF => ?_)
      refine wc_move HF nS rfl rfl rfl (fun a HF => ?_)
      refine wc_skip HF nS (HF.wn rfl rfl rfl rfl rfl) rfl (fun a HF => ?_)
      refine wc_skip HF nS (HF.wn rfl rfl rfl rfl rfl) rfl (fun a HF => ?_)
      refine wc_skip HF nS (HF.wn rfl rfl rfl rfl rfl) rfl (fun a HF => ?_)
      refine wc_pick (b := false) HF nS rfl rfl rfl rfl rfl (fun a HF => ?_)
      refine wc_assign HF nS rfl rfl rfl (fun a HF => ?_)
      refine wc_end ?_
      refine then_n ?_
      refine wp_ret ?_
      obtain rfl := Option.some.inj h
      have h := retL hk1
      obtain rfl := Option.some.inj h
      refine blk_r (then_r (?_))
      refine bp_ret HF (res_one rfl HF rfl) ?_
      have HT : St w0 (fun _ => False) w [] := HT.take 0
      exact ⟨rfl, HT⟩
    have h := (if_neg hb25).symm.trans h
    refine wp_if (b' := false) HF rfl (Bool.eq_false_iff.2 hb25) ?_
    refine wp_seq ?_
    refine wc_text ?_
    refine wc_bin HF nS rfl rfl b_eq rfl rfl (fun a HF => ?_)
    refine wc_assign HF nS rfl rfl rfl (fun a HF => ?_)
    refine wc_end ?_
    refine then_n ?_
    by_cases hb28 : x0_0 = 12
    · have h := (if_pos hb28).symm.trans h
      refine wp_if (b' := true) HF rfl (decide_eq_true hb28) ?_
      refine wp_seq ?_
      refine wc_text ?_
      refine wc_faddr HF nS rfl fl45_1 rfl rfl (fun a HF => ?_)
      refine wc_load HF rfl sc3 ((HT.boxAt 0 rfl).get 1 rfl) rfl rfl (fun a HF => ?_)
      obtain ⟨y13, hx17, h⟩ := obs h
      refine wc_call HF cf47 rfl (w_spec_l1In fuel hx17) rfl rfl ?_
      rintro e w ⟨rfl, hE⟩
      have hb := hE.below
      have HT := HT.pure hE
      have HT : St w0 (fun _ => False) w [Box p1 [.int .i64 x0_0, .int .i64 x0_1, .int .i64 x0_2, .int .i64 x0_3]] := HT
      refine ⟨_, rfl, nS, fun a HF => ?_⟩
      refine wc_move HF nS rfl rfl rfl (fun a HF => ?_)
      by_cases hb29 : y13 = true
      · have h := (if_pos hb29).symm.trans h
        refine wc_faddr HF nS rfl fl45_2 (HF.wy rfl rfl rfl rfl hb29) rfl (fun a HF => ?_)
        refine wc_load HF rfl sc3 ((HT.boxAt 0 rfl).get 2 rfl) (HF.wy rfl rfl rfl rfl hb29) rfl (fun a HF => ?_)
        obtain ⟨y14, hx18, h⟩ := obs h
        refine wc_call HF cf54 rfl (w_spec_l4Reg fuel hx18) (HF.wy rfl rfl rfl rfl hb29) rfl ?_
        rintro e w ⟨rfl, hE⟩
        have hb := hE.below
        have HT := HT.pure hE
        have HT : St w0 (fun _ => False) w [Box p1 [.int .i64 x0_0, .int .i64 x0_1, .int .i64 x0_2, .int .i64 x0_3]] := HT
        refine ⟨_, rfl, nS, fun a HF => ?_⟩
        refine wc_pick (b := true) HF nS rfl hb29 rfl rfl rfl (fun a HF => ?_)
        refine wc_move HF nS rfl rfl rfl (fun a HF => ?_)
        by_cases hb30 : y14 = true
        · have h := (if_pos hb30).symm.trans h
          refine wc_faddr HF nS rfl fl45_3 (HF.wy rfl rfl rfl rfl hb30) rfl (fun a HF => ?_)
          refine wc_load HF rfl sc3 ((HT.boxAt 0 rfl).get 3 rfl) (HF.wy rfl rfl rfl rfl hb30) rfl (fun a HF => ?_)
          obtain ⟨y15, hx19, h⟩ := obs h
          refine wc_call HF cf54 rfl (w_spec_l4Reg fuel hx19) (HF.wy rfl rfl rfl rfl hb30) rfl ?_
          rintro e w ⟨rfl, hE⟩
          have hb := hE.below
          have HT := HT.pure hE
          have HT : St w0 (fun _ => False) w [Box p1 [.int .i64 x0_0, .int .i64 x0_1, .int .i64 x0_2, .int .i64 x0_3]] := HT
          refine ⟨_, rfl, nS, fun a HF => ?_⟩
          refine wc_pick (b := true) HF nS rfl hb30 rfl rfl rfl (fun a HF => ?_)
          refine wc_assign HF nS rfl rfl rfl (fun a HF => ?_)
          refine wc_end ?_
          refine then_n ?_
          refine wp_ret ?_
          obtain rfl := Option.some.inj h
          have h := retL hk1
          obtain rfl := Option.some.inj h
          refine blk_r (then_r (?_))
          refine bp_ret HF (res_one rfl HF rfl) ?_
          have HT : St w0 (fun _ => False) w [] := HT.take 0
          exact ⟨rfl, HT⟩
        have h := (if_neg hb30).symm.trans h
        refine wc_skip HF nS (HF.wn rfl rfl rfl rfl (Bool.eq_false_iff.2 hb30)) rfl (fun a HF => ?_)
        refine wc_skip HF nS (HF.wn rfl rfl rfl rfl (Bool.eq_false_iff.2 hb30)) rfl (fun a HF => ?_)
        refine wc_skip HF nS (HF.wn rfl rfl rfl rfl (Bool.eq_false_iff.2 hb30)) rfl (fun a HF => ?_)
        refine wc_pick (b := false) HF nS rfl (Bool.eq_false_iff.2 hb30) rfl rfl rfl (fun a HF => ?_)
        refine wc_assign HF nS rfl rfl rfl (fun a HF => ?_)
        refine wc_end ?_
        refine then_n ?_
        refine wp_ret ?_
        obtain rfl := Option.some.inj h
        have h := retL hk1
        obtain rfl := Option.some.inj h
        refine blk_r (then_r (?_))
        refine bp_ret HF (res_one rfl HF rfl) ?_
        have HT : St w0 (fun _ => False) w [] := HT.take 0
        exact ⟨rfl, HT⟩
      have h := (if_neg hb29).symm.trans h
      refine wc_skip HF nS (HF.wn rfl rfl rfl rfl (Bool.eq_false_iff.2 hb29)) rfl (fun a HF => ?_)
      refine wc_skip HF nS (HF.wn rfl rfl rfl rfl (Bool.eq_false_iff.2 hb29)) rfl (fun a HF => ?_)
      refine wc_skip HF nS (HF.wn rfl rfl rfl rfl (Bool.eq_false_iff.2 hb29)) rfl (fun a HF => ?_)
      refine wc_pick (b := false) HF nS rfl (Bool.eq_false_iff.2 hb29) rfl rfl rfl (fun a HF => ?_)
      refine wc_move HF nS rfl rfl rfl (fun a HF => ?_)
      refine wc_skip HF nS (HF.wn rfl rfl rfl rfl rfl) rfl (fun a HF => ?_)
      refine wc_skip HF nS (HF.wn rfl rfl rfl rfl rfl) rfl (fun a HF => ?_)
      refine wc_skip HF nS (HF.wn rfl rfl rfl rfl rfl) rfl (fun a HF => ?_)
      refine wc_pick (b := false) HF nS rfl rfl rfl rfl rfl (fun a HF => ?_)
      refine wc_assign HF nS rfl rfl rfl (fun a HF => ?_)
      refine wc_end ?_
      refine then_n ?_
      refine wp_ret ?_
      obtain rfl := Option.some.inj h
      have h := retL hk1
      obtain rfl := Option.some.inj h
      refine blk_r (then_r (?_))
      refine bp_ret HF (res_one rfl HF rfl) ?_
      have HT : St w0 (fun _ => False) w [] := HT.take 0
      exact ⟨rfl, HT⟩
    have h := (if_neg hb28).symm.trans h
    refine wp_if (b' := false) HF rfl (decide_eq_false hb28) ?_
    refine wp_seq ?_
    refine wc_text ?_
    refine wc_bin HF nS rfl rfl b_eq rfl rfl (fun a HF => ?_)
    refine wc_assign HF nS rfl rfl rfl (fun a HF => ?_)
    refine wc_end ?_
    refine then_n ?_
    by_cases hb31 : x0_0 = 13
    · have h := (if_pos hb31).symm.trans h
      refine wp_if (b' := true) HF rfl (decide_eq_true hb31) ?_
      refine wp_seq ?_
      refine wc_text ?_
      refine wc_faddr HF nS rfl fl45_1 rfl rfl (fun a HF => ?_)
      refine wc_load HF rfl sc3 ((HT.boxAt 0 rfl).get 1 rfl) rfl rfl (fun a HF => ?_)
      obtain ⟨y16, hx20, h⟩ := obs h
      refine wc_call HF cf54 rfl (w_spec_l4Reg fuel hx20) rfl rfl ?_
      rintro e w ⟨rfl, hE⟩
      have hb := hE.below
      have HT := HT.pure hE
      have HT : St w0 (fun _ => False) w [Box p1 [.int .i64 x0_0, .int .i64 x0_1, .int .i64 x0_2, .int .i64 x0_3]] := HT
      refine ⟨_, rfl, nS, fun a HF => ?_⟩
      refine wc_move HF nS rfl rfl rfl (fun a HF => ?_)
      by_cases hb32 : y16 = true
      · have h := (if_pos hb32).symm.trans h
        refine wc_faddr HF nS rfl fl45_2 (HF.wy rfl rfl rfl rfl hb32) rfl (fun a HF => ?_)
        refine wc_load HF rfl sc3 ((HT.boxAt 0 rfl).get 2 rfl) (HF.wy rfl rfl rfl rfl hb32) rfl (fun a HF => ?_)
        obtain ⟨y17, hx21, h⟩ := obs h
        refine wc_call HF cf47 rfl (w_spec_l1In fuel hx21) (HF.wy rfl rfl rfl rfl hb32) rfl ?_
        rintro e w ⟨rfl, hE⟩
        have hb := hE.below
        have HT := HT.pure hE
        have HT : St w0 (fun _ => False) w [Box p1 [.int .i64 x0_0, .int .i64 x0_1, .int .i64 x0_2, .int .i64 x0_3]] := HT
        refine ⟨_, rfl, nS, fun a HF => ?_⟩
        refine wc_pick (b := true) HF nS rfl hb32 rfl rfl rfl (fun a HF => ?_)
        refine wc_move HF nS rfl rfl rfl (fun a HF => ?_)
        by_cases hb33 : y17 = true
        · have h := (if_pos hb33).symm.trans h
          refine wc_faddr HF nS rfl fl45_3 (HF.wy rfl rfl rfl rfl hb33) rfl (fun a HF => ?_)
          refine wc_load HF rfl sc3 ((HT.boxAt 0 rfl).get 3 rfl) (HF.wy rfl rfl rfl rfl hb33) rfl (fun a HF => ?_)
          refine wc_bin HF nS rfl rfl b_eq (HF.wy rfl rfl rfl rfl hb33) rfl (fun a HF => ?_)
          refine wc_pick (b := true) HF nS rfl hb33 rfl rfl rfl (fun a HF => ?_)
          refine wc_assign HF nS rfl rfl rfl (fun a HF => ?_)
          refine wc_end ?_
          refine then_n ?_
          refine wp_ret ?_
          obtain rfl := Option.some.inj h
          have h := retL hk1
          obtain rfl := Option.some.inj h
          refine blk_r (then_r (?_))
          refine bp_ret HF (res_one rfl HF rfl) ?_
          have HT : St w0 (fun _ => False) w [] := HT.take 0
          exact ⟨rfl, HT⟩
        have h := (if_neg hb33).symm.trans h
        refine wc_skip HF nS (HF.wn rfl rfl rfl rfl (Bool.eq_false_iff.2 hb33)) rfl (fun a HF => ?_)
        refine wc_skip HF nS (HF.wn rfl rfl rfl rfl (Bool.eq_false_iff.2 hb33)) rfl (fun a HF => ?_)
        refine wc_skip HF nS (HF.wn rfl rfl rfl rfl (Bool.eq_false_iff.2 hb33)) rfl (fun a HF => ?_)
        refine wc_pick (b := false) HF nS rfl (Bool.eq_false_iff.2 hb33) rfl rfl rfl (fun a HF => ?_)
        refine wc_assign HF nS rfl rfl rfl (fun a HF => ?_)
        refine wc_end ?_
        refine then_n ?_
        refine wp_ret ?_
        obtain rfl := Option.some.inj h
        have h := retL hk1
        obtain rfl := Option.some.inj h
        refine blk_r (then_r (?_))
        refine bp_ret HF (res_one rfl HF rfl) ?_
        have HT : St w0 (fun _ => False) w [] := HT.take 0
        exact ⟨rfl, HT⟩
      have h := (if_neg hb32).symm.trans h
      refine wc_skip HF nS (HF.wn rfl rfl rfl rfl (Bool.eq_false_iff.2 hb32)) rfl (fun a HF => ?_)
      refine wc_skip HF nS (HF.wn rfl rfl rfl rfl (Bool.eq_false_iff.2 hb32)) rfl (fun a HF => ?_)
      refine wc_skip HF nS (HF.wn rfl rfl rfl rfl (Bool.eq_false_iff.2 hb32)) rfl (fun a HF => ?_)
      refine wc_pick (b := false) HF nS rfl (Bool.eq_false_iff.2 hb32) rfl rfl rfl (fun a HF => ?_)
      refine wc_move HF nS rfl rfl rfl (fun a HF => ?_)
      refine wc_skip HF nS (HF.wn rfl rfl rfl rfl rfl) rfl (fun a HF => ?_)
      refine wc_skip HF nS (HF.wn rfl rfl rfl rfl rfl) rfl (fun a HF => ?_)
      refine wc_skip HF nS (HF.wn rfl rfl rfl rfl rfl) rfl (fun a HF => ?_)
      refine wc_pick (b := false) HF nS rfl rfl rfl rfl rfl (fun a HF => ?_)
      refine wc_assign HF nS rfl rfl rfl (fun a HF => ?_)
      refine wc_end ?_
      refine then_n ?_
      refine wp_ret ?_
      obtain rfl := Option.some.inj h
      have h := retL hk1
      obtain rfl := Option.some.inj h
      refine blk_r (then_r (?_))
      refine bp_ret HF (res_one rfl HF rfl) ?_
      have HT : St w0 (fun _ => False) w [] := HT.take 0
      exact ⟨rfl, HT⟩
    have h := (if_neg hb31).symm.trans h
    refine wp_if (b' := false) HF rfl (decide_eq_false hb31) ?_
    refine wp_seq ?_
    refine wc_text ?_
    refine wc_bin HF nS rfl rfl b_eq rfl rfl (fun a HF => ?_)
    refine wc_assign HF nS rfl rfl rfl (fun a HF => ?_)
    refine wc_end ?_
    refine then_n ?_
    by_cases hb34 : x0_0 = 14
    · have h := (if_pos hb34).symm.trans h
      refine wp_if (b' := true) HF rfl (decide_eq_true hb34) ?_
      refine wp_seq ?_
      refine wc_text ?_
      refine wc_faddr HF nS rfl fl45_1 rfl rfl (fun a HF => ?_)
      refine wc_load HF rfl sc3 ((HT.boxAt 0 rfl).get 1 rfl) rfl rfl (fun a HF => ?_)
      obtain ⟨y18, hx22, h⟩ := obs h
      refine wc_call HF cf47 rfl (w_spec_l1In fuel hx22) rfl rfl ?_
      rintro e w ⟨rfl, hE⟩
      have hb := hE.below
      have HT := HT.pure hE
      have HT : St w0 (fun _ => False) w [Box p1 [.int .i64 x0_0, .int .i64 x0_1, .int .i64 x0_2, .int .i64 x0_3]] := HT
      refine ⟨_, rfl, nS, fun a HF => ?_⟩
      refine wc_move HF nS rfl rfl rfl (fun a HF => ?_)
      by_cases hb35 : y18 = true
      · have h := (if_pos hb35).symm.trans h
        refine wc_faddr HF nS rfl fl45_2 (HF.wy rfl rfl rfl rfl hb35) rfl (fun a HF => ?_)
        refine wc_load HF rfl sc3 ((HT.boxAt 0 rfl).get 2 rfl) (HF.wy rfl rfl rfl rfl hb35) rfl (fun a HF => ?_)
        obtain ⟨y19, hx23, h⟩ := obs h
        refine wc_call HF cf54 rfl (w_spec_l4Reg fuel hx23) (HF.wy rfl rfl rfl rfl hb35) rfl ?_
        rintro e w ⟨rfl, hE⟩
        have hb := hE.below
        have HT := HT.pure hE
        have HT : St w0 (fun _ => False) w [Box p1 [.int .i64 x0_0, .int .i64 x0_1, .int .i64 x0_2, .int .i64 x0_3]] := HT
        refine ⟨_, rfl, nS, fun a HF => ?_⟩
        refine wc_pick (b := true) HF nS rfl hb35 rfl rfl rfl (fun a HF => ?_)
        refine wc_move HF nS rfl rfl rfl (fun a HF => ?_)
        by_cases hb36 : y19 = true
        · have h := (if_pos hb36).symm.trans h
          refine wc_faddr HF nS rfl fl45_3 (HF.wy rfl rfl rfl rfl hb36) rfl (fun a HF => ?_)
          refine wc_load HF rfl sc3 ((HT.boxAt 0 rfl).get 3 rfl) (HF.wy rfl rfl rfl rfl hb36) rfl (fun a HF => ?_)
          refine wc_bin HF nS rfl rfl b_eq (HF.wy rfl rfl rfl rfl hb36) rfl (fun a HF => ?_)
          refine wc_pick (b := true) HF nS rfl hb36 rfl rfl rfl (fun a HF => ?_)
          refine wc_assign HF nS rfl rfl rfl (fun a HF => ?_)
          refine wc_end ?_
          refine then_n ?_
          refine wp_ret ?_
          obtain rfl := Option.some.inj h
          have h := retL hk1
          obtain rfl := Option.some.inj h
          refine blk_r (then_r (?_))
          refine bp_ret HF (res_one rfl HF rfl) ?_
          have HT : St w0 (fun _ => False) w [] := HT.take 0
          exact ⟨rfl, HT⟩
        have h := (if_neg hb36).symm.trans h
        refine wc_skip HF nS (HF.wn rfl rfl rfl rfl (Bool.eq_false_iff.2 hb36)) rfl (fun a HF => ?_)
        refine wc_skip HF nS (HF.wn rfl rfl rfl rfl (Bool.eq_false_iff.2 hb36)) rfl (fun a HF => ?_)
        refine wc_skip HF nS (HF.wn rfl rfl rfl rfl (Bool.eq_false_iff.2 hb36)) rfl (fun a HF => ?_)
        refine wc_pick (b := false) HF nS rfl (Bool.eq_false_iff.2 hb36) rfl rfl rfl (fun a HF => ?_)
        refine wc_assign HF nS rfl rfl rfl (fun a HF => ?_)
        refine wc_end ?_
        refine then_n ?_
        refine wp_ret ?_
        obtain rfl := Option.some.inj h
        have h := retL hk1
        obtain rfl := Option.some.inj h
        refine blk_r (then_r (?_))
        refine bp_ret HF (res_one rfl HF rfl) ?_
        have HT : St w0 (fun _ => False) w [] := HT.take 0
        exact ⟨rfl, HT⟩
      have h := (if_neg hb35).symm.trans h
      refine wc_skip HF nS (HF.wn rfl rfl rfl rfl (Bool.eq_false_iff.2 hb35)) rfl (fun a HF => ?_)
      refine wc_skip HF nS (HF.wn rfl rfl rfl rfl (Bool.eq_false_iff.2 hb35)) rfl (fun a HF => ?_)
      refine wc_skip HF nS (HF.wn rfl rfl rfl rfl (Bool.eq_false_iff.2 hb35)) rfl (fun a HF => ?_)
      refine wc_pick (b := false) HF nS rfl (Bool.eq_false_iff.2 hb35) rfl rfl rfl (fun a HF => ?_)
      refine wc_move HF nS rfl rfl rfl (fun a HF => ?_)
      refine wc_skip HF nS (HF.wn rfl rfl rfl rfl rfl) rfl (fun a HF => ?_)
      refine wc_skip HF nS (HF.wn rfl rfl rfl rfl rfl) rfl (fun a HF => ?_)
      refine wc_skip HF nS (HF.wn rfl rfl rfl rfl rfl) rfl (fun a HF => ?_)
      refine wc_pick (b := false) HF nS rfl rfl rfl rfl rfl (fun a HF => ?_)
      refine wc_assign HF nS rfl rfl rfl (fun a HF => ?_)
      refine wc_end ?_
      refine then_n ?_
      refine wp_ret ?_
      obtain rfl := Option.some.inj h
      have h := retL hk1
      obtain rfl := Option.some.inj h
      refine blk_r (then_r (?_))
      refine bp_ret HF (res_one rfl HF rfl) ?_
      have HT : St w0 (fun _ => False) w [] := HT.take 0
      exact ⟨rfl, HT⟩
    have h := (if_neg hb34).symm.trans h
    refine wp_if (b' := false) HF rfl (decide_eq_false hb34) ?_
    refine wp_skip ?_
    refine blk_n ?_
    have HT : St w0 (fun _ => False) w [] := HT.take 0
    exact then_n ⟨(Option.some.inj h).symm, HF.nil, HT⟩
  rintro a w ⟨rfl, HF, HT⟩
  have h := brkL1u h
  refine ?_
  refine wp_seq ?_
  refine wc_text ?_
  refine wc_assign HF nS rfl rfl rfl (fun a HF => ?_)
  refine wc_end ?_
  refine then_n ?_
  refine wp_ret ?_
  obtain rfl := Option.some.inj h
  refine bp_ret HF (res_one rfl HF rfl) ?_
  exact ⟨rfl, HT⟩

def m_spec_l5Skip_L0 (fuel : Nat) (x0 : List I4) (x1 : Int) (e1 : I4) : Nat → Int → Int → Option (Lp Int Bool)
  | 0, _, _ => none
  | k1 + 1, z2, z3 =>
    if z3 < ((x1 + 1) + e1.c) then
      (
        (
          (at? x0 z3).bind fun e2 =>
          if e2.a = 8 then
            if in64 (z2 + 1) then
              some (z2 + 1)
            else none
          else
          some z2).bind fun z5 =>
        (
          (at? x0 z3).bind fun e3 =>
          if e3.a = 9 then
            if in64 (z5 - 1) then
              some (z5 - 1)
            else none
          else
          some z5).bind fun z6 =>
        if z6 < 0 then
          some (.ret false)
        else
        some (.brk z6)).bind <| contM <| un1 fun z4 =>
      if in64 (z3 + 1) then
        m_spec_l5Skip_L0 fuel x0 x1 e1 k1 z4 (z3 + 1)
      else none
    else
    some (.brk z2)

def m_spec_l5Skip (fuel : Nat) (x0 : List I4) (x1 : Int) : Option Bool :=
  if in64 (x1 + 1) then
    (at? x0 x1).bind fun e1 =>
    if in64 ((x1 + 1) + e1.c) then
      if (x0.length : Int) < ((x1 + 1) + e1.c) then
        some false
      else
      (
        if in64 (x1 + 1) then
          m_spec_l5Skip_L0 fuel x0 x1 e1 fuel 0 (x1 + 1)
        else none).bind <| contL <| un1 fun z1 =>
      some (decide (z1 = 0))
    else none
  else none

set_option maxRecDepth 100000 in
set_option maxHeartbeats 4000000 in
theorem w_spec_l5Skip (fuel : Nat) {x0 : List I4} {x1 : Int} {a_x0 : Option Addr} {n_x0 c_x0 : Nat} {r0 : Bool} {w0 : World} (h : m_spec_l5Skip fuel x0 x1 = some r0) (hr_x0 : RdT (fun b => ¬ False) w0 (rowT x0) (.slice a_x0 n_x0 c_x0)) :
    Calls Try.prog 37 #[.slice a_x0 n_x0 c_x0, .int .i64 x1] w0 fun e w => e = .returned (.bool r0) ∧ St w0 (fun _ => False) w [] := by
  obtain rfl := hr_x0.neq
  have HT : St w0 (fun _ => False) w0 [] := St.init0
  rw [m_spec_l5Skip] at h
  refine calls_fr (n := 47) [.slice a_x0 x0.length c_x0, .int .i64 x1] Try.func37 rfl rfl rfl (fun a HF => ?_)
  have HT : St w0 (fun _ => False) w0 [] := HT
  refine wp_seq ?_
  refine wc_text ?_
  refine wc_assign HF nS rfl rfl rfl (fun a HF => ?_)
  refine wc_end ?_
  refine then_n ?_
  refine wp_seq ?_
  refine wc_text ?_
  refine wc_move HF nS rfl rfl rfl (fun a HF => ?_)
  obtain ⟨hg1, h⟩ := grd h
  refine wc_bin HF nS rfl rfl (b_add hg1) rfl rfl (fun a HF => ?_)
  refine wc_move HF nS rfl rfl rfl (fun a HF => ?_)
  refine wc_move HF nS rfl rfl rfl (fun a HF => ?_)
  obtain ⟨e1, hx1, h⟩ := obs h
  obtain ⟨b1, o1, ha1⟩ := (HT.ro hr_x0).any.addr hx1
  refine wc_ixaddr HF nS el36 rfl ha1 ((HT.ro hr_x0).any).neq rfl hx1 rfl rfl (fun a HF => ?_)
  refine wc_faddr HF nS rfl fl45_2 rfl rfl (fun a HF => ?_)
  have hc1 := (HT.ro hr_x0).any.flatAt ha1 hx1
  refine wc_load HF rfl sc3 (hc1.get 2 rfl) rfl rfl (fun a HF => ?_)
  obtain ⟨hg2, h⟩ := grd h
  refine wc_bin HF nS rfl rfl (b_add hg2) rfl rfl (fun a HF => ?_)
  refine wc_assign HF nS rfl rfl rfl (fun a HF => ?_)
  refine wc_end ?_
  refine then_n ?_
  refine wp_seq ?_
  refine wp_seq ?_
  refine wc_text ?_
  refine wc_move HF nS rfl rfl rfl (fun a HF => ?_)
  refine wc_move HF nS rfl rfl rfl (fun a HF => ?_)
  refine wc_lenR HF nS Try.underlying36 rfl rfl rfl (fun a HF => ?_)
  refine wc_bin HF nS rfl rfl b_gt rfl rfl (fun a HF => ?_)
  refine wc_end ?_
  refine then_n ?_
  by_cases hb1 : (x0.length : Int) < ((x1 + 1) + e1.c)
  · have h := (if_pos hb1).symm.trans h
    refine wp_if (b' := true) HF rfl (decide_eq_true hb1) ?_
    refine wp_seq ?_
    refine wc_text ?_
    refine wc_assign HF nS rfl rfl rfl (fun a HF => ?_)
    refine wc_end ?_
    refine then_n ?_
    refine wp_ret ?_
    obtain rfl := Option.some.inj h
    refine then_r (?_)
    refine bp_ret HF (res_one rfl HF rfl) ?_
    exact ⟨rfl, HT⟩
  have h := (if_neg hb1).symm.trans h
  refine wp_if (b' := false) HF rfl (decide_eq_false hb1) ?_
  refine wp_skip ?_
  refine then_n ?_
  refine wp_seq ?_
  refine wc_text ?_
  refine wc_assign HF nS rfl rfl rfl (fun a HF => ?_)
  refine wc_end ?_
  refine then_n ?_
  obtain ⟨q1, hx2, h⟩ := obs h
  refine wp_cut (fun a w => ∃ z1, q1 = .brk z1 ∧ Fr a 47 [(6, .int .i64 z1)] ∧ St w0 (fun _ => False) w []) ?_ ?_
  · have hk1 := h
    have h := hx2
    refine wp_seq ?_
    refine wc_text ?_
    refine wc_move HF nS rfl rfl rfl (fun a HF => ?_)
    obtain ⟨hg3, h⟩ := grd h
    refine wc_bin HF nS rfl rfl (b_add hg3) rfl rfl (fun a HF => ?_)
    refine wc_assign HF nS rfl rfl rfl (fun a HF => ?_)
    refine wc_end ?_
    refine then_n ?_
    refine wp_block ?_
    refine wp_loopN (fun k1 a w => ∃ z2 z3, m_spec_l5Skip_L0 fuel x0 x1 e1 k1 z2 z3 = some q1 ∧ Fr a 47 [(0, .slice a_x0 x0.length c_x0), (5, .int .i64 ((x1 + 1) + e1.c)), (6, .int .i64 z2), (7, .int .i64 z3)] ∧ St w0 (fun _ => False) w []) fuel ⟨0, x1 + 1, h, (HF.keep (HF.keep (HF.keep (HF.keep HF.nil rfl) rfl) rfl) rfl), HT⟩ ?_
    rintro k1 a w ⟨z2, z3, h, HF, HT⟩
    cases k1 with
    | zero => cases h
    | succ k1 =>
      rw [m_spec_l5Skip_L0] at h
      refine ?_
      refine wp_seq ?_
      refine wp_seq ?_
      refine wc_text ?_
      refine wc_move HF nS rfl rfl rfl (fun a HF => ?_)
      refine wc_move HF nS rfl rfl rfl (fun a HF => ?_)
      refine wc_bin HF nS rfl rfl b_lt rfl rfl (fun a HF => ?_)
      refine wc_end ?_
      refine then_n ?_
      by_cases hb2 : z3 < ((x1 + 1) + e1.c)
      · have h := (if_pos hb2).symm.trans h
        refine wp_if (b' := true) HF rfl (decide_eq_true hb2) ?_
        refine wp_skip ?_
        refine then_n ?_
        obtain ⟨q2, hx3, h⟩ := obs h
        refine wp_cut (fun a w => ∃ z4, q2 = .brk z4 ∧ Fr a 47 [(0, .slice a_x0 x0.length c_x0), (5, .int .i64 ((x1 + 1) + e1.c)), (6, .int .i64 z4), (7, .int .i64 z3)] ∧ St w0 (fun _ => False) w []) ?_ ?_
        · have hk2 := h
          have h := hx3
          refine wp_block ?_
          obtain ⟨z5, hx4, h⟩ := obs h
          refine wp_cut (fun a w => Fr a 47 [(0, .slice a_x0 x0.length c_x0), (5, .int .i64 ((x1 + 1) + e1.c)), (6, .int .i64 z5), (7, .int .i64 z3)] ∧ St w0 (fun _ => False) w []) ?_ ?_
          · have hk3 := h
            have h := hx4
            refine wp_seq ?_
            refine wc_text ?_
            refine wc_move HF nS rfl rfl rfl (fun a HF => ?_)
            refine wc_move HF nS rfl rfl rfl (fun a HF => ?_)
            obtain ⟨e2, hx5, h⟩ := obs h
            refine wc_ixaddr HF nS el36 rfl ha1 ((HT.ro hr_x0).any).neq rfl hx5 rfl rfl (fun a HF => ?_)
            refine wc_faddr HF nS rfl fl45_0 rfl rfl (fun a HF => ?_)
            have hc2 := (HT.ro hr_x0).any.flatAt ha1 hx5
            refine wc_load HF rfl sc3 (hc2.get 0 rfl) rfl rfl (fun a HF => ?_)
            refine wc_bin HF nS rfl rfl b_eq rfl rfl (fun a HF => ?_)
            refine wc_end ?_
            refine then_n ?_
            by_cases hb3 : e2.a = 8
            · have h := (if_pos hb3).symm.trans h
              refine wp_if (b' := true) HF rfl (decide_eq_true hb3) ?_
              refine wc_text ?_
              refine wc_move HF nS rfl rfl rfl (fun a HF => ?_)
              obtain ⟨hg4, h⟩ := grd h
              refine wc_bin HF nS rfl rfl (b_add hg4) rfl rfl (fun a HF => ?_)
              refine wc_assign HF nS rfl rfl rfl (fun a HF => ?_)
              refine wc_end ?_
              obtain rfl := Option.some.inj h
              exact then_n ⟨(HF.keep (HF.keep (HF.keep (HF.keep HF.nil rfl) rfl) rfl) rfl), HT⟩
            have h := (if_neg hb3).symm.trans h
            refine wp_if (b' := false) HF rfl (decide_eq_false hb3) ?_
            refine wp_skip ?_
            obtain rfl := Option.some.inj h
            exact then_n ⟨(HF.keep (HF.keep (HF.keep (HF.keep HF.nil rfl) rfl) rfl) rfl), HT⟩
          rintro a w ⟨HF, HT⟩
          refine ?_
          obtain ⟨z6, hx6, h⟩ := obs h
          refine wp_cut (fun a w => Fr a 47 [(0, .slice a_x0 x0.length c_x0), (5, .int .i64 ((x1 + 1) + e1.c)), (6, .int .i64 z6), (7, .int .i64 z3)] ∧ St w0 (fun _ => False) w []) ?_ ?_
          · have hk3 := h
            have h := hx6
            refine wp_seq ?_
            refine wc_text ?_
            refine wc_move HF nS rfl rfl rfl (fun a HF => ?_)
            refine wc_move HF nS rfl rfl rfl (fun a HF => ?_)
            obtain ⟨e3, hx7, h⟩ := obs h
            refine wc_ixaddr HF nS el36 rfl ha1 ((HT.ro hr_x0).any).neq rfl hx7 rfl rfl (fun a HF => ?_)
            refine wc_faddr HF nS rfl fl45_0 rfl rfl (fun a HF => ?_)
            have hc3 := (HT.ro hr_x0).any.flatAt ha1 hx7
            refine wc_load HF rfl sc3 (hc3.get 0 rfl) rfl rfl (fun a HF => ?_)
            refine wc_bin HF nS rfl rfl b_eq rfl rfl (fun a HF => ?_)
            refine wc_end ?_
            refine then_n ?_
            by_cases hb4 : e3.a = 9
            · have h := (if_pos hb4).symm.trans h
              refine wp_if (b' := true) HF rfl (decide_eq_true hb4) ?_
              refine wc_text ?_
              refine wc_move HF nS rfl rfl rfl (fun a HF => ?_)
              obtain ⟨hg5, h⟩ := grd h
              refine wc_bin HF nS rfl rfl (b_sub hg5) rfl rfl (fun a HF => ?_)
              refine wc_assign HF nS rfl rfl rfl (fun a HF => ?_)
              refine wc_end ?_
              obtain rfl := Option.some.inj h
              exact then_n ⟨(HF.keep (HF.keep (HF.keep (HF.keep HF.nil rfl) rfl) rfl) rfl), HT⟩
            have h := (if_neg hb4).symm.trans h
            refine wp_if (b' := false) HF rfl (decide_eq_false hb4) ?_
            refine wp_skip ?_
            obtain rfl := Option.some.inj h
            exact then_n ⟨(HF.keep (HF.keep (HF.keep (HF.keep HF.nil rfl) rfl) rfl) rfl), HT⟩
          rintro a w ⟨HF, HT⟩
          refine ?_
          refine wp_seq ?_
          refine wc_text ?_
          refine wc_move HF nS rfl rfl rfl (fun a HF => ?_)
          refine wc_bin HF nS rfl rfl b_lt rfl rfl (fun a HF => ?_)
          refine wc_end ?_
          refine then_n ?_
          by_cases hb5 : z6 < 0
          · have h := (if_pos hb5).symm.trans h
            refine wp_if (b' := true) HF rfl (decide_eq_true hb5) ?_
            refine wp_seq ?_
            refine wc_text ?_
            refine wc_assign HF nS rfl rfl rfl (fun a HF => ?_)
            refine wc_end ?_
            refine then_n ?_
            refine wp_ret ?_
            obtain rfl := Option.some.inj h
            have h := retM hk2
            obtain rfl := Option.some.inj h
            have h := retL hk1
            obtain rfl := Option.some.inj h
            refine blk_r (then_r (then_r (blk_r (then_r (?_)))))
            refine bp_ret HF (res_one rfl HF rfl) ?_
            exact ⟨rfl, HT⟩
          have h := (if_neg hb5).symm.trans h
          refine wp_if (b' := false) HF rfl (decide_eq_false hb5) ?_
          refine wp_skip ?_
          refine blk_n ?_
          exact then_n ⟨z6, (Option.some.inj h).symm, (HF.keep (HF.keep (HF.keep (HF.keep HF.nil rfl) rfl) rfl) rfl), HT⟩
        rintro a w ⟨z4, rfl, HF, HT⟩
        have h := brkM1u h
        refine ?_
        refine wc_text ?_
        refine wc_move HF nS rfl rfl rfl (fun a HF => ?_)
        obtain ⟨hg6, h⟩ := grd h
        refine wc_bin HF nS rfl rfl (b_add hg6) rfl rfl (fun a HF => ?_)
        refine wc_assign HF nS rfl rfl rfl (fun a HF => ?_)
        refine wc_end ?_
        exact then_n ⟨k1, Nat.lt_succ_self k1, z4, z3 + 1, h, (HF.keep (HF.keep (HF.keep (HF.keep HF.nil rfl) rfl) rfl) rfl), HT⟩
      have h := (if_neg hb2).symm.trans h
      refine wp_if (b' := false) HF rfl (decide_eq_false hb2) ?_
      refine wp_exit ?_
      refine then_x (then_x (?_))
      refine blk_x ?_
      exact then_n ⟨z2, (Option.some.inj h).symm, (HF.keep HF.nil rfl), HT⟩
  rintro a w ⟨z1, rfl, HF, HT⟩
  have h := brkL1u h
  refine ?_
  refine wp_seq ?_
  refine wc_text ?_
  refine wc_move HF nS rfl rfl rfl (fun a HF => ?_)
  refine wc_bin HF nS rfl rfl b_eq rfl rfl (fun a HF => ?_)
  refine wc_assign HF nS rfl rfl rfl (fun a HF => ?_)
  refine wc_end ?_
  refine then_n ?_
  refine wp_ret ?_
  obtain rfl := Option.some.inj h
  refine bp_ret HF (res_one rfl HF rfl) ?_
  exact ⟨rfl, HT⟩

def m_spec_CodeOk_L0 (fuel : Nat) (x0 : List I4) : Nat → Int → Int → Int → Option (Lp Int Bool)
  | 0, _, _, _ => none
  | k1 + 1, z2, z3, z4 =>
    if z4 < (x0.length : Int) then
      (
        (at? x0 z4).bind fun e1 =>
        (m_spec_OpOk fuel e1.a e1.b e1.c e1.d).bind fun y1 =>
        if y1 = true then
          (
            if e1.a = 8 then
              if in64 (z2 + 1) then
                some (.brk (z2 + 1, z3))
              else none
            else
            if e1.a = 9 then
              if in64 (z2 - 1) then
                some (.brk (z2 - 1, z3))
              else none
            else
            if e1.a = 7 then
              (m_spec_l5Skip fuel x0 z4).bind fun y2 =>
              if y2 = true then
                some (.brk (z2, z3))
              else
              some (.ret false)
            else
            if e1.a = 11 then
              if in64 (z3 + 1) then
                if 0 < z2 then
                  some (.ret false)
                else
                if 1 < (z3 + 1) then
                  some (.ret false)
                else
                some (.brk (z2, z3 + 1))
              else none
            else
            some (.brk (z2, z3))).bind <| contM <| un2 fun z7 z8 =>
          if z7 < 0 then
            some (.ret false)
          else
          some (.brk (z7, z8))
        else
        some (.ret false)).bind <| contM <| un2 fun z5 z6 =>
      if in64 (z4 + 1) then
        m_spec_CodeOk_L0 fuel x0 k1 z5 z6 (z4 + 1)
      else none
    else
    some (.brk z2)

def m_spec_CodeOk (fuel : Nat) (x0 : List I4) : Option Bool :=
  if 24 < (x0.length : Int) then
    some false
  else
  (m_spec_CodeOk_L0 fuel x0 fuel 0 0 0).bind <| contL <| un1 fun z1 =>
  some (decide (z1 = 0))

set_option maxRecDepth 100000 in
set_option maxHeartbeats 4000000 in
theorem w_spec_CodeOk (fuel : Nat) {x0 : List I4} {a_x0 : Option Addr} {n_x0 c_x0 : Nat} {r0 : Bool} {w0 : World} (h : m_spec_CodeOk fuel x0 = some r0) (hr_x0 : RdT (fun b => ¬ False) w0 (rowT x0) (.slice a_x0 n_x0 c_x0)) :
    Calls Try.prog 19 #[.slice a_x0 n_x0 c_x0] w0 fun e w => e = .returned (.bool r0) ∧ St w0 (fun _ => False) w [] := by
  obtain rfl := hr_x0.neq
  have HT : St w0 (fun _ => False) w0 [] := St.init0
  rw [m_spec_CodeOk] at h
  refine calls_fr (n := 54) [.slice a_x0 x0.length c_x0] Try.func19 rfl rfl rfl (fun a HF => ?_)
  have HT : St w0 (fun _ => False) w0 [] := HT
  refine wp_seq ?_
  refine wc_text ?_
  refine wc_assign HF nS rfl rfl rfl (fun a HF => ?_)
  refine wc_end ?_
  refine then_n ?_
  refine wp_seq ?_
  refine wp_seq ?_
  refine wc_text ?_
  refine wc_move HF nS rfl rfl rfl (fun a HF => ?_)
  refine wc_lenR HF nS Try.underlying36 rfl rfl rfl (fun a HF => ?_)
  refine wc_bin HF nS rfl rfl b_gt rfl rfl (fun a HF => ?_)
  refine wc_end ?_
  refine then_n ?_
  by_cases hb1 : 24 < (x0.length : Int)
  · have h := (if_pos hb1).symm.trans h
    refine wp_if (b' := true) HF rfl (decide_eq_true hb1) ?_
    refine wp_seq ?_
    refine wc_text ?_
    refine wc_assign HF nS rfl rfl rfl (fun a HF => ?_)
    refine wc_end ?_
    refine then_n ?_
    refine wp_ret ?_
    obtain rfl := Option.some.inj h
    refine then_r (?_)
    refine bp_ret HF (res_one rfl HF rfl) ?_
    exact ⟨rfl, HT⟩
  have h := (if_neg hb1).symm.trans h
  refine wp_if (b' := false) HF rfl (decide_eq_false hb1) ?_
  refine wp_skip ?_
  refine then_n ?_
  refine wp_seq ?_
  refine wc_text ?_
  refine wc_assign HF nS rfl rfl rfl (fun a HF => ?_)
  refine wc_end ?_
  refine then_n ?_
  refine wp_seq ?_
  refine wc_text ?_
  refine wc_assign HF nS rfl rfl rfl (fun a HF => ?_)
  refine wc_end ?_
  refine then_n ?_
  obtain ⟨q1, hx1, h⟩ := obs h
  refine wp_cut (fun a w => ∃ z1, q1 = .brk z1 ∧ Fr a 54 [(3, .int .i64 z1)] ∧ St w0 (fun _ => False) w []) ?_ ?_
  · have hk1 := h
    have h := hx1
    refine wp_seq ?_
    refine wc_text ?_
    refine wc_assign HF nS rfl rfl rfl (fun a HF => ?_)
    refine wc_end ?_
    refine then_n ?_
    refine wp_block ?_
    refine wp_loopN (fun k1 a w => ∃ z2 z3 z4, m_spec_CodeOk_L0 fuel x0 k1 z2 z3 z4 = some q1 ∧ Fr a 54 [(0, .slice a_x0 x0.length c_x0), (3, .int .i64 z2), (4, .int .i64 z3), (5, .int .i64 z4)] ∧ St w0 (fun _ => False) w []) fuel ⟨0, 0, 0, h, (HF.keep (HF.keep (HF.keep (HF.keep HF.nil rfl) rfl) rfl) rfl), HT⟩ ?_
    rintro k1 a w ⟨z2, z3, z4, h, HF, HT⟩
    cases k1 with
    | zero => cases h
    | succ k1 =>
      rw [m_spec_CodeOk_L0] at h
      refine ?_
      refine wp_seq ?_
      refine wp_seq ?_
      refine wc_text ?_
      refine wc_move HF nS rfl rfl rfl (fun a HF => ?_)
      refine wc_move HF nS rfl rfl rfl (fun a HF => ?_)
      refine wc_lenR HF nS Try.underlying36 rfl rfl rfl (fun a HF => ?_)
      refine wc_bin HF nS rfl rfl b_lt rfl rfl (fun a HF => ?_)
      refine wc_end ?_
      refine then_n ?_
      by_cases hb2 : z4 < (x0.length : Int)
      · have h := (if_pos hb2).symm.trans h
        refine wp_if (b' := true) HF rfl (decide_eq_true hb2) ?_
        refine wp_skip ?_
        refine then_n ?_
        obtain ⟨q2, hx2, h⟩ := obs h
        refine wp_cut (fun a w => ∃ z5 z6, q2 = .brk (z5, z6) ∧ Fr a 54 [(0, .slice a_x0 x0.length c_x0), (3, .int .i64 z5), (4, .int .i64 z6), (5, .int .i64 z4)] ∧ St w0 (fun _ => False) w []) ?_ ?_
        · have hk2 := h
          have h := hx2
          refine wp_block ?_
          refine wp_seq ?_
          refine wp_seq ?_
          refine wc_text ?_
          refine wc_move HF nS rfl rfl rfl (fun a HF => ?_)
          refine wc_move HF nS rfl rfl rfl (fun a HF => ?_)
          obtain ⟨e1, hx3, h⟩ := obs h
          obtain ⟨b1, o1, ha1⟩ := (HT.ro hr_x0).any.addr hx3
          refine wc_ixaddr HF nS el36 rfl ha1 ((HT.ro hr_x0).any).neq rfl hx3 rfl rfl (fun a HF => ?_)
          have hc1 := (HT.ro hr_x0).any.flatAt ha1 hx3
          refine wc_loadA (vs := [.int .i64 e1.a, .int .i64 e1.b, .int .i64 e1.c, .int .i64 e1.d]) HF rfl ag45 rfl (hc1.part 0 4) rfl rfl (fun a HF => ?_)
          obtain ⟨y1, hx4, h⟩ := obs h
          refine wc_call HF cf36 rfl (w_spec_OpOk fuel hx4) rfl rfl ?_
          rintro e w ⟨rfl, hE⟩
          have hb := hE.below
          have HT := HT.pure hE
          have HT : St w0 (fun _ => False) w [] := HT
          refine ⟨_, rfl, nS, fun a HF => ?_⟩
          refine wc_not HF nS rfl rfl rfl (fun a HF => ?_)
          refine wc_end ?_
          refine then_n ?_
          by_cases hb3 : y1 = true
          · have h := (if_pos hb3).symm.trans h
            refine wp_if (b' := false) HF rfl (notT hb3) ?_
            refine wp_skip ?_
            refine then_n ?_
            obtain ⟨q3, hx5, h⟩ := obs h
            refine wp_cut (fun a w => ∃ z7 z8, q3 = .brk (z7, z8) ∧ Fr a 54 [(0, .slice a_x0 x0.length c_x0), (3, .int .i64 z7), (4, .int .i64 z8), (5, .int .i64 z4)] ∧ St w0 (fun _ => False) w []) ?_ ?_
            · have hk3 := h
              have h := hx5
              refine wp_seq ?_
              refine wc_text ?_
              refine wc_move HF nS rfl rfl rfl (fun a HF => ?_)
              refine wc_move HF nS rfl rfl rfl (fun a HF => ?_)
              refine wc_ixaddr HF nS el36 rfl ha1 ((HT.ro hr_x0).any).neq rfl hx3 rfl rfl (fun a HF => ?_)
              refine wc_faddr HF nS rfl fl45_0 rfl rfl (fun a HF => ?_)
              have hc2 := (HT.ro hr_x0).any.flatAt ha1 hx3
              refine wc_load HF rfl sc3 (hc2.get 0 rfl) rfl rfl (fun a HF => ?_)
              refine wc_end ?_
              refine then_n ?_
              refine wp_block ?_
              refine wp_seq ?_
              refine wc_text ?_
              refine wc_bin HF nS rfl rfl b_eq rfl rfl (fun a HF => ?_)
              refine wc_assign HF nS rfl rfl rfl (fun a HF => ?_)
              refine wc_end ?_
              refine then_n ?_
              by_cases hb4 : e1.a = 8
              · have h := (if_pos hb4).symm.trans h
                refine wp_if (b' := true) HF rfl (decide_eq_true hb4) ?_
                refine wc_text ?_
                refine wc_move HF nS rfl rfl rfl (fun a HF => ?_)
                obtain ⟨hg1, h⟩ := grd h
                refine wc_bin HF nS rfl rfl (b_add hg1) rfl rfl (fun a HF => ?_)
                refine wc_assign HF nS rfl rfl rfl (fun a HF => ?_)
                refine wc_end ?_
                refine blk_n ?_
                exact then_n ⟨z2 + 1, z3, (Option.some.inj h).symm, (HF.keep (HF.keep (HF.keep (HF.keep HF.nil rfl) rfl) rfl) rfl), HT⟩
              have h := (if_neg hb4).symm.trans h
              refine wp_if (b' := false) HF rfl (decide_eq_false hb4) ?_
              refine wp_seq ?_
              refine wc_text ?_
              refine wc_bin HF nS rfl rfl b_eq rfl rfl (fun a HF => ?_)
              refine wc_assign HF nS rfl rfl rfl (fun a HF => ?_)
              refine wc_end ?_
              refine then_n ?_
              by_cases hb5 : e1.a = 9
              · have h := (if_pos hb5).symm.trans h
                refine wp_if (b' := true) HF rfl (decide_eq_true hb5) ?_
                refine wc_text ?_
                refine wc_move HF nS rfl rfl rfl (fun a HF => ?_)
                obtain ⟨hg2, h⟩ := grd h
                refine wc_bin HF nS rfl rfl (b_sub hg2) rfl rfl (fun a HF => ?_)
                refine wc_assign HF nS rfl rfl rfl (fun a HF => ?_)
                refine wc_end ?_
                refine blk_n ?_
                exact then_n ⟨z2 - 1, z3, (Option.some.inj h).symm, (HF.keep (HF.keep (HF.keep (HF.keep HF.nil rfl) rfl) rfl) rfl), HT⟩
              have h := (if_neg hb5).symm.trans h
              refine wp_if (b' := false) HF rfl (decide_eq_false hb5) ?_
              refine wp_seq ?_
              refine wc_text ?_
              refine wc_bin HF nS rfl rfl b_eq rfl rfl (fun a HF => ?_)
              refine wc_assign HF nS rfl rfl rfl (fun a HF => ?_)
              refine wc_end ?_
              refine then_n ?_
              by_cases hb6 : e1.a = 7
              · have h := (if_pos hb6).symm.trans h
                refine wp_if (b' := true) HF rfl (decide_eq_true hb6) ?_
                refine wp_seq ?_
                refine wc_text ?_
                refine wc_move HF nS rfl rfl rfl (fun a HF => ?_)
                refine wc_move HF nS rfl rfl rfl (fun a HF => ?_)
                obtain ⟨y2, hx6, h⟩ := obs h
                refine wc_call HF cf37 rfl (w_spec_l5Skip fuel hx6 (HT.ro hr_x0).any) rfl rfl ?_
                rintro e w ⟨rfl, hE⟩
                have hb := hE.below
                have HT := HT.pure hE
                have HT : St w0 (fun _ => False) w [] := HT
                refine ⟨_, rfl, nS, fun a HF => ?_⟩
                refine wc_not HF nS rfl rfl rfl (fun a HF => ?_)
                refine wc_end ?_
                refine then_n ?_
                by_cases hb7 : y2 = true
                · have h := (if_pos hb7).symm.trans h
                  refine wp_if (b' := false) HF rfl (notT hb7) ?_
                  refine wp_skip ?_
                  refine blk_n ?_
                  exact then_n ⟨z2, z3, (Option.some.inj h).symm, (HF.keep (HF.keep (HF.keep (HF.keep HF.nil rfl) rfl) rfl) rfl), HT⟩
                have h := (if_neg hb7).symm.trans h
                refine wp_if (b' := true) HF rfl (notF (Bool.eq_false_iff.2 hb7)) ?_
                refine wp_seq ?_
                refine wc_text ?_
                refine wc_assign HF nS rfl rfl rfl (fun a HF => ?_)
                refine wc_end ?_
                refine then_n ?_
                refine wp_ret ?_
                obtain rfl := Option.some.inj h
                have h := retM hk3
                obtain rfl := Option.some.inj h
                have h := retM hk2
                obtain rfl := Option.some.inj h
                have h := retL hk1
                obtain rfl := Option.some.inj h
                refine blk_r (then_r (blk_r (then_r (then_r (blk_r (then_r (?_)))))))
                refine bp_ret HF (res_one rfl HF rfl) ?_
                exact ⟨rfl, HT⟩
              have h := (if_neg hb6).symm.trans h
              refine wp_if (b' := false) HF rfl (decide_eq_false hb6) ?_
              refine wp_seq ?_
              refine wc_text ?_
              refine wc_bin HF nS rfl rfl b_eq rfl rfl (fun a HF => ?_)
              refine wc_assign HF nS rfl rfl rfl (fun a HF => ?_)
              refine wc_end ?_
              refine then_n ?_
              by_cases hb8 : e1.a = 11
              · have h := (if_pos hb8).symm.trans h
                refine wp_if (b' := true) HF rfl (decide_eq_true hb8) ?_
                refine wp_seq ?_
                refine wc_text ?_
                refine wc_move HF nS rfl rfl rfl (fun a HF => ?_)
                obtain ⟨hg3, h⟩ := grd h
                refine wc_bin HF nS rfl rfl (b_add hg3) rfl rfl (fun a HF => ?_)
                refine wc_assign HF nS rfl rfl rfl (fun a HF => ?_)
                refine wc_end ?_
                refine then_n ?_
                refine wp_seq ?_
                refine wc_text ?_
                refine wc_move HF nS rfl rfl rfl (fun a HF => ?_)
                refine wc_bin HF nS rfl rfl b_gt rfl rfl (fun a HF => ?_)
                refine wc_move HF nS rfl rfl rfl (fun a HF => ?_)
                by_cases hb9 : 0 < z2
                · have h := (if_pos hb9).symm.trans h
                  refine wc_skip HF nS (HF.wn rfl rfl rfl rfl (decide_eq_true hb9)) rfl (fun a HF => ?_)
                  refine wc_skip HF nS (HF.wn rfl rfl rfl rfl (decide_eq_true hb9)) rfl (fun a HF => ?_)
                  refine wc_pick (b := true) HF nS rfl (decide_eq_true hb9) rfl rfl rfl (fun a HF => ?_)
                  refine wc_end ?_
                  refine then_n ?_
                  refine wp_if (b' := true) HF rfl rfl ?_
                  refine wp_seq ?_
                  refine wc_text ?_
                  refine wc_assign HF nS rfl rfl rfl (fun a HF => ?_)
                  refine wc_end ?_
                  refine then_n ?_
                  refine wp_ret ?_
                  obtain rfl := Option.some.inj h
                  have h := retM hk3
                  obtain rfl := Option.some.inj h
                  have h := retM hk2
                  obtain rfl := Option.some.inj h
                  have h := retL hk1
                  obtain rfl := Option.some.inj h
                  refine blk_r (then_r (blk_r (then_r (then_r (blk_r (then_r (?_)))))))
                  refine bp_ret HF (res_one rfl HF rfl) ?_
                  exact ⟨rfl, HT⟩
                have h := (if_neg hb9).symm.trans h
                refine wc_move HF nS rfl (HF.wy rfl rfl rfl rfl (decide_eq_false hb9)) rfl (fun a HF => ?_)
                refine wc_bin HF nS rfl rfl b_gt (HF.wy rfl rfl rfl rfl (decide_eq_false hb9)) rfl (fun a HF => ?_)
                refine wc_pick (b := false) HF nS rfl (decide_eq_false hb9) rfl rfl rfl (fun a HF => ?_)
                refine wc_end ?_
                refine then_n ?_
                by_cases hb10 : 1 < (z3 + 1)
                · have h := (if_pos hb10).symm.trans h
                  refine wp_if (b' := true) HF rfl (decide_eq_true hb10) ?_
                  refine wp_seq ?_
                  refine wc_text ?_
                  refine wc_assign HF nS rfl rfl rfl (fun a HF => ?_)
                  refine wc_end ?_
                  refine then_n ?_
                  refine wp_ret ?_
                  obtain rfl := Option.some.inj h
                  have h := retM hk3
                  obtain rfl := Option.some.inj h
                  have h := retM hk2
                  obtain rfl := Option.some.inj h
                  have h := retL hk1
                  obtain rfl := Option.some.inj h
                  refine blk_r (then_r (blk_r (then_r (then_r (blk_r (then_r (?_)))))))
                  refine bp_ret HF (res_one rfl HF rfl) ?_
                  exact ⟨rfl, HT⟩
                have h := (if_neg hb10).symm.trans h
                refine wp_if (b' := false) HF rfl (decide_eq_false hb10) ?_
                refine wp_skip ?_
                refine blk_n ?_
                exact then_n ⟨z2, z3 + 1, (Option.some.inj h).symm, (HF.keep (HF.keep (HF.keep (HF.keep HF.nil rfl) rfl) rfl) rfl), HT⟩
              have h := (if_neg hb8).symm.trans h
              refine wp_if (b' := false) HF rfl (decide_eq_false hb8) ?_
              refine wp_skip ?_
              refine blk_n ?_
              exact then_n ⟨z2, z3, (Option.some.inj h).symm, (HF.keep (HF.keep (HF.keep (HF.keep HF.nil rfl) rfl) rfl) rfl), HT⟩
            rintro a w ⟨z7, z8, rfl, HF, HT⟩
            have h := brkM2 h
            refine ?_
            refine wp_seq ?_
            refine wc_text ?_
            refine wc_move HF nS rfl rfl rfl (fun a HF => ?_)
            refine wc_bin HF nS rfl rfl b_lt rfl rfl (fun a HF => ?_)
            refine wc_end ?_
            refine then_n ?_
            by_cases hb11 : z7 < 0
            · have h := (if_pos hb11).symm.trans h
              refine wp_if (b' := true) HF rfl (decide_eq_true hb11) ?_
              refine wp_seq ?_
              refine wc_text ?_
              refine wc_assign HF nS rfl rfl rfl (fun a HF => ?_)
              refine wc_end ?_
              refine then_n ?_
              refine wp_ret ?_
              obtain rfl := Option.some.inj h
              have h := retM hk2
              obtain rfl := Option.some.inj h
              have h := retL hk1
              obtain rfl := Option.some.inj h
              refine blk_r (then_r (then_r (blk_r (then_r (?_)))))
              refine bp_ret HF (res_one rfl HF rfl) ?_
              exact ⟨rfl, HT⟩
            have h := (if_neg hb11).symm.trans h
            refine wp_if (b' := false) HF rfl (decide_eq_false hb11) ?_
            refine wp_skip ?_
            refine blk_n ?_
            exact then_n ⟨z7, z8, (Option.some.inj h).symm, (HF.keep (HF.keep (HF.keep (HF.keep HF.nil rfl) rfl) rfl) rfl), HT⟩
          have h := (if_neg hb3).symm.trans h
          refine wp_if (b' := true) HF rfl (notF (Bool.eq_false_iff.2 hb3)) ?_
          refine wp_seq ?_
          refine wc_text ?_
          refine wc_assign HF nS rfl rfl rfl (fun a HF => ?_)
          refine wc_end ?_
          refine then_n ?_
          refine wp_ret ?_
          obtain rfl := Option.some.inj h
          have h := retM hk2
          obtain rfl := Option.some.inj h
          have h := retL hk1
          obtain rfl := Option.some.inj h
          refine then_r (blk_r (then_r (then_r (blk_r (then_r (?_))))))
          refine bp_ret HF (res_one rfl HF rfl) ?_
          exact ⟨rfl, HT⟩
        rintro a w ⟨z5, z6, rfl, HF, HT⟩
        have h := brkM2 h
        refine ?_
        refine wc_text ?_
        refine wc_move HF nS rfl rfl rfl (fun a HF => ?_)
        obtain ⟨hg4, h⟩ := grd h
        refine wc_bin HF nS rfl rfl (b_add hg4) rfl rfl (fun a HF => ?_)
        refine wc_assign HF nS rfl rfl rfl (fun a HF => ?_)
        refine wc_end ?_
        exact then_n ⟨k1, Nat.lt_succ_self k1, z5, z6, z4 + 1, h, (HF.keep (HF.keep (HF.keep (HF.keep HF.nil rfl) rfl) rfl) rfl), HT⟩
      have h := (if_neg hb2).symm.trans h
      refine wp_if (b' := false) HF rfl (decide_eq_false hb2) ?_
      refine wp_exit ?_
      refine then_x (then_x (?_))
      refine blk_x ?_
      exact then_n ⟨z2, (Option.some.inj h).symm, (HF.keep HF.nil rfl), HT⟩
  rintro a w ⟨z1, rfl, HF, HT⟩
  have h := brkL1u h
  refine ?_
  refine wp_seq ?_
  refine wc_text ?_
  refine wc_move HF nS rfl rfl rfl (fun a HF => ?_)
  refine wc_bin HF nS rfl rfl b_eq rfl rfl (fun a HF => ?_)
  refine wc_assign HF nS rfl rfl rfl (fun a HF => ?_)
  refine wc_end ?_
  refine then_n ?_
  refine wp_ret ?_
  obtain rfl := Option.some.inj h
  refine bp_ret HF (res_one rfl HF rfl) ?_
  exact ⟨rfl, HT⟩

def m_spec_l1New_L0 (fuel : Nat) (x0 : List UInt8) : Nat → Int → Int → Option Int
  | 0, _, _ => none
  | k1 + 1, z2, z3 =>
    if z3 < (x0.length : Int) then
      if z3 < 4000 then
        if in64 (z2 * 131) then
          (at? x0 z3).bind fun e1 =>
          if in64 ((z2 * 131) + (e1.toNat : Int)) then
            if in64 (((z2 * 131) + (e1.toNat : Int)) + 7) then
              if in64 (z3 + 1) then
                m_spec_l1New_L0 fuel x0 k1 (bits .and .i64 (((z2 * 131) + (e1.toNat : Int)) + 7) 1073741823) (z3 + 1)
              else none
            else none
          else none
        else none
      else
      some z2
    else
    some z2

def m_spec_l1New (fuel : Nat) (x0 : List UInt8) : Option (Int × Int) :=
  if in64 (10101 + (x0.length : Int)) then
    (m_spec_l1New_L0 fuel x0 fuel (10101 + (x0.length : Int)) 0).bind fun z1 =>
    some (0, z1)
  else none

set_option maxRecDepth 100000 in
set_option maxHeartbeats 4000000 in
theorem w_spec_l1New (fuel : Nat) {x0 : List UInt8} {a_x0 : Option Addr} {n_x0 c_x0 : Nat} {r0_1 : Int} {r0_2 : Int} {w0 : World} (h : m_spec_l1New fuel x0 = some (r0_1, r0_2)) (hr_x0 : RdT (fun b => ¬ False) w0 (rowT x0) (.slice a_x0 n_x0 c_x0)) :
    Calls Try.prog 25 #[.slice a_x0 n_x0 c_x0] w0 fun e w => ∃ q_r0, e = .returned (.pointer (some ⟨q_r0, 0, none⟩)) ∧ St w0 (fun _ => False) w [Box q_r0 [.slice a_x0 n_x0 c_x0, .int .i64 r0_1, .int .i64 r0_2]] := by
  obtain rfl := hr_x0.neq
  have HT : St w0 (fun _ => False) w0 [] := St.init0
  rw [m_spec_l1New] at h
  refine calls_fr (n := 32) [.slice a_x0 x0.length c_x0] Try.func25 rfl rfl rfl (fun a HF => ?_)
  have HT : St w0 (fun _ => False) w0 [] := HT
  refine wp_seq ?_
  refine wc_text ?_
  refine wc_assign HF nS rfl rfl rfl (fun a HF => ?_)
  refine wc_end ?_
  refine then_n ?_
  refine wp_seq ?_
  refine wc_text ?_
  refine wc_move HF nS rfl rfl rfl (fun a HF => ?_)
  refine wc_lenR HF nS Try.underlying22 rfl rfl rfl (fun a HF => ?_)
  obtain ⟨hg1, h⟩ := grd h
  refine wc_bin HF nS rfl rfl (b_add hg1) rfl rfl (fun a HF => ?_)
  refine wc_assign HF nS rfl rfl rfl (fun a HF => ?_)
  refine wc_end ?_
  refine then_n ?_
  obtain ⟨z1, hx1, h⟩ := obs h
  refine wp_cut (fun a w => Fr a 32 [(0, .slice a_x0 x0.length c_x0), (3, .int .i64 z1)] ∧ St w0 (fun _ => False) w []) ?_ ?_
  · have hk1 := h
    have h := hx1
    refine wp_seq ?_
    refine wc_text ?_
    refine wc_assign HF nS rfl rfl rfl (fun a HF => ?_)
    refine wc_end ?_
    refine then_n ?_
    refine wp_block ?_
    refine wp_loopN (fun k1 a w => ∃ z2 z3, m_spec_l1New_L0 fuel x0 k1 z2 z3 = some z1 ∧ Fr a 32 [(0, .slice a_x0 x0.length c_x0), (3, .int .i64 z2), (4, .int .i64 z3)] ∧ St w0 (fun _ => False) w []) fuel ⟨10101 + (x0.length : Int), 0, h, (HF.keep (HF.keep (HF.keep HF.nil rfl) rfl) rfl), HT⟩ ?_
    rintro k1 a w ⟨z2, z3, h, HF, HT⟩
    cases k1 with
    | zero => cases h
    | succ k1 =>
      rw [m_spec_l1New_L0] at h
      refine ?_
      refine wp_seq ?_
      refine wp_seq ?_
      refine wc_text ?_
      refine wc_move HF nS rfl rfl rfl (fun a HF => ?_)
      refine wc_move HF nS rfl rfl rfl (fun a HF => ?_)
      refine wc_lenR HF nS Try.underlying22 rfl rfl rfl (fun a HF => ?_)
      refine wc_bin HF nS rfl rfl b_lt rfl rfl (fun a HF => ?_)
      refine wc_move HF nS rfl rfl rfl (fun a HF => ?_)
      by_cases hb1 : z3 < (x0.length : Int)
      · have h := (if_pos hb1).symm.trans h
        refine wc_move HF nS rfl (HF.wy rfl rfl rfl rfl (decide_eq_true hb1)) rfl (fun a HF => ?_)
        refine wc_bin HF nS rfl rfl b_lt (HF.wy rfl rfl rfl rfl (decide_eq_true hb1)) rfl (fun a HF => ?_)
        refine wc_pick (b := true) HF nS rfl (decide_eq_true hb1) rfl rfl rfl (fun a HF => ?_)
        refine wc_end ?_
        refine then_n ?_
        by_cases hb2 : z3 < 4000
        · have h := (if_pos hb2).symm.trans h
          refine wp_if (b' := true) HF rfl (decide_eq_true hb2) ?_
          refine wp_skip ?_
          refine then_n ?_
          refine wp_seq ?_
          refine wp_block ?_
          refine wc_text ?_
          refine wc_move HF nS rfl rfl rfl (fun a HF => ?_)
          obtain ⟨hg2, h⟩ := grd h
          refine wc_bin HF nS rfl rfl (b_mul hg2) rfl rfl (fun a HF => ?_)
          refine wc_move HF nS rfl rfl rfl (fun a HF => ?_)
          refine wc_move HF nS rfl rfl rfl (fun a HF => ?_)
          obtain ⟨e1, hx2, h⟩ := obs h
          obtain ⟨b1, o1, ha1⟩ := (HT.ro hr_x0).any.addr hx2
          refine wc_ixaddr HF nS el22 rfl ha1 ((HT.ro hr_x0).any).neq rfl hx2 rfl rfl (fun a HF => ?_)
          have hc1 := (HT.ro hr_x0).any.flatAt ha1 hx2
          refine wc_load HF rfl sc5 (hc1.get 0 rfl) rfl rfl (fun a HF => ?_)
          refine wc_cvu HF nS Try.underlying3 Try.underlying5 rfl rfl rfl (fun a HF => ?_)
          obtain ⟨hg3, h⟩ := grd h
          refine wc_bin HF nS rfl rfl (b_add hg3) rfl rfl (fun a HF => ?_)
          obtain ⟨hg4, h⟩ := grd h
          refine wc_bin HF nS rfl rfl (b_add hg4) rfl rfl (fun a HF => ?_)
          refine wc_bin HF nS rfl rfl b_and rfl rfl (fun a HF => ?_)
          refine wc_assign HF nS rfl rfl rfl (fun a HF => ?_)
          refine wc_end ?_
          refine blk_n ?_
          refine then_n ?_
          refine wc_text ?_
          refine wc_move HF nS rfl rfl rfl (fun a HF => ?_)
          obtain ⟨hg5, h⟩ := grd h
          refine wc_bin HF nS rfl rfl (b_add hg5) rfl rfl (fun a HF => ?_)
          refine wc_assign HF nS rfl rfl rfl (fun a HF => ?_)
          refine wc_end ?_
          exact then_n ⟨k1, Nat.lt_succ_self k1, bits .and .i64 (((z2 * 131) + (e1.toNat : Int)) + 7) 1073741823, z3 + 1, h, (HF.keep (HF.keep (HF.keep HF.nil rfl) rfl) rfl), HT⟩
        have h := (if_neg hb2).symm.trans h
        refine wp_if (b' := false) HF rfl (decide_eq_false hb2) ?_
        refine wp_exit ?_
        refine then_x (then_x (?_))
        refine blk_x ?_
        obtain rfl := Option.some.inj h
        exact then_n ⟨(HF.keep (HF.keep HF.nil rfl) rfl), HT⟩
      have h := (if_neg hb1).symm.trans h
      refine wc_skip HF nS (HF.wn rfl rfl rfl rfl (decide_eq_false hb1)) rfl (fun a HF => ?_)
      refine wc_skip HF nS (HF.wn rfl rfl rfl rfl (decide_eq_false hb1)) rfl (fun a HF => ?_)
      refine wc_pick (b := false) HF nS rfl (decide_eq_false hb1) rfl rfl rfl (fun a HF => ?_)
      refine wc_end ?_
      refine then_n ?_
      refine wp_if (b' := false) HF rfl rfl ?_
      refine wp_exit ?_
      refine then_x (then_x (?_))
      refine blk_x ?_
      obtain rfl := Option.some.inj h
      exact then_n ⟨(HF.keep (HF.keep HF.nil rfl) rfl), HT⟩
  rintro a w ⟨HF, HT⟩
  refine ?_
  refine wp_seq ?_
  refine wc_text ?_
  refine wc_move HF nS rfl rfl rfl (fun a HF => ?_)
  refine wc_move HF nS rfl rfl rfl (fun a HF => ?_)
  refine wc_build (cs := #[.slice a_x0 x0.length c_x0, .int .i64 0, .int .i64 z1]) HF nS bd66 rfl rfl rfl rfl (fun a HF => ?_)
  refine wc_box (cs := [.slice a_x0 x0.length c_x0, .int .i64 0, .int .i64 z1]) HF HT rfl rfl rfl rfl (fun p1 w HT hb => ⟨nS, fun a HF => ?_⟩)
  refine wc_assign HF nS rfl rfl rfl (fun a HF => ?_)
  refine wc_end ?_
  refine then_n ?_
  refine wp_ret ?_
  have hj1 := Option.some.inj h
  obtain ⟨hi1, hj2⟩ := Prod.mk.inj hj1
  subst hi1
  subst hj2
  refine bp_ret HF (res_one rfl HF rfl) ?_
  exact ⟨p1, rfl, HT⟩

def m_spec_l1Byte (fuel : Nat) (x0_0 : List UInt8) (x0_1 : Int) (x0_2 : Int) : Option (Int × Int × Int) :=
  bind3 (
    if x0_1 < (x0_0.length : Int) then
      (at? x0_0 x0_1).bind fun e1 =>
      some (bits .and .i64 (IntKind.i64.wrap ((bits .and .i64 (bits .xor .i64 ((IntKind.i64.wrap ((IntKind.i64.wrap (x0_2 * 6364136223846793005)) + 1442695040888963407)) / 2 ^ 33) ((IntKind.i64.wrap ((IntKind.i64.wrap (x0_2 * 6364136223846793005)) + 1442695040888963407)) / 2 ^ 45)) 255) + (e1.toNat : Int))) 255, IntKind.i64.wrap (x0_1 + 1), IntKind.i64.wrap ((IntKind.i64.wrap (x0_2 * 6364136223846793005)) + 1442695040888963407))
    else
    some (bits .and .i64 (bits .xor .i64 ((IntKind.i64.wrap ((IntKind.i64.wrap (x0_2 * 6364136223846793005)) + 1442695040888963407)) / 2 ^ 33) ((IntKind.i64.wrap ((IntKind.i64.wrap (x0_2 * 6364136223846793005)) + 1442695040888963407)) / 2 ^ 45)) 255, x0_1, IntKind.i64.wrap ((IntKind.i64.wrap (x0_2 * 6364136223846793005)) + 1442695040888963407))) fun z1 z2 z3 =>
  some (z1, z2, z3)

set_option maxRecDepth 100000 in
set_option maxHeartbeats 4000000 in
theorem w_spec_l1Byte (fuel : Nat) {x0_0 : List UInt8} {x0_1 : Int} {x0_2 : Int} {a_x0_0 : Option Addr} {n_x0_0 c_x0_0 : Nat} {p_0 : Nat} {r0 : Int} {x0_1' : Int} {x0_2' : Int} {F : Foot} {w0 : World} (h : m_spec_l1Byte fuel x0_0 x0_1 x0_2 = some (r0, x0_1', x0_2')) (hA : StF w0 F [Box p_0 [.slice a_x0_0 n_x0_0 c_x0_0, .int .i64 x0_1, .int .i64 x0_2]]) (hr_x0_0 : RdT (fun b => ¬ F b) w0 (rowT x0_0) (.slice a_x0_0 n_x0_0 c_x0_0)) :
    Calls Try.prog 46 #[.pointer (some ⟨p_0, 0, none⟩)] w0 fun e w => e = .returned (.int .i64 r0) ∧ St w0 F w [Box p_0 [.slice a_x0_0 n_x0_0 c_x0_0, .int .i64 x0_1', .int .i64 x0_2']] := by
  have HT0 := St.init hA
  obtain rfl := hr_x0_0.neq
  have HT : St w0 F w0 [Box p_0 [.slice a_x0_0 x0_0.length c_x0_0, .int .i64 x0_1, .int .i64 x0_2]] := St.init hA
  rw [m_spec_l1Byte] at h
  refine calls_fr (n := 58) [.pointer (some ⟨p_0, 0, none⟩)] Try.func46 rfl rfl rfl (fun a HF => ?_)
  have HT : St w0 F w0 [Box p_0 [.slice a_x0_0 x0_0.length c_x0_0, .int .i64 x0_1, .int .i64 x0_2]] := HT
  refine wp_seq ?_
  refine wc_text ?_
  refine wc_assign HF nS rfl rfl rfl (fun a HF => ?_)
  refine wc_end ?_
  refine then_n ?_
  refine wp_seq ?_
  refine wc_text ?_
  refine wc_move HF nS rfl rfl rfl (fun a HF => ?_)
  refine wc_move HF nS rfl rfl rfl (fun a HF => ?_)
  refine wc_nilCheck HF nS rfl rfl rfl (fun a HF => ?_)
  refine wc_faddr HF nS rfl fl66_2 rfl rfl (fun a HF => ?_)
  refine wc_load HF rfl sc3 ((HT.boxAt 0 rfl).get 2 rfl) rfl rfl (fun a HF => ?_)
  refine wc_bin HF nS rfl rfl b_mulw rfl rfl (fun a HF => ?_)
  refine wc_bin HF nS rfl rfl b_addw rfl rfl (fun a HF => ?_)
  refine wc_nilCheck HF nS rfl rfl rfl (fun a HF => ?_)
  refine wc_faddr HF nS rfl fl66_2 rfl rfl (fun a HF => ?_)
  refine wc_storeB (cs' := [.slice a_x0_0 x0_0.length c_x0_0, .int .i64 x0_1, .int .i64 (IntKind.i64.wrap ((IntKind.i64.wrap (x0_2 * 6364136223846793005)) + 1442695040888963407))]) HF HT rfl rfl (fun w => (sc3 w).2) rfl rfl rfl rfl rfl (fun w HT => ⟨nS, ?_⟩)
  refine wc_end ?_
  refine then_n ?_
  refine wp_seq ?_
  refine wp_region_can [(0, true), (1, true), (2, true), (3, true), (4, true), (5, true), (6, true), (7, true), (8, true), (9, true), (10, true), (11, true), (12, true)] (fun w' => True) (by kernel_rfl) (by kernel_rfl) ?_
  have HT : St w0 F w.drew [Box p_0 [.slice a_x0_0 x0_0.length c_x0_0, .int .i64 x0_1, .int .i64 (IntKind.i64.wrap ((IntKind.i64.wrap (x0_2 * 6364136223846793005)) + 1442695040888963407))]] := HT.drew
  refine wc_move HF nS rfl rfl rfl (fun a HF => ?_)
  refine wc_nilCheck HF nS rfl rfl rfl (fun a HF => ?_)
  refine wc_faddr HF nS rfl fl66_2 rfl rfl (fun a HF => ?_)
  refine wc_load HF rfl sc3 ((HT.boxAt 0 rfl).get 2 rfl) rfl rfl (fun a HF => ?_)
  refine wc_bin HF nS rfl rfl (b_shrk (k := 33) (by decide)) rfl rfl (fun a HF => ?_)
  refine wc_move HF nS rfl rfl rfl (fun a HF => ?_)
  refine wc_nilCheck HF nS rfl rfl rfl (fun a HF => ?_)
  refine wc_faddr HF nS rfl fl66_2 rfl rfl (fun a HF => ?_)
  refine wc_load HF rfl sc3 ((HT.boxAt 0 rfl).get 2 rfl) rfl rfl (fun a HF => ?_)
  refine wc_bin HF nS rfl rfl (b_shrk (k := 45) (by decide)) rfl rfl (fun a HF => ?_)
  refine wc_bin HF nS rfl rfl b_xor rfl rfl (fun a HF => ?_)
  refine wc_bin HF nS rfl rfl b_and rfl rfl (fun a HF => ?_)
  refine wc_assign HF nS rfl rfl rfl (fun a HF => ?_)
  refine wc_endN ?_
  refine then_n ?_
  obtain ⟨z1, z2, z3, hx1, h⟩ := obs3 h
  refine wp_cut (fun a w => Fr a 58 [(3, .int .i64 z1)] ∧ St w0 F w [Box p_0 [.slice a_x0_0 x0_0.length c_x0_0, .int .i64 z2, .int .i64 z3]]) ?_ ?_
  · have hk1 := h
    have h := hx1
    refine wp_seq ?_
    refine wp_region_can [(0, true), (1, true), (2, true), (3, true), (4, true), (5, true), (6, true), (7, true), (8, true), (9, true)] (fun w' => True) (by kernel_rfl) (by kernel_rfl) ?_
    have HT : St w0 F w.drew.drew [Box p_0 [.slice a_x0_0 x0_0.length c_x0_0, .int .i64 x0_1, .int .i64 (IntKind.i64.wrap ((IntKind.i64.wrap (x0_2 * 6364136223846793005)) + 1442695040888963407))]] := HT.drew
    refine wc_move HF nS rfl rfl rfl (fun a HF => ?_)
    refine wc_nilCheck HF nS rfl rfl rfl (fun a HF => ?_)
    refine wc_faddr HF nS rfl fl66_1 rfl rfl (fun a HF => ?_)
    refine wc_load HF rfl sc3 ((HT.boxAt 0 rfl).get 1 rfl) rfl rfl (fun a HF => ?_)
    refine wc_move HF nS rfl rfl rfl (fun a HF => ?_)
    refine wc_nilCheck HF nS rfl rfl rfl (fun a HF => ?_)
    refine wc_faddr HF nS rfl fl66_0 rfl rfl (fun a HF => ?_)
    refine wc_load HF rfl sc22 ((HT.boxAt 0 rfl).get 0 rfl) rfl rfl (fun a HF => ?_)
    refine wc_lenR HF nS Try.underlying22 rfl rfl rfl (fun a HF => ?_)
    refine wc_bin HF nS rfl rfl b_lt rfl rfl (fun a HF => ?_)
    refine wc_endN ?_
    refine then_n ?_
    by_cases hb1 : x0_1 < (x0_0.length : Int)
    · have h := (if_pos hb1).symm.trans h
      refine wp_if (b' := true) HF rfl (decide_eq_true hb1) ?_
      refine wp_seq ?_
      refine wp_region_can [(0, true), (1, true), (2, true), (3, true), (4, true), (5, true), (6, true), (7, true), (8, true), (9, true), (10, true), (11, true), (12, true), (13, true), (14, true)] (fun w' => True) (by kernel_rfl) (by kernel_rfl) ?_
      have HT : St w0 F w.drew.drew.drew [Box p_0 [.slice a_x0_0 x0_0.length c_x0_0, .int .i64 x0_1, .int .i64 (IntKind.i64.wrap ((IntKind.i64.wrap (x0_2 * 6364136223846793005)) + 1442695040888963407))]] := HT.drew
      refine wc_move HF nS rfl rfl rfl (fun a HF => ?_)
      refine wc_move HF nS rfl rfl rfl (fun a HF => ?_)
      refine wc_nilCheck HF nS rfl rfl rfl (fun a HF => ?_)
      refine wc_faddr HF nS rfl fl66_0 rfl rfl (fun a HF => ?_)
      refine wc_load HF rfl sc22 ((HT.boxAt 0 rfl).get 0 rfl) rfl rfl (fun a HF => ?_)
      refine wc_move HF nS rfl rfl rfl (fun a HF => ?_)
      refine wc_nilCheck HF nS rfl rfl rfl (fun a HF => ?_)
      refine wc_faddr HF nS rfl fl66_1 rfl rfl (fun a HF => ?_)
      refine wc_load HF rfl sc3 ((HT.boxAt 0 rfl).get 1 rfl) rfl rfl (fun a HF => ?_)
      obtain ⟨e1, hx2, h⟩ := obs h
      obtain ⟨b1, o1, ha1⟩ := (HT.ro hr_x0_0).any.addr hx2
      refine wc_ixaddr HF nS el22 rfl ha1 ((HT.ro hr_x0_0).any).neq rfl hx2 rfl rfl (fun a HF => ?_)
      have hc1 := (HT.ro hr_x0_0).any.flatAt ha1 hx2
      refine wc_load HF rfl sc5 (hc1.get 0 rfl) rfl rfl (fun a HF => ?_)
      refine wc_cvu HF nS Try.underlying3 Try.underlying5 rfl rfl rfl (fun a HF => ?_)
      refine wc_bin HF nS rfl rfl b_addw rfl rfl (fun a HF => ?_)
      refine wc_bin HF nS rfl rfl b_and rfl rfl (fun a HF => ?_)
      refine wc_assign HF nS rfl rfl rfl (fun a HF => ?_)
      refine wc_endN ?_
      refine then_n ?_
      refine wc_text ?_
      refine wc_move HF nS rfl rfl rfl (fun a HF => ?_)
      refine wc_move HF nS rfl rfl rfl (fun a HF => ?_)
      refine wc_nilCheck HF nS rfl rfl rfl (fun a HF => ?_)
      refine wc_faddr HF nS rfl fl66_1 rfl rfl (fun a HF => ?_)
      refine wc_load HF rfl sc3 ((HT.boxAt 0 rfl).get 1 rfl) rfl rfl (fun a HF => ?_)
      refine wc_bin HF nS rfl rfl b_addw rfl rfl (fun a HF => ?_)
      refine wc_nilCheck HF nS rfl rfl rfl (fun a HF => ?_)
      refine wc_faddr HF nS rfl fl66_1 rfl rfl (fun a HF => ?_)
      refine wc_storeB (cs' := [.slice a_x0_0 x0_0.length c_x0_0, .int .i64 (IntKind.i64.wrap (x0_1 + 1)), .int .i64 (IntKind.i64.wrap ((IntKind.i64.wrap (x0_2 * 6364136223846793005)) + 1442695040888963407))]) HF HT rfl rfl (fun w => (sc3 w).2) rfl rfl rfl rfl rfl (fun w HT => ⟨nS, ?_⟩)
      refine wc_end ?_
      have hj1 := Option.some.inj h
      obtain ⟨hi1, hj2⟩ := Prod.mk.inj hj1
      subst hi1
      obtain ⟨hi2, hj3⟩ := Prod.mk.inj hj2
      subst hi2
      subst hj3
      exact then_n ⟨(HF.keep HF.nil rfl), HT⟩
    have h := (if_neg hb1).symm.trans h
    refine wp_if (b' := false) HF rfl (decide_eq_false hb1) ?_
    refine wp_skip ?_
    have hj4 := Option.some.inj h
    obtain ⟨hi4, hj5⟩ := Prod.mk.inj hj4
    subst hi4
    obtain ⟨hi5, hj6⟩ := Prod.mk.inj hj5
    subst hi5
    subst hj6
    exact then_n ⟨(HF.keep HF.nil rfl), HT⟩
  rintro a w ⟨HF, HT⟩
  refine ?_
  refine wp_seq ?_
  refine wc_text ?_
  refine wc_move HF nS rfl rfl rfl (fun a HF => ?_)
  refine wc_assign HF nS rfl rfl rfl (fun a HF => ?_)
  refine wc_end ?_
  refine then_n ?_
  refine wp_ret ?_
  have hj7 := Option.some.inj h
  obtain ⟨hi7, hj8⟩ := Prod.mk.inj hj7
  subst hi7
  obtain ⟨hi8, hj9⟩ := Prod.mk.inj hj8
  subst hi8
  subst hj9
  refine bp_ret HF (res_one rfl HF rfl) ?_
  exact ⟨rfl, HT⟩

def m_spec_l1Below (fuel : Nat) (x0_0 : List UInt8) (x0_1 : Int) (x0_2 : Int) (x1 : Int) : Option (Int × Int × Int) :=
  if x1 ≤ 0 then
    some (0, x0_1, x0_2)
  else
  if x1 ≤ 256 then
    bind3 (m_spec_l1Byte fuel x0_0 x0_1 x0_2) fun y1 y2 y3 =>
    if (x1 : Int) ≠ 0 then
      some (y1.tmod x1, y2, y3)
    else none
  else
  bind3 (m_spec_l1Byte fuel x0_0 x0_1 x0_2) fun y4 y5 y6 =>
  bind3 (m_spec_l1Byte fuel x0_0 y5 y6) fun y7 y8 y9 =>
  bind3 (m_spec_l1Byte fuel x0_0 y8 y9) fun y10 y11 y12 =>
  bind3 (m_spec_l1Byte fuel x0_0 y11 y12) fun y13 y14 y15 =>
  if in64 (y4 * 16777216) then
    if in64 (y7 * 65536) then
      if in64 ((y4 * 16777216) + (y7 * 65536)) then
        if in64 (y10 * 256) then
          if in64 (((y4 * 16777216) + (y7 * 65536)) + (y10 * 256)) then
            if in64 ((((y4 * 16777216) + (y7 * 65536)) + (y10 * 256)) + y13) then
              if (x1 : Int) ≠ 0 then
                some (((((y4 * 16777216) + (y7 * 65536)) + (y10 * 256)) + y13).tmod x1, y14, y15)
              else none
            else none
          else none
        else none
      else none
    else none
  else none

set_option maxRecDepth 100000 in
set_option maxHeartbeats 4000000 in
theorem w_spec_l1Below (fuel : Nat) {x0_0 : List UInt8} {x0_1 : Int} {x0_2 : Int} {x1 : Int} {a_x0_0 : Option Addr} {n_x0_0 c_x0_0 : Nat} {p_0 : Nat} {r0 : Int} {x0_1' : Int} {x0_2' : Int} {F : Foot} {w0 : World} (h : m_spec_l1Below fuel x0_0 x0_1 x0_2 x1 = some (r0, x0_1', x0_2')) (hA : StF w0 F [Box p_0 [.slice a_x0_0 n_x0_0 c_x0_0, .int .i64 x0_1, .int .i64 x0_2]]) (hr_x0_0 : RdT (fun b => ¬ F b) w0 (rowT x0_0) (.slice a_x0_0 n_x0_0 c_x0_0)) :
    Calls Try.prog 44 #[.pointer (some ⟨p_0, 0, none⟩), .int .i64 x1] w0 fun e w => e = .returned (.int .i64 r0) ∧ St w0 F w [Box p_0 [.slice a_x0_0 n_x0_0 c_x0_0, .int .i64 x0_1', .int .i64 x0_2']] := by
  have HT0 := St.init hA
  obtain rfl := hr_x0_0.neq
  have HT : St w0 F w0 [Box p_0 [.slice a_x0_0 x0_0.length c_x0_0, .int .i64 x0_1, .int .i64 x0_2]] := St.init hA
  rw [m_spec_l1Below] at h
  refine calls_fr (n := 37) [.pointer (some ⟨p_0, 0, none⟩), .int .i64 x1] Try.func44 rfl rfl rfl (fun a HF => ?_)
  have HT : St w0 F w0 [Box p_0 [.slice a_x0_0 x0_0.length c_x0_0, .int .i64 x0_1, .int .i64 x0_2]] := HT
  refine wp_seq ?_
  refine wc_text ?_
  refine wc_assign HF nS rfl rfl rfl (fun a HF => ?_)
  refine wc_end ?_
  refine then_n ?_
  refine wp_seq ?_
  refine wp_seq ?_
  refine wc_text ?_
  refine wc_move HF nS rfl rfl rfl (fun a HF => ?_)
  refine wc_bin HF nS rfl rfl b_le rfl rfl (fun a HF => ?_)
  refine wc_end ?_
  refine then_n ?_
  by_cases hb1 : x1 ≤ 0
  · have h := (if_pos hb1).symm.trans h
    refine wp_if (b' := true) HF rfl (decide_eq_true hb1) ?_
    refine wp_seq ?_
    refine wc_text ?_
    refine wc_assign HF nS rfl rfl rfl (fun a HF => ?_)
    refine wc_end ?_
    refine then_n ?_
    refine wp_ret ?_
    have hj1 := Option.some.inj h
    obtain ⟨hi1, hj2⟩ := Prod.mk.inj hj1
    subst hi1
    obtain ⟨hi2, hj3⟩ := Prod.mk.inj hj2
    subst hi2
    subst hj3
    refine then_r (?_)
    refine bp_ret HF (res_one rfl HF rfl) ?_
    exact ⟨rfl, HT⟩
  have h := (if_neg hb1).symm.trans h
  refine wp_if (b' := false) HF rfl (decide_eq_false hb1) ?_
  refine wp_skip ?_
  refine then_n ?_
  refine wp_seq ?_
  refine wp_seq ?_
  refine wc_text ?_
  refine wc_move HF nS rfl rfl rfl (fun a HF => ?_)
  refine wc_bin HF nS rfl rfl b_le rfl rfl (fun a HF => ?_)
  refine wc_end ?_
  refine then_n ?_
  by_cases hb2 : x1 ≤ 256
  · have h := (if_pos hb2).symm.trans h
    refine wp_if (b' := true) HF rfl (decide_eq_true hb2) ?_
    refine wp_seq ?_
    refine wc_text ?_
    refine wc_move HF nS rfl rfl rfl (fun a HF => ?_)
    obtain ⟨y1, y2, y3, hx1, h⟩ := obs3 h
    obtain ⟨F1, hAF1, hFF1, hbackF1, hroF1, hownF1, hownAF1⟩ := St.handR2 (A := [Box p_0 [.slice a_x0_0 x0_0.length c_x0_0, .int .i64 x0_1, .int .i64 x0_2]]) HT
    refine wc_call HF cf46 rfl (w_spec_l1Byte fuel hx1 hAF1 (hroF1 hr_x0_0)) rfl rfl ?_
    rintro e w ⟨rfl, hE⟩
    have HT := hbackF1 _ _ hE
    have HT : St w0 F w [Box p_0 [.slice a_x0_0 x0_0.length c_x0_0, .int .i64 y2, .int .i64 y3]] := HT
    refine ⟨_, rfl, nS, fun a HF => ?_⟩
    refine wc_move HF nS rfl rfl rfl (fun a HF => ?_)
    obtain ⟨hg1, h⟩ := grd h
    refine wc_bin HF nS rfl rfl (b_rem hg1) rfl rfl (fun a HF => ?_)
    refine wc_assign HF nS rfl rfl rfl (fun a HF => ?_)
    refine wc_end ?_
    refine then_n ?_
    refine wp_ret ?_
    have hj4 := Option.some.inj h
    obtain ⟨hi4, hj5⟩ := Prod.mk.inj hj4
    subst hi4
    obtain ⟨hi5, hj6⟩ := Prod.mk.inj hj5
    subst hi5
    subst hj6
    refine then_r (?_)
    refine bp_ret HF (res_one rfl HF rfl) ?_
    exact ⟨rfl, HT⟩
  have h := (if_neg hb2).symm.trans h
  refine wp_if (b' := false) HF rfl (decide_eq_false hb2) ?_
  refine wp_skip ?_
  refine then_n ?_
  refine wp_seq ?_
  refine wc_text ?_
  refine wc_move HF nS rfl rfl rfl (fun a HF => ?_)
  obtain ⟨y4, y5, y6, hx2, h⟩ := obs3 h
  obtain ⟨F2, hAF2, hFF2, hbackF2, hroF2, hownF2, hownAF2⟩ := St.handR2 (A := [Box p_0 [.slice a_x0_0 x0_0.length c_x0_0, .int .i64 x0_1, .int .i64 x0_2]]) HT
  refine wc_call HF cf46 rfl (w_spec_l1Byte fuel hx2 hAF2 (hroF2 hr_x0_0)) rfl rfl ?_
  rintro e w ⟨rfl, hE⟩
  have HT := hbackF2 _ _ hE
  have HT : St w0 F w [Box p_0 [.slice a_x0_0 x0_0.length c_x0_0, .int .i64 y5, .int .i64 y6]] := HT
  refine ⟨_, rfl, nS, fun a HF => ?_⟩
  refine wc_assign HF nS rfl rfl rfl (fun a HF => ?_)
  refine wc_end ?_
  refine then_n ?_
  refine wp_seq ?_
  refine wc_text ?_
  refine wc_move HF nS rfl rfl rfl (fun a HF => ?_)
  obtain ⟨y7, y8, y9, hx3, h⟩ := obs3 h
  obtain ⟨F3, hAF3, hFF3, hbackF3, hroF3, hownF3, hownAF3⟩ := St.handR2 (A := [Box p_0 [.slice a_x0_0 x0_0.length c_x0_0, .int .i64 y5, .int .i64 y6]]) HT
  refine wc_call HF cf46 rfl (w_spec_l1Byte fuel hx3 hAF3 (hroF3 hr_x0_0)) rfl rfl ?_
  rintro e w ⟨rfl, hE⟩
  have HT := hbackF3 _ _ hE
  have HT : St w0 F w [Box p_0 [.slice a_x0_0 x0_0.length c_x0_0, .int .i64 y8, .int .i64 y9]] := HT
  refine ⟨_, rfl, nS, fun a HF => ?_⟩
  refine wc_assign HF nS rfl rfl rfl (fun a HF => ?_)
  refine wc_end ?_
  refine then_n ?_
  refine wp_seq ?_
  refine wc_text ?_
  refine wc_move HF nS rfl rfl rfl (fun a HF => ?_)
  obtain ⟨y10, y11, y12, hx4, h⟩ := obs3 h
  obtain ⟨F4, hAF4, hFF4, hbackF4, hroF4, hownF4, hownAF4⟩ := St.handR2 (A := [Box p_0 [.slice a_x0_0 x0_0.length c_x0_0, .int .i64 y8, .int .i64 y9]]) HT
  refine wc_call HF cf46 rfl (w_spec_l1Byte fuel hx4 hAF4 (hroF4 hr_x0_0)) rfl rfl ?_
  rintro e w ⟨rfl, hE⟩
  have HT := hbackF4 _ _ hE
  have HT : St w0 F w [Box p_0 [.slice a_x0_0 x0_0.length c_x0_0, .int .i64 y11, .int .i64 y12]] := HT
  refine ⟨_, rfl, nS, fun a HF => ?_⟩
  refine wc_assign HF nS rfl rfl rfl (fun a HF => ?_)
  refine wc_end ?_
  refine then_n ?_
  refine wp_seq ?_
  refine wc_text ?_
  refine wc_move HF nS rfl rfl rfl (fun a HF => ?_)
  obtain ⟨y13, y14, y15, hx5, h⟩ := obs3 h
  obtain ⟨F5, hAF5, hFF5, hbackF5, hroF5, hownF5, hownAF5⟩ := St.handR2 (A := [Box p_0 [.slice a_x0_0 x0_0.length c_x0_0, .int .i64 y11, .int .i64 y12]]) HT
  refine wc_call HF cf46 rfl (w_spec_l1Byte fuel hx5 hAF5 (hroF5 hr_x0_0)) rfl rfl ?_
  rintro e w ⟨rfl, hE⟩
  have HT := hbackF5 _ _ hE
  have HT : St w0 F w [Box p_0 [.slice a_x0_0 x0_0.length c_x0_0, .int .i64 y14, .int .i64 y15]] := HT
  refine ⟨_, rfl, nS, fun a HF => ?_⟩
  refine wc_assign HF nS rfl rfl rfl (fun a HF => ?_)
  refine wc_end ?_
  refine then_n ?_
  refine wp_seq ?_
  refine wc_text ?_
  refine wc_move HF nS rfl rfl rfl (fun a HF => ?_)
  obtain ⟨hg2, h⟩ := grd h
  refine wc_bin HF nS rfl rfl (b_mul hg2) rfl rfl (fun a HF => ?_)
  refine wc_move HF nS rfl rfl rfl (fun a HF => ?_)
  obtain ⟨hg3, h⟩ := grd h
  refine wc_bin HF nS rfl rfl (b_mul hg3) rfl rfl (fun a HF => ?_)
  obtain ⟨hg4, h⟩ := grd h
  refine wc_bin HF nS rfl rfl (b_add hg4) rfl rfl (fun a HF => ?_)
  refine wc_move HF nS rfl rfl rfl (fun a HF => ?_)
  obtain ⟨hg5, h⟩ := grd h
  refine wc_bin HF nS rfl rfl (b_mul hg5) rfl rfl (fun a HF => ?_)
  obtain ⟨hg6, h⟩ := grd h
  refine wc_bin HF nS rfl rfl (b_add hg6) rfl rfl (fun a HF => ?_)
  refine wc_move HF nS rfl rfl rfl (fun a HF => ?_)
  obtain ⟨hg7, h⟩ := grd h
  refine wc_bin HF nS rfl rfl (b_add hg7) rfl rfl (fun a HF => ?_)
  refine wc_move HF nS rfl rfl rfl (fun a HF => ?_)
  obtain ⟨hg8, h⟩ := grd h
  refine wc_bin HF nS rfl rfl (b_rem hg8) rfl rfl (fun a HF => ?_)
  refine wc_assign HF nS rfl rfl rfl (fun a HF => ?_)
  refine wc_end ?_
  refine then_n ?_
  refine wp_ret ?_
  have hj7 := Option.some.inj h
  obtain ⟨hi7, hj8⟩ := Prod.mk.inj hj7
  subst hi7
  obtain ⟨hi8, hj9⟩ := Prod.mk.inj hj8
  subst hi8
  subst hj9
  refine bp_ret HF (res_one rfl HF rfl) ?_
  exact ⟨rfl, HT⟩

def m_spec_l1Once (fuel : Nat) (x0_0 : List UInt8) (x0_1 : Int) (x0_2 : Int) (x1 : Int) : Option (Bool × Int × Int) :=
  bind3 (m_spec_l1Below fuel x0_0 x0_1 x0_2 x1) fun y1 y2 y3 =>
  some (decide (y1 = 0), y2, y3)

set_option maxRecDepth 100000 in
set_option maxHeartbeats 4000000 in
theorem w_spec_l1Once (fuel : Nat) {x0_0 : List UInt8} {x0_1 : Int} {x0_2 : Int} {x1 : Int} {a_x0_0 : Option Addr} {n_x0_0 c_x0_0 : Nat} {p_0 : Nat} {r0 : Bool} {x0_1' : Int} {x0_2' : Int} {F : Foot} {w0 : World} (h : m_spec_l1Once fuel x0_0 x0_1 x0_2 x1 = some (r0, x0_1', x0_2')) (hA : StF w0 F [Box p_0 [.slice a_x0_0 n_x0_0 c_x0_0, .int .i64 x0_1, .int .i64 x0_2]]) (hr_x0_0 : RdT (fun b => ¬ F b) w0 (rowT x0_0) (.slice a_x0_0 n_x0_0 c_x0_0)) :
    Calls Try.prog 31 #[.pointer (some ⟨p_0, 0, none⟩), .int .i64 x1] w0 fun e w => e = .returned (.bool r0) ∧ St w0 F w [Box p_0 [.slice a_x0_0 n_x0_0 c_x0_0, .int .i64 x0_1', .int .i64 x0_2']] := by
  have HT0 := St.init hA
  obtain rfl := hr_x0_0.neq
  have HT : St w0 F w0 [Box p_0 [.slice a_x0_0 x0_0.length c_x0_0, .int .i64 x0_1, .int .i64 x0_2]] := St.init hA
  rw [m_spec_l1Once] at h
  refine calls_fr (n := 9) [.pointer (some ⟨p_0, 0, none⟩), .int .i64 x1] Try.func31 rfl rfl rfl (fun a HF => ?_)
  have HT : St w0 F w0 [Box p_0 [.slice a_x0_0 x0_0.length c_x0_0, .int .i64 x0_1, .int .i64 x0_2]] := HT
  refine wp_seq ?_
  refine wc_text ?_
  refine wc_assign HF nS rfl rfl rfl (fun a HF => ?_)
  refine wc_end ?_
  refine then_n ?_
  refine wp_seq ?_
  refine wc_text ?_
  refine wc_move HF nS rfl rfl rfl (fun a HF => ?_)
  refine wc_move HF nS rfl rfl rfl (fun a HF => ?_)
  obtain ⟨y1, y2, y3, hx1, h⟩ := obs3 h
  obtain ⟨F1, hAF1, hFF1, hbackF1, hroF1, hownF1, hownAF1⟩ := St.handR2 (A := [Box p_0 [.slice a_x0_0 x0_0.length c_x0_0, .int .i64 x0_1, .int .i64 x0_2]]) HT
  refine wc_call HF cf44 rfl (w_spec_l1Below fuel hx1 hAF1 (hroF1 hr_x0_0)) rfl rfl ?_
  rintro e w ⟨rfl, hE⟩
  have HT := hbackF1 _ _ hE
  have HT : St w0 F w [Box p_0 [.slice a_x0_0 x0_0.length c_x0_0, .int .i64 y2, .int .i64 y3]] := HT
  refine ⟨_, rfl, nS, fun a HF => ?_⟩
  refine wc_bin HF nS rfl rfl b_eq rfl rfl (fun a HF => ?_)
  refine wc_assign HF nS rfl rfl rfl (fun a HF => ?_)
  refine wc_end ?_
  refine then_n ?_
  refine wp_ret ?_
  have hj1 := Option.some.inj h
  obtain ⟨hi1, hj2⟩ := Prod.mk.inj hj1
  subst hi1
  obtain ⟨hi2, hj3⟩ := Prod.mk.inj hj2
  subst hi2
  subst hj3
  refine bp_ret HF (res_one rfl HF rfl) ?_
  exact ⟨rfl, HT⟩

def m_spec_l1PickInt (fuel : Nat) (x0_0 : List UInt8) (x0_1 : Int) (x0_2 : Int) (x1 : List Int) : Option (Int × Int × Int) :=
  bind3 (m_spec_l1Below fuel x0_0 x0_1 x0_2 (x1.length : Int)) fun y1 y2 y3 =>
  (at? x1 y1).bind fun e1 =>
  some (e1, y2, y3)

set_option maxRecDepth 100000 in
set_option maxHeartbeats 4000000 in
theorem w_spec_l1PickInt (fuel : Nat) {x0_0 : List UInt8} {x0_1 : Int} {x0_2 : Int} {x1 : List Int} {a_x0_0 : Option Addr} {n_x0_0 c_x0_0 : Nat} {a_x1 : Option Addr} {n_x1 c_x1 : Nat} {p_0 : Nat} {r0 : Int} {x0_1' : Int} {x0_2' : Int} {F : Foot} {w0 : World} (h : m_spec_l1PickInt fuel x0_0 x0_1 x0_2 x1 = some (r0, x0_1', x0_2')) (hA : StF w0 F [Box p_0 [.slice a_x0_0 n_x0_0 c_x0_0, .int .i64 x0_1, .int .i64 x0_2]]) (hr_x0_0 : RdT (fun b => ¬ F b) w0 (rowT x0_0) (.slice a_x0_0 n_x0_0 c_x0_0)) (hr_x1 : RdT (fun b => ¬ F b) w0 (rowT x1) (.slice a_x1 n_x1 c_x1)) :
    Calls Try.prog 45 #[.pointer (some ⟨p_0, 0, none⟩), .slice a_x1 n_x1 c_x1] w0 fun e w => e = .returned (.int .i64 r0) ∧ St w0 F w [Box p_0 [.slice a_x0_0 n_x0_0 c_x0_0, .int .i64 x0_1', .int .i64 x0_2']] := by
  have HT0 := St.init hA
  obtain rfl := hr_x0_0.neq
  obtain rfl := hr_x1.neq
  have HT : St w0 F w0 [Box p_0 [.slice a_x0_0 x0_0.length c_x0_0, .int .i64 x0_1, .int .i64 x0_2]] := St.init hA
  rw [m_spec_l1PickInt] at h
  refine calls_fr (n := 12) [.pointer (some ⟨p_0, 0, none⟩), .slice a_x1 x1.length c_x1] Try.func45 rfl rfl rfl (fun a HF => ?_)
  have HT : St w0 F w0 [Box p_0 [.slice a_x0_0 x0_0.length c_x0_0, .int .i64 x0_1, .int .i64 x0_2]] := HT
  refine wp_seq ?_
  refine wc_text ?_
  refine wc_assign HF nS rfl rfl rfl (fun a HF => ?_)
  refine wc_end ?_
  refine then_n ?_
  refine wp_seq ?_
  refine wc_text ?_
  refine wc_move HF nS rfl rfl rfl (fun a HF => ?_)
  refine wc_move HF nS rfl rfl rfl (fun a HF => ?_)
  refine wc_move HF nS rfl rfl rfl (fun a HF => ?_)
  refine wc_lenR HF nS Try.underlying69 rfl rfl rfl (fun a HF => ?_)
  obtain ⟨y1, y2, y3, hx1, h⟩ := obs3 h
  obtain ⟨F1, hAF1, hFF1, hbackF1, hroF1, hownF1, hownAF1⟩ := St.handR2 (A := [Box p_0 [.slice a_x0_0 x0_0.length c_x0_0, .int .i64 x0_1, .int .i64 x0_2]]) HT
  refine wc_call HF cf44 rfl (w_spec_l1Below fuel hx1 hAF1 (hroF1 hr_x0_0)) rfl rfl ?_
  rintro e w ⟨rfl, hE⟩
  have HT := hbackF1 _ _ hE
  have HT : St w0 F w [Box p_0 [.slice a_x0_0 x0_0.length c_x0_0, .int .i64 y2, .int .i64 y3]] := HT
  refine ⟨_, rfl, nS, fun a HF => ?_⟩
  obtain ⟨e1, hx2, h⟩ := obs h
  obtain ⟨b1, o1, ha1⟩ := (HT.ro hr_x1).any.addr hx2
  refine wc_ixaddr HF nS el69 rfl ha1 ((HT.ro hr_x1).any).neq rfl hx2 rfl rfl (fun a HF => ?_)
  have hc1 := (HT.ro hr_x1).any.flatAt ha1 hx2
  refine wc_load HF rfl sc3 (hc1.get 0 rfl) rfl rfl (fun a HF => ?_)
  refine wc_assign HF nS rfl rfl rfl (fun a HF => ?_)
  refine wc_end ?_
  refine then_n ?_
  refine wp_ret ?_
  have hj1 := Option.some.inj h
  obtain ⟨hi1, hj2⟩ := Prod.mk.inj hj1
  subst hi1
  obtain ⟨hi2, hj3⟩ := Prod.mk.inj hj2
  subst hi2
  subst hj3
  refine bp_ret HF (res_one rfl HF rfl) ?_
  exact ⟨rfl, HT⟩

def m_spec_l3Draw (fuel : Nat) (x0_0 : List UInt8) (x0_1 : Int) (x0_2 : Int) : Option (Int × Int × Int) :=
  bind3 (m_spec_l1Once fuel x0_0 x0_1 x0_2 6) fun y1 y2 y3 =>
  if y1 = true then
    bind3 (m_spec_l1PickInt fuel x0_0 y2 y3 ([0, 65535, 65534, 256] : List Int)) fun y4 y5 y6 =>
    some (y4, y5, y6)
  else
  bind3 (m_spec_l1Below fuel x0_0 y2 y3 9) fun y7 y8 y9 =>
  some (y7, y8, y9)

set_option maxRecDepth 100000 in
set_option maxHeartbeats 4000000 in
theorem w_spec_l3Draw (fuel : Nat) {x0_0 : List UInt8} {x0_1 : Int} {x0_2 : Int} {a_x0_0 : Option Addr} {n_x0_0 c_x0_0 : Nat} {p_0 : Nat} {r0 : Int} {x0_1' : Int} {x0_2' : Int} {F : Foot} {w0 : World} (h : m_spec_l3Draw fuel x0_0 x0_1 x0_2 = some (r0, x0_1', x0_2')) (hA : StF w0 F [Box p_0 [.slice a_x0_0 n_x0_0 c_x0_0, .int .i64 x0_1, .int .i64 x0_2]]) (hr_x0_0 : RdT (fun b => ¬ F b) w0 (rowT x0_0) (.slice a_x0_0 n_x0_0 c_x0_0)) :
    Calls Try.prog 64 #[.pointer (some ⟨p_0, 0, none⟩)] w0 fun e w => e = .returned (.int .i64 r0) ∧ St w0 F w [Box p_0 [.slice a_x0_0 n_x0_0 c_x0_0, .int .i64 x0_1', .int .i64 x0_2']] := by
  have HT0 := St.init hA
  obtain rfl := hr_x0_0.neq
  have HT : St w0 F w0 [Box p_0 [.slice a_x0_0 x0_0.length c_x0_0, .int .i64 x0_1, .int .i64 x0_2]] := St.init hA
  rw [m_spec_l3Draw] at h
  refine calls_fr (n := 10) [.pointer (some ⟨p_0, 0, none⟩)] Try.func64 rfl rfl rfl (fun a HF => ?_)
  have HT : St w0 F w0 [Box p_0 [.slice a_x0_0 x0_0.length c_x0_0, .int .i64 x0_1, .int .i64 x0_2]] := HT
  refine wp_seq ?_
  refine wc_text ?_
  refine wc_assign HF nS rfl rfl rfl (fun a HF => ?_)
  refine wc_end ?_
  refine then_n ?_
  refine wp_seq ?_
  refine wp_seq ?_
  refine wc_text ?_
  refine wc_move HF nS rfl rfl rfl (fun a HF => ?_)
  obtain ⟨y1, y2, y3, hx1, h⟩ := obs3 h
  obtain ⟨F1, hAF1, hFF1, hbackF1, hroF1, hownF1, hownAF1⟩ := St.handR2 (A := [Box p_0 [.slice a_x0_0 x0_0.length c_x0_0, .int .i64 x0_1, .int .i64 x0_2]]) HT
  refine wc_call HF cf31 rfl (w_spec_l1Once fuel hx1 hAF1 (hroF1 hr_x0_0)) rfl rfl ?_
  rintro e w ⟨rfl, hE⟩
  have HT := hbackF1 _ _ hE
  have HT : St w0 F w [Box p_0 [.slice a_x0_0 x0_0.length c_x0_0, .int .i64 y2, .int .i64 y3]] := HT
  refine ⟨_, rfl, nS, fun a HF => ?_⟩
  refine wc_end ?_
  refine then_n ?_
  by_cases hb1 : y1 = true
  · have h := (if_pos hb1).symm.trans h
    refine wp_if (b' := true) HF rfl hb1 ?_
    refine wp_seq ?_
    refine wc_text ?_
    refine wc_move HF nS rfl rfl rfl (fun a HF => ?_)
    refine wc_bslice (l := ([0, 65535, 65534, 256] : List Int)) (cs := [.int .i64 0, .int .i64 65535, .int .i64 65534, .int .i64 256]) (A := []) HF HT bs69_4 rfl rfl (gives_flat rfl) rfl (by decide) rfl rfl (fun p1 w HT hb => ⟨nS, fun a HF => ?_⟩)
    obtain ⟨y4, y5, y6, hx2, h⟩ := obs3 h
    have HT : St w0 F w [Box p_0 [.slice a_x0_0 x0_0.length c_x0_0, .int .i64 y2, .int .i64 y3], Own 3 (rowT ([0, 65535, 65534, 256] : List Int)) (.slice (some ⟨p1, 0, none⟩) 4 4)] := HT.pick 1
    obtain ⟨F2, hAF2, hFF2, hbackF2, hroF2, hownF2, hownAF2⟩ := St.handR2 (A := [Box p_0 [.slice a_x0_0 x0_0.length c_x0_0, .int .i64 y2, .int .i64 y3]]) HT
    refine wc_call HF cf45 rfl (w_spec_l1PickInt fuel hx2 hAF2 (hroF2 hr_x0_0) (hownF2 _ _ _ (List.mem_of_getElem? (i := 0) rfl))) rfl rfl ?_
    rintro e w ⟨rfl, hE⟩
    have HT := hbackF2 _ _ hE
    have HT : St w0 F w [Box p_0 [.slice a_x0_0 x0_0.length c_x0_0, .int .i64 y5, .int .i64 y6], Own 3 (rowT ([0, 65535, 65534, 256] : List Int)) (.slice (some ⟨p1, 0, none⟩) 4 4)] := HT
    refine ⟨_, rfl, nS, fun a HF => ?_⟩
    refine wc_assign HF nS rfl rfl rfl (fun a HF => ?_)
    refine wc_end ?_
    refine then_n ?_
    refine wp_ret ?_
    have hj1 := Option.some.inj h
    obtain ⟨hi1, hj2⟩ := Prod.mk.inj hj1
    subst hi1
    obtain ⟨hi2, hj3⟩ := Prod.mk.inj hj2
    subst hi2
    subst hj3
    refine then_r (?_)
    refine bp_ret HF (res_one rfl HF rfl) ?_
    have HT : St w0 F w [Box p_0 [.slice a_x0_0 x0_0.length c_x0_0, .int .i64 y5, .int .i64 y6]] := HT.take 1
    exact ⟨rfl, HT⟩
  have h := (if_neg hb1).symm.trans h
  refine wp_if (b' := false) HF rfl (Bool.eq_false_iff.2 hb1) ?_
  refine wp_skip ?_
  refine then_n ?_
  refine wp_seq ?_
  refine wc_text ?_
  refine wc_move HF nS rfl rfl rfl (fun a HF => ?_)
  obtain ⟨y7, y8, y9, hx3, h⟩ := obs3 h
  obtain ⟨F3, hAF3, hFF3, hbackF3, hroF3, hownF3, hownAF3⟩ := St.handR2 (A := [Box p_0 [.slice a_x0_0 x0_0.length c_x0_0, .int .i64 y2, .int .i64 y3]]) HT
  refine wc_call HF cf44 rfl (w_spec_l1Below fuel hx3 hAF3 (hroF3 hr_x0_0)) rfl rfl ?_
  rintro e w ⟨rfl, hE⟩
  have HT := hbackF3 _ _ hE
  have HT : St w0 F w [Box p_0 [.slice a_x0_0 x0_0.length c_x0_0, .int .i64 y8, .int .i64 y9]] := HT
  refine ⟨_, rfl, nS, fun a HF => ?_⟩
  refine wc_assign HF nS rfl rfl rfl (fun a HF => ?_)
  refine wc_end ?_
  refine then_n ?_
  refine wp_ret ?_
  have hj4 := Option.some.inj h
  obtain ⟨hi4, hj5⟩ := Prod.mk.inj hj4
  subst hi4
  obtain ⟨hi5, hj6⟩ := Prod.mk.inj hj5
  subst hi5
  subst hj6
  refine bp_ret HF (res_one rfl HF rfl) ?_
  exact ⟨rfl, HT⟩

def m_spec_l4DrawCell (fuel : Nat) (x0_0 : List UInt8) (x0_1 : Int) (x0_2 : Int) : Option (Int × Int × Int) :=
  bind3 (m_spec_l1Once fuel x0_0 x0_1 x0_2 8) fun y1 y2 y3 =>
  if y1 = true then
    bind3 (m_spec_l1Below fuel x0_0 y2 y3 8) fun y4 y5 y6 =>
    some (y4, y5, y6)
  else
  bind3 (m_spec_l1Below fuel x0_0 y2 y3 3) fun y7 y8 y9 =>
  some (y7, y8, y9)

set_option maxRecDepth 100000 in
set_option maxHeartbeats 4000000 in
theorem w_spec_l4DrawCell (fuel : Nat) {x0_0 : List UInt8} {x0_1 : Int} {x0_2 : Int} {a_x0_0 : Option Addr} {n_x0_0 c_x0_0 : Nat} {p_0 : Nat} {r0 : Int} {x0_1' : Int} {x0_2' : Int} {F : Foot} {w0 : World} (h : m_spec_l4DrawCell fuel x0_0 x0_1 x0_2 = some (r0, x0_1', x0_2')) (hA : StF w0 F [Box p_0 [.slice a_x0_0 n_x0_0 c_x0_0, .int .i64 x0_1, .int .i64 x0_2]]) (hr_x0_0 : RdT (fun b => ¬ F b) w0 (rowT x0_0) (.slice a_x0_0 n_x0_0 c_x0_0)) :
    Calls Try.prog 65 #[.pointer (some ⟨p_0, 0, none⟩)] w0 fun e w => e = .returned (.int .i64 r0) ∧ St w0 F w [Box p_0 [.slice a_x0_0 n_x0_0 c_x0_0, .int .i64 x0_1', .int .i64 x0_2']] := by
  have HT0 := St.init hA
  obtain rfl := hr_x0_0.neq
  have HT : St w0 F w0 [Box p_0 [.slice a_x0_0 x0_0.length c_x0_0, .int .i64 x0_1, .int .i64 x0_2]] := St.init hA
  rw [m_spec_l4DrawCell] at h
  refine calls_fr (n := 9) [.pointer (some ⟨p_0, 0, none⟩)] Try.func65 rfl rfl rfl (fun a HF => ?_)
  have HT : St w0 F w0 [Box p_0 [.slice a_x0_0 x0_0.length c_x0_0, .int .i64 x0_1, .int .i64 x0_2]] := HT
  refine wp_seq ?_
  refine wc_text ?_
  refine wc_assign HF nS rfl rfl rfl (fun a HF => ?_)
  refine wc_end ?_
  refine then_n ?_
  refine wp_seq ?_
  refine wp_seq ?_
  refine wc_text ?_
  refine wc_move HF nS rfl rfl rfl (fun a HF => ?_)
  obtain ⟨y1, y2, y3, hx1, h⟩ := obs3 h
  obtain ⟨F1, hAF1, hFF1, hbackF1, hroF1, hownF1, hownAF1⟩ := St.handR2 (A := [Box p_0 [.slice a_x0_0 x0_0.length c_x0_0, .int .i64 x0_1, .int .i64 x0_2]]) HT
  refine wc_call HF cf31 rfl (w_spec_l1Once fuel hx1 hAF1 (hroF1 hr_x0_0)) rfl rfl ?_
  rintro e w ⟨rfl, hE⟩
  have HT := hbackF1 _ _ hE
  have HT : St w0 F w [Box p_0 [.slice a_x0_0 x0_0.length c_x0_0, .int .i64 y2, .int .i64 y3]] := HT
  refine ⟨_, rfl, nS, fun a HF => ?_⟩
  refine wc_end ?_
  refine then_n ?_
  by_cases hb1 : y1 = true
  · have h := (if_pos hb1).symm.trans h
    refine wp_if (b' := true) HF rfl hb1 ?_
    refine wp_seq ?_
    refine wc_text ?_
    refine wc_move HF nS rfl rfl rfl (fun a HF => ?_)
    obtain ⟨y4, y5, y6, hx2, h⟩ := obs3 h
    obtain ⟨F2, hAF2, hFF2, hbackF2, hroF2, hownF2, hownAF2⟩ := St.handR2 (A := [Box p_0 [.slice a_x0_0 x0_0.length c_x0_0, .int .i64 y2, .int .i64 y3]]) HT
    refine wc_call HF cf44 rfl (w_spec_l1Below fuel hx2 hAF2 (hroF2 hr_x0_0)) rfl rfl ?_
    rintro e w ⟨rfl, hE⟩
    have HT := hbackF2 _ _ hE
    have HT : St w0 F w [Box p_0 [.slice a_x0_0 x0_0.length c_x0_0, .int .i64 y5, .int .i64 y6]] := HT
    refine ⟨_, rfl, nS, fun a HF => ?_⟩
    refine wc_assign HF nS rfl rfl rfl (fun a HF => ?_)
    refine wc_end ?_
    refine then_n ?_
    refine wp_ret ?_
    have hj1 := Option.some.inj h
    obtain ⟨hi1, hj2⟩ := Prod.mk.inj hj1
    subst hi1
    obtain ⟨hi2, hj3⟩ := Prod.mk.inj hj2
    subst hi2
    subst hj3
    refine then_r (?_)
    refine bp_ret HF (res_one rfl HF rfl) ?_
    exact ⟨rfl, HT⟩
  have h := (if_neg hb1).symm.trans h
  refine wp_if (b' := false) HF rfl (Bool.eq_false_iff.2 hb1) ?_
  refine wp_skip ?_
  refine then_n ?_
  refine wp_seq ?_
  refine wc_text ?_
  refine wc_move HF nS rfl rfl rfl (fun a HF => ?_)
  obtain ⟨y7, y8, y9, hx3, h⟩ := obs3 h
  obtain ⟨F3, hAF3, hFF3, hbackF3, hroF3, hownF3, hownAF3⟩ := St.handR2 (A := [Box p_0 [.slice a_x0_0 x0_0.length c_x0_0, .int .i64 y2, .int .i64 y3]]) HT
  refine wc_call HF cf44 rfl (w_spec_l1Below fuel hx3 hAF3 (hroF3 hr_x0_0)) rfl rfl ?_
  rintro e w ⟨rfl, hE⟩
  have HT := hbackF3 _ _ hE
  have HT : St w0 F w [Box p_0 [.slice a_x0_0 x0_0.length c_x0_0, .int .i64 y8, .int .i64 y9]] := HT
  refine ⟨_, rfl, nS, fun a HF => ?_⟩
  refine wc_assign HF nS rfl rfl rfl (fun a HF => ?_)
  refine wc_end ?_
  refine then_n ?_
  refine wp_ret ?_
  have hj4 := Option.some.inj h
  obtain ⟨hi4, hj5⟩ := Prod.mk.inj hj4
  subst hi4
  obtain ⟨hi5, hj6⟩ := Prod.mk.inj hj5
  subst hi5
  subst hj6
  refine bp_ret HF (res_one rfl HF rfl) ?_
  exact ⟨rfl, HT⟩

def m_spec_l4DrawKey (fuel : Nat) (x0_0 : List UInt8) (x0_1 : Int) (x0_2 : Int) : Option (Int × Int × Int) :=
  bind3 (m_spec_l1Once fuel x0_0 x0_1 x0_2 4) fun y1 y2 y3 =>
  if y1 = true then
    bind3 (m_spec_l1Below fuel x0_0 y2 y3 8) fun y4 y5 y6 =>
    some (y4, y5, y6)
  else
  bind3 (m_spec_l1PickInt fuel x0_0 y2 y3 ([0, 4, 1] : List Int)) fun y7 y8 y9 =>
  some (y7, y8, y9)

set_option maxRecDepth 100000 in
set_option maxHeartbeats 4000000 in
theorem w_spec_l4DrawKey (fuel : Nat) {x0_0 : List UInt8} {x0_1 : Int} {x0_2 : Int} {a_x0_0 : Option Addr} {n_x0_0 c_x0_0 : Nat} {p_0 : Nat} {r0 : Int} {x0_1' : Int} {x0_2' : Int} {F : Foot} {w0 : World} (h : m_spec_l4DrawKey fuel x0_0 x0_1 x0_2 = some (r0, x0_1', x0_2')) (hA : StF w0 F [Box p_0 [.slice a_x0_0 n_x0_0 c_x0_0, .int .i64 x0_1, .int .i64 x0_2]]) (hr_x0_0 : RdT (fun b => ¬ F b) w0 (rowT x0_0) (.slice a_x0_0 n_x0_0 c_x0_0)) :
    Calls Try.prog 66 #[.pointer (some ⟨p_0, 0, none⟩)] w0 fun e w => e = .returned (.int .i64 r0) ∧ St w0 F w [Box p_0 [.slice a_x0_0 n_x0_0 c_x0_0, .int .i64 x0_1', .int .i64 x0_2']] := by
  have HT0 := St.init hA
  obtain rfl := hr_x0_0.neq
  have HT : St w0 F w0 [Box p_0 [.slice a_x0_0 x0_0.length c_x0_0, .int .i64 x0_1, .int .i64 x0_2]] := St.init hA
  rw [m_spec_l4DrawKey] at h
  refine calls_fr (n := 10) [.pointer (some ⟨p_0, 0, none⟩)] Try.func66 rfl rfl rfl (fun a HF => ?_)
  have HT : St w0 F w0 [Box p_0 [.slice a_x0_0 x0_0.length c_x0_0, .int .i64 x0_1, .int .i64 x0_2]] := HT
  refine wp_seq ?_
  refine wc_text ?_
  refine wc_assign HF nS rfl rfl rfl (fun a HF => ?_)
  refine wc_end ?_
  refine then_n ?_
  refine wp_seq ?_
  refine wp_seq ?_
  refine wc_text ?_
  refine wc_move HF nS rfl rfl rfl (fun a HF => ?_)
  obtain ⟨y1, y2, y3, hx1, h⟩ := obs3 h
  obtain ⟨F1, hAF1, hFF1, hbackF1, hroF1, hownF1, hownAF1⟩ := St.handR2 (A := [Box p_0 [.slice a_x0_0 x0_0.length c_x0_0, .int .i64 x0_1, .int .i64 x0_2]]) HT
  refine wc_call HF cf31 rfl (w_spec_l1Once fuel hx1 hAF1 (hroF1 hr_x0_0)) rfl rfl ?_
  rintro e w ⟨rfl, hE⟩
  have HT := hbackF1 _ _ hE
  have HT : St w0 F w [Box p_0 [.slice a_x0_0 x0_0.length c_x0_0, .int .i64 y2, .int .i64 y3]] := HT
  refine ⟨_, rfl, nS, fun a HF => ?_⟩
  refine wc_end ?_
  refine then_n ?_
  by_cases hb1 : y1 = true
  · have h := (if_pos hb1).symm.trans h
    refine wp_if (b' := true) HF rfl hb1 ?_
    refine wp_seq ?_
    refine wc_text ?_
    refine wc_move HF nS rfl rfl rfl (fun a HF => ?_)
    obtain ⟨y4, y5, y6, hx2, h⟩ := obs3 h
    obtain ⟨F2, hAF2, hFF2, hbackF2, hroF2, hownF2, hownAF2⟩ := St.handR2 (A := [Box p_0 [.slice a_x0_0 x0_0.length c_x0_0, .int .i64 y2, .int .i64 y3]]) HT
    refine wc_call HF cf44 rfl (w_spec_l1Below fuel hx2 hAF2 (hroF2 hr_x0_0)) rfl rfl ?_
    rintro e w ⟨rfl, hE⟩
    have HT := hbackF2 _ _ hE
    have HT : St w0 F w [Box p_0 [.slice a_x0_0 x0_0.length c_x0_0, .int .i64 y5, .int .i64 y6]] := HT
    refine ⟨_, rfl, nS, fun a HF => ?_⟩
    refine wc_assign HF nS rfl rfl rfl (fun a HF => ?_)
    refine wc_end ?_
    refine then_n ?_
    refine wp_ret ?_
    have hj1 := Option.some.inj h
    obtain ⟨hi1, hj2⟩ := Prod.mk.inj hj1
    subst hi1
    obtain ⟨hi2, hj3⟩ := Prod.mk.inj hj2
    subst hi2
    subst hj3
    refine then_r (?_)
    refine bp_ret HF (res_one rfl HF rfl) ?_
    exact ⟨rfl, HT⟩
  have h := (if_neg hb1).symm.trans h
  refine wp_if (b' := false) HF rfl (Bool.eq_false_iff.2 hb1) ?_
  refine wp_skip ?_
  refine then_n ?_
  refine wp_seq ?_
  refine wc_text ?_
  refine wc_move HF nS rfl rfl rfl (fun a HF => ?_)
  refine wc_bslice (l := ([0, 4, 1] : List Int)) (cs := [.int .i64 0, .int .i64 4, .int .i64 1]) (A := []) HF HT bs69_3 rfl rfl (gives_flat rfl) rfl (by decide) rfl rfl (fun p1 w HT hb => ⟨nS, fun a HF => ?_⟩)
  obtain ⟨y7, y8, y9, hx3, h⟩ := obs3 h
  have HT : St w0 F w [Box p_0 [.slice a_x0_0 x0_0.length c_x0_0, .int .i64 y2, .int .i64 y3], Own 3 (rowT ([0, 4, 1] : List Int)) (.slice (some ⟨p1, 0, none⟩) 3 3)] := HT.pick 1
  obtain ⟨F3, hAF3, hFF3, hbackF3, hroF3, hownF3, hownAF3⟩ := St.handR2 (A := [Box p_0 [.slice a_x0_0 x0_0.length c_x0_0, .int .i64 y2, .int .i64 y3]]) HT
  refine wc_call HF cf45 rfl (w_spec_l1PickInt fuel hx3 hAF3 (hroF3 hr_x0_0) (hownF3 _ _ _ (List.mem_of_getElem? (i := 0) rfl))) rfl rfl ?_
  rintro e w ⟨rfl, hE⟩
  have HT := hbackF3 _ _ hE
  have HT : St w0 F w [Box p_0 [.slice a_x0_0 x0_0.length c_x0_0, .int .i64 y8, .int .i64 y9], Own 3 (rowT ([0, 4, 1] : List Int)) (.slice (some ⟨p1, 0, none⟩) 3 3)] := HT
  refine ⟨_, rfl, nS, fun a HF => ?_⟩
  refine wc_assign HF nS rfl rfl rfl (fun a HF => ?_)
  refine wc_end ?_
  refine then_n ?_
  refine wp_ret ?_
  have hj4 := Option.some.inj h
  obtain ⟨hi4, hj5⟩ := Prod.mk.inj hj4
  subst hi4
  obtain ⟨hi5, hj6⟩ := Prod.mk.inj hj5
  subst hi5
  subst hj6
  refine bp_ret HF (res_one rfl HF rfl) ?_
  have HT : St w0 F w [Box p_0 [.slice a_x0_0 x0_0.length c_x0_0, .int .i64 y8, .int .i64 y9]] := HT.take 1
  exact ⟨rfl, HT⟩

def m_spec_l4DrawReg (fuel : Nat) (x0_0 : List UInt8) (x0_1 : Int) (x0_2 : Int) : Option (Int × Int × Int) :=
  bind3 (m_spec_l1Below fuel x0_0 x0_1 x0_2 4) fun y1 y2 y3 =>
  some (y1, y2, y3)

set_option maxRecDepth 100000 in
set_option maxHeartbeats 4000000 in
theorem w_spec_l4DrawReg (fuel : Nat) {x0_0 : List UInt8} {x0_1 : Int} {x0_2 : Int} {a_x0_0 : Option Addr} {n_x0_0 c_x0_0 : Nat} {p_0 : Nat} {r0 : Int} {x0_1' : Int} {x0_2' : Int} {F : Foot} {w0 : World} (h : m_spec_l4DrawReg fuel x0_0 x0_1 x0_2 = some (r0, x0_1', x0_2')) (hA : StF w0 F [Box p_0 [.slice a_x0_0 n_x0_0 c_x0_0, .int .i64 x0_1, .int .i64 x0_2]]) (hr_x0_0 : RdT (fun b => ¬ F b) w0 (rowT x0_0) (.slice a_x0_0 n_x0_0 c_x0_0)) :
    Calls Try.prog 63 #[.pointer (some ⟨p_0, 0, none⟩)] w0 fun e w => e = .returned (.int .i64 r0) ∧ St w0 F w [Box p_0 [.slice a_x0_0 n_x0_0 c_x0_0, .int .i64 x0_1', .int .i64 x0_2']] := by
  have HT0 := St.init hA
  obtain rfl := hr_x0_0.neq
  have HT : St w0 F w0 [Box p_0 [.slice a_x0_0 x0_0.length c_x0_0, .int .i64 x0_1, .int .i64 x0_2]] := St.init hA
  rw [m_spec_l4DrawReg] at h
  refine calls_fr (n := 5) [.pointer (some ⟨p_0, 0, none⟩)] Try.func63 rfl rfl rfl (fun a HF => ?_)
  have HT : St w0 F w0 [Box p_0 [.slice a_x0_0 x0_0.length c_x0_0, .int .i64 x0_1, .int .i64 x0_2]] := HT
  refine wp_seq ?_
  refine wc_text ?_
  refine wc_assign HF nS rfl rfl rfl (fun a HF => ?_)
  refine wc_end ?_
  refine then_n ?_
  refine wp_seq ?_
  refine wc_text ?_
  refine wc_move HF nS rfl rfl rfl (fun a HF => ?_)
  obtain ⟨y1, y2, y3, hx1, h⟩ := obs3 h
  obtain ⟨F1, hAF1, hFF1, hbackF1, hroF1, hownF1, hownAF1⟩ := St.handR2 (A := [Box p_0 [.slice a_x0_0 x0_0.length c_x0_0, .int .i64 x0_1, .int .i64 x0_2]]) HT
  refine wc_call HF cf44 rfl (w_spec_l1Below fuel hx1 hAF1 (hroF1 hr_x0_0)) rfl rfl ?_
  rintro e w ⟨rfl, hE⟩
  have HT := hbackF1 _ _ hE
  have HT : St w0 F w [Box p_0 [.slice a_x0_0 x0_0.length c_x0_0, .int .i64 y2, .int .i64 y3]] := HT
  refine ⟨_, rfl, nS, fun a HF => ?_⟩
  refine wc_assign HF nS rfl rfl rfl (fun a HF => ?_)
  refine wc_end ?_
  refine then_n ?_
  refine wp_ret ?_
  have hj1 := Option.some.inj h
  obtain ⟨hi1, hj2⟩ := Prod.mk.inj hj1
  subst hi1
  obtain ⟨hi2, hj3⟩ := Prod.mk.inj hj2
  subst hi2
  subst hj3
  refine bp_ret HF (res_one rfl HF rfl) ?_
  exact ⟨rfl, HT⟩

def m_spec_l4Plain (fuel : Nat) (x0_0 : List UInt8) (x0_1 : Int) (x0_2 : Int) (x1 : Int) : Option (Int × Int × Int × Int × Int × Int) :=
  bind5 (
    if x1 = 1 then
      bind3 (m_spec_l4DrawReg fuel x0_0 x0_1 x0_2) fun y1 y2 y3 =>
      bind3 (m_spec_l3Draw fuel x0_0 y2 y3) fun y4 y5 y6 =>
      some (y1, y4, 0, y5, y6)
    else
    (
      if x1 = 2 then
        some (decide (x1 = 2))
      else
      if x1 = 3 then
        some (decide (x1 = 3))
      else
      some (decide (x1 = 4))).bind fun z6 =>
    if z6 = true then
      bind3 (m_spec_l4DrawReg fuel x0_0 x0_1 x0_2) fun y7 y8 y9 =>
      bind3 (m_spec_l4DrawReg fuel x0_0 y8 y9) fun y10 y11 y12 =>
      bind3 (m_spec_l4DrawReg fuel x0_0 y11 y12) fun y13 y14 y15 =>
      some (y7, y10, y13, y14, y15)
    else
    if x1 = 5 then
      bind3 (m_spec_l4DrawReg fuel x0_0 x0_1 x0_2) fun y16 y17 y18 =>
      bind3 (m_spec_l4DrawCell fuel x0_0 y17 y18) fun y19 y20 y21 =>
      some (y16, y19, 0, y20, y21)
    else
    if x1 = 6 then
      bind3 (m_spec_l4DrawCell fuel x0_0 x0_1 x0_2) fun y22 y23 y24 =>
      bind3 (m_spec_l4DrawReg fuel x0_0 y23 y24) fun y25 y26 y27 =>
      some (y22, y25, 0, y26, y27)
    else
    if x1 = 7 then
      bind3 (m_spec_l4DrawReg fuel x0_0 x0_1 x0_2) fun y28 y29 y30 =>
      bind3 (m_spec_l1Below fuel x0_0 y29 y30 3) fun y31 y32 y33 =>
      if in64 (1 + y31) then
        some (y28, 1 + y31, 0, y32, y33)
      else none
    else
    (
      if x1 = 8 then
        some (decide (x1 = 8))
      else
      if x1 = 15 then
        some (decide (x1 = 15))
      else
      some (decide (x1 = 16))).bind fun z7 =>
    if z7 = true then
      bind3 (m_spec_l4DrawReg fuel x0_0 x0_1 x0_2) fun y34 y35 y36 =>
      some (y34, 0, 0, y35, y36)
    else
    if x1 = 12 then
      bind3 (m_spec_l4DrawKey fuel x0_0 x0_1 x0_2) fun y37 y38 y39 =>
      bind3 (m_spec_l4DrawReg fuel x0_0 y38 y39) fun y40 y41 y42 =>
      bind3 (m_spec_l4DrawReg fuel x0_0 y41 y42) fun y43 y44 y45 =>
      some (y37, y40, y43, y44, y45)
    else
    if x1 = 13 then
      bind3 (m_spec_l4DrawReg fuel x0_0 x0_1 x0_2) fun y46 y47 y48 =>
      bind3 (m_spec_l4DrawKey fuel x0_0 y47 y48) fun y49 y50 y51 =>
      some (y46, y49, 0, y50, y51)
    else
    if x1 = 14 then
      bind3 (m_spec_l4DrawKey fuel x0_0 x0_1 x0_2) fun y52 y53 y54 =>
      bind3 (m_spec_l4DrawReg fuel x0_0 y53 y54) fun y55 y56 y57 =>
      some (y52, y55, 0, y56, y57)
    else
    some (0, 0, 0, x0_1, x0_2)) fun z1 z2 z3 z4 z5 =>
  some (x1, z1, z2, z3, z4, z5)

set_option maxRecDepth 100000 in
set_option maxHeartbeats 4000000 in
theorem w_spec_l4Plain (fuel : Nat) {x0_0 : List UInt8} {x0_1 : Int} {x0_2 : Int} {x1 : Int} {a_x0_0 : Option Addr} {n_x0_0 c_x0_0 : Nat} {p_0 : Nat} {r0_0 : Int} {r0_1 : Int} {r0_2 : Int} {r0_3 : Int} {x0_1' : Int} {x0_2' : Int} {F : Foot} {w0 : World} (h : m_spec_l4Plain fuel x0_0 x0_1 x0_2 x1 = some (r0_0, r0_1, r0_2, r0_3, x0_1', x0_2')) (hA : StF w0 F [Box p_0 [.slice a_x0_0 n_x0_0 c_x0_0, .int .i64 x0_1, .int .i64 x0_2]]) (hr_x0_0 : RdT (fun b => ¬ F b) w0 (rowT x0_0) (.slice a_x0_0 n_x0_0 c_x0_0)) :
    Calls Try.prog 62 #[.pointer (some ⟨p_0, 0, none⟩), .int .i64 x1] w0 fun e w => e = .returned (.agg #[.int .i64 r0_0, .int .i64 r0_1, .int .i64 r0_2, .int .i64 r0_3]) ∧ St w0 F w [Box p_0 [.slice a_x0_0 n_x0_0 c_x0_0, .int .i64 x0_1', .int .i64 x0_2']] := by
  have HT0 := St.init hA
  obtain rfl := hr_x0_0.neq
  have HT : St w0 F w0 [Box p_0 [.slice a_x0_0 x0_0.length c_x0_0, .int .i64 x0_1, .int .i64 x0_2]] := St.init hA
  rw [m_spec_l4Plain] at h
  refine calls_fr (n := 90) [.pointer (some ⟨p_0, 0, none⟩), .int .i64 x1] Try.func62 rfl rfl rfl (fun a HF => ?_)
  have HT : St w0 F w0 [Box p_0 [.slice a_x0_0 x0_0.length c_x0_0, .int .i64 x0_1, .int .i64 x0_2]] := HT
  refine wp_seq ?_
  refine wc_text ?_
  refine wc_alloc (cs := [.int .i64 0, .int .i64 0, .int .i64 0, .int .i64 0]) HF HT zr45 rfl rfl rfl (fun p1 w HT hb => ⟨nS, fun a HF => ?_⟩)
  refine wc_end ?_
  refine then_n ?_
  refine wp_seq ?_
  refine wc_text ?_
  refine wc_move HF nS rfl rfl rfl (fun a HF => ?_)
  refine wc_build (cs := #[.int .i64 x1, .int .i64 0, .int .i64 0, .int .i64 0]) HF nS bd45 rfl rfl rfl rfl (fun a HF => ?_)
  refine wc_alloc (cs := [.int .i64 0, .int .i64 0, .int .i64 0, .int .i64 0]) HF HT zr45 rfl rfl rfl (fun p2 w HT hb => ⟨nS, fun a HF => ?_⟩)
  refine wc_storeB (cs' := [.int .i64 x1, .int .i64 0, .int .i64 0, .int .i64 0]) HF HT rfl rfl (fun w => (ag45 w).2) rfl rfl rfl rfl rfl (fun w HT => ⟨nS, ?_⟩)
  refine wc_end ?_
  refine then_n ?_
  obtain ⟨z1, z2, z3, z4, z5, hx1, h⟩ := obs5 h
  refine wp_cut (fun a w => Fr a 90 [(4, .pointer (some ⟨p1, 0, none⟩)), (5, .pointer (some ⟨p2, 0, none⟩))] ∧ St w0 F w [Box p1 [.int .i64 0, .int .i64 0, .int .i64 0, .int .i64 0], Box p2 [.int .i64 x1, .int .i64 z1, .int .i64 z2, .int .i64 z3], Box p_0 [.slice a_x0_0 x0_0.length c_x0_0, .int .i64 z4, .int .i64 z5]]) ?_ ?_
  · have hk1 := h
    have h := hx1
    refine wp_seq ?_
    refine wc_text ?_
    refine wc_move HF nS rfl rfl rfl (fun a HF => ?_)
    refine wc_end ?_
    refine then_n ?_
    refine wp_block ?_
    refine wp_seq ?_
    refine wc_text ?_
    refine wc_bin HF nS rfl rfl b_eq rfl rfl (fun a HF => ?_)
    refine wc_assign HF nS rfl rfl rfl (fun a HF => ?_)
    refine wc_end ?_
    refine then_n ?_
    by_cases hb1 : x1 = 1
    · have h := (if_pos hb1).symm.trans h
      refine wp_if (b' := true) HF rfl (decide_eq_true hb1) ?_
      refine wp_seq ?_
      refine wc_text ?_
      refine wc_move HF nS rfl rfl rfl (fun a HF => ?_)
      obtain ⟨y1, y2, y3, hx2, h⟩ := obs3 h
      have HT : St w0 F w [Box p_0 [.slice a_x0_0 x0_0.length c_x0_0, .int .i64 x0_1, .int .i64 x0_2], Box p2 [.int .i64 x1, .int .i64 0, .int .i64 0, .int .i64 0], Box p1 [.int .i64 0, .int .i64 0, .int .i64 0, .int .i64 0]] := HT.pick 2
      obtain ⟨F1, hAF1, hFF1, hbackF1, hroF1, hownF1, hownAF1⟩ := St.handR2 (A := [Box p_0 [.slice a_x0_0 x0_0.length c_x0_0, .int .i64 x0_1, .int .i64 x0_2]]) HT
      refine wc_call HF cf63 rfl (w_spec_l4DrawReg fuel hx2 hAF1 (hroF1 hr_x0_0)) rfl rfl ?_
      rintro e w ⟨rfl, hE⟩
      have HT := hbackF1 _ _ hE
      have HT : St w0 F w [Box p_0 [.slice a_x0_0 x0_0.length c_x0_0, .int .i64 y2, .int .i64 y3], Box p2 [.int .i64 x1, .int .i64 0, .int .i64 0, .int .i64 0], Box p1 [.int .i64 0, .int .i64 0, .int .i64 0, .int .i64 0]] := HT
      refine ⟨_, rfl, nS, fun a HF => ?_⟩
      refine wc_faddr HF nS rfl fl45_1 rfl rfl (fun a HF => ?_)
      have HT : St w0 F w [Box p2 [.int .i64 x1, .int .i64 0, .int .i64 0, .int .i64 0], Box p_0 [.slice a_x0_0 x0_0.length c_x0_0, .int .i64 y2, .int .i64 y3], Box p1 [.int .i64 0, .int .i64 0, .int .i64 0, .int .i64 0]] := HT.pick 1
      refine wc_storeB (cs' := [.int .i64 x1, .int .i64 y1, .int .i64 0, .int .i64 0]) HF HT rfl rfl (fun w => (sc3 w).2) rfl rfl rfl rfl rfl (fun w HT => ⟨nS, ?_⟩)
      refine wc_end ?_
      refine then_n ?_
      refine wc_text ?_
      refine wc_move HF nS rfl rfl rfl (fun a HF => ?_)
      obtain ⟨y4, y5, y6, hx3, h⟩ := obs3 h
      have HT : St w0 F w [Box p_0 [.slice a_x0_0 x0_0.length c_x0_0, .int .i64 y2, .int .i64 y3], Box p2 [.int .i64 x1, .int .i64 y1, .int .i64 0, .int .i64 0], Box p1 [.int .i64 0, .int .i64 0, .int .i64 0, .int .i64 0]] := HT.pick 1
      obtain ⟨F2, hAF2, hFF2, hbackF2, hroF2, hownF2, hownAF2⟩ := St.handR2 (A := [Box p_0 [.slice a_x0_0 x0_0.length c_x0_0, .int .i64 y2, .int .i64 y3]]) HT
      refine wc_call HF cf64 rfl (w_spec_l3Draw fuel hx3 hAF2 (hroF2 hr_x0_0)) rfl rfl ?_
      rintro e w ⟨rfl, hE⟩
      have HT := hbackF2 _ _ hE
      have HT : St w0 F w [Box p_0 [.slice a_x0_0 x0_0.length c_x0_0, .int .i64 y5, .int .i64 y6], Box p2 [.int .i64 x1, .int .i64 y1, .int .i64 0, .int .i64 0], Box p1 [.int .i64 0, .int .i64 0, .int .i64 0, .int .i64 0]] := HT
      refine ⟨_, rfl, nS, fun a HF => ?_⟩
      refine wc_faddr HF nS rfl fl45_2 rfl rfl (fun a HF => ?_)
      have HT : St w0 F w [Box p2 [.int .i64 x1, .int .i64 y1, .int .i64 0, .int .i64 0], Box p_0 [.slice a_x0_0 x0_0.length c_x0_0, .int .i64 y5, .int .i64 y6], Box p1 [.int .i64 0, .int .i64 0, .int .i64 0, .int .i64 0]] := HT.pick 1
      refine wc_storeB (cs' := [.int .i64 x1, .int .i64 y1, .int .i64 y4, .int .i64 0]) HF HT rfl rfl (fun w => (sc3 w).2) rfl rfl rfl rfl rfl (fun w HT => ⟨nS, ?_⟩)
      refine wc_end ?_
      refine blk_n ?_
      have HT : St w0 F w [Box p1 [.int .i64 0, .int .i64 0, .int .i64 0, .int .i64 0], Box p2 [.int .i64 x1, .int .i64 y1, .int .i64 y4, .int .i64 0], Box p_0 [.slice a_x0_0 x0_0.length c_x0_0, .int .i64 y5, .int .i64 y6]] := ((HT.pick 1).pick 1).pick 2
      have hj1 := Option.some.inj h
      obtain ⟨hi1, hj2⟩ := Prod.mk.inj hj1
      subst hi1
      obtain ⟨hi2, hj3⟩ := Prod.mk.inj hj2
      subst hi2
      obtain ⟨hi3, hj4⟩ := Prod.mk.inj hj3
      subst hi3
      obtain ⟨hi4, hj5⟩ := Prod.mk.inj hj4
      subst hi4
      subst hj5
      exact then_n ⟨(HF.keep (HF.keep HF.nil rfl) rfl), HT⟩
    have h := (if_neg hb1).symm.trans h
    refine wp_if (b' := false) HF rfl (decide_eq_false hb1) ?_
    obtain ⟨z6, hx4, h⟩ := obs h
    refine wp_cut (fun a w => Fr a 90 [(0, .pointer (some ⟨p_0, 0, none⟩)), (4, .pointer (some ⟨p1, 0, none⟩)), (5, .pointer (some ⟨p2, 0, none⟩)), (8, .int .i64 x1), (17, .bool z6)] ∧ St w0 F w [Box p_0 [.slice a_x0_0 x0_0.length c_x0_0, .int .i64 x0_1, .int .i64 x0_2], Box p1 [.int .i64 0, .int .i64 0, .int .i64 0, .int .i64 0], Box p2 [.int .i64 x1, .int .i64 0, .int .i64 0, .int .i64 0]]) ?_ ?_
    · have hk2 := h
      have h := hx4
      refine wp_seq ?_
      refine wc_text ?_
      refine wc_bin HF nS rfl rfl b_eq rfl rfl (fun a HF => ?_)
      refine wc_assign HF nS rfl rfl rfl (fun a HF => ?_)
      refine wc_end ?_
      refine then_n ?_
      by_cases hb2 : x1 = 2
      · have h := (if_pos hb2).symm.trans h
        refine wp_if (b' := true) HF rfl (decide_eq_true hb2) ?_
        refine wp_skip ?_
        have HT : St w0 F w [Box p_0 [.slice a_x0_0 x0_0.length c_x0_0, .int .i64 x0_1, .int .i64 x0_2], Box p1 [.int .i64 0, .int .i64 0, .int .i64 0, .int .i64 0], Box p2 [.int .i64 x1, .int .i64 0, .int .i64 0, .int .i64 0]] := (HT.pick 1).pick 2
        obtain rfl := Option.some.inj h
        exact then_n ⟨(HF.keep (HF.keep (HF.keep (HF.keep (HF.keep HF.nil rfl) rfl) rfl) rfl) rfl), HT⟩
      have h := (if_neg hb2).symm.trans h
      refine wp_if (b' := false) HF rfl (decide_eq_false hb2) ?_
      refine wp_seq ?_
      refine wc_text ?_
      refine wc_bin HF nS rfl rfl b_eq rfl rfl (fun a HF => ?_)
      refine wc_assign HF nS rfl rfl rfl (fun a HF => ?_)
      refine wc_end ?_
      refine then_n ?_
      by_cases hb3 : x1 = 3
      · have h := (if_pos hb3).symm.trans h
        refine wp_if (b' := true) HF rfl (decide_eq_true hb3) ?_
        refine wp_skip ?_
        have HT : St w0 F w [Box p_0 [.slice a_x0_0 x0_0.length c_x0_0, .int .i64 x0_1, .int .i64 x0_2], Box p1 [.int .i64 0, .int .i64 0, .int .i64 0, .int .i64 0], Box p2 [.int .i64 x1, .int .i64 0, .int .i64 0, .int .i64 0]] := (HT.pick 1).pick 2
        obtain rfl := Option.some.inj h
        exact then_n ⟨(HF.keep (HF.keep (HF.keep (HF.keep (HF.keep HF.nil rfl) rfl) rfl) rfl) rfl), HT⟩
      have h := (if_neg hb3).symm.trans h
      refine wp_if (b' := false) HF rfl (decide_eq_false hb3) ?_
      refine wc_text ?_
      refine wc_bin HF nS rfl rfl b_eq rfl rfl (fun a HF => ?_)
      refine wc_assign HF nS rfl rfl rfl (fun a HF => ?_)
      refine wc_end ?_
      have HT : St w0 F w [Box p_0 [.slice a_x0_0 x0_0.length c_x0_0, .int .i64 x0_1, .int .i64 x0_2], Box p1 [.int .i64 0, .int .i64 0, .int .i64 0, .int .i64 0], Box p2 [.int .i64 x1, .int .i64 0, .int .i64 0, .int .i64 0]] := (HT.pick 1).pick 2
      obtain rfl := Option.some.inj h
      exact then_n ⟨(HF.keep (HF.keep (HF.keep (HF.keep (HF.keep HF.nil rfl) rfl) rfl) rfl) rfl), HT⟩
    rintro a w ⟨HF, HT⟩
    refine ?_
    by_cases hb4 : z6 = true
    · have h := (if_pos hb4).symm.trans h
      refine wp_if (b' := true) HF rfl hb4 ?_
      refine wp_seq ?_
      refine wc_text ?_
      refine wc_move HF nS rfl rfl rfl (fun a HF => ?_)
      obtain ⟨y7, y8, y9, hx5, h⟩ := obs3 h
      obtain ⟨F3, hAF3, hFF3, hbackF3, hroF3, hownF3, hownAF3⟩ := St.handR2 (A := [Box p_0 [.slice a_x0_0 x0_0.length c_x0_0, .int .i64 x0_1, .int .i64 x0_2]]) HT
      refine wc_call HF cf63 rfl (w_spec_l4DrawReg fuel hx5 hAF3 (hroF3 hr_x0_0)) rfl rfl ?_
      rintro e w ⟨rfl, hE⟩
      have HT := hbackF3 _ _ hE
      have HT : St w0 F w [Box p_0 [.slice a_x0_0 x0_0.length c_x0_0, .int .i64 y8, .int .i64 y9], Box p1 [.int .i64 0, .int .i64 0, .int .i64 0, .int .i64 0], Box p2 [.int .i64 x1, .int .i64 0, .int .i64 0, .int .i64 0]] := HT
      refine ⟨_, rfl, nS, fun a HF => ?_⟩
      refine wc_faddr HF nS rfl fl45_1 rfl rfl (fun a HF => ?_)
      have HT : St w0 F w [Box p2 [.int .i64 x1, .int .i64 0, .int .i64 0, .int .i64 0], Box p_0 [.slice a_x0_0 x0_0.length c_x0_0, .int .i64 y8, .int .i64 y9], Box p1 [.int .i64 0, .int .i64 0, .int .i64 0, .int .i64 0]] := HT.pick 2
      refine wc_storeB (cs' := [.int .i64 x1, .int .i64 y7, .int .i64 0, .int .i64 0]) HF HT rfl rfl (fun w => (sc3 w).2) rfl rfl rfl rfl rfl (fun w HT => ⟨nS, ?_⟩)
      refine wc_end ?_
      refine then_n ?_
      refine wp_seq ?_
      refine wc_text ?_
      refine wc_move HF nS rfl rfl rfl (fun a HF => ?_)
      obtain ⟨y10, y11, y12, hx6, h⟩ := obs3 h
      have HT : St w0 F w [Box p_0 [.slice a_x0_0 x0_0.length c_x0_0, .int .i64 y8, .int .i64 y9], Box p2 [.int .i64 x1, .int .i64 y7, .int .i64 0, .int .i64 0], Box p1 [.int .i64 0, .int .i64 0, .int .i64 0, .int .i64 0]] := HT.pick 1
      obtain ⟨F4, hAF4, hFF4, hbackF4, hroF4, hownF4, hownAF4⟩ := St.handR2 (A := [Box p_0 [.slice a_x0_0 x0_0.length c_x0_0, .int .i64 y8, .int .i64 y9]]) HT
      refine wc_call HF cf63 rfl (w_spec_l4DrawReg fuel hx6 hAF4 (hroF4 hr_x0_0)) rfl rfl ?_
      rintro e w ⟨rfl, hE⟩
      have HT := hbackF4 _ _ hE
      have HT : St w0 F w [Box p_0 [.slice a_x0_0 x0_0.length c_x0_0, .int .i64 y11, .int .i64 y12], Box p2 [.int .i64 x1, .int .i64 y7, .int .i64 0, .int .i64 0], Box p1 [.int .i64 0, .int .i64 0, .int .i64 0, .int .i64 0]] := HT
      refine ⟨_, rfl, nS, fun a HF => ?_⟩
      refine wc_faddr HF nS rfl fl45_2 rfl rfl (fun a HF => ?_)
      have HT : St w0 F w [Box p2 [.int .i64 x1, .int .i64 y7, .int .i64 0, .int .i64 0], Box p_0 [.slice a_x0_0 x0_0.length c_x0_0, .int .i64 y11, .int .i64 y12], Box p1 [.int .i64 0, .int .i64 0, .int .i64 0, .int .i64 0]] := HT.pick 1
      refine wc_storeB (cs' := [.int .i64 x1, .int .i64 y7, .int .i64 y10, .int .i64 0]) HF HT rfl rfl (fun w => (sc3 w).2) rfl rfl rfl rfl rfl (fun w HT => ⟨nS, ?_⟩)
      refine wc_end ?_
      refine then_n ?_
      refine wc_text ?_
      refine wc_move HF nS rfl rfl rfl (fun a HF => ?_)
      obtain ⟨y13, y14, y15, hx7, h⟩ := obs3 h
      have HT : St w0 F w [Box p_0 [.slice a_x0_0 x0_0.length c_x0_0, .int .i64 y11, .int .i64 y12], Box p2 [.int .i64 x1, .int .i64 y7, .int .i64 y10, .int .i64 0], Box p1 [.int .i64 0, .int .i64 0, .int .i64 0, .int .i64 0]] := HT.pick 1
      obtain ⟨F5, hAF5, hFF5, hbackF5, hroF5, hownF5, hownAF5⟩ := St.handR2 (A := [Box p_0 [.slice a_x0_0 x0_0.length c_x0_0, .int .i64 y11, .int .i64 y12]]) HT
      refine wc_call HF cf63 rfl (w_spec_l4DrawReg fuel hx7 hAF5 (hroF5 hr_x0_0)) rfl rfl ?_
      rintro e w ⟨rfl, hE⟩
      have HT := hbackF5 _ _ hE
      have HT : St w0 F w [Box p_0 [.slice a_x0_0 x0_0.length c_x0_0, .int .i64 y14, .int .i64 y15], Box p2 [.int .i64 x1, .int .i64 y7, .int .i64 y10, .int .i64 0], Box p1 [.int .i64 0, .int .i64 0, .int .i64 0, .int .i64 0]] := HT
      refine ⟨_, rfl, nS, fun a HF => ?_⟩
      refine wc_faddr HF nS rfl fl45_3 rfl rfl (fun a HF => ?_)
      have HT : St w0 F w [Box p2 [.int .i64 x1, .int .i64 y7, .int .i64 y10, .int .i64 0], Box p_0 [.slice a_x0_0 x0_0.length c_x0_0, .int .i64 y14, .int .i64 y15], Box p1 [.int .i64 0, .int .i64 0, .int .i64 0, .int .i64 0]] := HT.pick 1
      refine wc_storeB (cs' := [.int .i64 x1, .int .i64 y7, .int .i64 y10, .int .i64 y13]) HF HT rfl rfl (fun w => (sc3 w).2) rfl rfl rfl rfl rfl (fun w HT => ⟨nS, ?_⟩)
      refine wc_end ?_
      refine blk_n ?_
      have HT : St w0 F w [Box p1 [.int .i64 0, .int .i64 0, .int .i64 0, .int .i64 0], Box p2 [.int .i64 x1, .int .i64 y7, .int .i64 y10, .int .i64 y13], Box p_0 [.slice a_x0_0 x0_0.length c_x0_0, .int .i64 y14, .int .i64 y15]] := ((HT.pick 1).pick 1).pick 2
      have hj6 := Option.some.inj h
      obtain ⟨hi6, hj7⟩ := Prod.mk.inj hj6
      subst hi6
      obtain ⟨hi7, hj8⟩ := Prod.mk.inj hj7
      subst hi7
      obtain ⟨hi8, hj9⟩ := Prod.mk.inj hj8
      subst hi8
      obtain ⟨hi9, hj10⟩ := Prod.mk.inj hj9
      subst hi9
      subst hj10
      exact then_n ⟨(HF.keep (HF.keep HF.nil rfl) rfl), HT⟩
    have h := (if_neg hb4).symm.trans h
    refine wp_if (b' := false) HF rfl (Bool.eq_false_iff.2 hb4) ?_
    refine wp_seq ?_
    refine wc_text ?_
    refine wc_bin HF nS rfl rfl b_eq rfl rfl (fun a HF => ?_)
    refine wc_assign HF nS rfl rfl rfl (fun a HF => ?_)
    refine wc_end ?_
    refine then_n ?_
    by_cases hb5 : x1 = 5
    · have h := (if_pos hb5).symm.trans h
      refine wp_if (b' := true) HF rfl (decide_eq_true hb5) ?_
      refine wp_seq ?_
      refine wc_text ?_
      refine wc_move HF nS rfl rfl rfl (fun a HF => ?_)
      obtain ⟨y16, y17, y18, hx8, h⟩ := obs3 h
      obtain ⟨F6, hAF6, hFF6, hbackF6, hroF6, hownF6, hownAF6⟩ := St.handR2 (A := [Box p_0 [.slice a_x0_0 x0_0.length c_x0_0, .int .i64 x0_1, .int .i64 x0_2]]) HT
      refine wc_call HF cf63 rfl (w_spec_l4DrawReg fuel hx8 hAF6 (hroF6 hr_x0_0)) rfl rfl ?_
      rintro e w ⟨rfl, hE⟩
      have HT := hbackF6 _ _ hE
      have HT : St w0 F w [Box p_0 [.slice a_x0_0 x0_0.length c_x0_0, .int .i64 y17, .int .i64 y18], Box p1 [.int .i64 0, .int .i64 0, .int .i64 0, .int .i64 0], Box p2 [.int .i64 x1, .int .i64 0, .int .i64 0, .int .i64 0]] := HT
      refine ⟨_, rfl, nS, fun a HF => ?_⟩
      refine wc_faddr HF nS rfl fl45_1 rfl rfl (fun a HF => ?_)
      have HT : St w0 F w [Box p2 [.int .i64 x1, .int .i64 0, .int .i64 0, .int .i64 0], Box p_0 [.slice a_x0_0 x0_0.length c_x0_0, .int .i64 y17, .int .i64 y18], Box p1 [.int .i64 0, .int .i64 0, .int .i64 0, .int .i64 0]] := HT.pick 2
      refine wc_storeB (cs' := [.int .i64 x1, .int .i64 y16, .int .i64 0, .int .i64 0]) HF HT rfl rfl (fun w => (sc3 w).2) rfl rfl rfl rfl rfl (fun w HT => ⟨nS, ?_⟩)
      refine wc_end ?_
      refine then_n ?_
      refine wc_text ?_
      refine wc_move HF nS rfl rfl rfl (fun a HF => ?_)
      obtain ⟨y19, y20, y21, hx9, h⟩ := obs3 h
      have HT : St w0 F w [Box p_0 [.slice a_x0_0 x0_0.length c_x0_0, .int .i64 y17, .int .i64 y18], Box p2 [.int .i64 x1, .int .i64 y16, .int .i64 0, .int .i64 0], Box p1 [.int .i64 0, .int .i64 0, .int .i64 0, .int .i64 0]] := HT.pick 1
      obtain ⟨F7, hAF7, hFF7, hbackF7, hroF7, hownF7, hownAF7⟩ := St.handR2 (A := [Box p_0 [.slice a_x0_0 x0_0.length c_x0_0, .int .i64 y17, .int .i64 y18]]) HT
      refine wc_call HF cf65 rfl (w_spec_l4DrawCell fuel hx9 hAF7 (hroF7 hr_x0_0)) rfl rfl ?_
      rintro e w ⟨rfl, hE⟩
      have HT := hbackF7 _ _ hE
      have HT : St w0 F w [Box p_0 [.slice a_x0_0 x0_0.length c_x0_0, .int .i64 y20, .int .i64 y21], Box p2 [.int .i64 x1, .int .i64 y16, .int .i64 0, .int .i64 0], Box p1 [.int .i64 0, .int .i64 0, .int .i64 0, .int .i64 0]] := HT
      refine ⟨_, rfl, nS, fun a HF => ?_⟩
      refine wc_faddr HF nS rfl fl45_2 rfl rfl (fun a HF => ?_)
      have HT : St w0 F w [Box p2 [.int .i64 x1, .int .i64 y16, .int .i64 0, .int .i64 0], Box p_0 [.slice a_x0_0 x0_0.length c_x0_0, .int .i64 y20, .int .i64 y21], Box p1 [.int .i64 0, .int .i64 0, .int .i64 0, .int .i64 0]] := HT.pick 1
      refine wc_storeB (cs' := [.int .i64 x1, .int .i64 y16, .int .i64 y19, .int .i64 0]) HF HT rfl rfl (fun w => (sc3 w).2) rfl rfl rfl rfl rfl (fun w HT => ⟨nS, ?_⟩)
      refine wc_end ?_
      refine blk_n ?_
      have HT : St w0 F w [Box p1 [.int .i64 0, .int .i64 0, .int .i64 0, .int .i64 0], Box p2 [.int .i64 x1, .int .i64 y16, .int .i64 y19, .int .i64 0], Box p_0 [.slice a_x0_0 x0_0.length c_x0_0, .int .i64 y20, .int .i64 y21]] := ((HT.pick 1).pick 1).pick 2
      have hj11 := Option.some.inj h
      obtain ⟨hi11, hj12⟩ := Prod.mk.inj hj11
      subst hi11
      obtain ⟨hi12, hj13⟩ := Prod.mk.inj hj12
      subst hi12
      obtain ⟨hi13, hj14⟩ := Prod.mk.inj hj13
      subst hi13
      obtain ⟨hi14, hj15⟩ := Prod.mk.inj hj14
      subst hi14
      subst hj15
      exact then_n ⟨(HF.keep (HF.keep HF.nil rfl) rfl), HT⟩
    have h := (if_neg hb5).symm.trans h
    refine wp_if (b' := false) HF rfl (decide_eq_false hb5) ?_
    refine wp_seq ?_
    refine wc_text ?_
    refine wc_bin HF nS rfl rfl b_eq rfl rfl (fun a HF => ?_)
    refine wc_assign HF nS rfl rfl rfl (fun a HF => ?_)
    refine wc_end ?_
    refine then_n ?_
    by_cases hb6 : x1 = 6
    · have h := (if_pos hb6).symm.trans h
      refine wp_if (b' := true) HF rfl (decide_eq_true hb6) ?_
      refine wp_seq ?_
      refine wc_text ?_
      refine wc_move HF nS rfl rfl rfl (fun a HF => ?_)
      obtain ⟨y22, y23, y24, hx10, h⟩ := obs3 h
      obtain ⟨F8, hAF8, hFF8, hbackF8, hroF8, hownF8, hownAF8⟩ := St.handR2 (A := [Box p_0 [.slice a_x0_0 x0_0.length c_x0_0, .int .i64 x0_1, .int .i64 x0_2]]) HT
      refine wc_call HF cf65 rfl (w_spec_l4DrawCell fuel hx10 hAF8 (hroF8 hr_x0_0)) rfl rfl ?_
      rintro e w ⟨rfl, hE⟩
      have HT := hbackF8 _ _ hE
      have HT : St w0 F w [Box p_0 [.slice a_x0_0 x0_0.length c_x0_0, .int .i64 y23, .int .i64 y24], Box p1 [.int .i64 0, .int .i64 0, .int .i64 0, .int .i64 0], Box p2 [.int .i64 x1, .int .i64 0, .int .i64 0, .int .i64 0]] := HT
      refine ⟨_, rfl, nS, fun a HF => ?_⟩
      refine wc_faddr HF nS rfl fl45_1 rfl rfl (fun a HF => ?_)
      have HT : St w0 F w [Box p2 [.int .i64 x1, .int .i64 0, .int .i64 0, .int .i64 0], Box p_0 [.slice a_x0_0 x0_0.length c_x0_0, .int .i64 y23, .int .i64 y24], Box p1 [.int .i64 0, .int .i64 0, .int .i64 0, .int .i64 0]] := HT.pick 2
      refine wc_storeB (cs' := [.int .i64 x1, .int .i64 y22, .int .i64 0, .int .i64 0]) HF HT rfl rfl (fun w => (sc3 w).2) rfl rfl rfl rfl rfl (fun w HT => ⟨nS, ?_⟩)
      refine wc_end ?_
      refine then_n ?_
      refine wc_text ?_
      refine wc_move HF nS rfl rfl rfl (fun a HF => ?_)
      obtain ⟨y25, y26, y27, hx11, h⟩ := obs3 h
      have HT : St w0 F w [Box p_0 [.slice a_x0_0 x0_0.length c_x0_0, .int .i64 y23, .int .i64 y24], Box p2 [.int .i64 x1, .int .i64 y22, .int .i64 0, .int .i64 0], Box p1 [.int .i64 0, .int .i64 0, .int .i64 0, .int .i64 0]] := HT.pick 1
      obtain ⟨F9, hAF9, hFF9, hbackF9, hroF9, hownF9, hownAF9⟩ := St.handR2 (A := [Box p_0 [.slice a_x0_0 x0_0.length c_x0_0, .int .i64 y23, .int .i64 y24]]) HT
      refine wc_call HF cf63 rfl (w_spec_l4DrawReg fuel hx11 hAF9 (hroF9 hr_x0_0)) rfl rfl ?_
      rintro e w ⟨rfl, hE⟩
      have HT := hbackF9 _ _ hE
      have HT : St w0 F w [Box p_0 [.slice a_x0_0 x0_0.length c_x0_0, .int .i64 y26, .int .i64 y27], Box p2 [.int .i64 x1, .int .i64 y22, .int .i64 0, .int .i64 0], Box p1 [.int .i64 0, .int .i64 0, .int .i64 0, .int .i64 0]] := HT
      refine ⟨_, rfl, nS, fun a HF => ?_⟩
      refine wc_faddr HF nS rfl fl45_2 rfl rfl (fun a HF => ?_)
      have HT : St w0 F w [Box p2 [.int .i64 x1, .int .i64 y22, .int .i64 0, .int .i64 0], Box p_0 [.slice a_x0_0 x0_0.length c_x0_0, .int .i64 y26, .int .i64 y27], Box p1 [.int .i64 0, .int .i64 0, .int .i64 0, .int .i64 0]] := HT.pick 1
      refine wc_storeB (cs' := [.int .i64 x1, .int .i64 y22, .int .i64 y25, .int .i64 0]) HF HT rfl rfl (fun w => (sc3 w).2) rfl rfl rfl rfl rfl (fun w HT => ⟨nS, ?_⟩)
      refine wc_end ?_
      refine blk_n ?_
      have HT : St w0 F w [Box p1 [.int .i64 0, .int .i64 0, .int .i64 0, .int .i64 0], Box p2 [.int .i64 x1, .int .i64 y22, .int .i64 y25, .int .i64 0], Box p_0 [.slice a_x0_0 x0_0.length c_x0_0, .int .i64 y26, .int .i64 y27]] := ((HT.pick 1).pick 1).pick 2
      have hj16 := Option.some.inj h
      obtain ⟨hi16, hj17⟩ := Prod.mk.inj hj16
      subst hi16
      obtain ⟨hi17, hj18⟩ := Prod.mk.inj hj17
      subst hi17
      obtain ⟨hi18, hj19⟩ := Prod.mk.inj hj18
      subst hi18
      obtain ⟨hi19, hj20⟩ := Prod.mk.inj hj19
      subst hi19
      subst hj20
      exact then_n ⟨(HF.keep (HF.keep HF.nil rfl) rfl), HT⟩
    have h := (if_neg hb6).symm.trans h
    refine wp_if (b' := false) HF rfl (decide_eq_false hb6) ?_
    refine wp_seq ?_
    refine wc_text ?_
    refine wc_bin HF nS rfl rfl b_eq rfl rfl (fun a HF => ?_)
    refine wc_assign HF nS rfl rfl rfl (fun a HF => ?_)
    refine wc_end ?_
    refine then_n ?_
    by_cases hb7 : x1 = 7
    · have h := (if_pos hb7).symm.trans h
      refine wp_if (b' := true) HF rfl (decide_eq_true hb7) ?_
      refine wp_seq ?_
      refine wc_text ?_
      refine wc_move HF nS rfl rfl rfl (fun a HF => ?_)
      obtain ⟨y28, y29, y30, hx12, h⟩ := obs3 h
      obtain ⟨F10, hAF10, hFF10, hbackF10, hroF10, hownF10, hownAF10⟩ := St.handR2 (A := [Box p_0 [.slice a_x0_0 x0_0.length c_x0_0, .int .i64 x0_1, .int .i64 x0_2]]) HT
      refine wc_call HF cf63 rfl (w_spec_l4DrawReg fuel hx12 hAF10 (hroF10 hr_x0_0)) rfl rfl ?_
      rintro e w ⟨rfl, hE⟩
      have HT := hbackF10 _ _ hE
      have HT : St w0 F w [Box p_0 [.slice a_x0_0 x0_0.length c_x0_0, .int .i64 y29, .int .i64 y30], Box p1 [.int .i64 0, .int .i64 0, .int .i64 0, .int .i64 0], Box p2 [.int .i64 x1, .int .i64 0, .int .i64 0, .int .i64 0]] := HT
      refine ⟨_, rfl, nS, fun a HF => ?_⟩
      refine wc_faddr HF nS rfl fl45_1 rfl rfl (fun a HF => ?_)
      have HT : St w0 F w [Box p2 [.int .i64 x1, .int .i64 0, .int .i64 0, .int .i64 0], Box p_0 [.slice a_x0_0 x0_0.length c_x0_0, .int .i64 y29, .int .i64 y30], Box p1 [.int .i64 0, .int .i64 0, .int .i64 0, .int .i64 0]] := HT.pick 2
      refine wc_storeB (cs' := [.int .i64 x1, .int .i64 y28, .int .i64 0, .int .i64 0]) HF HT rfl rfl (fun w => (sc3 w).2) rfl rfl rfl rfl rfl (fun w HT => ⟨nS, ?_⟩)
      refine wc_end ?_
      refine then_n ?_
      refine wc_text ?_
      refine wc_move HF nS rfl rfl rfl (fun a HF => ?_)
      obtain ⟨y31, y32, y33, hx13, h⟩ := obs3 h
      have HT : St w0 F w [Box p_0 [.slice a_x0_0 x0_0.length c_x0_0, .int .i64 y29, .int .i64 y30], Box p2 [.int .i64 x1, .int .i64 y28, .int .i64 0, .int .i64 0], Box p1 [.int .i64 0, .int .i64 0, .int .i64 0, .int .i64 0]] := HT.pick 1
      obtain ⟨F11, hAF11, hFF11, hbackF11, hroF11, hownF11, hownAF11⟩ := St.handR2 (A := [Box p_0 [.slice a_x0_0 x0_0.length c_x0_0, .int .i64 y29, .int .i64 y30]]) HT
      refine wc_call HF cf44 rfl (w_spec_l1Below fuel hx13 hAF11 (hroF11 hr_x0_0)) rfl rfl ?_
      rintro e w ⟨rfl, hE⟩
      have HT := hbackF11 _ _ hE
      have HT : St w0 F w [Box p_0 [.slice a_x0_0 x0_0.length c_x0_0, .int .i64 y32, .int .i64 y33], Box p2 [.int .i64 x1, .int .i64 y28, .int .i64 0, .int .i64 0], Box p1 [.int .i64 0, .int .i64 0, .int .i64 0, .int .i64 0]] := HT
      refine ⟨_, rfl, nS, fun a HF => ?_⟩
      obtain ⟨hg1, h⟩ := grd h
      refine wc_bin HF nS rfl rfl (b_add hg1) rfl rfl (fun a HF => ?_)
      refine wc_faddr HF nS rfl fl45_2 rfl rfl (fun a HF => ?_)
      have HT : St w0 F w [Box p2 [.int .i64 x1, .int .i64 y28, .int .i64 0, .int .i64 0], Box p_0 [.slice a_x0_0 x0_0.length c_x0_0, .int .i64 y32, .int .i64 y33], Box p1 [.int .i64 0, .int .i64 0, .int .i64 0, .int .i64 0]] := HT.pick 1
      refine wc_storeB (cs' := [.int .i64 x1, .int .i64 y28, .int .i64 (1 + y31), .int .i64 0]) HF HT rfl rfl (fun w => (sc3 w).2) rfl rfl rfl rfl rfl (fun w HT => ⟨nS, ?_⟩)
      refine wc_end ?_
      refine blk_n ?_
      have HT : St w0 F w [Box p1 [.int .i64 0, .int .i64 0, .int .i64 0, .int .i64 0], Box p2 [.int .i64 x1, .int .i64 y28, .int .i64 (1 + y31), .int .i64 0], Box p_0 [.slice a_x0_0 x0_0.length c_x0_0, .int .i64 y32, .int .i64 y33]] := ((HT.pick 1).pick 1).pick 2
      have hj21 := Option.some.inj h
      obtain ⟨hi21, hj22⟩ := Prod.mk.inj hj21
      subst hi21
      obtain ⟨hi22, hj23⟩ := Prod.mk.inj hj22
      subst hi22
      obtain ⟨hi23, hj24⟩ := Prod.mk.inj hj23
      subst hi23
      obtain ⟨hi24, hj25⟩ := Prod.mk.inj hj24
      subst hi24
      subst hj25
      exact then_n ⟨(HF.keep (HF.keep HF.nil rfl) rfl), HT⟩
    have h := (if_neg hb7).symm.trans h
    refine wp_if (b' := false) HF rfl (decide_eq_false hb7) ?_
    obtain ⟨z7, hx14, h⟩ := obs h
    refine wp_cut (fun a w => Fr a 90 [(0, .pointer (some ⟨p_0, 0, none⟩)), (4, .pointer (some ⟨p1, 0, none⟩)), (5, .pointer (some ⟨p2, 0, none⟩)), (8, .int .i64 x1), (55, .bool z7)] ∧ St w0 F w [Box p_0 [.slice a_x0_0 x0_0.length c_x0_0, .int .i64 x0_1, .int .i64 x0_2], Box p1 [.int .i64 0, .int .i64 0, .int .i64 0, .int .i64 0], Box p2 [.int .i64 x1, .int .i64 0, .int .i64 0, .int .i64 0]]) ?_ ?_
    · have hk2 := h
      have h := hx14
      refine wp_seq ?_
      refine wc_text ?_
      refine wc_bin HF nS rfl rfl b_eq rfl rfl (fun a HF => ?_)
      refine wc_assign HF nS rfl rfl rfl (fun a HF => ?_)
      refine wc_end ?_
      refine then_n ?_
      by_cases hb8 : x1 = 8
      · have h := (if_pos hb8).symm.trans h
        refine wp_if (b' := true) HF rfl (decide_eq_true hb8) ?_
        refine wp_skip ?_
        obtain rfl := Option.some.inj h
        exact then_n ⟨(HF.keep (HF.keep (HF.keep (HF.keep (HF.keep HF.nil rfl) rfl) rfl) rfl) rfl), HT⟩
      have h := (if_neg hb8).symm.trans h
      refine wp_if (b' := false) HF rfl (decide_eq_false hb8) ?_
      refine wp_seq ?_
      refine wc_text ?_
      refine wc_bin HF nS rfl rfl b_eq rfl rfl (fun a HF => ?_)
      refine wc_assign HF nS rfl rfl rfl (fun a HF => ?_)
      refine wc_end ?_
      refine then_n ?_
      by_cases hb9 : x1 = 15
      · have h := (if_pos hb9).symm.trans h
        refine wp_if (b' := true) HF rfl (decide_eq_true hb9) ?_
        refine wp_skip ?_
        obtain rfl := Option.some.inj h
        exact then_n ⟨(HF.keep (HF.keep (HF.keep (HF.keep (HF.keep HF.nil rfl) rfl) rfl) rfl) rfl), HT⟩
      have h := (if_neg hb9).symm.trans h
      refine wp_if (b' := false) HF rfl (decide_eq_false hb9) ?_
      refine wc_text ?_
      refine wc_bin HF nS rfl rfl b_eq rfl rfl (fun a HF => ?_)
      refine wc_assign HF nS rfl rfl rfl (fun a HF => ?_)
      refine wc_end ?_
      obtain rfl := Option.some.inj h
      exact then_n ⟨(HF.keep (HF.keep (HF.keep (HF.keep (HF.keep HF.nil rfl) rfl) rfl) rfl) rfl), HT⟩
    rintro a w ⟨HF, HT⟩
    refine ?_
    by_cases hb10 : z7 = true
    · have h := (if_pos hb10).symm.trans h
      refine wp_if (b' := true) HF rfl hb10 ?_
      refine wc_text ?_
      refine wc_move HF nS rfl rfl rfl (fun a HF => ?_)
      obtain ⟨y34, y35, y36, hx15, h⟩ := obs3 h
      obtain ⟨F12, hAF12, hFF12, hbackF12, hroF12, hownF12, hownAF12⟩ := St.handR2 (A := [Box p_0 [.slice a_x0_0 x0_0.length c_x0_0, .int .i64 x0_1, .int .i64 x0_2]]) HT
      refine wc_call HF cf63 rfl (w_spec_l4DrawReg fuel hx15 hAF12 (hroF12 hr_x0_0)) rfl rfl ?_
      rintro e w ⟨rfl, hE⟩
      have HT := hbackF12 _ _ hE
      have HT : St w0 F w [Box p_0 [.slice a_x0_0 x0_0.length c_x0_0, .int .i64 y35, .int .i64 y36], Box p1 [.int .i64 0, .int .i64 0, .int .i64 0, .int .i64 0], Box p2 [.int .i64 x1, .int .i64 0, .int .i64 0, .int .i64 0]] := HT
      refine ⟨_, rfl, nS, fun a HF => ?_⟩
      refine wc_faddr HF nS rfl fl45_1 rfl rfl (fun a HF => ?_)
      have HT : St w0 F w [Box p2 [.int .i64 x1, .int .i64 0, .int .i64 0, .int .i64 0], Box p_0 [.slice a_x0_0 x0_0.length c_x0_0, .int .i64 y35, .int .i64 y36], Box p1 [.int .i64 0, .int .i64 0, .int .i64 0, .int .i64 0]] := HT.pick 2
      refine wc_storeB (cs' := [.int .i64 x1, .int .i64 y34, .int .i64 0, .int .i64 0]) HF HT rfl rfl (fun w => (sc3 w).2) rfl rfl rfl rfl rfl (fun w HT => ⟨nS, ?_⟩)
      refine wc_end ?_
      refine blk_n ?_
      have HT : St w0 F w [Box p1 [.int .i64 0, .int .i64 0, .int .i64 0, .int .i64 0], Box p2 [.int .i64 x1, .int .i64 y34, .int .i64 0, .int .i64 0], Box p_0 [.slice a_x0_0 x0_0.length c_x0_0, .int .i64 y35, .int .i64 y36]] := ((HT.pick 1).pick 1).pick 2
      have hj26 := Option.some.inj h
      obtain ⟨hi26, hj27⟩ := Prod.mk.inj hj26
      subst hi26
      obtain ⟨hi27, hj28⟩ := Prod.mk.inj hj27
      subst hi27
      obtain ⟨hi28, hj29⟩ := Prod.mk.inj hj28
      subst hi28
      obtain ⟨hi29, hj30⟩ := Prod.mk.inj hj29
      subst hi29
      subst hj30
      exact then_n ⟨(HF.keep (HF.keep HF.nil rfl) rfl), HT⟩
    have h := (if_neg hb10).symm.trans h
    refine wp_if (b' := false) HF rfl (Bool.eq_false_iff.2 hb10) ?_
    refine wp_seq ?_
    refine wc_text ?_
    refine wc_bin HF nS rfl rfl b_eq rfl rfl (fun a HF => ?_)
    refine wc_assign HF nS rfl rfl rfl (fun a HF => ?_)
    refine wc_end ?_
    refine then_n ?_
    by_cases hb11 : x1 = 12
    · have h := (if_pos hb11).symm.trans h
      refine wp_if (b' := true) HF rfl (decide_eq_true hb11) ?_
      refine wp_seq ?_
      refine wc_text ?_
      refine wc_move HF nS rfl rfl rfl (fun a HF => ?_)
      obtain ⟨y37, y38, y39, hx16, h⟩ := obs3 h
      obtain ⟨F13, hAF13, hFF13, hbackF13, hroF13, hownF13, hownAF13⟩ := St.handR2 (A := [Box p_0 [.slice a_x0_0 x0_0.length c_x0_0, .int .i64 x0_1, .int .i64 x0_2]]) HT
      refine wc_call HF cf66 rfl (w_spec_l4DrawKey fuel hx16 hAF13 (hroF13 hr_x0_0)) rfl rfl ?_
      rintro e w ⟨rfl, hE⟩
      have HT := hbackF13 _ _ hE
      have HT : St w0 F w [Box p_0 [.slice a_x0_0 x0_0.length c_x0_0, .int .i64 y38, .int .i64 y39], Box p1 [.int .i64 0, .int .i64 0, .int .i64 0, .int .i64 0], Box p2 [.int .i64 x1, .int .i64 0, .int .i64 0, .int .i64 0]] := HT
      refine ⟨_, rfl, nS, fun a HF => ?_⟩
      refine wc_faddr HF nS rfl fl45_1 rfl rfl (fun a HF => ?_)
      have HT : St w0 F w [Box p2 [.int .i64 x1, .int .i64 0, .int .i64 0, .int .i64 0], Box p_0 [.slice a_x0_0 x0_0.length c_x0_0, .int .i64 y38, .int .i64 y39], Box p1 [.int .i64 0, .int .i64 0, .int .i64 0, .int .i64 0]] := HT.pick 2
      refine wc_storeB (cs' := [.int .i64 x1, .int .i64 y37, .int .i64 0, .int .i64 0]) HF HT rfl rfl (fun w => (sc3 w).2) rfl rfl rfl rfl rfl (fun w HT => ⟨nS, ?_⟩)
      refine wc_end ?_
      refine then_n ?_
      refine wp_seq ?_
      refine wc_text ?_
      refine wc_move HF nS rfl rfl rfl (fun a HF => ?_)
      obtain ⟨y40, y41, y42, hx17, h⟩ := obs3 h
      have HT : St w0 F w [Box p_0 [.slice a_x0_0 x0_0.length c_x0_0, .int .i64 y38, .int .i64 y39], Box p2 [.int .i64 x1, .int .i64 y37, .int .i64 0, .int .i64 0], Box p1 [.int .i64 0, .int .i64 0, .int .i64 0, .int .i64 0]] := HT.pick 1
      obtain ⟨F14, hAF14, hFF14, hbackF14, hroF14, hownF14, hownAF14⟩ := St.handR2 (A := [Box p_0 [.slice a_x0_0 x0_0.length c_x0_0, .int .i64 y38, .int .i64 y39]]) HT
      refine wc_call HF cf63 rfl (w_spec_l4DrawReg fuel hx17 hAF14 (hroF14 hr_x0_0)) rfl rfl ?_
      rintro e w ⟨rfl, hE⟩
      have HT := hbackF14 _ _ hE
      have HT : St w0 F w [Box p_0 [.slice a_x0_0 x0_0.length c_x0_0, .int .i64 y41, .int .i64 y42], Box p2 [.int .i64 x1, .int .i64 y37, .int .i64 0, .int .i64 0], Box p1 [.int .i64 0, .int .i64 0, .int .i64 0, .int .i64 0]] := HT
      refine ⟨_, rfl, nS, fun a HF => ?_⟩
      refine wc_faddr HF nS rfl fl45_2 rfl rfl (fun a HF => ?_)
      have HT : St w0 F w [Box p2 [.int .i64 x1, .int .i64 y37, .int .i64 0, .int .i64 0], Box p_0 [.slice a_x0_0 x0_0.length c_x0_0, .int .i64 y41, .int .i64 y42], Box p1 [.int .i64 0, .int .i64 0, .int .i64 0, .int .i64 0]] := HT.pick 1
      refine wc_storeB (cs' := [.int .i64 x1, .int .i64 y37, .int .i64 y40, .int .i64 0]) HF HT rfl rfl (fun w => (sc3 w).2) rfl rfl rfl rfl rfl (fun w HT => ⟨nS, ?_⟩)
      refine wc_end ?_
      refine then_n ?_
      refine wc_text ?_
      refine wc_move HF nS rfl rfl rfl (fun a HF => ?_)
      obtain ⟨y43, y44, y45, hx18, h⟩ := obs3 h
      have HT : St w0 F w [Box p_0 [.slice a_x0_0 x0_0.length c_x0_0, .int .i64 y41, .int .i64 y42], Box p2 [.int .i64 x1, .int .i64 y37, .int .i64 y40, .int .i64 0], Box p1 [.int .i64 0, .int .i64 0, .int .i64 0, .int .i64 0]] := HT.pick 1
      obtain ⟨F15, hAF15, hFF15, hbackF15, hroF15, hownF15, hownAF15⟩ := St.handR2 (A := [Box p_0 [.slice a_x0_0 x0_0.length c_x0_0, .int .i64 y41, .int .i64 y42]]) HT
      refine wc_call HF cf63 rfl (w_spec_l4DrawReg fuel hx18 hAF15 (hroF15 hr_x0_0)) rfl rfl ?_
      rintro e w ⟨rfl, hE⟩
      have HT := hbackF15 _ _ hE
      have HT : St w0 F w [Box p_0 [.slice a_x0_0 x0_0.length c_x0_0, .int .i64 y44, .int .i64 y45], Box p2 [.int .i64 x1, .int .i64 y37, .int .i64 y40, .int .i64 0], Box p1 [.int .i64 0, .int .i64 0, .int .i64 0, .int .i64 0]] := HT
      refine ⟨_, rfl, nS, fun a HF => ?_⟩
      refine wc_faddr HF nS rfl fl45_3 rfl rfl (fun a HF => ?_)
      have HT : St w0 F w [Box p2 [.int .i64 x1, .int .i64 y37, .int .i64 y40, .int .i64 0], Box p_0 [.slice a_x0_0 x0_0.length c_x0_0, .int .i64 y44, .int .i64 y45], Box p1 [.int .i64 0, .int .i64 0, .int .i64 0, .int .i64 0]] := HT.pick 1
      refine wc_storeB (cs' := [.int .i64 x1, .int .i64 y37, .int .i64 y40, .int .i64 y43]) HF HT rfl rfl (fun w => (sc3 w).2) rfl rfl rfl rfl rfl (fun w HT => ⟨nS, ?_⟩)
      refine wc_end ?_
      refine blk_n ?_
      have HT : St w0 F w [Box p1 [.int .i64 0, .int .i64 0, .int .i64 0, .int .i64 0], Box p2 [.int .i64 x1, .int .i64 y37, .int .i64 y40, .int .i64 y43], Box p_0 [.slice a_x0_0 x0_0.length c_x0_0, .int .i64 y44, .int .i64 y45]] := ((HT.pick 1).pick 1).pick 2
      have hj31 := Option.some.inj h
      obtain ⟨hi31, hj32⟩ := Prod.mk.inj hj31
      subst hi31
      obtain ⟨hi32, hj33⟩ := Prod.mk.inj hj32
      subst hi32
      obtain ⟨hi33, hj34⟩ := Prod.mk.inj hj33
      subst hi33
      obtain ⟨hi34, hj35⟩ := Prod.mk.inj hj34
      subst hi34
      subst hj35
      exact then_n ⟨(HF.keep (HF.keep HF.nil rfl) rfl), HT⟩
    have h := (if_neg hb11).symm.trans h
    refine wp_if (b' := false) HF rfl (decide_eq_false hb11) ?_
    refine wp_seq ?_
    refine wc_text ?_
    refine wc_bin HF nS rfl rfl b_eq rfl rfl (fun a HF => ?_)
    refine wc_assign HF nS rfl rfl rfl (fun a HF => ?_)
    refine wc_end ?_
    refine then_n ?_
    by_cases hb12 : x1 = 13
    · have h := (if_pos hb12).symm.trans h
      refine wp_if (b' := true) HF rfl (decide_eq_true hb12) ?_
      refine wp_seq ?_
      refine wc_text ?_
      refine wc_move HF nS rfl rfl rfl (fun a HF => ?_)
      obtain ⟨y46, y47, y48, hx19, h⟩ := obs3 h
      obtain ⟨F16, hAF16, hFF16, hbackF16, hroF16, hownF16, hownAF16⟩ := St.handR2 (A := [Box p_0 [.slice a_x0_0 x0_0.length c_x0_0, .int .i64 x0_1, .int .i64 x0_2]]) HT
      refine wc_call HF cf63 rfl (w_spec_l4DrawReg fuel hx19 hAF16 (hroF16 hr_x0_0)) rfl rfl ?_
      rintro e w ⟨rfl, hE⟩
      have HT := hbackF16 _ _ hE
      have HT : St w0 F w [Box p_0 [.slice a_x0_0 x0_0.length c_x0_0, .int .i64 y47, .int .i64 y48], Box p1 [.int .i64 0, .int .i64 0, .int .i64 0, .int .i64 0], Box p2 [.int .i64 x1, .int .i64 0, .int .i64 0, .int .i64 0]] := HT
      refine ⟨_, rfl, nS, fun a HF => ?_⟩
      refine wc_faddr HF nS rfl fl45_1 rfl rfl (fun a HF => ?_)
      have HT : St w0 F w [Box p2 [.int .i64 x1, .int .i64 0, .int .i64 0, .int .i64 0], Box p_0 [.slice a_x0_0 x0_0.length c_x0_0, .int .i64 y47, .int .i64 y48], Box p1 [.int .i64 0, .int .i64 0, .int .i64 0, .int .i64 0]] := HT.pick 2
      refine wc_storeB (cs' := [.int .i64 x1, .int .i64 y46, .int .i64 0, .int .i64 0]) HF HT rfl rfl (fun w => (sc3 w).2) rfl rfl rfl rfl rfl (fun w HT => ⟨nS, ?_⟩)
      refine wc_end ?_
      refine then_n ?_
      refine wc_text ?_
      refine wc_move HF nS rfl rfl rfl (fun a HF => ?_)
      obtain ⟨y49, y50, y51, hx20, h⟩ := obs3 h
      have HT : St w0 F w [Box p_0 [.slice a_x0_0 x0_0.length c_x0_0, .int .i64 y47, .int .i64 y48], Box p2 [.int .i64 x1, .int .i64 y46, .int .i64 0, .int .i64 0], Box p1 [.int .i64 0, .int .i64 0, .int .i64 0, .int .i64 0]] := HT.pick 1
      obtain ⟨F17, hAF17, hFF17, hbackF17, hroF17, hownF17, hownAF17⟩ := St.handR2 (A := [Box p_0 [.slice a_x0_0 x0_0.length c_x0_0, .int .i64 y47, .int .i64 y48]]) HT
      refine wc_call HF cf66 rfl (w_spec_l4DrawKey fuel hx20 hAF17 (hroF17 hr_x0_0)) rfl rfl ?_
      rintro e w ⟨rfl, hE⟩
      have HT := hbackF17 _ _ hE
      have HT : St w0 F w [Box p_0 [.slice a_x0_0 x0_0.length c_x0_0, .int .i64 y50, .int .i64 y51], Box p2 [.int .i64 x1, .int .i64 y46, .int .i64 0, .int .i64 0], Box p1 [.int .i64 0, .int .i64 0, .int .i64 0, .int .i64 0]] := HT
      refine ⟨_, rfl, nS, fun a HF => ?_⟩
      refine wc_faddr HF nS rfl fl45_2 rfl rfl (fun a HF => ?_)
      have HT : St w0 F w [Box p2 [.int .i64 x1, .int .i64 y46, .int .i64 0, .int .i64 0], Box p_0 [.slice a_x0_0 x0_0.length c_x0_0, .int .i64 y50, .int .i64 y51], Box p1 [.int .i64 0, .int .i64 0, .int .i64 0, .int .i64 0]] := HT.pick 1
      refine wc_storeB (cs' := [.int .i64 x1, .int .i64 y46, .int .i64 y49, .int .i64 0]) HF HT rfl rfl (fun w => (sc3 w).2) rfl rfl rfl rfl rfl (fun w HT => ⟨nS, ?_⟩)
      refine wc_end ?_
      refine blk_n ?_
      have HT : St w0 F w [Box p1 [.int .i64 0, .int .i64 0, .int .i64 0, .int .i64 0], Box p2 [.int .i64 x1, .int .i64 y46, .int .i64 y49, .int .i64 0], Box p_0 [.slice a_x0_0 x0_0.length c_x0_0, .int .i64 y50, .int .i64 y51]] := ((HT.pick 1).pick 1).pick 2
      have hj36 := Option.some.inj h
      obtain ⟨hi36, hj37⟩ := Prod.mk.inj hj36
      subst hi36
      obtain ⟨hi37, hj38⟩ := Prod.mk.inj hj37
      subst hi37
      obtain ⟨hi38, hj39⟩ := Prod.mk.inj hj38
      subst hi38
      obtain ⟨hi39, hj40⟩ := Prod.mk.inj hj39
      subst hi39
      subst hj40
      exact then_n ⟨(HF.keep (HF.keep HF.nil rfl) rfl), HT⟩
    have h := (if_neg hb12).symm.trans h
    refine wp_if (b' := false) HF rfl (decide_eq_false hb12) ?_
    refine wp_seq ?_
    refine wc_text ?_
    refine wc_bin HF nS rfl rfl b_eq rfl rfl (fun a HF => ?_)
    refine wc_assign HF nS rfl rfl rfl (fun a HF => ?_)
    refine wc_end ?_
    refine then_n ?_
    by_cases hb13 : x1 = 14
    · have h := (if_pos hb13).symm.trans h
      refine wp_if (b' := true) HF rfl (decide_eq_true hb13) ?_
      refine wp_seq ?_
      refine wc_text ?_
      refine wc_move HF nS rfl rfl rfl (fun a HF => ?_)
      obtain ⟨y52, y53, y54, hx21, h⟩ := obs3 h
      obtain ⟨F18, hAF18, hFF18, hbackF18, hroF18, hownF18, hownAF18⟩ := St.handR2 (A := [Box p_0 [.slice a_x0_0 x0_0.length c_x0_0, .int .i64 x0_1, .int .i64 x0_2]]) HT
      refine wc_call HF cf66 rfl (w_spec_l4DrawKey fuel hx21 hAF18 (hroF18 hr_x0_0)) rfl rfl ?_
      rintro e w ⟨rfl, hE⟩
      have HT := hbackF18 _ _ hE
      have HT : St w0 F w [Box p_0 [.slice a_x0_0 x0_0.length c_x0_0, .int .i64 y53, .int .i64 y54], Box p1 [.int .i64 0, .int .i64 0, .int .i64 0, .int .i64 0], Box p2 [.int .i64 x1, .int .i64 0, .int .i64 0, .int .i64 0]] := HT
      refine ⟨_, rfl, nS, fun a HF => ?_⟩
      refine wc_faddr HF nS rfl fl45_1 rfl rfl (fun a HF => ?_)
      have HT : St w0 F w [Box p2 [.int .i64 x1, .int .i64 0, .int .i64 0, .int .i64 0], Box p_0 [.slice a_x0_0 x0_0.length c_x0_0, .int .i64 y53, .int .i64 y54], Box p1 [.int .i64 0, .int .i64 0, .int .i64 0, .int .i64 0]] := HT.pick 2
      refine wc_storeB (cs' := [.int .i64 x1, .int .i64 y52, .int .i64 0, .int .i64 0]) HF HT rfl rfl (fun w => (sc3 w).2) rfl rfl rfl rfl rfl (fun w HT => ⟨nS, ?_⟩)
      refine wc_end ?_
      refine then_n ?_
      refine wc_text ?_
      refine wc_move HF nS rfl rfl rfl (fun a HF => ?_)
      obtain ⟨y55, y56, y57, hx22, h⟩ := obs3 h
      have HT : St w0 F w [Box p_0 [.slice a_x0_0 x0_0.length c_x0_0, .int .i64 y53, .int .i64 y54], Box p2 [.int .i64 x1, .int .i64 y52, .int .i64 0, .int .i64 0], Box p1 [.int .i64 0, .int .i64 0, .int .i64 0, .int .i64 0]] := HT.pick 1
      obtain ⟨F19, hAF19, hFF19, hbackF19, hroF19, hownF19, hownAF19⟩ := St.handR2 (A := [Box p_0 [.slice a_x0_0 x0_0.length c_x0_0, .int .i64 y53, .int .i64 y54]]) HT
      refine wc_call HF cf63 rfl (w_spec_l4DrawReg fuel hx22 hAF19 (hroF19 hr_x0_0)) rfl rfl ?_
      rintro e w ⟨rfl, hE⟩
      have HT := hbackF19 _ _ hE
      have HT : St w0 F w [Box p_0 [.slice a_x0_0 x0_0.length c_x0_0, .int .i64 y56, .int .i64 y57], Box p2 [.int .i64 x1, .int .i64 y52, .int .i64 0, .int .i64 0], Box p1 [.int .i64 0, .int .i64 0, .int .i64 0, .int .i64 0]] := HT
      refine ⟨_, rfl, nS, fun a HF => ?_⟩
      refine wc_faddr HF nS rfl fl45_2 rfl rfl (fun a HF => ?_)
      have HT : St w0 F w [Box p2 [.int .i64 x1, .int .i64 y52, .int .i64 0, .int .i64 0], Box p_0 [.slice a_x0_0 x0_0.length c_x0_0, .int .i64 y56, .int .i64 y57], Box p1 [.int .i64 0, .int .i64 0, .int .i64 0, .int .i64 0]] := HT.pick 1
      refine wc_storeB (cs' := [.int .i64 x1, .int .i64 y52, .int .i64 y55, .int .i64 0]) HF HT rfl rfl (fun w => (sc3 w).2) rfl rfl rfl rfl rfl (fun w HT => ⟨nS, ?_⟩)
      refine wc_end ?_
      refine blk_n ?_
      have HT : St w0 F w [Box p1 [.int .i64 0, .int .i64 0, .int .i64 0, .int .i64 0], Box p2 [.int .i64 x1, .int .i64 y52, .int .i64 y55, .int .i64 0], Box p_0 [.slice a_x0_0 x0_0.length c_x0_0, .int .i64 y56, .int .i64 y57]] := ((HT.pick 1).pick 1).pick 2
      have hj41 := Option.some.inj h
      obtain ⟨hi41, hj42⟩ := Prod.mk.inj hj41
      subst hi41
      obtain ⟨hi42, hj43⟩ := Prod.mk.inj hj42
      subst hi42
      obtain ⟨hi43, hj44⟩ := Prod.mk.inj hj43
      subst hi43
      obtain ⟨hi44, hj45⟩ := Prod.mk.inj hj44
      subst hi44
      subst hj45
      exact then_n ⟨(HF.keep (HF.keep HF.nil rfl) rfl), HT⟩
    have h := (if_neg hb13).symm.trans h
    refine wp_if (b' := false) HF rfl (decide_eq_false hb13) ?_
    refine wp_skip ?_
    refine blk_n ?_
    have HT : St w0 F w [Box p1 [.int .i64 0, .int .i64 0, .int .i64 0, .int .i64 0], Box p2 [.int .i64 x1, .int .i64 0, .int .i64 0, .int .i64 0], Box p_0 [.slice a_x0_0 x0_0.length c_x0_0, .int .i64 x0_1, .int .i64 x0_2]] := (HT.pick 2).pick 2
    have hj46 := Option.some.inj h
    obtain ⟨hi46, hj47⟩ := Prod.mk.inj hj46
    subst hi46
    obtain ⟨hi47, hj48⟩ := Prod.mk.inj hj47
    subst hi47
    obtain ⟨hi48, hj49⟩ := Prod.mk.inj hj48
    subst hi48
    obtain ⟨hi49, hj50⟩ := Prod.mk.inj hj49
    subst hi49
    subst hj50
    exact then_n ⟨(HF.keep (HF.keep HF.nil rfl) rfl), HT⟩
  rintro a w ⟨HF, HT⟩
  refine ?_
  refine wp_seq ?_
  refine wc_text ?_
  refine wc_loadA (vs := [.int .i64 x1, .int .i64 z1, .int .i64 z2, .int .i64 z3]) HF rfl ag45 rfl ((HT.boxAt 1 rfl).part 0 4) rfl rfl (fun a HF => ?_)
  refine wc_storeB (cs' := [.int .i64 x1, .int .i64 z1, .int .i64 z2, .int .i64 z3]) HF HT rfl rfl (fun w => (ag45 w).2) rfl rfl rfl rfl rfl (fun w HT => ⟨nS, ?_⟩)
  refine wc_end ?_
  refine then_n ?_
  refine wp_ret ?_
  have hj51 := Option.some.inj h
  obtain ⟨hi51, hj52⟩ := Prod.mk.inj hj51
  subst hi51
  obtain ⟨hi52, hj53⟩ := Prod.mk.inj hj52
  subst hi52
  obtain ⟨hi53, hj54⟩ := Prod.mk.inj hj53
  subst hi53
  obtain ⟨hi54, hj55⟩ := Prod.mk.inj hj54
  subst hi54
  obtain ⟨hi55, hj56⟩ := Prod.mk.inj hj55
  subst hi55
  subst hj56
  refine bp_ret HF (res_cell (vs := [.int .i64 x1, .int .i64 z1, .int .i64 z2, .int .i64 z3]) rfl HF rfl ag45 rfl (HT.boxAt 0 rfl)) ?_
  have HT : St w0 F w [Box p_0 [.slice a_x0_0 x0_0.length c_x0_0, .int .i64 z4, .int .i64 z5]] := (HT.pick 2).take 1
  exact ⟨rfl, HT⟩

def m_spec_l4Any (fuel : Nat) (x0_0 : List UInt8) (x0_1 : Int) (x0_2 : Int) : Option (Int × Int × Int × Int × Int × Int) :=
  bind3 (m_spec_l1Below fuel x0_0 x0_1 x0_2 16) fun y1 y2 y3 =>
  if in64 (1 + y1) then
    bind6 (m_spec_l4Plain fuel x0_0 y2 y3 (1 + y1)) fun y4 y5 y6 y7 y8 y9 =>
    bind6 (
      bind3 (m_spec_l1Below fuel x0_0 y8 y9 16) fun y10 y11 y12 =>
      if y10 = 0 then
        bind3 (m_spec_l1PickInt fuel x0_0 y11 y12 ([(-1), 4, 8] : List Int)) fun y13 y14 y15 =>
        some (y4, y13, y6, y7, y14, y15)
      else
      if y10 = 1 then
        bind3 (m_spec_l1PickInt fuel x0_0 y11 y12 ([(-1), 4, 8, 65536, 21] : List Int)) fun y16 y17 y18 =>
        some (y4, y5, y16, y7, y17, y18)
      else
      if y10 = 2 then
        bind3 (m_spec_l1PickInt fuel x0_0 y11 y12 ([(-1), 4, 1] : List Int)) fun y19 y20 y21 =>
        some (y4, y5, y6, y19, y20, y21)
      else
      if y10 = 3 then
        bind3 (m_spec_l1PickInt fuel x0_0 y11 y12 ([0, 17, (-3)] : List Int)) fun y22 y23 y24 =>
        some (y22, y5, y6, y7, y23, y24)
      else
      some (y4, y5, y6, y7, y11, y12)) fun z1 z2 z3 z4 z5 z6 =>
    some (z1, z2, z3, z4, z5, z6)
  else none

set_option maxRecDepth 100000 in
set_option maxHeartbeats 4000000 in
theorem w_spec_l4Any (fuel : Nat) {x0_0 : List UInt8} {x0_1 : Int} {x0_2 : Int} {a_x0_0 : Option Addr} {n_x0_0 c_x0_0 : Nat} {p_0 : Nat} {r0_0 : Int} {r0_1 : Int} {r0_2 : Int} {r0_3 : Int} {x0_1' : Int} {x0_2' : Int} {F : Foot} {w0 : World} (h : m_spec_l4Any fuel x0_0 x0_1 x0_2 = some (r0_0, r0_1, r0_2, r0_3, x0_1', x0_2')) (hA : StF w0 F [Box p_0 [.slice a_x0_0 n_x0_0 c_x0_0, .int .i64 x0_1, .int .i64 x0_2]]) (hr_x0_0 : RdT (fun b => ¬ F b) w0 (rowT x0_0) (.slice a_x0_0 n_x0_0 c_x0_0)) :
    Calls Try.prog 60 #[.pointer (some ⟨p_0, 0, none⟩)] w0 fun e w => e = .returned (.agg #[.int .i64 r0_0, .int .i64 r0_1, .int .i64 r0_2, .int .i64 r0_3]) ∧ St w0 F w [Box p_0 [.slice a_x0_0 n_x0_0 c_x0_0, .int .i64 x0_1', .int .i64 x0_2']] := by
  have HT0 := St.init hA
  obtain rfl := hr_x0_0.neq
  have HT : St w0 F w0 [Box p_0 [.slice a_x0_0 x0_0.length c_x0_0, .int .i64 x0_1, .int .i64 x0_2]] := St.init hA
  rw [m_spec_l4Any] at h
  refine calls_fr (n := 36) [.pointer (some ⟨p_0, 0, none⟩)] Try.func60 rfl rfl rfl (fun a HF => ?_)
  have HT : St w0 F w0 [Box p_0 [.slice a_x0_0 x0_0.length c_x0_0, .int .i64 x0_1, .int .i64 x0_2]] := HT
  refine wp_seq ?_
  refine wc_text ?_
  refine wc_alloc (cs := [.int .i64 0, .int .i64 0, .int .i64 0, .int .i64 0]) HF HT zr45 rfl rfl rfl (fun p1 w HT hb => ⟨nS, fun a HF => ?_⟩)
  refine wc_end ?_
  refine then_n ?_
  refine wp_seq ?_
  refine wc_text ?_
  refine wc_move HF nS rfl rfl rfl (fun a HF => ?_)
  refine wc_move HF nS rfl rfl rfl (fun a HF => ?_)
  obtain ⟨y1, y2, y3, hx1, h⟩ := obs3 h
  have HT : St w0 F w [Box p_0 [.slice a_x0_0 x0_0.length c_x0_0, .int .i64 x0_1, .int .i64 x0_2], Box p1 [.int .i64 0, .int .i64 0, .int .i64 0, .int .i64 0]] := HT.pick 1
  obtain ⟨F1, hAF1, hFF1, hbackF1, hroF1, hownF1, hownAF1⟩ := St.handR2 (A := [Box p_0 [.slice a_x0_0 x0_0.length c_x0_0, .int .i64 x0_1, .int .i64 x0_2]]) HT
  refine wc_call HF cf44 rfl (w_spec_l1Below fuel hx1 hAF1 (hroF1 hr_x0_0)) rfl rfl ?_
  rintro e w ⟨rfl, hE⟩
  have HT := hbackF1 _ _ hE
  have HT : St w0 F w [Box p_0 [.slice a_x0_0 x0_0.length c_x0_0, .int .i64 y2, .int .i64 y3], Box p1 [.int .i64 0, .int .i64 0, .int .i64 0, .int .i64 0]] := HT
  refine ⟨_, rfl, nS, fun a HF => ?_⟩
  obtain ⟨hg1, h⟩ := grd h
  refine wc_bin HF nS rfl rfl (b_add hg1) rfl rfl (fun a HF => ?_)
  obtain ⟨y4, y5, y6, y7, y8, y9, hx2, h⟩ := obs6 h
  obtain ⟨F2, hAF2, hFF2, hbackF2, hroF2, hownF2, hownAF2⟩ := St.handR2 (A := [Box p_0 [.slice a_x0_0 x0_0.length c_x0_0, .int .i64 y2, .int .i64 y3]]) HT
  refine wc_call HF cf62 rfl (w_spec_l4Plain fuel hx2 hAF2 (hroF2 hr_x0_0)) rfl rfl ?_
  rintro e w ⟨rfl, hE⟩
  have HT := hbackF2 _ _ hE
  have HT : St w0 F w [Box p_0 [.slice a_x0_0 x0_0.length c_x0_0, .int .i64 y8, .int .i64 y9], Box p1 [.int .i64 0, .int .i64 0, .int .i64 0, .int .i64 0]] := HT
  refine ⟨_, rfl, nS, fun a HF => ?_⟩
  refine wc_alloc (cs := [.int .i64 0, .int .i64 0, .int .i64 0, .int .i64 0]) HF HT zr45 rfl rfl rfl (fun p2 w HT hb => ⟨nS, fun a HF => ?_⟩)
  refine wc_storeB (cs' := [.int .i64 y4, .int .i64 y5, .int .i64 y6, .int .i64 y7]) HF HT rfl rfl (fun w => (ag45 w).2) rfl rfl rfl rfl rfl (fun w HT => ⟨nS, ?_⟩)
  refine wc_end ?_
  refine then_n ?_
  obtain ⟨z1, z2, z3, z4, z5, z6, hx3, h⟩ := obs6 h
  refine wp_cut (fun a w => Fr a 36 [(2, .pointer (some ⟨p1, 0, none⟩)), (3, .pointer (some ⟨p2, 0, none⟩))] ∧ St w0 F w [Box p1 [.int .i64 0, .int .i64 0, .int .i64 0, .int .i64 0], Box p2 [.int .i64 z1, .int .i64 z2, .int .i64 z3, .int .i64 z4], Box p_0 [.slice a_x0_0 x0_0.length c_x0_0, .int .i64 z5, .int .i64 z6]]) ?_ ?_
  · have hk1 := h
    have h := hx3
    refine wp_seq ?_
    refine wc_text ?_
    refine wc_move HF nS rfl rfl rfl (fun a HF => ?_)
    obtain ⟨y10, y11, y12, hx4, h⟩ := obs3 h
    have HT : St w0 F w [Box p_0 [.slice a_x0_0 x0_0.length c_x0_0, .int .i64 y8, .int .i64 y9], Box p2 [.int .i64 y4, .int .i64 y5, .int .i64 y6, .int .i64 y7], Box p1 [.int .i64 0, .int .i64 0, .int .i64 0, .int .i64 0]] := HT.pick 1
    obtain ⟨F3, hAF3, hFF3, hbackF3, hroF3, hownF3, hownAF3⟩ := St.handR2 (A := [Box p_0 [.slice a_x0_0 x0_0.length c_x0_0, .int .i64 y8, .int .i64 y9]]) HT
    refine wc_call HF cf44 rfl (w_spec_l1Below fuel hx4 hAF3 (hroF3 hr_x0_0)) rfl rfl ?_
    rintro e w ⟨rfl, hE⟩
    have HT := hbackF3 _ _ hE
    have HT : St w0 F w [Box p_0 [.slice a_x0_0 x0_0.length c_x0_0, .int .i64 y11, .int .i64 y12], Box p2 [.int .i64 y4, .int .i64 y5, .int .i64 y6, .int .i64 y7], Box p1 [.int .i64 0, .int .i64 0, .int .i64 0, .int .i64 0]] := HT
    refine ⟨_, rfl, nS, fun a HF => ?_⟩
    refine wc_end ?_
    refine then_n ?_
    refine wp_block ?_
    refine wp_seq ?_
    refine wc_text ?_
    refine wc_bin HF nS rfl rfl b_eq rfl rfl (fun a HF => ?_)
    refine wc_assign HF nS rfl rfl rfl (fun a HF => ?_)
    refine wc_end ?_
    refine then_n ?_
    by_cases hb1 : y10 = 0
    · have h := (if_pos hb1).symm.trans h
      refine wp_if (b' := true) HF rfl (decide_eq_true hb1) ?_
      refine wc_text ?_
      refine wc_move HF nS rfl rfl rfl (fun a HF => ?_)
      refine wc_bslice (l := ([(-1), 4, 8] : List Int)) (cs := [.int .i64 (-1), .int .i64 4, .int .i64 8]) (A := []) HF HT bs69_3 rfl rfl (gives_flat rfl) rfl (by decide) rfl rfl (fun p3 w HT hb => ⟨nS, fun a HF => ?_⟩)
      obtain ⟨y13, y14, y15, hx5, h⟩ := obs3 h
      have HT : St w0 F w [Box p_0 [.slice a_x0_0 x0_0.length c_x0_0, .int .i64 y11, .int .i64 y12], Own 3 (rowT ([(-1), 4, 8] : List Int)) (.slice (some ⟨p3, 0, none⟩) 3 3), Box p2 [.int .i64 y4, .int .i64 y5, .int .i64 y6, .int .i64 y7], Box p1 [.int .i64 0, .int .i64 0, .int .i64 0, .int .i64 0]] := HT.pick 1
      obtain ⟨F4, hAF4, hFF4, hbackF4, hroF4, hownF4, hownAF4⟩ := St.handR2 (A := [Box p_0 [.slice a_x0_0 x0_0.length c_x0_0, .int .i64 y11, .int .i64 y12]]) HT
      refine wc_call HF cf45 rfl (w_spec_l1PickInt fuel hx5 hAF4 (hroF4 hr_x0_0) (hownF4 _ _ _ (List.mem_of_getElem? (i := 0) rfl))) rfl rfl ?_
      rintro e w ⟨rfl, hE⟩
      have HT := hbackF4 _ _ hE
      have HT : St w0 F w [Box p_0 [.slice a_x0_0 x0_0.length c_x0_0, .int .i64 y14, .int .i64 y15], Own 3 (rowT ([(-1), 4, 8] : List Int)) (.slice (some ⟨p3, 0, none⟩) 3 3), Box p2 [.int .i64 y4, .int .i64 y5, .int .i64 y6, .int .i64 y7], Box p1 [.int .i64 0, .int .i64 0, .int .i64 0, .int .i64 0]] := HT
      refine ⟨_, rfl, nS, fun a HF => ?_⟩
      refine wc_faddr HF nS rfl fl45_1 rfl rfl (fun a HF => ?_)
      have HT : St w0 F w [Box p2 [.int .i64 y4, .int .i64 y5, .int .i64 y6, .int .i64 y7], Box p_0 [.slice a_x0_0 x0_0.length c_x0_0, .int .i64 y14, .int .i64 y15], Own 3 (rowT ([(-1), 4, 8] : List Int)) (.slice (some ⟨p3, 0, none⟩) 3 3), Box p1 [.int .i64 0, .int .i64 0, .int .i64 0, .int .i64 0]] := HT.pick 2
      refine wc_storeB (cs' := [.int .i64 y4, .int .i64 y13, .int .i64 y6, .int .i64 y7]) HF HT rfl rfl (fun w => (sc3 w).2) rfl rfl rfl rfl rfl (fun w HT => ⟨nS, ?_⟩)
      refine wc_end ?_
      refine blk_n ?_
      have HT : St w0 F w [Box p1 [.int .i64 0, .int .i64 0, .int .i64 0, .int .i64 0], Box p2 [.int .i64 y4, .int .i64 y13, .int .i64 y6, .int .i64 y7], Box p_0 [.slice a_x0_0 x0_0.length c_x0_0, .int .i64 y14, .int .i64 y15]] := (((HT.pick 1).pick 1).pick 3).take 3
      have hj1 := Option.some.inj h
      obtain ⟨hi1, hj2⟩ := Prod.mk.inj hj1
      subst hi1
      obtain ⟨hi2, hj3⟩ := Prod.mk.inj hj2
      subst hi2
      obtain ⟨hi3, hj4⟩ := Prod.mk.inj hj3
      subst hi3
      obtain ⟨hi4, hj5⟩ := Prod.mk.inj hj4
      subst hi4
      obtain ⟨hi5, hj6⟩ := Prod.mk.inj hj5
      subst hi5
      subst hj6
      exact then_n ⟨(HF.keep (HF.keep HF.nil rfl) rfl), HT⟩
    have h := (if_neg hb1).symm.trans h
    refine wp_if (b' := false) HF rfl (decide_eq_false hb1) ?_
    refine wp_seq ?_
    refine wc_text ?_
    refine wc_bin HF nS rfl rfl b_eq rfl rfl (fun a HF => ?_)
    refine wc_assign HF nS rfl rfl rfl (fun a HF => ?_)
    refine wc_end ?_
    refine then_n ?_
    by_cases hb2 : y10 = 1
    · have h := (if_pos hb2).symm.trans h
      refine wp_if (b' := true) HF rfl (decide_eq_true hb2) ?_
      refine wc_text ?_
      refine wc_move HF nS rfl rfl rfl (fun a HF => ?_)
      refine wc_bslice (l := ([(-1), 4, 8, 65536, 21] : List Int)) (cs := [.int .i64 (-1), .int .i64 4, .int .i64 8, .int .i64 65536, .int .i64 21]) (A := []) HF HT bs69_5 rfl rfl (gives_flat rfl) rfl (by decide) rfl rfl (fun p4 w HT hb => ⟨nS, fun a HF => ?_⟩)
      obtain ⟨y16, y17, y18, hx6, h⟩ := obs3 h
      have HT : St w0 F w [Box p_0 [.slice a_x0_0 x0_0.length c_x0_0, .int .i64 y11, .int .i64 y12], Own 3 (rowT ([(-1), 4, 8, 65536, 21] : List Int)) (.slice (some ⟨p4, 0, none⟩) 5 5), Box p2 [.int .i64 y4, .int .i64 y5, .int .i64 y6, .int .i64 y7], Box p1 [.int .i64 0, .int .i64 0, .int .i64 0, .int .i64 0]] := HT.pick 1
      obtain ⟨F5, hAF5, hFF5, hbackF5, hroF5, hownF5, hownAF5⟩ := St.handR2 (A := [Box p_0 [.slice a_x0_0 x0_0.length c_x0_0, .int .i64 y11, .int .i64 y12]]) HT
      refine wc_call HF cf45 rfl (w_spec_l1PickInt fuel hx6 hAF5 (hroF5 hr_x0_0) (hownF5 _ _ _ (List.mem_of_getElem? (i := 0) rfl))) rfl rfl ?_
      rintro e w ⟨rfl, hE⟩
      have HT := hbackF5 _ _ hE
      have HT : St w0 F w [Box p_0 [.slice a_x0_0 x0_0.length c_x0_0, .int .i64 y17, .int .i64 y18], Own 3 (rowT ([(-1), 4, 8, 65536, 21] : List Int)) (.slice (some ⟨p4, 0, none⟩) 5 5), Box p2 [.int .i64 y4, .int .i64 y5, .int .i64 y6, .int .i64 y7], Box p1 [.int .i64 0, .int .i64 0, .int .i64 0, .int .i64 0]] := HT
      refine ⟨_, rfl, nS, fun a HF => ?_⟩
      refine wc_faddr HF nS rfl fl45_2 rfl rfl (fun a HF => ?_)
      have HT : St w0 F w [Box p2 [.int .i64 y4, .int .i64 y5, .int .i64 y6, .int .i64 y7], Box p_0 [.slice a_x0_0 x0_0.length c_x0_0, .int .i64 y17, .int .i64 y18], Own 3 (rowT ([(-1), 4, 8, 65536, 21] : List Int)) (.slice (some ⟨p4, 0, none⟩) 5 5), Box p1 [.int .i64 0, .int .i64 0, .int .i64 0, .int .i64 0]] := HT.pick 2
      refine wc_storeB (cs' := [.int .i64 y4, .int .i64 y5, .int .i64 y16, .int .i64 y7]) HF HT rfl rfl (fun w => (sc3 w).2) rfl rfl rfl rfl rfl (fun w HT => ⟨nS, ?_⟩)
      refine wc_end ?_
      refine blk_n ?_
      have HT : St w0 F w [Box p1 [.int .i64 0, .int .i64 0, .int .i64 0, .int .i64 0], Box p2 [.int .i64 y4, .int .i64 y5, .int .i64 y16, .int .i64 y7], Box p_0 [.slice a_x0_0 x0_0.length c_x0_0, .int .i64 y17, .int .i64 y18]] := (((HT.pick 1).pick 1).pick 3).take 3
      have hj7 := Option.some.inj h
      obtain ⟨hi7, hj8⟩ := Prod.mk.inj hj7
      subst hi7
      obtain ⟨hi8, hj9⟩ := Prod.mk.inj hj8
      subst hi8
      obtain ⟨hi9, hj10⟩ := Prod.mk.inj hj9
      subst hi9
      obtain ⟨hi10, hj11⟩ := Prod.mk.inj hj10
      subst hi10
      obtain ⟨hi11, hj12⟩ := Prod.mk.inj hj11
      subst hi11
      subst hj12
      exact then_n ⟨(HF.keep (HF.keep HF.nil rfl) rfl), HT⟩
    have h := (if_neg hb2).symm.trans h
    refine wp_if (b' := false) HF rfl (decide_eq_false hb2) ?_
    refine wp_seq ?_
    refine wc_text ?_
    refine wc_bin HF nS rfl rfl b_eq rfl rfl (fun a HF => ?_)
    refine wc_assign HF nS rfl rfl rfl (fun a HF => ?_)
    refine wc_end ?_
    refine then_n ?_
    by_cases hb3 : y10 = 2
    · have h := (if_pos hb3).symm.trans h
      refine wp_if (b' := true) HF rfl (decide_eq_true hb3) ?_
      refine wc_text ?_
      refine wc_move HF nS rfl rfl rfl (fun a HF => ?_)
      refine wc_bslice (l := ([(-1), 4, 1] : List Int)) (cs := [.int .i64 (-1), .int .i64 4, .int .i64 1]) (A := []) HF HT bs69_3 rfl rfl (gives_flat rfl) rfl (by decide) rfl rfl (fun p5 w HT hb => ⟨nS, fun a HF => ?_⟩)
      obtain ⟨y19, y20, y21, hx7, h⟩ := obs3 h
      have HT : St w0 F w [Box p_0 [.slice a_x0_0 x0_0.length c_x0_0, .int .i64 y11, .int .i64 y12], Own 3 (rowT ([(-1), 4, 1] : List Int)) (.slice (some ⟨p5, 0, none⟩) 3 3), Box p2 [.int .i64 y4, .int .i64 y5, .int .i64 y6, .int .i64 y7], Box p1 [.int .i64 0, .int .i64 0, .int .i64 0, .int .i64 0]] := HT.pick 1
      obtain ⟨F6, hAF6, hFF6, hbackF6, hroF6, hownF6, hownAF6⟩ := St.handR2 (A := [Box p_0 [.slice a_x0_0 x0_0.length c_x0_0, .int .i64 y11, .int .i64 y12]]) HT
      refine wc_call HF cf45 rfl (w_spec_l1PickInt fuel hx7 hAF6 (hroF6 hr_x0_0) (hownF6 _ _ _ (List.mem_of_getElem? (i := 0) rfl))) rfl rfl ?_
      rintro e w ⟨rfl, hE⟩
      have HT := hbackF6 _ _ hE
      have HT : St w0 F w [Box p_0 [.slice a_x0_0 x0_0.length c_x0_0, .int .i64 y20, .int .i64 y21], Own 3 (rowT ([(-1), 4, 1] : List Int)) (.slice (some ⟨p5, 0, none⟩) 3 3), Box p2 [.int .i64 y4, .int .i64 y5, .int .i64 y6, .int .i64 y7], Box p1 [.int .i64 0, .int .i64 0, .int .i64 0, .int .i64 0]] := HT
      refine ⟨_, rfl, nS, fun a HF => ?_⟩
      refine wc_faddr HF nS rfl fl45_3 rfl rfl (fun a HF => ?_)
      have HT : St w0 F w [Box p2 [.int .i64 y4, .int .i64 y5, .int .i64 y6, .int .i64 y7], Box p_0 [.slice a_x0_0 x0_0.length c_x0_0, .int .i64 y20, .int .i64 y21], Own 3 (rowT ([(-1), 4, 1] : List Int)) (.slice (some ⟨p5, 0, none⟩) 3 3), Box p1 [.int .i64 0, .int .i64 0, .int .i64 0, .int .i64 0]] := HT.pick 2
      refine wc_storeB (cs' := [.int .i64 y4, .int .i64 y5, .int .i64 y6, .int .i64 y19]) HF HT rfl rfl (fun w => (sc3 w).2) rfl rfl rfl rfl rfl (fun w HT => ⟨nS, ?_⟩)
      refine wc_end ?_
      refine blk_n ?_
      have HT : St w0 F w [Box p1 [.int .i64 0, .int .i64 0, .int .i64 0, .int .i64 0], Box p2 [.int .i64 y4, .int .i64 y5, .int .i64 y6, .int .i64 y19], Box p_0 [.slice a_x0_0 x0_0.length c_x0_0, .int .i64 y20, .int .i64 y21]] := (((HT.pick 1).pick 1).pick 3).take 3
      have hj13 := Option.some.inj h
      obtain ⟨hi13, hj14⟩ := Prod.mk.inj hj13
      subst hi13
      obtain ⟨hi14, hj15⟩ := Prod.mk.inj hj14
      subst hi14
      obtain ⟨hi15, hj16⟩ := Prod.mk.inj hj15
      subst hi15
      obtain ⟨hi16, hj17⟩ := Prod.mk.inj hj16
      subst hi16
      obtain ⟨hi17, hj18⟩ := Prod.mk.inj hj17
      subst hi17
      subst hj18
      exact then_n ⟨(HF.keep (HF.keep HF.nil rfl) rfl), HT⟩
    have h := (if_neg hb3).symm.trans h
    refine wp_if (b' := false) HF rfl (decide_eq_false hb3) ?_
    refine wp_seq ?_
    refine wc_text ?_
    refine wc_bin HF nS rfl rfl b_eq rfl rfl (fun a HF => ?_)
    refine wc_assign HF nS rfl rfl rfl (fun a HF => ?_)
    refine wc_end ?_
    refine then_n ?_
    by_cases hb4 : y10 = 3
    · have h := (if_pos hb4).symm.trans h
      refine wp_if (b' := true) HF rfl (decide_eq_true hb4) ?_
      refine wc_text ?_
      refine wc_move HF nS rfl rfl rfl (fun a HF => ?_)
      refine wc_bslice (l := ([0, 17, (-3)] : List Int)) (cs := [.int .i64 0, .int .i64 17, .int .i64 (-3)]) (A := []) HF HT bs69_3 rfl rfl (gives_flat rfl) rfl (by decide) rfl rfl (fun p6 w HT hb => ⟨nS, fun a HF => ?_⟩)
      obtain ⟨y22, y23, y24, hx8, h⟩ := obs3 h
      have HT : St w0 F w [Box p_0 [.slice a_x0_0 x0_0.length c_x0_0, .int .i64 y11, .int .i64 y12], Own 3 (rowT ([0, 17, (-3)] : List Int)) (.slice (some ⟨p6, 0, none⟩) 3 3), Box p2 [.int .i64 y4, .int .i64 y5, .int .i64 y6, .int .i64 y7], Box p1 [.int .i64 0, .int .i64 0, .int .i64 0, .int .i64 0]] := HT.pick 1
      obtain ⟨F7, hAF7, hFF7, hbackF7, hroF7, hownF7, hownAF7⟩ := St.handR2 (A := [Box p_0 [.slice a_x0_0 x0_0.length c_x0_0, .int .i64 y11, .int .i64 y12]]) HT
      refine wc_call HF cf45 rfl (w_spec_l1PickInt fuel hx8 hAF7 (hroF7 hr_x0_0) (hownF7 _ _ _ (List.mem_of_getElem? (i := 0) rfl))) rfl rfl ?_
      rintro e w ⟨rfl, hE⟩
      have HT := hbackF7 _ _ hE
      have HT : St w0 F w [Box p_0 [.slice a_x0_0 x0_0.length c_x0_0, .int .i64 y23, .int .i64 y24], Own 3 (rowT ([0, 17, (-3)] : List Int)) (.slice (some ⟨p6, 0, none⟩) 3 3), Box p2 [.int .i64 y4, .int .i64 y5, .int .i64 y6, .int .i64 y7], Box p1 [.int .i64 0, .int .i64 0, .int .i64 0, .int .i64 0]] := HT
      refine ⟨_, rfl, nS, fun a HF => ?_⟩
      refine wc_faddr HF nS rfl fl45_0 rfl rfl (fun a HF => ?_)
      have HT : St w0 F w [Box p2 [.int .i64 y4, .int .i64 y5, .int .i64 y6, .int .i64 y7], Box p_0 [.slice a_x0_0 x0_0.length c_x0_0, .int .i64 y23, .int .i64 y24], Own 3 (rowT ([0, 17, (-3)] : List Int)) (.slice (some ⟨p6, 0, none⟩) 3 3), Box p1 [.int .i64 0, .int .i64 0, .int .i64 0, .int .i64 0]] := HT.pick 2
      refine wc_storeB (cs' := [.int .i64 y22, .int .i64 y5, .int .i64 y6, .int .i64 y7]) HF HT rfl rfl (fun w => (sc3 w).2) rfl rfl rfl rfl rfl (fun w HT => ⟨nS, ?_⟩)
      refine wc_end ?_
      refine blk_n ?_
      have HT : St w0 F w [Box p1 [.int .i64 0, .int .i64 0, .int .i64 0, .int .i64 0], Box p2 [.int .i64 y22, .int .i64 y5, .int .i64 y6, .int .i64 y7], Box p_0 [.slice a_x0_0 x0_0.length c_x0_0, .int .i64 y23, .int .i64 y24]] := (((HT.pick 1).pick 1).pick 3).take 3
      have hj19 := Option.some.inj h
      obtain ⟨hi19, hj20⟩ := Prod.mk.inj hj19
      subst hi19
      obtain ⟨hi20, hj21⟩ := Prod.mk.inj hj20
      subst hi20
      obtain ⟨hi21, hj22⟩ := Prod.mk.inj hj21
      subst hi21
      obtain ⟨hi22, hj23⟩ := Prod.mk.inj hj22
      subst hi22
      obtain ⟨hi23, hj24⟩ := Prod.mk.inj hj23
      subst hi23
      subst hj24
      exact then_n ⟨(HF.keep (HF.keep HF.nil rfl) rfl), HT⟩
    have h := (if_neg hb4).symm.trans h
    refine wp_if (b' := false) HF rfl (decide_eq_false hb4) ?_
    refine wp_skip ?_
    refine blk_n ?_
    have HT : St w0 F w [Box p1 [.int .i64 0, .int .i64 0, .int .i64 0, .int .i64 0], Box p2 [.int .i64 y4, .int .i64 y5, .int .i64 y6, .int .i64 y7], Box p_0 [.slice a_x0_0 x0_0.length c_x0_0, .int .i64 y11, .int .i64 y12]] := (HT.pick 1).pick 2
    have hj25 := Option.some.inj h
    obtain ⟨hi25, hj26⟩ := Prod.mk.inj hj25
    subst hi25
    obtain ⟨hi26, hj27⟩ := Prod.mk.inj hj26
    subst hi26
    obtain ⟨hi27, hj28⟩ := Prod.mk.inj hj27
    subst hi27
    obtain ⟨hi28, hj29⟩ := Prod.mk.inj hj28
    subst hi28
    obtain ⟨hi29, hj30⟩ := Prod.mk.inj hj29
    subst hi29
    subst hj30
    exact then_n ⟨(HF.keep (HF.keep HF.nil rfl) rfl), HT⟩
  rintro a w ⟨HF, HT⟩
  refine ?_
  refine wp_seq ?_
  refine wc_text ?_
  refine wc_loadA (vs := [.int .i64 z1, .int .i64 z2, .int .i64 z3, .int .i64 z4]) HF rfl ag45 rfl ((HT.boxAt 1 rfl).part 0 4) rfl rfl (fun a HF => ?_)
  refine wc_storeB (cs' := [.int .i64 z1, .int .i64 z2, .int .i64 z3, .int .i64 z4]) HF HT rfl rfl (fun w => (ag45 w).2) rfl rfl rfl rfl rfl (fun w HT => ⟨nS, ?_⟩)
  refine wc_end ?_
  refine then_n ?_
  refine wp_ret ?_
  have hj31 := Option.some.inj h
  obtain ⟨hi31, hj32⟩ := Prod.mk.inj hj31
  subst hi31
  obtain ⟨hi32, hj33⟩ := Prod.mk.inj hj32
  subst hi32
  obtain ⟨hi33, hj34⟩ := Prod.mk.inj hj33
  subst hi33
  obtain ⟨hi34, hj35⟩ := Prod.mk.inj hj34
  subst hi34
  obtain ⟨hi35, hj36⟩ := Prod.mk.inj hj35
  subst hi35
  subst hj36
  refine bp_ret HF (res_cell (vs := [.int .i64 z1, .int .i64 z2, .int .i64 z3, .int .i64 z4]) rfl HF rfl ag45 rfl (HT.boxAt 0 rfl)) ?_
  have HT : St w0 F w [Box p_0 [.slice a_x0_0 x0_0.length c_x0_0, .int .i64 z5, .int .i64 z6]] := (HT.pick 2).take 1
  exact ⟨rfl, HT⟩

def m_spec_l5Bend_L0 (fuel : Nat) (x0_0 : List UInt8) : Nat → Int → Int → (List I4) → Option (Lp (List I4 × Int × Int) (List I4 × Int × Int))
  | 0, _, _, _ => none
  | k1 + 1, z4, z5, z6 =>
    bind3 (m_spec_l1Below fuel x0_0 z4 z5 2) fun y13 y14 y15 =>
    if in64 (24 + y13) then
      if (z6.length : Int) < (24 + y13) then
        if z6.length + 1 ≤ 17179869184 then
          m_spec_l5Bend_L0 fuel x0_0 k1 y14 y15 (z6 ++ ([(⟨1, 0, 0, 0⟩ : I4)] : List I4))
        else none
      else
      some (.brk (z6, y14, y15))
    else none

def m_spec_l5Bend (fuel : Nat) (x0_0 : List UInt8) (x0_1 : Int) (x0_2 : Int) (x1 : List I4) : Option (List I4 × Int × Int) :=
  if ([] : List I4).length + x1.length ≤ 17179869184 then
    if ((([] : List I4) ++ x1).length : Int) = 0 then
      some (([(⟨9, 0, 0, 0⟩ : I4)] : List I4), x0_1, x0_2)
    else
    bind3 (m_spec_l1Below fuel x0_0 x0_1 x0_2 ((([] : List I4) ++ x1).length : Int)) fun y1 y2 y3 =>
    (
      bind3 (m_spec_l1Below fuel x0_0 y2 y3 6) fun y4 y5 y6 =>
      if y4 = 0 then
        bind6 (m_spec_l4Any fuel x0_0 y5 y6) fun y7 y8 y9 y10 y11 y12 =>
        (at? (([] : List I4) ++ x1) y1).bind fun e1 =>
        some (.brk ((([] : List I4) ++ x1).set y1.toNat (⟨y7, y8, y9, y10⟩ : I4), y11, y12))
      else
      if y4 = 1 then
        (at? (([] : List I4) ++ x1) y1).bind fun e2 =>
        some (.brk ((([] : List I4) ++ x1).set y1.toNat (⟨11, 0, 0, 0⟩ : I4), y5, y6))
      else
      if y4 = 2 then
        if 0 ≤ (y1 : Int) ∧ y1 ≤ ((([] : List I4) ++ x1).length : Int) then
          if in64 (y1 + 1) then
            if 0 ≤ (y1 + 1 : Int) ∧ (y1 + 1 : Int) ≤ ((([] : List I4) ++ x1).length : Int) ∧ ((([] : List I4) ++ x1).length : Int) ≤ ((([] : List I4) ++ x1).length : Int) then
              if (subl (([] : List I4) ++ x1) 0 y1).length + (subl (([] : List I4) ++ x1) (y1 + 1) ((([] : List I4) ++ x1).length : Int)).length ≤ 17179869184 then
                some (.ret ((subl (([] : List I4) ++ x1) 0 y1) ++ (subl (([] : List I4) ++ x1) (y1 + 1) ((([] : List I4) ++ x1).length : Int)), y5, y6))
              else none
            else none
          else none
        else none
      else
      if y4 = 3 then
        m_spec_l5Bend_L0 fuel x0_0 fuel y5 y6 (([] : List I4) ++ x1)
      else
      if y4 = 4 then
        (at? (([] : List I4) ++ x1) y1).bind fun e3 =>
        if in64 (e3.c + 1) then
          some (.brk ((([] : List I4) ++ x1).set y1.toNat (⟨e3.a, e3.b, e3.c + 1, e3.d⟩ : I4), y5, y6))
        else none
      else
      bind3 (m_spec_l1Below fuel x0_0 y5 y6 2) fun y16 y17 y18 =>
      if in64 (9 - y16) then
        (at? (([] : List I4) ++ x1) y1).bind fun e4 =>
        some (.brk ((([] : List I4) ++ x1).set y1.toNat (⟨9 - y16, 0, 0, 0⟩ : I4), y17, y18))
      else none).bind <| contL <| un3 fun z1 z2 z3 =>
    some (z1, z2, z3)
  else none

set_option maxRecDepth 100000 in
set_option maxHeartbeats 4000000 in
theorem w_spec_l5Bend (fuel : Nat) {x0_0 : List UInt8} {x0_1 : Int} {x0_2 : Int} {x1 : List I4} {a_x0_0 : Option Addr} {n_x0_0 c_x0_0 : Nat} {a_x1 : Option Addr} {n_x1 c_x1 : Nat} {p_0 : Nat} {r0 : List I4} {x0_1' : Int} {x0_2' : Int} {F : Foot} {w0 : World} (h : m_spec_l5Bend fuel x0_0 x0_1 x0_2 x1 = some (r0, x0_1', x0_2')) (hA : StF w0 F [Box p_0 [.slice a_x0_0 n_x0_0 c_x0_0, .int .i64 x0_1, .int .i64 x0_2]]) (hr_x0_0 : RdT (fun b => ¬ F b) w0 (rowT x0_0) (.slice a_x0_0 n_x0_0 c_x0_0)) (hr_x1 : RdT (fun b => ¬ F b) w0 (rowT x1) (.slice a_x1 n_x1 c_x1)) :
    Calls Try.prog 49 #[.pointer (some ⟨p_0, 0, none⟩), .slice a_x1 n_x1 c_x1] w0 fun e w => ∃ a_r0 n_r0 c_r0, e = .returned (.slice a_r0 n_r0 c_r0) ∧ St w0 F w [Own 45 (rowT r0) (.slice a_r0 n_r0 c_r0), Box p_0 [.slice a_x0_0 n_x0_0 c_x0_0, .int .i64 x0_1', .int .i64 x0_2']] := by
  have HT0 := St.init hA
  obtain rfl := hr_x0_0.neq
  obtain rfl := hr_x1.neq
  have HT : St w0 F w0 [Box p_0 [.slice a_x0_0 x0_0.length c_x0_0, .int .i64 x0_1, .int .i64 x0_2]] := St.init hA
  rw [m_spec_l5Bend] at h
  refine calls_fr (n := 76) [.pointer (some ⟨p_0, 0, none⟩), .slice a_x1 x1.length c_x1] Try.func49 rfl rfl rfl (fun a HF => ?_)
  have HT : St w0 F w0 [Box p_0 [.slice a_x0_0 x0_0.length c_x0_0, .int .i64 x0_1, .int .i64 x0_2]] := HT
  refine wp_seq ?_
  refine wc_text ?_
  refine wc_assign HF nS rfl rfl rfl (fun a HF => ?_)
  refine wc_end ?_
  refine then_n ?_
  refine wp_seq ?_
  refine wc_text ?_
  refine wc_bslice (l := ([] : List I4)) (cs := []) (A := []) HF HT bs36_0 rfl rfl (gives_flat rfl) rfl (by decide) rfl rfl (fun p1 w HT hb => ⟨nS, fun a HF => ?_⟩)
  refine wc_move HF nS rfl rfl rfl (fun a HF => ?_)
  obtain ⟨hg1, h⟩ := grd h
  refine wc_appendR HF HT (HT.ro hr_x1).any el36 rfl rfl hg1 rfl rfl rfl (fun a1 c1 w HT => ⟨nS, fun a HF => ?_⟩)
  refine wc_assign HF nS rfl rfl rfl (fun a HF => ?_)
  refine wc_end ?_
  refine then_n ?_
  refine wp_seq ?_
  refine wp_seq ?_
  refine wc_text ?_
  refine wc_move HF nS rfl rfl rfl (fun a HF => ?_)
  refine wc_lenR HF nS Try.underlying36 rfl rfl rfl (fun a HF => ?_)
  refine wc_bin HF nS rfl rfl b_eq rfl rfl (fun a HF => ?_)
  refine wc_end ?_
  refine then_n ?_
  by_cases hb1 : ((([] : List I4) ++ x1).length : Int) = 0
  · have h := (if_pos hb1).symm.trans h
    refine wp_if (b' := true) HF rfl (decide_eq_true hb1) ?_
    refine wp_seq ?_
    refine wc_text ?_
    refine wc_build (cs := #[.int .i64 9, .int .i64 0, .int .i64 0, .int .i64 0]) HF nS bd45 rfl rfl rfl rfl (fun a HF => ?_)
    refine wc_bslice (l := ([(⟨9, 0, 0, 0⟩ : I4)] : List I4)) (cs := [.int .i64 9, .int .i64 0, .int .i64 0, .int .i64 0]) (A := []) HF HT bs36_1 rfl rfl (gives_flat rfl) rfl (by decide) rfl rfl (fun p2 w HT hb => ⟨nS, fun a HF => ?_⟩)
    refine wc_assign HF nS rfl rfl rfl (fun a HF => ?_)
    refine wc_end ?_
    refine then_n ?_
    refine wp_ret ?_
    have hj1 := Option.some.inj h
    obtain ⟨hi1, hj2⟩ := Prod.mk.inj hj1
    subst hi1
    obtain ⟨hi2, hj3⟩ := Prod.mk.inj hj2
    subst hi2
    subst hj3
    refine then_r (?_)
    refine bp_ret HF (res_one rfl HF rfl) ?_
    have HT : St w0 F w [Own 45 (rowT ([(⟨9, 0, 0, 0⟩ : I4)] : List I4)) (.slice (some ⟨p2, 0, none⟩) 1 1), Box p_0 [.slice a_x0_0 x0_0.length c_x0_0, .int .i64 x0_1, .int .i64 x0_2]] := ((HT.pick 2).pick 1).take 2
    exact ⟨(some ⟨p2, 0, none⟩), 1, 1, rfl, HT⟩
  have h := (if_neg hb1).symm.trans h
  refine wp_if (b' := false) HF rfl (decide_eq_false hb1) ?_
  refine wp_skip ?_
  refine then_n ?_
  refine wp_seq ?_
  refine wc_text ?_
  refine wc_move HF nS rfl rfl rfl (fun a HF => ?_)
  refine wc_move HF nS rfl rfl rfl (fun a HF => ?_)
  refine wc_lenR HF nS Try.underlying36 rfl rfl rfl (fun a HF => ?_)
  obtain ⟨y1, y2, y3, hx1, h⟩ := obs3 h
  have HT : St w0 F w [Box p_0 [.slice a_x0_0 x0_0.length c_x0_0, .int .i64 x0_1, .int .i64 x0_2], Own 45 (rowT (([] : List I4) ++ x1)) (.slice a1 ((([] : List I4) ++ x1).length) c1)] := HT.pick 1
  obtain ⟨F1, hAF1, hFF1, hbackF1, hroF1, hownF1, hownAF1⟩ := St.handR2 (A := [Box p_0 [.slice a_x0_0 x0_0.length c_x0_0, .int .i64 x0_1, .int .i64 x0_2]]) HT
  refine wc_call HF cf44 rfl (w_spec_l1Below fuel hx1 hAF1 (hroF1 hr_x0_0)) rfl rfl ?_
  rintro e w ⟨rfl, hE⟩
  have HT := hbackF1 _ _ hE
  have HT : St w0 F w [Box p_0 [.slice a_x0_0 x0_0.length c_x0_0, .int .i64 y2, .int .i64 y3], Own 45 (rowT (([] : List I4) ++ x1)) (.slice a1 ((([] : List I4) ++ x1).length) c1)] := HT
  refine ⟨_, rfl, nS, fun a HF => ?_⟩
  refine wc_assign HF nS rfl rfl rfl (fun a HF => ?_)
  refine wc_end ?_
  refine then_n ?_
  obtain ⟨q1, hx2, h⟩ := obs h
  refine wp_cut (fun a w => ∃ z1 z2 z3 a2 n1 c2, q1 = .brk (z1, z2, z3) ∧ Fr a 76 [(5, .slice a2 n1 c2)] ∧ St w0 F w [Own 45 (rowT z1) (.slice a2 n1 c2), Box p_0 [.slice a_x0_0 x0_0.length c_x0_0, .int .i64 z2, .int .i64 z3]]) ?_ ?_
  · have hk1 := h
    have h := hx2
    refine wp_seq ?_
    refine wc_text ?_
    refine wc_move HF nS rfl rfl rfl (fun a HF => ?_)
    obtain ⟨y4, y5, y6, hx3, h⟩ := obs3 h
    obtain ⟨F2, hAF2, hFF2, hbackF2, hroF2, hownF2, hownAF2⟩ := St.handR2 (A := [Box p_0 [.slice a_x0_0 x0_0.length c_x0_0, .int .i64 y2, .int .i64 y3]]) HT
    refine wc_call HF cf44 rfl (w_spec_l1Below fuel hx3 hAF2 (hroF2 hr_x0_0)) rfl rfl ?_
    rintro e w ⟨rfl, hE⟩
    have HT := hbackF2 _ _ hE
    have HT : St w0 F w [Box p_0 [.slice a_x0_0 x0_0.length c_x0_0, .int .i64 y5, .int .i64 y6], Own 45 (rowT (([] : List I4) ++ x1)) (.slice a1 ((([] : List I4) ++ x1).length) c1)] := HT
    refine ⟨_, rfl, nS, fun a HF => ?_⟩
    refine wc_end ?_
    refine then_n ?_
    refine wp_block ?_
    refine wp_seq ?_
    refine wc_text ?_
    refine wc_bin HF nS rfl rfl b_eq rfl rfl (fun a HF => ?_)
    refine wc_assign HF nS rfl rfl rfl (fun a HF => ?_)
    refine wc_end ?_
    refine then_n ?_
    by_cases hb2 : y4 = 0
    · have h := (if_pos hb2).symm.trans h
      refine wp_if (b' := true) HF rfl (decide_eq_true hb2) ?_
      refine wc_text ?_
      refine wc_move HF nS rfl rfl rfl (fun a HF => ?_)
      refine wc_move HF nS rfl rfl rfl (fun a HF => ?_)
      refine wc_move HF nS rfl rfl rfl (fun a HF => ?_)
      obtain ⟨y7, y8, y9, y10, y11, y12, hx4, h⟩ := obs6 h
      obtain ⟨F3, hAF3, hFF3, hbackF3, hroF3, hownF3, hownAF3⟩ := St.handR2 (A := [Box p_0 [.slice a_x0_0 x0_0.length c_x0_0, .int .i64 y5, .int .i64 y6]]) HT
      refine wc_call HF cf60 rfl (w_spec_l4Any fuel hx4 hAF3 (hroF3 hr_x0_0)) rfl rfl ?_
      rintro e w ⟨rfl, hE⟩
      have HT := hbackF3 _ _ hE
      have HT : St w0 F w [Box p_0 [.slice a_x0_0 x0_0.length c_x0_0, .int .i64 y11, .int .i64 y12], Own 45 (rowT (([] : List I4) ++ x1)) (.slice a1 ((([] : List I4) ++ x1).length) c1)] := HT
      refine ⟨_, rfl, nS, fun a HF => ?_⟩
      obtain ⟨e1, hx5, h⟩ := obs h
      obtain ⟨b1, o1, ha1⟩ := (HT.rdAt 1 rfl).addr hx5
      refine wc_ixaddr HF nS el36 rfl ha1 ((HT.rdAt 1 rfl)).neq rfl hx5 rfl rfl (fun a HF => ?_)
      have HT : St w0 F w [Own 45 (rowT (([] : List I4) ++ x1)) (.slice a1 ((([] : List I4) ++ x1).length) c1), Box p_0 [.slice a_x0_0 x0_0.length c_x0_0, .int .i64 y11, .int .i64 y12]] := HT.pick 1
      refine wc_storeR (i := y1) (j := 0) (x' := (⟨y7, y8, y9, y10⟩ : I4)) HF HT ha1 rfl rfl (fun w => (ag45 w).2) rfl rfl hx5 rfl rfl rfl rfl (fun w HT => ⟨nS, ?_⟩)
      refine wc_end ?_
      refine blk_n ?_
      exact then_n ⟨(([] : List I4) ++ x1).set y1.toNat (⟨y7, y8, y9, y10⟩ : I4), y11, y12, a1, (([] : List I4) ++ x1).length, c1, (Option.some.inj h).symm, (HF.keep HF.nil rfl), HT⟩
    have h := (if_neg hb2).symm.trans h
    refine wp_if (b' := false) HF rfl (decide_eq_false hb2) ?_
    refine wp_seq ?_
    refine wc_text ?_
    refine wc_bin HF nS rfl rfl b_eq rfl rfl (fun a HF => ?_)
    refine wc_assign HF nS rfl rfl rfl (fun a HF => ?_)
    refine wc_end ?_
    refine then_n ?_
    by_cases hb3 : y4 = 1
    · have h := (if_pos hb3).symm.trans h
      refine wp_if (b' := true) HF rfl (decide_eq_true hb3) ?_
      refine wc_text ?_
      refine wc_move HF nS rfl rfl rfl (fun a HF => ?_)
      refine wc_move HF nS rfl rfl rfl (fun a HF => ?_)
      refine wc_build (cs := #[.int .i64 11, .int .i64 0, .int .i64 0, .int .i64 0]) HF nS bd45 rfl rfl rfl rfl (fun a HF => ?_)
      obtain ⟨e2, hx6, h⟩ := obs h
      obtain ⟨b2, o2, ha2⟩ := (HT.rdAt 1 rfl).addr hx6
      refine wc_ixaddr HF nS el36 rfl ha2 ((HT.rdAt 1 rfl)).neq rfl hx6 rfl rfl (fun a HF => ?_)
      have HT : St w0 F w [Own 45 (rowT (([] : List I4) ++ x1)) (.slice a1 ((([] : List I4) ++ x1).length) c1), Box p_0 [.slice a_x0_0 x0_0.length c_x0_0, .int .i64 y5, .int .i64 y6]] := HT.pick 1
      refine wc_storeR (i := y1) (j := 0) (x' := (⟨11, 0, 0, 0⟩ : I4)) HF HT ha2 rfl rfl (fun w => (ag45 w).2) rfl rfl hx6 rfl rfl rfl rfl (fun w HT => ⟨nS, ?_⟩)
      refine wc_end ?_
      refine blk_n ?_
      exact then_n ⟨(([] : List I4) ++ x1).set y1.toNat (⟨11, 0, 0, 0⟩ : I4), y5, y6, a1, (([] : List I4) ++ x1).length, c1, (Option.some.inj h).symm, (HF.keep HF.nil rfl), HT⟩
    have h := (if_neg hb3).symm.trans h
    refine wp_if (b' := false) HF rfl (decide_eq_false hb3) ?_
    refine wp_seq ?_
    refine wc_text ?_
    refine wc_bin HF nS rfl rfl b_eq rfl rfl (fun a HF => ?_)
    refine wc_assign HF nS rfl rfl rfl (fun a HF => ?_)
    refine wc_end ?_
    refine then_n ?_
    by_cases hb4 : y4 = 2
    · have h := (if_pos hb4).symm.trans h
      refine wp_if (b' := true) HF rfl (decide_eq_true hb4) ?_
      refine wp_seq ?_
      refine wp_region_can [(0, true), (1, true), (2, true), (3, true), (4, true), (5, true), (6, true), (7, true), (8, true)] (fun w' => True) (by kernel_rfl) (by kernel_rfl) ?_
      have HT : St w0 F w.drew [Box p_0 [.slice a_x0_0 x0_0.length c_x0_0, .int .i64 y5, .int .i64 y6], Own 45 (rowT (([] : List I4) ++ x1)) (.slice a1 ((([] : List I4) ++ x1).length) c1)] := HT.drew
      refine wc_move HF nS rfl rfl rfl (fun a HF => ?_)
      refine wc_move HF nS rfl rfl rfl (fun a HF => ?_)
      have HT : St w0 F w.drew [Own 45 (rowT (([] : List I4) ++ x1)) (.slice a1 ((([] : List I4) ++ x1).length) c1), Box p_0 [.slice a_x0_0 x0_0.length c_x0_0, .int .i64 y5, .int .i64 y6]] := HT.pick 1
      obtain ⟨hg2, h⟩ := grd h
      obtain ⟨_, hcut⟩ := St.cutO HT hg2
      refine wc_slrH HF nS el36 rfl rfl hcut rfl rfl (fun a HF => ?_)
      refine wc_move HF nS rfl rfl rfl (fun a HF => ?_)
      refine wc_move HF nS rfl rfl rfl (fun a HF => ?_)
      obtain ⟨hg3, h⟩ := grd h
      refine wc_bin HF nS rfl rfl (b_add hg3) rfl rfl (fun a HF => ?_)
      obtain ⟨hg4, h⟩ := grd h
      obtain ⟨a3, c3, hr1, hcut⟩ := RdT.cutI (HT.rdAt 0 rfl) hg4
      refine wc_slrL (j := 0) HF nS el36 rfl rfl hcut rfl rfl (fun a HF => ?_)
      have HT := (St.cutO HT hg2).1
      obtain ⟨hg5, h⟩ := grd h
      refine wc_appendR HF HT hr1 el36 rfl rfl hg5 rfl rfl rfl (fun a4 c4 w HT => ⟨nS, fun a HF => ?_⟩)
      refine wc_assign HF nS rfl rfl rfl (fun a HF => ?_)
      refine wc_endN ?_
      refine then_n ?_
      refine wp_ret ?_
      obtain rfl := Option.some.inj h
      have h := retL hk1
      have hj4 := Option.some.inj h
      obtain ⟨hi4, hj5⟩ := Prod.mk.inj hj4
      subst hi4
      obtain ⟨hi5, hj6⟩ := Prod.mk.inj hj5
      subst hi5
      subst hj6
      refine blk_r (then_r (?_))
      refine bp_ret HF (res_one rfl HF rfl) ?_
      exact ⟨a4, ((subl (([] : List I4) ++ x1) 0 y1) ++ (subl (([] : List I4) ++ x1) (y1 + 1) ((([] : List I4) ++ x1).length : Int))).length, c4, rfl, HT⟩
    have h := (if_neg hb4).symm.trans h
    refine wp_if (b' := false) HF rfl (decide_eq_false hb4) ?_
    refine wp_seq ?_
    refine wc_text ?_
    refine wc_bin HF nS rfl rfl b_eq rfl rfl (fun a HF => ?_)
    refine wc_assign HF nS rfl rfl rfl (fun a HF => ?_)
    refine wc_end ?_
    refine then_n ?_
    by_cases hb5 : y4 = 3
    · have h := (if_pos hb5).symm.trans h
      refine wp_if (b' := true) HF rfl (decide_eq_true hb5) ?_
      refine wp_block ?_
      refine wp_loopN (fun k1 a w => ∃ z4 z5 z6 a5 n2 c5, m_spec_l5Bend_L0 fuel x0_0 k1 z4 z5 z6 = some q1 ∧ Fr a 76 [(0, .pointer (some ⟨p_0, 0, none⟩)), (5, .slice a5 n2 c5)] ∧ St w0 F w [Box p_0 [.slice a_x0_0 x0_0.length c_x0_0, .int .i64 z4, .int .i64 z5], Own 45 (rowT z6) (.slice a5 n2 c5)]) fuel ⟨y5, y6, ([] : List I4) ++ x1, a1, (([] : List I4) ++ x1).length, c1, h, (HF.keep (HF.keep HF.nil rfl) rfl), HT⟩ ?_
      rintro k1 a w ⟨z4, z5, z6, a5, n2, c5, h, HF, HT⟩
      cases k1 with
      | zero => cases h
      | succ k1 =>
        rw [m_spec_l5Bend_L0] at h
        obtain rfl := (HT.rdAt 1 rfl).neq
        refine ?_
        refine wp_seq ?_
        refine wp_seq ?_
        refine wc_text ?_
        refine wc_move HF nS rfl rfl rfl (fun a HF => ?_)
        refine wc_lenR HF nS Try.underlying36 rfl rfl rfl (fun a HF => ?_)
        refine wc_move HF nS rfl rfl rfl (fun a HF => ?_)
        obtain ⟨y13, y14, y15, hx7, h⟩ := obs3 h
        obtain ⟨F4, hAF4, hFF4, hbackF4, hroF4, hownF4, hownAF4⟩ := St.handR2 (A := [Box p_0 [.slice a_x0_0 x0_0.length c_x0_0, .int .i64 z4, .int .i64 z5]]) HT
        refine wc_call HF cf44 rfl (w_spec_l1Below fuel hx7 hAF4 (hroF4 hr_x0_0)) rfl rfl ?_
        rintro e w ⟨rfl, hE⟩
        have HT := hbackF4 _ _ hE
        have HT : St w0 F w [Box p_0 [.slice a_x0_0 x0_0.length c_x0_0, .int .i64 y14, .int .i64 y15], Own 45 (rowT z6) (.slice a5 z6.length c5)] := HT
        refine ⟨_, rfl, nS, fun a HF => ?_⟩
        obtain ⟨hg6, h⟩ := grd h
        refine wc_bin HF nS rfl rfl (b_add hg6) rfl rfl (fun a HF => ?_)
        refine wc_bin HF nS rfl rfl b_lt rfl rfl (fun a HF => ?_)
        refine wc_end ?_
        refine then_n ?_
        by_cases hb6 : (z6.length : Int) < (24 + y13)
        · have h := (if_pos hb6).symm.trans h
          refine wp_if (b' := true) HF rfl (decide_eq_true hb6) ?_
          refine wp_skip ?_
          refine then_n ?_
          refine wp_block ?_
          refine wc_text ?_
          refine wc_move HF nS rfl rfl rfl (fun a HF => ?_)
          refine wc_build (cs := #[.int .i64 1, .int .i64 0, .int .i64 0, .int .i64 0]) HF nS bd45 rfl rfl rfl rfl (fun a HF => ?_)
          refine wc_bslice (l := ([(⟨1, 0, 0, 0⟩ : I4)] : List I4)) (cs := [.int .i64 1, .int .i64 0, .int .i64 0, .int .i64 0]) (A := []) HF HT bs36_1 rfl rfl (gives_flat rfl) rfl (by decide) rfl rfl (fun p3 w HT hb => ⟨nS, fun a HF => ?_⟩)
          obtain ⟨hg7, h⟩ := grd h
          have HT : St w0 F w [Own 45 (rowT z6) (.slice a5 z6.length c5), Own 45 (rowT ([(⟨1, 0, 0, 0⟩ : I4)] : List I4)) (.slice (some ⟨p3, 0, none⟩) 1 1), Box p_0 [.slice a_x0_0 x0_0.length c_x0_0, .int .i64 y14, .int .i64 y15]] := HT.pick 2
          refine wc_append HF HT el36 rfl rfl (Nat.zero_lt_succ _) hg7 rfl rfl rfl (fun a6 c6 w HT => ⟨nS, fun a HF => ?_⟩)
          refine wc_assign HF nS rfl rfl rfl (fun a HF => ?_)
          refine wc_end ?_
          refine blk_n ?_
          have HT : St w0 F w [Box p_0 [.slice a_x0_0 x0_0.length c_x0_0, .int .i64 y14, .int .i64 y15], Own 45 (rowT (z6 ++ ([(⟨1, 0, 0, 0⟩ : I4)] : List I4))) (.slice a6 ((z6 ++ ([(⟨1, 0, 0, 0⟩ : I4)] : List I4)).length) c6)] := HT.pick 1
          exact then_n ⟨k1, Nat.lt_succ_self k1, y14, y15, z6 ++ ([(⟨1, 0, 0, 0⟩ : I4)] : List I4), a6, (z6 ++ ([(⟨1, 0, 0, 0⟩ : I4)] : List I4)).length, c6, h, (HF.keep (HF.keep HF.nil rfl) rfl), HT⟩
        have h := (if_neg hb6).symm.trans h
        refine wp_if (b' := false) HF rfl (decide_eq_false hb6) ?_
        refine wp_exit ?_
        refine then_x (then_x (?_))
        refine blk_x ?_
        refine blk_n ?_
        have HT : St w0 F w [Own 45 (rowT z6) (.slice a5 z6.length c5), Box p_0 [.slice a_x0_0 x0_0.length c_x0_0, .int .i64 y14, .int .i64 y15]] := HT.pick 1
        exact then_n ⟨z6, y14, y15, a5, z6.length, c5, (Option.some.inj h).symm, (HF.keep HF.nil rfl), HT⟩
    have h := (if_neg hb5).symm.trans h
    refine wp_if (b' := false) HF rfl (decide_eq_false hb5) ?_
    refine wp_seq ?_
    refine wc_text ?_
    refine wc_bin HF nS rfl rfl b_eq rfl rfl (fun a HF => ?_)
    refine wc_assign HF nS rfl rfl rfl (fun a HF => ?_)
    refine wc_end ?_
    refine then_n ?_
    by_cases hb7 : y4 = 4
    · have h := (if_pos hb7).symm.trans h
      refine wp_if (b' := true) HF rfl (decide_eq_true hb7) ?_
      refine wc_text ?_
      refine wc_move HF nS rfl rfl rfl (fun a HF => ?_)
      refine wc_move HF nS rfl rfl rfl (fun a HF => ?_)
      refine wc_move HF nS rfl rfl rfl (fun a HF => ?_)
      refine wc_move HF nS rfl rfl rfl (fun a HF => ?_)
      obtain ⟨e3, hx8, h⟩ := obs h
      obtain ⟨b3, o3, ha3⟩ := (HT.rdAt 1 rfl).addr hx8
      refine wc_ixaddr HF nS el36 rfl ha3 ((HT.rdAt 1 rfl)).neq rfl hx8 rfl rfl (fun a HF => ?_)
      refine wc_faddr HF nS rfl fl45_2 rfl rfl (fun a HF => ?_)
      have hc1 := (HT.rdAt 1 rfl).flatAt ha3 hx8
      refine wc_load HF rfl sc3 (hc1.get 2 rfl) rfl rfl (fun a HF => ?_)
      obtain ⟨hg8, h⟩ := grd h
      refine wc_bin HF nS rfl rfl (b_add hg8) rfl rfl (fun a HF => ?_)
      refine wc_ixaddr HF nS el36 rfl ha3 ((HT.rdAt 1 rfl)).neq rfl hx8 rfl rfl (fun a HF => ?_)
      refine wc_faddr HF nS rfl fl45_2 rfl rfl (fun a HF => ?_)
      have HT : St w0 F w [Own 45 (rowT (([] : List I4) ++ x1)) (.slice a1 ((([] : List I4) ++ x1).length) c1), Box p_0 [.slice a_x0_0 x0_0.length c_x0_0, .int .i64 y5, .int .i64 y6]] := HT.pick 1
      refine wc_storeR (i := y1) (j := 2) (x' := (⟨e3.a, e3.b, e3.c + 1, e3.d⟩ : I4)) HF HT ha3 rfl rfl (fun w => (sc3 w).2) rfl rfl hx8 rfl rfl rfl rfl (fun w HT => ⟨nS, ?_⟩)
      refine wc_end ?_
      refine blk_n ?_
      exact then_n ⟨(([] : List I4) ++ x1).set y1.toNat (⟨e3.a, e3.b, e3.c + 1, e3.d⟩ : I4), y5, y6, a1, (([] : List I4) ++ x1).length, c1, (Option.some.inj h).symm, (HF.keep HF.nil rfl), HT⟩
    have h := (if_neg hb7).symm.trans h
    refine wp_if (b' := false) HF rfl (decide_eq_false hb7) ?_
    refine wc_text ?_
    refine wc_move HF nS rfl rfl rfl (fun a HF => ?_)
    refine wc_move HF nS rfl rfl rfl (fun a HF => ?_)
    refine wc_move HF nS rfl rfl rfl (fun a HF => ?_)
    obtain ⟨y16, y17, y18, hx9, h⟩ := obs3 h
    obtain ⟨F5, hAF5, hFF5, hbackF5, hroF5, hownF5, hownAF5⟩ := St.handR2 (A := [Box p_0 [.slice a_x0_0 x0_0.length c_x0_0, .int .i64 y5, .int .i64 y6]]) HT
    refine wc_call HF cf44 rfl (w_spec_l1Below fuel hx9 hAF5 (hroF5 hr_x0_0)) rfl rfl ?_
    rintro e w ⟨rfl, hE⟩
    have HT := hbackF5 _ _ hE
    have HT : St w0 F w [Box p_0 [.slice a_x0_0 x0_0.length c_x0_0, .int .i64 y17, .int .i64 y18], Own 45 (rowT (([] : List I4) ++ x1)) (.slice a1 ((([] : List I4) ++ x1).length) c1)] := HT
    refine ⟨_, rfl, nS, fun a HF => ?_⟩
    obtain ⟨hg9, h⟩ := grd h
    refine wc_bin HF nS rfl rfl (b_sub hg9) rfl rfl (fun a HF => ?_)
    refine wc_build (cs := #[.int .i64 (9 - y16), .int .i64 0, .int .i64 0, .int .i64 0]) HF nS bd45 rfl rfl rfl rfl (fun a HF => ?_)
    obtain ⟨e4, hx10, h⟩ := obs h
    obtain ⟨b4, o4, ha4⟩ := (HT.rdAt 1 rfl).addr hx10
    refine wc_ixaddr HF nS el36 rfl ha4 ((HT.rdAt 1 rfl)).neq rfl hx10 rfl rfl (fun a HF => ?_)
    have HT : St w0 F w [Own 45 (rowT (([] : List I4) ++ x1)) (.slice a1 ((([] : List I4) ++ x1).length) c1), Box p_0 [.slice a_x0_0 x0_0.length c_x0_0, .int .i64 y17, .int .i64 y18]] := HT.pick 1
    refine wc_storeR (i := y1) (j := 0) (x' := (⟨9 - y16, 0, 0, 0⟩ : I4)) HF HT ha4 rfl rfl (fun w => (ag45 w).2) rfl rfl hx10 rfl rfl rfl rfl (fun w HT => ⟨nS, ?_⟩)
    refine wc_end ?_
    refine blk_n ?_
    exact then_n ⟨(([] : List I4) ++ x1).set y1.toNat (⟨9 - y16, 0, 0, 0⟩ : I4), y17, y18, a1, (([] : List I4) ++ x1).length, c1, (Option.some.inj h).symm, (HF.keep HF.nil rfl), HT⟩
  rintro a w ⟨z1, z2, z3, a2, n1, c2, rfl, HF, HT⟩
  have h := brkL3 h
  obtain rfl := (HT.rdAt 0 rfl).neq
  refine ?_
  refine wp_seq ?_
  refine wc_text ?_
  refine wc_move HF nS rfl rfl rfl (fun a HF => ?_)
  refine wc_assign HF nS rfl rfl rfl (fun a HF => ?_)
  refine wc_end ?_
  refine then_n ?_
  refine wp_ret ?_
  have hj7 := Option.some.inj h
  obtain ⟨hi7, hj8⟩ := Prod.mk.inj hj7
  subst hi7
  obtain ⟨hi8, hj9⟩ := Prod.mk.inj hj8
  subst hi8
  subst hj9
  refine bp_ret HF (res_one rfl HF rfl) ?_
  exact ⟨a2, z1.length, c2, rfl, HT⟩
end Go.Proofs.Ytikfmmfifhnbjaa
