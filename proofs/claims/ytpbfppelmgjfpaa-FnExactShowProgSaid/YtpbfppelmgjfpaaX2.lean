/- Walks of functions, by program: spec.OpOk, spec.l5Skip, spec.CodeOk, spec.Dec, spec.l6Args, spec.l6Words, spec.ShowOp, spec.ShowCode, laws.FnExactShowCode, impl.HasFork$1, slices.IndexFunc[[]impl.Op,impl.Op]@102, slices.ContainsFunc[[]impl.Op,impl.Op]@102, impl.HasFork, impl.Touches, impl.KidOk, impl.ProgOk, impl.ShowProg, laws.eqKid, laws.eqKidS, laws.eqProg, laws.szKid, laws.szKidS, laws.szProg, laws.toKid. -/
import Derived.Test.YtpbfppelmgjfpaaTy
import Derived.Test.YtpbfppelmgjfpaaX1
namespace Go.Proofs.Ytpbfppelmgjfpaa
open Go Go.RowKit
set_option linter.unusedVariables false
set_option linter.unusedSimpArgs false
def m_spec_OpOk (fuel : Nat) (x0_0 : Int) (x0_1 : Int) (x0_2 : Int) (x0_3 : Int) : Option Bool :=
  (
    if x0_0 = 1 then
      (m_spec_l4Reg fuel x0_1).bind fun y1 =>
      if y1 = true then
        (m_spec_l3Val fuel x0_2).bind fun y2 =>
        if y2 = true then
          some (.ret (decide (x0_3 = 0)))
        else
          some (.ret false)
      else
        some (.ret false)
    else
      (
        if x0_0 = 2 then
          some (decide (x0_0 = 2))
        else
          if x0_0 = 3 then
            some (decide (x0_0 = 3))
          else
            some (decide (x0_0 = 4))).bind fun z1 =>
      if z1 = true then
        (m_spec_l4Reg fuel x0_1).bind fun y3 =>
        if y3 = true then
          (m_spec_l4Reg fuel x0_2).bind fun y4 =>
          if y4 = true then
            (m_spec_l4Reg fuel x0_3).bind fun y5 =>
            some (.ret y5)
          else
            some (.ret false)
        else
          some (.ret false)
      else
        if x0_0 = 5 then
          (m_spec_l4Reg fuel x0_1).bind fun y6 =>
          if y6 = true then
            (m_spec_l3Cell fuel x0_2).bind fun y7 =>
            if y7 = true then
              some (.ret (decide (x0_3 = 0)))
            else
              some (.ret false)
          else
            some (.ret false)
        else
          if x0_0 = 6 then
            (m_spec_l3Cell fuel x0_1).bind fun y8 =>
            if y8 = true then
              (m_spec_l4Reg fuel x0_2).bind fun y9 =>
              if y9 = true then
                some (.ret (decide (x0_3 = 0)))
              else
                some (.ret false)
            else
              some (.ret false)
          else
            if x0_0 = 7 then
              (m_spec_l4Reg fuel x0_1).bind fun y10 =>
              if y10 = true then
                (m_spec_l1In fuel x0_2 1 20).bind fun y11 =>
                if y11 = true then
                  some (.ret (decide (x0_3 = 0)))
                else
                  some (.ret false)
              else
                some (.ret false)
            else
              (
                if x0_0 = 8 then
                  some (decide (x0_0 = 8))
                else
                  if x0_0 = 15 then
                    some (decide (x0_0 = 15))
                  else
                    some (decide (x0_0 = 16))).bind fun z2 =>
              if z2 = true then
                (m_spec_l4Reg fuel x0_1).bind fun y12 =>
                if y12 = true then
                  if x0_2 = 0 then
                    some (.ret (decide (x0_3 = 0)))
                  else
                    some (.ret false)
                else
                  some (.ret false)
              else
                (
                  if x0_0 = 9 then
                    some (decide (x0_0 = 9))
                  else
                    if x0_0 = 10 then
                      some (decide (x0_0 = 10))
                    else
                      some (decide (x0_0 = 11))).bind fun z3 =>
                if z3 = true then
                  if x0_1 = 0 then
                    if x0_2 = 0 then
                      some (.ret (decide (x0_3 = 0)))
                    else
                      some (.ret false)
                  else
                    some (.ret false)
                else
                  if x0_0 = 12 then
                    (m_spec_l1In fuel x0_1 0 7).bind fun y13 =>
                    if y13 = true then
                      (m_spec_l4Reg fuel x0_2).bind fun y14 =>
                      if y14 = true then
                        (m_spec_l4Reg fuel x0_3).bind fun y15 =>
                        some (.ret y15)
                      else
                        some (.ret false)
                    else
                      some (.ret false)
                  else
                    if x0_0 = 13 then
                      (m_spec_l4Reg fuel x0_1).bind fun y16 =>
                      if y16 = true then
                        (m_spec_l1In fuel x0_2 0 7).bind fun y17 =>
                        if y17 = true then
                          some (.ret (decide (x0_3 = 0)))
                        else
                          some (.ret false)
                      else
                        some (.ret false)
                    else
                      if x0_0 = 14 then
                        (m_spec_l1In fuel x0_1 0 7).bind fun y18 =>
                        if y18 = true then
                          (m_spec_l4Reg fuel x0_2).bind fun y19 =>
                          if y19 = true then
                            some (.ret (decide (x0_3 = 0)))
                          else
                            some (.ret false)
                        else
                          some (.ret false)
                      else
                        some (.brk ())).bind <| contL <| un1 fun _ =>
  some false

set_option maxRecDepth 100000 in
set_option maxHeartbeats 4000000 in
theorem w_spec_OpOk (fuel : Nat) {x0_0 : Int} {x0_1 : Int} {x0_2 : Int} {x0_3 : Int} {r0 : Bool} {w0 : World} (h : m_spec_OpOk fuel x0_0 x0_1 x0_2 x0_3 = some r0) :
    Calls Try.prog 40 #[.agg #[.int .i64 x0_0, .int .i64 x0_1, .int .i64 x0_2, .int .i64 x0_3]] w0 fun e w => e = .returned (.bool r0) ∧ St w0 (fun _ => False) w [] := by
  have HT : St w0 (fun _ => False) w0 [] := St.init0
  rw [m_spec_OpOk] at h
  refine calls_fr (n := 161) [.agg #[.int .i64 x0_0, .int .i64 x0_1, .int .i64 x0_2, .int .i64 x0_3]] Try.func40 rfl rfl rfl (fun a HF => ?_)
  have HT : St w0 (fun _ => False) w0 [] := HT
  refine wp_seq ?_
  refine wc_text ?_
  refine wc_box (cs := [.int .i64 x0_0, .int .i64 x0_1, .int .i64 x0_2, .int .i64 x0_3]) HF HT rfl rfl rfl rfl (fun p1 w HT hb => ⟨nS, fun a HF => ?_⟩)
  refine wc_assign HF nS rfl rfl rfl (fun a HF => ?_)
  refine wc_end ?_
  refine then_n ?_
  obtain ⟨q1, hx1, h⟩ := obs h
  refine wp_cut (fun a w => q1 = .brk () ∧ Fr a 161 [] ∧ St w0 (fun _ => False) w []) ?_ ?_
  · have hk1 := h
    have h := hx1
    refine wp_seq ?_
    refine wc_text ?_
    refine wc_faddr HF nS rfl fl25_0 rfl rfl (fun a HF => ?_)
    refine wc_load HF rfl sc3 ((HT.boxAt 0 rfl).get 0 rfl) rfl rfl (fun a HF => ?_)
    refine wc_end ?_
    refine then_n ?_
    refine wp_block ?_
    refine wp_seq ?_
    refine wc_text ?_
    refine wc_bin HF nS rfl rfl b_eq rfl rfl (fun a HF => ?_)
    refine wc_assign HF nS rfl rfl rfl (fun a HF => ?_)
    refine wc_end ?_
    refine then_n ?_
    by_cases hb1 : x0_0 = 1
    · have h := (if_pos hb1).symm.trans h
      refine wp_if (b' := true) HF rfl (decide_eq_true hb1) ?_
      refine wp_seq ?_
      refine wc_text ?_
      refine wc_faddr HF nS rfl fl25_1 rfl rfl (fun a HF => ?_)
      refine wc_load HF rfl sc3 ((HT.boxAt 0 rfl).get 1 rfl) rfl rfl (fun a HF => ?_)
      obtain ⟨y1, hx2, h⟩ := obs h
      refine wc_call HF cf73 rfl (w_spec_l4Reg fuel hx2) rfl rfl ?_
      rintro e w ⟨rfl, hE⟩
      have hb := hE.below
      have HT := HT.pure hE
      have HT : St w0 (fun _ => False) w [Box p1 [.int .i64 x0_0, .int .i64 x0_1, .int .i64 x0_2, .int .i64 x0_3]] := HT
      refine ⟨_, rfl, nS, fun a HF => ?_⟩
      refine wc_move HF nS rfl rfl rfl (fun a HF => ?_)
      by_cases hb2 : y1 = true
      · have h := (if_pos hb2).symm.trans h
        refine wc_faddr HF nS rfl fl25_2 (HF.wy rfl rfl rfl rfl hb2) rfl (fun a HF => ?_)
        refine wc_load HF rfl sc3 ((HT.boxAt 0 rfl).get 2 rfl) (HF.wy rfl rfl rfl rfl hb2) rfl (fun a HF => ?_)
        obtain ⟨y2, hx3, h⟩ := obs h
        refine wc_call HF cf74 rfl (w_spec_l3Val fuel hx3) (HF.wy rfl rfl rfl rfl hb2) rfl ?_
        rintro e w ⟨rfl, hE⟩
        have hb := hE.below
        have HT := HT.pure hE
        have HT : St w0 (fun _ => False) w [Box p1 [.int .i64 x0_0, .int .i64 x0_1, .int .i64 x0_2, .int .i64 x0_3]] := HT
        refine ⟨_, rfl, nS, fun a HF => ?_⟩
        refine wc_pick (b := true) HF nS rfl hb2 rfl rfl rfl (fun a HF => ?_)
        refine wc_move HF nS rfl rfl rfl (fun a HF => ?_)
        by_cases hb3 : y2 = true
        · have h := (if_pos hb3).symm.trans h
          refine wc_faddr HF nS rfl fl25_3 (HF.wy rfl rfl rfl rfl hb3) rfl (fun a HF => ?_)
          refine wc_load HF rfl sc3 ((HT.boxAt 0 rfl).get 3 rfl) (HF.wy rfl rfl rfl rfl hb3) rfl (fun a HF => ?_)
          refine wc_bin HF nS rfl rfl b_eq (HF.wy rfl rfl rfl rfl hb3) rfl (fun a HF => ?_)
          refine wc_pick (b := true) HF nS rfl hb3 rfl rfl rfl (fun a HF => ?_)
          refine wc_assign HF nS rfl rfl rfl (fun a HF => ?_)
          refine wc_end ?_
          refine then_n ?_
          refine wp_ret ?_
          obtain rfl := Option.some.inj h
          have h := retL hk1
          obtain rfl := Option.some.inj h
          refine blk_r (then_r (?_))
          refine bp_ret HF (res_one rfl HF rfl) ?_
          have HT : St w0 (fun _ => False) w [] := HT.take 0
          exact ⟨rfl, HT⟩
        · have h := (if_neg hb3).symm.trans h
          refine wc_skip HF nS (HF.wn rfl rfl rfl rfl (Bool.eq_false_iff.2 hb3)) rfl (fun a HF => ?_)
          refine wc_skip HF nS (HF.wn rfl rfl rfl rfl (Bool.eq_false_iff.2 hb3)) rfl (fun a HF => ?_)
          refine wc_skip HF nS (HF.wn rfl rfl rfl rfl (Bool.eq_false_iff.2 hb3)) rfl (fun a HF => ?_)
          refine wc_pick (b := false) HF nS rfl (Bool.eq_false_iff.2 hb3) rfl rfl rfl (fun a HF => ?_)
          refine wc_assign HF nS rfl rfl rfl (fun a HF => ?_)
          refine wc_end ?_
          refine then_n ?_
          refine wp_ret ?_
          obtain rfl := Option.some.inj h
          have h := retL hk1
          obtain rfl := Option.some.inj h
          refine blk_r (then_r (?_))
          refine bp_ret HF (res_one rfl HF rfl) ?_
          have HT : St w0 (fun _ => False) w [] := HT.take 0
          exact ⟨rfl, HT⟩
      · have h := (if_neg hb2).symm.trans h
        refine wc_skip HF nS (HF.wn rfl rfl rfl rfl (Bool.eq_false_iff.2 hb2)) rfl (fun a HF => ?_)
        refine wc_skip HF nS (HF.wn rfl rfl rfl rfl (Bool.eq_false_iff.2 hb2)) rfl (fun a HF => ?_)
        refine wc_skip HF nS (HF.wn rfl rfl rfl rfl (Bool.eq_false_iff.2 hb2)) rfl (fun a HF => ?_)
        refine wc_pick (b := false) HF nS rfl (Bool.eq_false_iff.2 hb2) rfl rfl rfl (fun a HF => ?_)
        refine wc_move HF nS rfl rfl rfl (fun a HF => ?_)
        refine wc_skip HF nS (HF.wn rfl rfl rfl rfl rfl) rfl (fun a HF => ?_)
        refine wc_skip HF nS (HF.wn rfl rfl rfl rfl rfl) rfl (fun a HF => ?_)
        refine wc_skip HF nS (HF.wn rfl rfl rfl rfl rfl) rfl (fun a HF => ?_)
        refine wc_pick (b := false) HF nS rfl rfl rfl rfl rfl (fun a HF => ?_)
        refine wc_assign HF nS rfl rfl rfl (fun a HF => ?_)
        refine wc_end ?_
        refine then_n ?_
        refine wp_ret ?_
        obtain rfl := Option.some.inj h
        have h := retL hk1
        obtain rfl := Option.some.inj h
        refine blk_r (then_r (?_))
        refine bp_ret HF (res_one rfl HF rfl) ?_
        have HT : St w0 (fun _ => False) w [] := HT.take 0
        exact ⟨rfl, HT⟩
    · have h := (if_neg hb1).symm.trans h
      refine wp_if (b' := false) HF rfl (decide_eq_false hb1) ?_
      obtain ⟨z1, hx4, h⟩ := obs h
      refine wp_cut (fun a w => Fr a 161 [(1, .pointer (some ⟨p1, 0, none⟩)), (4, .int .i64 x0_0), (20, .bool z1)] ∧ St w0 (fun _ => False) w [Box p1 [.int .i64 x0_0, .int .i64 x0_1, .int .i64 x0_2, .int .i64 x0_3]]) ?_ ?_
      · have hk2 := h
        have h := hx4
        refine wp_seq ?_
        refine wc_text ?_
        refine wc_bin HF nS rfl rfl b_eq rfl rfl (fun a HF => ?_)
        refine wc_assign HF nS rfl rfl rfl (fun a HF => ?_)
        refine wc_end ?_
        refine then_n ?_
        by_cases hb4 : x0_0 = 2
        · have h := (if_pos hb4).symm.trans h
          refine wp_if (b' := true) HF rfl (decide_eq_true hb4) ?_
          refine wp_skip ?_
          obtain rfl := Option.some.inj h
          exact then_n ⟨(HF.keep (HF.keep (HF.keep HF.nil rfl) rfl) rfl), HT⟩
        · have h := (if_neg hb4).symm.trans h
          refine wp_if (b' := false) HF rfl (decide_eq_false hb4) ?_
          refine wp_seq ?_
          refine wc_text ?_
          refine wc_bin HF nS rfl rfl b_eq rfl rfl (fun a HF => ?_)
          refine wc_assign HF nS rfl rfl rfl (fun a HF => ?_)
          refine wc_end ?_
          refine then_n ?_
          by_cases hb5 : x0_0 = 3
          · have h := (if_pos hb5).symm.trans h
            refine wp_if (b' := true) HF rfl (decide_eq_true hb5) ?_
            refine wp_skip ?_
            obtain rfl := Option.some.inj h
            exact then_n ⟨(HF.keep (HF.keep (HF.keep HF.nil rfl) rfl) rfl), HT⟩
          · have h := (if_neg hb5).symm.trans h
            refine wp_if (b' := false) HF rfl (decide_eq_false hb5) ?_
            refine wc_text ?_
            refine wc_bin HF nS rfl rfl b_eq rfl rfl (fun a HF => ?_)
            refine wc_assign HF nS rfl rfl rfl (fun a HF => ?_)
            refine wc_end ?_
            obtain rfl := Option.some.inj h
            exact then_n ⟨(HF.keep (HF.keep (HF.keep HF.nil rfl) rfl) rfl), HT⟩
      · rintro a w ⟨HF, HT⟩
        refine ?_
        by_cases hb6 : z1 = true
        · have h := (if_pos hb6).symm.trans h
          refine wp_if (b' := true) HF rfl hb6 ?_
          refine wp_seq ?_
          refine wc_text ?_
          refine wc_faddr HF nS rfl fl25_1 rfl rfl (fun a HF => ?_)
          refine wc_load HF rfl sc3 ((HT.boxAt 0 rfl).get 1 rfl) rfl rfl (fun a HF => ?_)
          obtain ⟨y3, hx5, h⟩ := obs h
          refine wc_call HF cf73 rfl (w_spec_l4Reg fuel hx5) rfl rfl ?_
          rintro e w ⟨rfl, hE⟩
          have hb := hE.below
          have HT := HT.pure hE
          have HT : St w0 (fun _ => False) w [Box p1 [.int .i64 x0_0, .int .i64 x0_1, .int .i64 x0_2, .int .i64 x0_3]] := HT
          refine ⟨_, rfl, nS, fun a HF => ?_⟩
          refine wc_move HF nS rfl rfl rfl (fun a HF => ?_)
          by_cases hb7 : y3 = true
          · have h := (if_pos hb7).symm.trans h
            refine wc_faddr HF nS rfl fl25_2 (HF.wy rfl rfl rfl rfl hb7) rfl (fun a HF => ?_)
            refine wc_load HF rfl sc3 ((HT.boxAt 0 rfl).get 2 rfl) (HF.wy rfl rfl rfl rfl hb7) rfl (fun a HF => ?_)
            obtain ⟨y4, hx6, h⟩ := obs h
            refine wc_call HF cf73 rfl (w_spec_l4Reg fuel hx6) (HF.wy rfl rfl rfl rfl hb7) rfl ?_
            rintro e w ⟨rfl, hE⟩
            have hb := hE.below
            have HT := HT.pure hE
            have HT : St w0 (fun _ => False) w [Box p1 [.int .i64 x0_0, .int .i64 x0_1, .int .i64 x0_2, .int .i64 x0_3]] := HT
            refine ⟨_, rfl, nS, fun a HF => ?_⟩
            refine wc_pick (b := true) HF nS rfl hb7 rfl rfl rfl (fun a HF => ?_)
            refine wc_move HF nS rfl rfl rfl (fun a HF => ?_)
            by_cases hb8 : y4 = true
            · have h := (if_pos hb8).symm.trans h
              refine wc_faddr HF nS rfl fl25_3 (HF.wy rfl rfl rfl rfl hb8) rfl (fun a HF => ?_)
              refine wc_load HF rfl sc3 ((HT.boxAt 0 rfl).get 3 rfl) (HF.wy rfl rfl rfl rfl hb8) rfl (fun a HF => ?_)
              obtain ⟨y5, hx7, h⟩ := obs h
              refine wc_call HF cf73 rfl (w_spec_l4Reg fuel hx7) (HF.wy rfl rfl rfl rfl hb8) rfl ?_
              rintro e w ⟨rfl, hE⟩
              have hb := hE.below
              have HT := HT.pure hE
              have HT : St w0 (fun _ => False) w [Box p1 [.int .i64 x0_0, .int .i64 x0_1, .int .i64 x0_2, .int .i64 x0_3]] := HT
              refine ⟨_, rfl, nS, fun a HF => ?_⟩
              refine wc_pick (b := true) HF nS rfl hb8 rfl rfl rfl (fun a HF => ?_)
              refine wc_assign HF nS rfl rfl rfl (fun a HF => ?_)
              refine wc_end ?_
              refine then_n ?_
              refine wp_ret ?_
              obtain rfl := Option.some.inj h
              have h := retL hk1
              obtain rfl := Option.some.inj h
              refine blk_r (then_r (?_))
              refine bp_ret HF (res_one rfl HF rfl) ?_
              have HT : St w0 (fun _ => False) w [] := HT.take 0
              exact ⟨rfl, HT⟩
            · have h := (if_neg hb8).symm.trans h
              refine wc_skip HF nS (HF.wn rfl rfl rfl rfl (Bool.eq_false_iff.2 hb8)) rfl (fun a HF => ?_)
              refine wc_skip HF nS (HF.wn rfl rfl rfl rfl (Bool.eq_false_iff.2 hb8)) rfl (fun a HF => ?_)
              refine wc_skip HF nS (HF.wn rfl rfl rfl rfl (Bool.eq_false_iff.2 hb8)) rfl (fun a HF => ?_)
              refine wc_pick (b := false) HF nS rfl (Bool.eq_false_iff.2 hb8) rfl rfl rfl (fun a HF => ?_)
              refine wc_assign HF nS rfl rfl rfl (fun a HF => ?_)
              refine wc_end ?_
              refine then_n ?_
              refine wp_ret ?_
              obtain rfl := Option.some.inj h
              have h := retL hk1
              obtain rfl := Option.some.inj h
              refine blk_r (then_r (?_))
              refine bp_ret HF (res_one rfl HF rfl) ?_
              have HT : St w0 (fun _ => False) w [] := HT.take 0
              exact ⟨rfl, HT⟩
          · have h := (if_neg hb7).symm.trans h
            refine wc_skip HF nS (HF.wn rfl rfl rfl rfl (Bool.eq_false_iff.2 hb7)) rfl (fun a HF => ?_)
            refine wc_skip HF nS (HF.wn rfl rfl rfl rfl (Bool.eq_false_iff.2 hb7)) rfl (fun a HF => ?_)
            refine wc_skip HF nS (HF.wn rfl rfl rfl rfl (Bool.eq_false_iff.2 hb7)) rfl (fun a HF => ?_)
            refine wc_pick (b := false) HF nS rfl (Bool.eq_false_iff.2 hb7) rfl rfl rfl (fun a HF => ?_)
            refine wc_move HF nS rfl rfl rfl (fun a HF => ?_)
            refine wc_skip HF nS (HF.wn rfl rfl rfl rfl rfl) rfl (fun a HF => ?_)
            refine wc_skip HF nS (HF.wn rfl rfl rfl rfl rfl) rfl (fun a HF => ?_)
            refine wc_skip HF nS (HF.wn rfl rfl rfl rfl rfl) rfl (fun a HF => ?_)
            refine wc_pick (b := false) HF nS rfl rfl rfl rfl rfl (fun a HF => ?_)
            refine wc_assign HF nS rfl rfl rfl (fun a HF => ?_)
            refine wc_end ?_
            refine then_n ?_
            refine wp_ret ?_
            obtain rfl := Option.some.inj h
            have h := retL hk1
            obtain rfl := Option.some.inj h
            refine blk_r (then_r (?_))
            refine bp_ret HF (res_one rfl HF rfl) ?_
            have HT : St w0 (fun _ => False) w [] := HT.take 0
            exact ⟨rfl, HT⟩
        · have h := (if_neg hb6).symm.trans h
          refine wp_if (b' := false) HF rfl (Bool.eq_false_iff.2 hb6) ?_
          refine wp_seq ?_
          refine wc_text ?_
          refine wc_bin HF nS rfl rfl b_eq rfl rfl (fun a HF => ?_)
          refine wc_assign HF nS rfl rfl rfl (fun a HF => ?_)
          refine wc_end ?_
          refine then_n ?_
          by_cases hb9 : x0_0 = 5
          · have h := (if_pos hb9).symm.trans h
            refine wp_if (b' := true) HF rfl (decide_eq_true hb9) ?_
            refine wp_seq ?_
            refine wc_text ?_
            refine wc_faddr HF nS rfl fl25_1 rfl rfl (fun a HF => ?_)
            refine wc_load HF rfl sc3 ((HT.boxAt 0 rfl).get 1 rfl) rfl rfl (fun a HF => ?_)
            obtain ⟨y6, hx8, h⟩ := obs h
            refine wc_call HF cf73 rfl (w_spec_l4Reg fuel hx8) rfl rfl ?_
            rintro e w ⟨rfl, hE⟩
            have hb := hE.below
            have HT := HT.pure hE
            have HT : St w0 (fun _ => False) w [Box p1 [.int .i64 x0_0, .int .i64 x0_1, .int .i64 x0_2, .int .i64 x0_3]] := HT
            refine ⟨_, rfl, nS, fun a HF => ?_⟩
            refine wc_move HF nS rfl rfl rfl (fun a HF => ?_)
            by_cases hb10 : y6 = true
            · have h := (if_pos hb10).symm.trans h
              refine wc_faddr HF nS rfl fl25_2 (HF.wy rfl rfl rfl rfl hb10) rfl (fun a HF => ?_)
              refine wc_load HF rfl sc3 ((HT.boxAt 0 rfl).get 2 rfl) (HF.wy rfl rfl rfl rfl hb10) rfl (fun a HF => ?_)
              obtain ⟨y7, hx9, h⟩ := obs h
              refine wc_call HF cf75 rfl (w_spec_l3Cell fuel hx9) (HF.wy rfl rfl rfl rfl hb10) rfl ?_
              rintro e w ⟨rfl, hE⟩
              have hb := hE.below
              have HT := HT.pure hE
              have HT : St w0 (fun _ => False) w [Box p1 [.int .i64 x0_0, .int .i64 x0_1, .int .i64 x0_2, .int .i64 x0_3]] := HT
              refine ⟨_, rfl, nS, fun a HF => ?_⟩
              refine wc_pick (b := true) HF nS rfl hb10 rfl rfl rfl (fun a HF => ?_)
              refine wc_move HF nS rfl rfl rfl (fun a HF => ?_)
              by_cases hb11 : y7 = true
              · have h := (if_pos hb11).symm.trans h
                refine wc_faddr HF nS rfl fl25_3 (HF.wy rfl rfl rfl rfl hb11) rfl (fun a HF => ?_)
                refine wc_load HF rfl sc3 ((HT.boxAt 0 rfl).get 3 rfl) (HF.wy rfl rfl rfl rfl hb11) rfl (fun a HF => ?_)
                refine wc_bin HF nS rfl rfl b_eq (HF.wy rfl rfl rfl rfl hb11) rfl (fun a HF => ?_)
                refine wc_pick (b := true) HF nS rfl hb11 rfl rfl rfl (fun a HF => ?_)
                refine wc_assign HF nS rfl rfl rfl (fun a HF => ?_)
                refine wc_end ?_
                refine then_n ?_
                refine wp_ret ?_
                obtain rfl := Option.some.inj h
                have h := retL hk1
                obtain rfl := Option.some.inj h
                refine blk_r (then_r (?_))
                refine bp_ret HF (res_one rfl HF rfl) ?_
                have HT : St w0 (fun _ => False) w [] := HT.take 0
                exact ⟨rfl, HT⟩
              · have h := (if_neg hb11).symm.trans h
                refine wc_skip HF nS (HF.wn rfl rfl rfl rfl (Bool.eq_false_iff.2 hb11)) rfl (fun a HF => ?_)
                refine wc_skip HF nS (HF.wn rfl rfl rfl rfl (Bool.eq_false_iff.2 hb11)) rfl (fun a HF => ?_)
                refine wc_skip HF nS (HF.wn rfl rfl rfl rfl (Bool.eq_false_iff.2 hb11)) rfl (fun a HF => ?_)
                refine wc_pick (b := false) HF nS rfl (Bool.eq_false_iff.2 hb11) rfl rfl rfl (fun a HF => ?_)
                refine wc_assign HF nS rfl rfl rfl (fun a HF => ?_)
                refine wc_end ?_
                refine then_n ?_
                refine wp_ret ?_
                obtain rfl := Option.some.inj h
                have h := retL hk1
                obtain rfl := Option.some.inj h
                refine blk_r (then_r (?_))
                refine bp_ret HF (res_one rfl HF rfl) ?_
                have HT : St w0 (fun _ => False) w [] := HT.take 0
                exact ⟨rfl, HT⟩
            · have h := (if_neg hb10).symm.trans h
              refine wc_skip HF nS (HF.wn rfl rfl rfl rfl (Bool.eq_false_iff.2 hb10)) rfl (fun a HF => ?_)
              refine wc_skip HF nS (HF.wn rfl rfl rfl rfl (Bool.eq_false_iff.2 hb10)) rfl (fun a HF => ?_)
              refine wc_skip HF nS (HF.wn rfl rfl rfl rfl (Bool.eq_false_iff.2 hb10)) rfl (fun a HF => ?_)
              refine wc_pick (b := false) HF nS rfl (Bool.eq_false_iff.2 hb10) rfl rfl rfl (fun a HF => ?_)
              refine wc_move HF nS rfl rfl rfl (fun a HF => ?_)
              refine wc_skip HF nS (HF.wn rfl rfl rfl rfl rfl) rfl (fun a HF => ?_)
              refine wc_skip HF nS (HF.wn rfl rfl rfl rfl rfl) rfl (fun a HF => ?_)
              refine wc_skip HF nS (HF.wn rfl rfl rfl rfl rfl) rfl (fun a HF => ?_)
              refine wc_pick (b := false) HF nS rfl rfl rfl rfl rfl (fun a HF => ?_)
              refine wc_assign HF nS rfl rfl rfl (fun a HF => ?_)
              refine wc_end ?_
              refine then_n ?_
              refine wp_ret ?_
              obtain rfl := Option.some.inj h
              have h := retL hk1
              obtain rfl := Option.some.inj h
              refine blk_r (then_r (?_))
              refine bp_ret HF (res_one rfl HF rfl) ?_
              have HT : St w0 (fun _ => False) w [] := HT.take 0
              exact ⟨rfl, HT⟩
          · have h := (if_neg hb9).symm.trans h
            refine wp_if (b' := false) HF rfl (decide_eq_false hb9) ?_
            refine wp_seq ?_
            refine wc_text ?_
            refine wc_bin HF nS rfl rfl b_eq rfl rfl (fun a HF => ?_)
            refine wc_assign HF nS rfl rfl rfl (fun a HF => ?_)
            refine wc_end ?_
            refine then_n ?_
            by_cases hb12 : x0_0 = 6
            · have h := (if_pos hb12).symm.trans h
              refine wp_if (b' := true) HF rfl (decide_eq_true hb12) ?_
              refine wp_seq ?_
              refine wc_text ?_
              refine wc_faddr HF nS rfl fl25_1 rfl rfl (fun a HF => ?_)
              refine wc_load HF rfl sc3 ((HT.boxAt 0 rfl).get 1 rfl) rfl rfl (fun a HF => ?_)
              obtain ⟨y8, hx10, h⟩ := obs h
              refine wc_call HF cf75 rfl (w_spec_l3Cell fuel hx10) rfl rfl ?_
              rintro e w ⟨rfl, hE⟩
              have hb := hE.below
              have HT := HT.pure hE
              have HT : St w0 (fun _ => False) w [Box p1 [.int .i64 x0_0, .int .i64 x0_1, .int .i64 x0_2, .int .i64 x0_3]] := HT
              refine ⟨_, rfl, nS, fun a HF => ?_⟩
              refine wc_move HF nS rfl rfl rfl (fun a HF => ?_)
              by_cases hb13 : y8 = true
              · have h := (if_pos hb13).symm.trans h
                refine wc_faddr HF nS rfl fl25_2 (HF.wy rfl rfl rfl rfl hb13) rfl (fun a HF => ?_)
                refine wc_load HF rfl sc3 ((HT.boxAt 0 rfl).get 2 rfl) (HF.wy rfl rfl rfl rfl hb13) rfl (fun a HF => ?_)
                obtain ⟨y9, hx11, h⟩ := obs h
                refine wc_call HF cf73 rfl (w_spec_l4Reg fuel hx11) (HF.wy rfl rfl rfl rfl hb13) rfl ?_
                rintro e w ⟨rfl, hE⟩
                have hb := hE.below
                have HT := HT.pure hE
                have HT : St w0 (fun _ => False) w [Box p1 [.int .i64 x0_0, .int .i64 x0_1, .int .i64 x0_2, .int .i64 x0_3]] := HT
                refine ⟨_, rfl, nS, fun a HF => ?_⟩
                refine wc_pick (b := true) HF nS rfl hb13 rfl rfl rfl (fun a HF => ?_)
                refine wc_move HF nS rfl rfl rfl (fun a HF => ?_)
                by_cases hb14 : y9 = true
                · have h := (if_pos hb14).symm.trans h
                  refine wc_faddr HF nS rfl fl25_3 (HF.wy rfl rfl rfl rfl hb14) rfl (fun a HF => ?_)
                  refine wc_load HF rfl sc3 ((HT.boxAt 0 rfl).get 3 rfl) (HF.wy rfl rfl rfl rfl hb14) rfl (fun a HF => ?_)
                  refine wc_bin HF nS rfl rfl b_eq (HF.wy rfl rfl rfl rfl hb14) rfl (fun a HF => ?_)
                  refine wc_pick (b := true) HF nS rfl hb14 rfl rfl rfl (fun a HF => ?_)
                  refine wc_assign HF nS rfl rfl rfl (fun a HF => ?_)
                  refine wc_end ?_
                  refine then_n ?_
                  refine wp_ret ?_
                  obtain rfl := Option.some.inj h
                  have h := retL hk1
                  obtain rfl := Option.some.inj h
                  refine blk_r (then_r (?_))
                  refine bp_ret HF (res_one rfl HF rfl) ?_
                  have HT : St w0 (fun _ => False) w [] := HT.take 0
                  exact ⟨rfl, HT⟩
                · have h := (if_neg hb14).symm.trans h
                  refine wc_skip HF nS (HF.wn rfl rfl rfl rfl (Bool.eq_false_iff.2 hb14)) rfl (fun a HF => ?_)
                  refine wc_skip HF nS (HF.wn rfl rfl rfl rfl (Bool.eq_false_iff.2 hb14)) rfl (fun a HF => ?_)
                  refine wc_skip HF nS (HF.wn rfl rfl rfl rfl (Bool.eq_false_iff.2 hb14)) rfl (fun a HF => ?_)
                  refine wc_pick (b := false) HF nS rfl (Bool.eq_false_iff.2 hb14) rfl rfl rfl (fun a HF => ?_)
                  refine wc_assign HF nS rfl rfl rfl (fun a HF => ?_)
                  refine wc_end ?_
                  refine then_n ?_
                  refine wp_ret ?_
                  obtain rfl := Option.some.inj h
                  have h := retL hk1
                  obtain rfl := Option.some.inj h
                  refine blk_r (then_r (?_))
                  refine bp_ret HF (res_one rfl HF rfl) ?_
                  have HT : St w0 (fun _ => False) w [] := HT.take 0
                  exact ⟨rfl, HT⟩
              · have h := (if_neg hb13).symm.trans h
                refine wc_skip HF nS (HF.wn rfl rfl rfl rfl (Bool.eq_false_iff.2 hb13)) rfl (fun a HF => ?_)
                refine wc_skip HF nS (HF.wn rfl rfl rfl rfl (Bool.eq_false_iff.2 hb13)) rfl (fun a HF => ?_)
                refine wc_skip HF nS (HF.wn rfl rfl rfl rfl (Bool.eq_false_iff.2 hb13)) rfl (fun a HF => ?_)
                refine wc_pick (b := false) HF nS rfl (Bool.eq_false_iff.2 hb13) rfl rfl rfl (fun a HF => ?_)
                refine wc_move HF nS rfl rfl rfl (fun a HF => ?_)
                refine wc_skip HF nS (HF.wn rfl rfl rfl rfl rfl) rfl (fun a HF => ?_)
                refine wc_skip HF nS (HF.wn rfl rfl rfl rfl rfl) rfl (fun a HF => ?_)
                refine wc_skip HF nS (HF.wn rfl rfl rfl rfl rfl) rfl (fun a HF => ?_)
                refine wc_pick (b := false) HF nS rfl rfl rfl rfl rfl (fun a HF => ?_)
                refine wc_assign HF nS rfl rfl rfl (fun a HF => ?_)
                refine wc_end ?_
                refine then_n ?_
                refine wp_ret ?_
                obtain rfl := Option.some.inj h
                have h := retL hk1
                obtain rfl := Option.some.inj h
                refine blk_r (then_r (?_))
                refine bp_ret HF (res_one rfl HF rfl) ?_
                have HT : St w0 (fun _ => False) w [] := HT.take 0
                exact ⟨rfl, HT⟩
            · have h := (if_neg hb12).symm.trans h
              refine wp_if (b' := false) HF rfl (decide_eq_false hb12) ?_
              refine wp_seq ?_
              refine wc_text ?_
              refine wc_bin HF nS rfl rfl b_eq rfl rfl (fun a HF => ?_)
              refine wc_assign HF nS rfl rfl rfl (fun a HF => ?_)
              refine wc_end ?_
              refine then_n ?_
              by_cases hb15 : x0_0 = 7
              · have h := (if_pos hb15).symm.trans h
                refine wp_if (b' := true) HF rfl (decide_eq_true hb15) ?_
                refine wp_seq ?_
                refine wc_text ?_
                refine wc_faddr HF nS rfl fl25_1 rfl rfl (fun a HF => ?_)
                refine wc_load HF rfl sc3 ((HT.boxAt 0 rfl).get 1 rfl) rfl rfl (fun a HF => ?_)
                obtain ⟨y10, hx12, h⟩ := obs h
                refine wc_call HF cf73 rfl (w_spec_l4Reg fuel hx12) rfl rfl ?_
                rintro e w ⟨rfl, hE⟩
                have hb := hE.below
                have HT := HT.pure hE
                have HT : St w0 (fun _ => False) w [Box p1 [.int .i64 x0_0, .int .i64 x0_1, .int .i64 x0_2, .int .i64 x0_3]] := HT
                refine ⟨_, rfl, nS, fun a HF => ?_⟩
                refine wc_move HF nS rfl rfl rfl (fun a HF => ?_)
                by_cases hb16 : y10 = true
                · have h := (if_pos hb16).symm.trans h
                  refine wc_faddr HF nS rfl fl25_2 (HF.wy rfl rfl rfl rfl hb16) rfl (fun a HF => ?_)
                  refine wc_load HF rfl sc3 ((HT.boxAt 0 rfl).get 2 rfl) (HF.wy rfl rfl rfl rfl hb16) rfl (fun a HF => ?_)
                  obtain ⟨y11, hx13, h⟩ := obs h
                  refine wc_call HF cf76 rfl (w_spec_l1In fuel hx13) (HF.wy rfl rfl rfl rfl hb16) rfl ?_
                  rintro e w ⟨rfl, hE⟩
                  have hb := hE.below
                  have HT := HT.pure hE
                  have HT : St w0 (fun _ => False) w [Box p1 [.int .i64 x0_0, .int .i64 x0_1, .int .i64 x0_2, .int .i64 x0_3]] := HT
                  refine ⟨_, rfl, nS, fun a HF => ?_⟩
                  refine wc_pick (b := true) HF nS rfl hb16 rfl rfl rfl (fun a HF => ?_)
                  refine wc_move HF nS rfl rfl rfl (fun a HF => ?_)
                  by_cases hb17 : y11 = true
                  · have h := (if_pos hb17).symm.trans h
                    refine wc_faddr HF nS rfl fl25_3 (HF.wy rfl rfl rfl rfl hb17) rfl (fun a HF => ?_)
                    refine wc_load HF rfl sc3 ((HT.boxAt 0 rfl).get 3 rfl) (HF.wy rfl rfl rfl rfl hb17) rfl (fun a HF => ?_)
                    refine wc_bin HF nS rfl rfl b_eq (HF.wy rfl rfl rfl rfl hb17) rfl (fun a HF => ?_)
                    refine wc_pick (b := true) HF nS rfl hb17 rfl rfl rfl (fun a HF => ?_)
                    refine wc_assign HF nS rfl rfl rfl (fun a HF => ?_)
                    refine wc_end ?_
                    refine then_n ?_
                    refine wp_ret ?_
                    obtain rfl := Option.some.inj h
                    have h := retL hk1
                    obtain rfl := Option.some.inj h
                    refine blk_r (then_r (?_))
                    refine bp_ret HF (res_one rfl HF rfl) ?_
                    have HT : St w0 (fun _ => False) w [] := HT.take 0
                    exact ⟨rfl, HT⟩
                  · have h := (if_neg hb17).symm.trans h
                    refine wc_skip HF nS (HF.wn rfl rfl rfl rfl (Bool.eq_false_iff.2 hb17)) rfl (fun a HF => ?_)
                    refine wc_skip HF nS (HF.wn rfl rfl rfl rfl (Bool.eq_false_iff.2 hb17)) rfl (fun a HF => ?_)
                    refine wc_skip HF nS (HF.wn rfl rfl rfl rfl (Bool.eq_false_iff.2 hb17)) rfl (fun a HF => ?_)
                    refine wc_pick (b := false) HF nS rfl (Bool.eq_false_iff.2 hb17) rfl rfl rfl (fun a HF => ?_)
                    refine wc_assign HF nS rfl rfl rfl (fun a HF => ?_)
                    refine wc_end ?_
                    refine then_n ?_
                    refine wp_ret ?_
                    obtain rfl := Option.some.inj h
                    have h := retL hk1
                    obtain rfl := Option.some.inj h
                    refine blk_r (then_r (?_))
                    refine bp_ret HF (res_one rfl HF rfl) ?_
                    have HT : St w0 (fun _ => False) w [] := HT.take 0
                    exact ⟨rfl, HT⟩
                · have h := (if_neg hb16).symm.trans h
                  refine wc_skip HF nS (HF.wn rfl rfl rfl rfl (Bool.eq_false_iff.2 hb16)) rfl (fun a HF => ?_)
                  refine wc_skip HF nS (HF.wn rfl rfl rfl rfl (Bool.eq_false_iff.2 hb16)) rfl (fun a HF => ?_)
                  refine wc_skip HF nS (HF.wn rfl rfl rfl rfl (Bool.eq_false_iff.2 hb16)) rfl (fun a HF => ?_)
                  refine wc_pick (b := false) HF nS rfl (Bool.eq_false_iff.2 hb16) rfl rfl rfl (fun a HF => ?_)
                  refine wc_move HF nS rfl rfl rfl (fun a HF => ?_)
                  refine wc_skip HF nS (HF.wn rfl rfl rfl rfl rfl) rfl (fun a HF => ?_)
                  refine wc_skip HF nS (HF.wn rfl rfl rfl rfl rfl) rfl (fun a HF => ?_)
                  refine wc_skip HF nS (HF.wn rfl rfl rfl rfl rfl) rfl (fun a HF => ?_)
                  refine wc_pick (b := false) HF nS rfl rfl rfl rfl rfl (fun a HF => ?_)
                  refine wc_assign HF nS rfl rfl rfl (fun a HF => ?_)
                  refine wc_end ?_
                  refine then_n ?_
                  refine wp_ret ?_
                  obtain rfl := Option.some.inj h
                  have h := retL hk1
                  obtain rfl := Option.some.inj h
                  refine blk_r (then_r (?_))
                  refine bp_ret HF (res_one rfl HF rfl) ?_
                  have HT : St w0 (fun _ => False) w [] := HT.take 0
                  exact ⟨rfl, HT⟩
              · have h := (if_neg hb15).symm.trans h
                refine wp_if (b' := false) HF rfl (decide_eq_false hb15) ?_
                obtain ⟨z2, hx14, h⟩ := obs h
                refine wp_cut (fun a w => Fr a 161 [(1, .pointer (some ⟨p1, 0, none⟩)), (4, .int .i64 x0_0), (82, .bool z2)] ∧ St w0 (fun _ => False) w [Box p1 [.int .i64 x0_0, .int .i64 x0_1, .int .i64 x0_2, .int .i64 x0_3]]) ?_ ?_
                · have hk2 := h
                  have h := hx14
                  refine wp_seq ?_
                  refine wc_text ?_
                  refine wc_bin HF nS rfl rfl b_eq rfl rfl (fun a HF => ?_)
                  refine wc_assign HF nS rfl rfl rfl (fun a HF => ?_)
                  refine wc_end ?_
                  refine then_n ?_
                  by_cases hb18 : x0_0 = 8
                  · have h := (if_pos hb18).symm.trans h
                    refine wp_if (b' := true) HF rfl (decide_eq_true hb18) ?_
                    refine wp_skip ?_
                    obtain rfl := Option.some.inj h
                    exact then_n ⟨(HF.keep (HF.keep (HF.keep HF.nil rfl) rfl) rfl), HT⟩
                  · have h := (if_neg hb18).symm.trans h
                    refine wp_if (b' := false) HF rfl (decide_eq_false hb18) ?_
                    refine wp_seq ?_
                    refine wc_text ?_
                    refine wc_bin HF nS rfl rfl b_eq rfl rfl (fun a HF => ?_)
                    refine wc_assign HF nS rfl rfl rfl (fun a HF => ?_)
                    refine wc_end ?_
                    refine then_n ?_
                    by_cases hb19 : x0_0 = 15
                    · have h := (if_pos hb19).symm.trans h
                      refine wp_if (b' := true) HF rfl (decide_eq_true hb19) ?_
                      refine wp_skip ?_
                      obtain rfl := Option.some.inj h
                      exact then_n ⟨(HF.keep (HF.keep (HF.keep HF.nil rfl) rfl) rfl), HT⟩
                    · have h := (if_neg hb19).symm.trans h
                      refine wp_if (b' := false) HF rfl (decide_eq_false hb19) ?_
                      refine wc_text ?_
                      refine wc_bin HF nS rfl rfl b_eq rfl rfl (fun a HF => ?_)
                      refine wc_assign HF nS rfl rfl rfl (fun a HF => ?_)
                      refine wc_end ?_
                      obtain rfl := Option.some.inj h
                      exact then_n ⟨(HF.keep (HF.keep (HF.keep HF.nil rfl) rfl) rfl), HT⟩
                · rintro a w ⟨HF, HT⟩
                  refine ?_
                  by_cases hb20 : z2 = true
                  · have h := (if_pos hb20).symm.trans h
                    refine wp_if (b' := true) HF rfl hb20 ?_
                    refine wp_seq ?_
                    refine wc_text ?_
                    refine wc_faddr HF nS rfl fl25_1 rfl rfl (fun a HF => ?_)
                    refine wc_load HF rfl sc3 ((HT.boxAt 0 rfl).get 1 rfl) rfl rfl (fun a HF => ?_)
                    obtain ⟨y12, hx15, h⟩ := obs h
                    refine wc_call HF cf73 rfl (w_spec_l4Reg fuel hx15) rfl rfl ?_
                    rintro e w ⟨rfl, hE⟩
                    have hb := hE.below
                    have HT := HT.pure hE
                    have HT : St w0 (fun _ => False) w [Box p1 [.int .i64 x0_0, .int .i64 x0_1, .int .i64 x0_2, .int .i64 x0_3]] := HT
                    refine ⟨_, rfl, nS, fun a HF => ?_⟩
                    refine wc_move HF nS rfl rfl rfl (fun a HF => ?_)
                    by_cases hb21 : y12 = true
                    · have h := (if_pos hb21).symm.trans h
                      refine wc_faddr HF nS rfl fl25_2 (HF.wy rfl rfl rfl rfl hb21) rfl (fun a HF => ?_)
                      refine wc_load HF rfl sc3 ((HT.boxAt 0 rfl).get 2 rfl) (HF.wy rfl rfl rfl rfl hb21) rfl (fun a HF => ?_)
                      refine wc_bin HF nS rfl rfl b_eq (HF.wy rfl rfl rfl rfl hb21) rfl (fun a HF => ?_)
                      refine wc_pick (b := true) HF nS rfl hb21 rfl rfl rfl (fun a HF => ?_)
                      refine wc_move HF nS rfl rfl rfl (fun a HF => ?_)
                      by_cases hb22 : x0_2 = 0
                      · have h := (if_pos hb22).symm.trans h
                        refine wc_faddr HF nS rfl fl25_3 (HF.wy rfl rfl rfl rfl (decide_eq_true hb22)) rfl (fun a HF => ?_)
                        refine wc_load HF rfl sc3 ((HT.boxAt 0 rfl).get 3 rfl) (HF.wy rfl rfl rfl rfl (decide_eq_true hb22)) rfl (fun a HF => ?_)
                        refine wc_bin HF nS rfl rfl b_eq (HF.wy rfl rfl rfl rfl (decide_eq_true hb22)) rfl (fun a HF => ?_)
                        refine wc_pick (b := true) HF nS rfl (decide_eq_true hb22) rfl rfl rfl (fun a HF => ?_)
                        refine wc_assign HF nS rfl rfl rfl (fun a HF => ?_)
                        refine wc_end ?_
                        refine then_n ?_
                        refine wp_ret ?_
                        obtain rfl := Option.some.inj h
                        have h := retL hk1
                        obtain rfl := Option.some.inj h
                        refine blk_r (then_r (?_))
                        refine bp_ret HF (res_one rfl HF rfl) ?_
                        have HT : St w0 (fun _ => False) w [] := HT.take 0
                        exact ⟨rfl, HT⟩
                      · have h := (if_neg hb22).symm.trans h
                        refine wc_skip HF nS (HF.wn rfl rfl rfl rfl (decide_eq_false hb22)) rfl (fun a HF => ?_)
                        refine wc_skip HF nS (HF.wn rfl rfl rfl rfl (decide_eq_false hb22)) rfl (fun a HF => ?_)
                        refine wc_skip HF nS (HF.wn rfl rfl rfl rfl (decide_eq_false hb22)) rfl (fun a HF => ?_)
                        refine wc_pick (b := false) HF nS rfl (decide_eq_false hb22) rfl rfl rfl (fun a HF => ?_)
                        refine wc_assign HF nS rfl rfl rfl (fun a HF => ?_)
                        refine wc_end ?_
                        refine then_n ?_
                        refine wp_ret ?_
                        obtain rfl := Option.some.inj h
                        have h := retL hk1
                        obtain rfl := Option.some.inj h
                        refine blk_r (then_r (?_))
                        refine bp_ret HF (res_one rfl HF rfl) ?_
                        have HT : St w0 (fun _ => False) w [] := HT.take 0
                        exact ⟨rfl, HT⟩
                    · have h := (if_neg hb21).symm.trans h
                      refine wc_skip HF nS (HF.wn rfl rfl rfl rfl (Bool.eq_false_iff.2 hb21)) rfl (fun a HF => ?_)
                      refine wc_skip HF nS (HF.wn rfl rfl rfl rfl (Bool.eq_false_iff.2 hb21)) rfl (fun a HF => ?_)
                      refine wc_skip HF nS (HF.wn rfl rfl rfl rfl (Bool.eq_false_iff.2 hb21)) rfl (fun a HF => ?_)
                      refine wc_pick (b := false) HF nS rfl (Bool.eq_false_iff.2 hb21) rfl rfl rfl (fun a HF => ?_)
                      refine wc_move HF nS rfl rfl rfl (fun a HF => ?_)
                      refine wc_skip HF nS (HF.wn rfl rfl rfl rfl rfl) rfl (fun a HF => ?_)
                      refine wc_skip HF nS (HF.wn rfl rfl rfl rfl rfl) rfl (fun a HF => ?_)
                      refine wc_skip HF nS (HF.wn rfl rfl rfl rfl rfl) rfl (fun a HF => ?_)
                      refine wc_pick (b := false) HF nS rfl rfl rfl rfl rfl (fun a HF => ?_)
                      refine wc_assign HF nS rfl rfl rfl (fun a HF => ?_)
                      refine wc_end ?_
                      refine then_n ?_
                      refine wp_ret ?_
                      obtain rfl := Option.some.inj h
                      have h := retL hk1
                      obtain rfl := Option.some.inj h
                      refine blk_r (then_r (?_))
                      refine bp_ret HF (res_one rfl HF rfl) ?_
                      have HT : St w0 (fun _ => False) w [] := HT.take 0
                      exact ⟨rfl, HT⟩
                  · have h := (if_neg hb20).symm.trans h
                    refine wp_if (b' := false) HF rfl (Bool.eq_false_iff.2 hb20) ?_
                    obtain ⟨z3, hx16, h⟩ := obs h
                    refine wp_cut (fun a w => Fr a 161 [(1, .pointer (some ⟨p1, 0, none⟩)), (4, .int .i64 x0_0), (99, .bool z3)] ∧ St w0 (fun _ => False) w [Box p1 [.int .i64 x0_0, .int .i64 x0_1, .int .i64 x0_2, .int .i64 x0_3]]) ?_ ?_
                    · have hk2 := h
                      have h := hx16
                      refine wp_seq ?_
                      refine wc_text ?_
                      refine wc_bin HF nS rfl rfl b_eq rfl rfl (fun a HF => ?_)
                      refine wc_assign HF nS rfl rfl rfl (fun a HF => ?_)
                      refine wc_end ?_
                      refine then_n ?_
                      by_cases hb23 : x0_0 = 9
                      · have h := (if_pos hb23).symm.trans h
                        refine wp_if (b' := true) HF rfl (decide_eq_true hb23) ?_
                        refine wp_skip ?_
                        obtain rfl := Option.some.inj h
                        exact then_n ⟨(HF.keep (HF.keep (HF.keep HF.nil rfl) rfl) rfl), HT⟩
                      · have h := (if_neg hb23).symm.trans h
                        refine wp_if (b' := false) HF rfl (decide_eq_false hb23) ?_
                        refine wp_seq ?_
                        refine wc_text ?_
                        refine wc_bin HF nS rfl rfl b_eq rfl rfl (fun a HF => ?_)
                        refine wc_assign HF nS rfl rfl rfl (fun a HF => ?_)
                        refine wc_end ?_
                        refine then_n ?_
                        by_cases hb24 : x0_0 = 10
                        · have h := (if_pos hb24).symm.trans h
                          refine wp_if (b' := true) HF rfl (decide_eq_true hb24) ?_
                          refine wp_skip ?_
                          obtain rfl := Option.some.inj h
                          exact then_n ⟨(HF.keep (HF.keep (HF.keep HF.nil rfl) rfl) rfl), HT⟩
                        · have h := (if_neg hb24).symm.trans h
                          refine wp_if (b' := false) HF rfl (decide_eq_false hb24) ?_
                          refine wc_text ?_
                          refine wc_bin HF nS rfl rfl b_eq rfl rfl (fun a HF => ?_)
                          refine wc_assign HF nS rfl rfl rfl (fun a HF => ?_)
                          refine wc_end ?_
                          obtain rfl := Option.some.inj h
                          exact then_n ⟨(HF.keep (HF.keep (HF.keep HF.nil rfl) rfl) rfl), HT⟩
                    · rintro a w ⟨HF, HT⟩
                      refine ?_
                      by_cases hb25 : z3 = true
                      · have h := (if_pos hb25).symm.trans h
                        refine wp_if (b' := true) HF rfl hb25 ?_
                        refine wp_seq ?_
                        refine wc_text ?_
                        refine wc_faddr HF nS rfl fl25_1 rfl rfl (fun a HF => ?_)
                        refine wc_load HF rfl sc3 ((HT.boxAt 0 rfl).get 1 rfl) rfl rfl (fun a HF => ?_)
                        refine wc_bin HF nS rfl rfl b_eq rfl rfl (fun a HF => ?_)
                        refine wc_move HF nS rfl rfl rfl (fun a HF => ?_)
                        by_cases hb26 : x0_1 = 0
                        · have h := (if_pos hb26).symm.trans h
                          refine wc_faddr HF nS rfl fl25_2 (HF.wy rfl rfl rfl rfl (decide_eq_true hb26)) rfl (fun a HF => ?_)
                          refine wc_load HF rfl sc3 ((HT.boxAt 0 rfl).get 2 rfl) (HF.wy rfl rfl rfl rfl (decide_eq_true hb26)) rfl (fun a HF => ?_)
                          refine wc_bin HF nS rfl rfl b_eq (HF.wy rfl rfl rfl rfl (decide_eq_true hb26)) rfl (fun a HF => ?_)
                          refine wc_pick (b := true) HF nS rfl (decide_eq_true hb26) rfl rfl rfl (fun a HF => ?_)
                          refine wc_move HF nS rfl rfl rfl (fun a HF => ?_)
                          by_cases hb27 : x0_2 = 0
                          · have h := (if_pos hb27).symm.trans h
                            refine wc_faddr HF nS rfl fl25_3 (HF.wy rfl rfl rfl rfl (decide_eq_true hb27)) rfl (fun a HF => ?_)
                            refine wc_load HF rfl sc3 ((HT.boxAt 0 rfl).get 3 rfl) (HF.wy rfl rfl rfl rfl (decide_eq_true hb27)) rfl (fun a HF => ?_)
                            refine wc_bin HF nS rfl rfl b_eq (HF.wy rfl rfl rfl rfl (decide_eq_true hb27)) rfl (fun a HF => ?_)
                            refine wc_pick (b := true) HF nS rfl (decide_eq_true hb27) rfl rfl rfl (fun a HF => ?_)
                            refine wc_assign HF nS rfl rfl rfl (fun a HF => ?_)
                            refine wc_end ?_
                            refine then_n ?_
                            refine wp_ret ?_
                            obtain rfl := Option.some.inj h
                            have h := retL hk1
                            obtain rfl := Option.some.inj h
                            refine blk_r (then_r (?_))
                            refine bp_ret HF (res_one rfl HF rfl) ?_
                            have HT : St w0 (fun _ => False) w [] := HT.take 0
                            exact ⟨rfl, HT⟩
                          · have h := (if_neg hb27).symm.trans h
                            refine wc_skip HF nS (HF.wn rfl rfl rfl rfl (decide_eq_false hb27)) rfl (fun a HF => ?_)
                            refine wc_skip HF nS (HF.wn rfl rfl rfl rfl (decide_eq_false hb27)) rfl (fun a HF => ?_)
                            refine wc_skip HF nS (HF.wn rfl rfl rfl rfl (decide_eq_false hb27)) rfl (fun a HF => ?_)
                            refine wc_pick (b := false) HF nS rfl (decide_eq_false hb27) rfl rfl rfl (fun a HF => ?_)
                            refine wc_assign HF nS rfl rfl rfl (fun a HF => ?_)
                            refine wc_end ?_
                            refine then_n ?_
                            refine wp_ret ?_
                            obtain rfl := Option.some.inj h
                            have h := retL hk1
                            obtain rfl := Option.some.inj h
                            refine blk_r (then_r (?_))
                            refine bp_ret HF (res_one rfl HF rfl) ?_
                            have HT : St w0 (fun _ => False) w [] := HT.take 0
                            exact ⟨rfl, HT⟩
                        · have h := (if_neg hb26).symm.trans h
                          refine wc_skip HF nS (HF.wn rfl rfl rfl rfl (decide_eq_false hb26)) rfl (fun a HF => ?_)
                          refine wc_skip HF nS (HF.wn rfl rfl rfl rfl (decide_eq_false hb26)) rfl (fun a HF => ?_)
                          refine wc_skip HF nS (HF.wn rfl rfl rfl rfl (decide_eq_false hb26)) rfl (fun a HF => ?_)
                          refine wc_pick (b := false) HF nS rfl (decide_eq_false hb26) rfl rfl rfl (fun a HF => ?_)
                          refine wc_move HF nS rfl rfl rfl (fun a HF => ?_)
                          refine wc_skip HF nS (HF.wn rfl rfl rfl rfl rfl) rfl (fun a HF => ?_)
                          refine wc_skip HF nS (HF.wn rfl rfl rfl rfl rfl) rfl (fun a HF => ?_)
                          refine wc_skip HF nS (HF.wn rfl rfl rfl rfl rfl) rfl (fun a HF => ?_)
                          refine wc_pick (b := false) HF nS rfl rfl rfl rfl rfl (fun a HF => ?_)
                          refine wc_assign HF nS rfl rfl rfl (fun a HF => ?_)
                          refine wc_end ?_
                          refine then_n ?_
                          refine wp_ret ?_
                          obtain rfl := Option.some.inj h
                          have h := retL hk1
                          obtain rfl := Option.some.inj h
                          refine blk_r (then_r (?_))
                          refine bp_ret HF (res_one rfl HF rfl) ?_
                          have HT : St w0 (fun _ => False) w [] := HT.take 0
                          exact ⟨rfl, HT⟩
                      · have h := (if_neg hb25).symm.trans h
                        refine wp_if (b' := false) HF rfl (Bool.eq_false_iff.2 hb25) ?_
                        refine wp_seq ?_
                        refine wc_text ?_
                        refine wc_bin HF nS rfl rfl b_eq rfl rfl (fun a HF => ?_)
                        refine wc_assign HF nS rfl rfl rfl (fun a HF => ?_)
                        refine wc_end ?_
                        refine then_n ?_
                        by_cases hb28 : x0_0 = 12
                        · have h := (if_pos hb28).symm.trans h
                          refine wp_if (b' := true) HF rfl (decide_eq_true hb28) ?_
                          refine wp_seq ?_
                          refine wc_text ?_
                          refine wc_faddr HF nS rfl fl25_1 rfl rfl (fun a HF => ?_)
                          refine wc_load HF rfl sc3 ((HT.boxAt 0 rfl).get 1 rfl) rfl rfl (fun a HF => ?_)
                          obtain ⟨y13, hx17, h⟩ := obs h
                          refine wc_call HF cf76 rfl (w_spec_l1In fuel hx17) rfl rfl ?_
                          rintro e w ⟨rfl, hE⟩
                          have hb := hE.below
                          have HT := HT.pure hE
                          have HT : St w0 (fun _ => False) w [Box p1 [.int .i64 x0_0, .int .i64 x0_1, .int .i64 x0_2, .int .i64 x0_3]] := HT
                          refine ⟨_, rfl, nS, fun a HF => ?_⟩
                          refine wc_move HF nS rfl rfl rfl (fun a HF => ?_)
                          by_cases hb29 : y13 = true
                          · have h := (if_pos hb29).symm.trans h
                            refine wc_faddr HF nS rfl fl25_2 (HF.wy rfl rfl rfl rfl hb29) rfl (fun a HF => ?_)
                            refine wc_load HF rfl sc3 ((HT.boxAt 0 rfl).get 2 rfl) (HF.wy rfl rfl rfl rfl hb29) rfl (fun a HF => ?_)
                            obtain ⟨y14, hx18, h⟩ := obs h
                            refine wc_call HF cf73 rfl (w_spec_l4Reg fuel hx18) (HF.wy rfl rfl rfl rfl hb29) rfl ?_
                            rintro e w ⟨rfl, hE⟩
                            have hb := hE.below
                            have HT := HT.pure hE
                            have HT : St w0 (fun _ => False) w [Box p1 [.int .i64 x0_0, .int .i64 x0_1, .int .i64 x0_2, .int .i64 x0_3]] := HT
                            refine ⟨_, rfl, nS, fun a HF => ?_⟩
                            refine wc_pick (b := true) HF nS rfl hb29 rfl rfl rfl (fun a HF => ?_)
                            refine wc_move HF nS rfl rfl rfl (fun a HF => ?_)
                            by_cases hb30 : y14 = true
                            · have h := (if_pos hb30).symm.trans h
                              refine wc_faddr HF nS rfl fl25_3 (HF.wy rfl rfl rfl rfl hb30) rfl (fun a HF => ?_)
                              refine wc_load HF rfl sc3 ((HT.boxAt 0 rfl).get 3 rfl) (HF.wy rfl rfl rfl rfl hb30) rfl (fun a HF => ?_)
                              obtain ⟨y15, hx19, h⟩ := obs h
                              refine wc_call HF cf73 rfl (w_spec_l4Reg fuel hx19) (HF.wy rfl rfl rfl rfl hb30) rfl ?_
                              rintro e w ⟨rfl, hE⟩
                              have hb := hE.below
                              have HT := HT.pure hE
                              have HT : St w0 (fun _ => False) w [Box p1 [.int .i64 x0_0, .int .i64 x0_1, .int .i64 x0_2, .int .i64 x0_3]] := HT
                              refine ⟨_, rfl, nS, fun a HF => ?_⟩
                              refine wc_pick (b := true) HF nS rfl hb30 rfl rfl rfl (fun a HF => ?_)
                              refine wc_assign HF nS rfl rfl rfl (fun a HF => ?_)
                              refine wc_end ?_
                              refine then_n ?_
                              refine wp_ret ?_
                              obtain rfl := Option.some.inj h
                              have h := retL hk1
                              obtain rfl := Option.some.inj h
                              refine blk_r (then_r (?_))
                              refine bp_ret HF (res_one rfl HF rfl) ?_
                              have HT : St w0 (fun _ => False) w [] := HT.take 0
                              exact ⟨rfl, HT⟩
                            · have h := (if_neg hb30).symm.trans h
                              refine wc_skip HF nS (HF.wn rfl rfl rfl rfl (Bool.eq_false_iff.2 hb30)) rfl (fun a HF => ?_)
                              refine wc_skip HF nS (HF.wn rfl rfl rfl rfl (Bool.eq_false_iff.2 hb30)) rfl (fun a HF => ?_)
                              refine wc_skip HF nS (HF.wn rfl rfl rfl rfl (Bool.eq_false_iff.2 hb30)) rfl (fun a HF => ?_)
                              refine wc_pick (b := false) HF nS rfl (Bool.eq_false_iff.2 hb30) rfl rfl rfl (fun a HF => ?_)
                              refine wc_assign HF nS rfl rfl rfl (fun a HF => ?_)
                              refine wc_end ?_
                              refine then_n ?_
                              refine wp_ret ?_
                              obtain rfl := Option.some.inj h
                              have h := retL hk1
                              obtain rfl := Option.some.inj h
                              refine blk_r (then_r (?_))
                              refine bp_ret HF (res_one rfl HF rfl) ?_
                              have HT : St w0 (fun _ => False) w [] := HT.take 0
                              exact ⟨rfl, HT⟩
                          · have h := (if_neg hb29).symm.trans h
                            refine wc_skip HF nS (HF.wn rfl rfl rfl rfl (Bool.eq_false_iff.2 hb29)) rfl (fun a HF => ?_)
                            refine wc_skip HF nS (HF.wn rfl rfl rfl rfl (Bool.eq_false_iff.2 hb29)) rfl (fun a HF => ?_)
                            refine wc_skip HF nS (HF.wn rfl rfl rfl rfl (Bool.eq_false_iff.2 hb29)) rfl (fun a HF => ?_)
                            refine wc_pick (b := false) HF nS rfl (Bool.eq_false_iff.2 hb29) rfl rfl rfl (fun a HF => ?_)
                            refine wc_move HF nS rfl rfl rfl (fun a HF => ?_)
                            refine wc_skip HF nS (HF.wn rfl rfl rfl rfl rfl) rfl (fun a HF => ?_)
                            refine wc_skip HF nS (HF.wn rfl rfl rfl rfl rfl) rfl (fun a HF => ?_)
                            refine wc_skip HF nS (HF.wn rfl rfl rfl rfl rfl) rfl (fun a HF => ?_)
                            refine wc_pick (b := false) HF nS rfl rfl rfl rfl rfl (fun a HF => ?_)
                            refine wc_assign HF nS rfl rfl rfl (fun a HF => ?_)
                            refine wc_end ?_
                            refine then_n ?_
                            refine wp_ret ?_
                            obtain rfl := Option.some.inj h
                            have h := retL hk1
                            obtain rfl := Option.some.inj h
                            refine blk_r (then_r (?_))
                            refine bp_ret HF (res_one rfl HF rfl) ?_
                            have HT : St w0 (fun _ => False) w [] := HT.take 0
                            exact ⟨rfl, HT⟩
                        · have h := (if_neg hb28).symm.trans h
                          refine wp_if (b' := false) HF rfl (decide_eq_false hb28) ?_
                          refine wp_seq ?_
                          refine wc_text ?_
                          refine wc_bin HF nS rfl rfl b_eq rfl rfl (fun a HF => ?_)
                          refine wc_assign HF nS rfl rfl rfl (fun a HF => ?_)
                          refine wc_end ?_
                          refine then_n ?_
                          by_cases hb31 : x0_0 = 13
                          · have h := (if_pos hb31).symm.trans h
                            refine wp_if (b' := true) HF rfl (decide_eq_true hb31) ?_
                            refine wp_seq ?_
                            refine wc_text ?_
                            refine wc_faddr HF nS rfl fl25_1 rfl rfl (fun a HF => ?_)
                            refine wc_load HF rfl sc3 ((HT.boxAt 0 rfl).get 1 rfl) rfl rfl (fun a HF => ?_)
                            obtain ⟨y16, hx20, h⟩ := obs h
                            refine wc_call HF cf73 rfl (w_spec_l4Reg fuel hx20) rfl rfl ?_
                            rintro e w ⟨rfl, hE⟩
                            have hb := hE.below
                            have HT := HT.pure hE
                            have HT : St w0 (fun _ => False) w [Box p1 [.int .i64 x0_0, .int .i64 x0_1, .int .i64 x0_2, .int .i64 x0_3]] := HT
                            refine ⟨_, rfl, nS, fun a HF => ?_⟩
                            refine wc_move HF nS rfl rfl rfl (fun a HF => ?_)
                            by_cases hb32 : y16 = true
                            · have h := (if_pos hb32).symm.trans h
                              refine wc_faddr HF nS rfl fl25_2 (HF.wy rfl rfl rfl rfl hb32) rfl (fun a HF => ?_)
                              refine wc_load HF rfl sc3 ((HT.boxAt 0 rfl).get 2 rfl) (HF.wy rfl rfl rfl rfl hb32) rfl (fun a HF => ?_)
                              obtain ⟨y17, hx21, h⟩ := obs h
                              refine wc_call HF cf76 rfl (w_spec_l1In fuel hx21) (HF.wy rfl rfl rfl rfl hb32) rfl ?_
                              rintro e w ⟨rfl, hE⟩
                              have hb := hE.below
                              have HT := HT.pure hE
                              have HT : St w0 (fun _ => False) w [Box p1 [.int .i64 x0_0, .int .i64 x0_1, .int .i64 x0_2, .int .i64 x0_3]] := HT
                              refine ⟨_, rfl, nS, fun a HF => ?_⟩
                              refine wc_pick (b := true) HF nS rfl hb32 rfl rfl rfl (fun a HF => ?_)
                              refine wc_move HF nS rfl rfl rfl (fun a HF => ?_)
                              by_cases hb33 : y17 = true
                              · have h := (if_pos hb33).symm.trans h
                                refine wc_faddr HF nS rfl fl25_3 (HF.wy rfl rfl rfl rfl hb33) rfl (fun a HF => ?_)
                                refine wc_load HF rfl sc3 ((HT.boxAt 0 rfl).get 3 rfl) (HF.wy rfl rfl rfl rfl hb33) rfl (fun a HF => ?_)
                                refine wc_bin HF nS rfl rfl b_eq (HF.wy rfl rfl rfl rfl hb33) rfl (fun a HF => ?_)
                                refine wc_pick (b := true) HF nS rfl hb33 rfl rfl rfl (fun a HF => ?_)
                                refine wc_assign HF nS rfl rfl rfl (fun a HF => ?_)
                                refine wc_end ?_
                                refine then_n ?_
                                refine wp_ret ?_
                                obtain rfl := Option.some.inj h
                                have h := retL hk1
                                obtain rfl := Option.some.inj h
                                refine blk_r (then_r (?_))
                                refine bp_ret HF (res_one rfl HF rfl) ?_
                                have HT : St w0 (fun _ => False) w [] := HT.take 0
                                exact ⟨rfl, HT⟩
                              · have h := (if_neg hb33).symm.trans h
                                refine wc_skip HF nS (HF.wn rfl rfl rfl rfl (Bool.eq_false_iff.2 hb33)) rfl (fun a HF => ?_)
                                refine wc_skip HF nS (HF.wn rfl rfl rfl rfl (Bool.eq_false_iff.2 hb33)) rfl (fun a HF => ?_)
                                refine wc_skip HF nS (HF.wn rfl rfl rfl rfl (Bool.eq_false_iff.2 hb33)) rfl (fun a HF => ?_)
                                refine wc_pick (b := false) HF nS rfl (Bool.eq_false_iff.2 hb33) rfl rfl rfl (fun a HF => ?_)
                                refine wc_assign HF nS rfl rfl rfl (fun a HF => ?_)
                                refine wc_end ?_
                                refine then_n ?_
                                refine wp_ret ?_
                                obtain rfl := Option.some.inj h
                                have h := retL hk1
                                obtain rfl := Option.some.inj h
                                refine blk_r (then_r (?_))
                                refine bp_ret HF (res_one rfl HF rfl) ?_
                                have HT : St w0 (fun _ => False) w [] := HT.take 0
                                exact ⟨rfl, HT⟩
                            · have h := (if_neg hb32).symm.trans h
                              refine wc_skip HF nS (HF.wn rfl rfl rfl rfl (Bool.eq_false_iff.2 hb32)) rfl (fun a HF => ?_)
                              refine wc_skip HF nS (HF.wn rfl rfl rfl rfl (Bool.eq_false_iff.2 hb32)) rfl (fun a HF => ?_)
                              refine wc_skip HF nS (HF.wn rfl rfl rfl rfl (Bool.eq_false_iff.2 hb32)) rfl (fun a HF => ?_)
                              refine wc_pick (b := false) HF nS rfl (Bool.eq_false_iff.2 hb32) rfl rfl rfl (fun a HF => ?_)
                              refine wc_move HF nS rfl rfl rfl (fun a HF => ?_)
                              refine wc_skip HF nS (HF.wn rfl rfl rfl rfl rfl) rfl (fun a HF => ?_)
                              refine wc_skip HF nS (HF.wn rfl rfl rfl rfl rfl) rfl (fun a HF => ?_)
                              refine wc_skip HF nS (HF.wn rfl rfl rfl rfl rfl) rfl (fun a HF => ?_)
                              refine wc_pick (b := false) HF nS rfl rfl rfl rfl rfl (fun a HF => ?_)
                              refine wc_assign HF nS rfl rfl rfl (fun a HF => ?_)
                              refine wc_end ?_
                              refine then_n ?_
                              refine wp_ret ?_
                              obtain rfl := Option.some.inj h
                              have h := retL hk1
                              obtain rfl := Option.some.inj h
                              refine blk_r (then_r (?_))
                              refine bp_ret HF (res_one rfl HF rfl) ?_
                              have HT : St w0 (fun _ => False) w [] := HT.take 0
                              exact ⟨rfl, HT⟩
                          · have h := (if_neg hb31).symm.trans h
                            refine wp_if (b' := false) HF rfl (decide_eq_false hb31) ?_
                            refine wp_seq ?_
                            refine wc_text ?_
                            refine wc_bin HF nS rfl rfl b_eq rfl rfl (fun a HF => ?_)
                            refine wc_assign HF nS rfl rfl rfl (fun a HF => ?_)
                            refine wc_end ?_
                            refine then_n ?_
                            by_cases hb34 : x0_0 = 14
                            · have h := (if_pos hb34).symm.trans h
                              refine wp_if (b' := true) HF rfl (decide_eq_true hb34) ?_
                              refine wp_seq ?_
                              refine wc_text ?_
                              refine wc_faddr HF nS rfl fl25_1 rfl rfl (fun a HF => ?_)
                              refine wc_load HF rfl sc3 ((HT.boxAt 0 rfl).get 1 rfl) rfl rfl (fun a HF => ?_)
                              obtain ⟨y18, hx22, h⟩ := obs h
                              refine wc_call HF cf76 rfl (w_spec_l1In fuel hx22) rfl rfl ?_
                              rintro e w ⟨rfl, hE⟩
                              have hb := hE.below
                              have HT := HT.pure hE
                              have HT : St w0 (fun _ => False) w [Box p1 [.int .i64 x0_0, .int .i64 x0_1, .int .i64 x0_2, .int .i64 x0_3]] := HT
                              refine ⟨_, rfl, nS, fun a HF => ?_⟩
                              refine wc_move HF nS rfl rfl rfl (fun a HF => ?_)
                              by_cases hb35 : y18 = true
                              · have h := (if_pos hb35).symm.trans h
                                refine wc_faddr HF nS rfl fl25_2 (HF.wy rfl rfl rfl rfl hb35) rfl (fun a HF => ?_)
                                refine wc_load HF rfl sc3 ((HT.boxAt 0 rfl).get 2 rfl) (HF.wy rfl rfl rfl rfl hb35) rfl (fun a HF => ?_)
                                obtain ⟨y19, hx23, h⟩ := obs h
                                refine wc_call HF cf73 rfl (w_spec_l4Reg fuel hx23) (HF.wy rfl rfl rfl rfl hb35) rfl ?_
                                rintro e w ⟨rfl, hE⟩
                                have hb := hE.below
                                have HT := HT.pure hE
                                have HT : St w0 (fun _ => False) w [Box p1 [.int .i64 x0_0, .int .i64 x0_1, .int .i64 x0_2, .int .i64 x0_3]] := HT
                                refine ⟨_, rfl, nS, fun a HF => ?_⟩
                                refine wc_pick (b := true) HF nS rfl hb35 rfl rfl rfl (fun a HF => ?_)
                                refine wc_move HF nS rfl rfl rfl (fun a HF => ?_)
                                by_cases hb36 : y19 = true
                                · have h := (if_pos hb36).symm.trans h
                                  refine wc_faddr HF nS rfl fl25_3 (HF.wy rfl rfl rfl rfl hb36) rfl (fun a HF => ?_)
                                  refine wc_load HF rfl sc3 ((HT.boxAt 0 rfl).get 3 rfl) (HF.wy rfl rfl rfl rfl hb36) rfl (fun a HF => ?_)
                                  refine wc_bin HF nS rfl rfl b_eq (HF.wy rfl rfl rfl rfl hb36) rfl (fun a HF => ?_)
                                  refine wc_pick (b := true) HF nS rfl hb36 rfl rfl rfl (fun a HF => ?_)
                                  refine wc_assign HF nS rfl rfl rfl (fun a HF => ?_)
                                  refine wc_end ?_
                                  refine then_n ?_
                                  refine wp_ret ?_
                                  obtain rfl := Option.some.inj h
                                  have h := retL hk1
                                  obtain rfl := Option.some.inj h
                                  refine blk_r (then_r (?_))
                                  refine bp_ret HF (res_one rfl HF rfl) ?_
                                  have HT : St w0 (fun _ => False) w [] := HT.take 0
                                  exact ⟨rfl, HT⟩
                                · have h := (if_neg hb36).symm.trans h
                                  refine wc_skip HF nS (HF.wn rfl rfl rfl rfl (Bool.eq_false_iff.2 hb36)) rfl (fun a HF => ?_)
                                  refine wc_skip HF nS (HF.wn rfl rfl rfl rfl (Bool.eq_false_iff.2 hb36)) rfl (fun a HF => ?_)
                                  refine wc_skip HF nS (HF.wn rfl rfl rfl rfl (Bool.eq_false_iff.2 hb36)) rfl (fun a HF => ?_)
                                  refine wc_pick (b := false) HF nS rfl (Bool.eq_false_iff.2 hb36) rfl rfl rfl (fun a HF => ?_)
                                  refine wc_assign HF nS rfl rfl rfl (fun a HF => ?_)
                                  refine wc_end ?_
                                  refine then_n ?_
                                  refine wp_ret ?_
                                  obtain rfl := Option.some.inj h
                                  have h := retL hk1
                                  obtain rfl := Option.some.inj h
                                  refine blk_r (then_r (?_))
                                  refine bp_ret HF (res_one rfl HF rfl) ?_
                                  have HT : St w0 (fun _ => False) w [] := HT.take 0
                                  exact ⟨rfl, HT⟩
                              · have h := (if_neg hb35).symm.trans h
                                refine wc_skip HF nS (HF.wn rfl rfl rfl rfl (Bool.eq_false_iff.2 hb35)) rfl (fun a HF => ?_)
                                refine wc_skip HF nS (HF.wn rfl rfl rfl rfl (Bool.eq_false_iff.2 hb35)) rfl (fun a HF => ?_)
                                refine wc_skip HF nS (HF.wn rfl rfl rfl rfl (Bool.eq_false_iff.2 hb35)) rfl (fun a HF => ?_)
                                refine wc_pick (b := false) HF nS rfl (Bool.eq_false_iff.2 hb35) rfl rfl rfl (fun a HF => ?_)
                                refine wc_move HF nS rfl rfl rfl (fun a HF => ?_)
                                refine wc_skip HF nS (HF.wn rfl rfl rfl rfl rfl) rfl (fun a HF => ?_)
                                refine wc_skip HF nS (HF.wn rfl rfl rfl rfl rfl) rfl (fun a HF => ?_)
                                refine wc_skip HF nS (HF.wn rfl rfl rfl rfl rfl) rfl (fun a HF => ?_)
                                refine wc_pick (b := false) HF nS rfl rfl rfl rfl rfl (fun a HF => ?_)
                                refine wc_assign HF nS rfl rfl rfl (fun a HF => ?_)
                                refine wc_end ?_
                                refine then_n ?_
                                refine wp_ret ?_
                                obtain rfl := Option.some.inj h
                                have h := retL hk1
                                obtain rfl := Option.some.inj h
                                refine blk_r (then_r (?_))
                                refine bp_ret HF (res_one rfl HF rfl) ?_
                                have HT : St w0 (fun _ => False) w [] := HT.take 0
                                exact ⟨rfl, HT⟩
                            · have h := (if_neg hb34).symm.trans h
                              refine wp_if (b' := false) HF rfl (decide_eq_false hb34) ?_
                              refine wp_skip ?_
                              refine blk_n ?_
                              have HT : St w0 (fun _ => False) w [] := HT.take 0
                              exact then_n ⟨(Option.some.inj h).symm, HF.nil, HT⟩
  · rintro a w ⟨rfl, HF, HT⟩
    have h := brkL1u h
    refine ?_
    refine wp_seq ?_
    refine wc_text ?_
    refine wc_assign HF nS rfl rfl rfl (fun a HF => ?_)
    refine wc_end ?_
    refine then_n ?_
    refine wp_ret ?_
    obtain rfl := Option.some.inj h
    refine bp_ret HF (res_one rfl HF rfl) ?_
    exact ⟨rfl, HT⟩

def m_spec_l5Skip_L0 (fuel : Nat) (x0 : List I4) (x1 : Int) (e1 : I4) : Nat → Int → Int → Option (Lp Int Bool)
  | 0, _, _ => none
  | k1 + 1, z2, z3 =>
    if z3 < ((x1 + 1) + e1.c) then
      (
        (
          (at? x0 z3).bind fun e2 =>
          if e2.a = 8 then
            if in64 (z2 + 1) then
              some (z2 + 1)
            else none
          else
            some z2).bind fun z5 =>
        (
          (at? x0 z3).bind fun e3 =>
          if e3.a = 9 then
            if in64 (z5 - 1) then
              some (z5 - 1)
            else none
          else
            some z5).bind fun z6 =>
        if z6 < 0 then
          some (.ret false)
        else
          some (.brk z6)).bind <| contM <| un1 fun z4 =>
      if in64 (z3 + 1) then
        m_spec_l5Skip_L0 fuel x0 x1 e1 k1 z4 (z3 + 1)
      else none
    else
      some (.brk z2)

def m_spec_l5Skip (fuel : Nat) (x0 : List I4) (x1 : Int) : Option Bool :=
  if in64 (x1 + 1) then
    (at? x0 x1).bind fun e1 =>
    if in64 ((x1 + 1) + e1.c) then
      if (x0.length : Int) < ((x1 + 1) + e1.c) then
        some false
      else
        (
          if in64 (x1 + 1) then
            m_spec_l5Skip_L0 fuel x0 x1 e1 fuel 0 (x1 + 1)
          else none).bind <| contL <| un1 fun z1 =>
        some (decide (z1 = 0))
    else none
  else none

set_option maxRecDepth 100000 in
set_option maxHeartbeats 4000000 in
theorem w_spec_l5Skip (fuel : Nat) {x0 : List I4} {x1 : Int} {a_x0 : Option Addr} {n_x0 c_x0 : Nat} {r0 : Bool} {w0 : World} (h : m_spec_l5Skip fuel x0 x1 = some r0) (hr_x0 : RdT (fun b => ¬ False) w0 (rowT x0) (.slice a_x0 n_x0 c_x0)) :
    Calls Try.prog 82 #[.slice a_x0 n_x0 c_x0, .int .i64 x1] w0 fun e w => e = .returned (.bool r0) ∧ St w0 (fun _ => False) w [] := by
  obtain rfl := hr_x0.neq
  have HT : St w0 (fun _ => False) w0 [] := St.init0
  rw [m_spec_l5Skip] at h
  refine calls_fr (n := 47) [.slice a_x0 x0.length c_x0, .int .i64 x1] Try.func82 rfl rfl rfl (fun a HF => ?_)
  have HT : St w0 (fun _ => False) w0 [] := HT
  refine wp_seq ?_
  refine wc_text ?_
  refine wc_assign HF nS rfl rfl rfl (fun a HF => ?_)
  refine wc_end ?_
  refine then_n ?_
  refine wp_seq ?_
  refine wc_text ?_
  refine wc_move HF nS rfl rfl rfl (fun a HF => ?_)
  obtain ⟨hg1, h⟩ := grd h
  refine wc_bin HF nS rfl rfl (b_add hg1) rfl rfl (fun a HF => ?_)
  refine wc_move HF nS rfl rfl rfl (fun a HF => ?_)
  refine wc_move HF nS rfl rfl rfl (fun a HF => ?_)
  obtain ⟨e1, hx1, h⟩ := obs h
  obtain ⟨b1, o1, ha1⟩ := (HT.ro hr_x0).any.addr hx1
  refine wc_ixaddr HF nS el35 rfl ha1 ((HT.ro hr_x0).any).neq rfl hx1 rfl rfl (fun a HF => ?_)
  refine wc_faddr HF nS rfl fl25_2 rfl rfl (fun a HF => ?_)
  have hc1 := (HT.ro hr_x0).any.flatAt ha1 hx1
  refine wc_load HF rfl sc3 (hc1.get 2 rfl) rfl rfl (fun a HF => ?_)
  obtain ⟨hg2, h⟩ := grd h
  refine wc_bin HF nS rfl rfl (b_add hg2) rfl rfl (fun a HF => ?_)
  refine wc_assign HF nS rfl rfl rfl (fun a HF => ?_)
  refine wc_end ?_
  refine then_n ?_
  refine wp_seq ?_
  refine wp_seq ?_
  refine wc_text ?_
  refine wc_move HF nS rfl rfl rfl (fun a HF => ?_)
  refine wc_move HF nS rfl rfl rfl (fun a HF => ?_)
  refine wc_lenR HF nS Try.underlying35 rfl rfl rfl (fun a HF => ?_)
  refine wc_bin HF nS rfl rfl b_gt rfl rfl (fun a HF => ?_)
  refine wc_end ?_
  refine then_n ?_
  by_cases hb1 : (x0.length : Int) < ((x1 + 1) + e1.c)
  · have h := (if_pos hb1).symm.trans h
    refine wp_if (b' := true) HF rfl (decide_eq_true hb1) ?_
    refine wp_seq ?_
    refine wc_text ?_
    refine wc_assign HF nS rfl rfl rfl (fun a HF => ?_)
    refine wc_end ?_
    refine then_n ?_
    refine wp_ret ?_
    obtain rfl := Option.some.inj h
    refine then_r (?_)
    refine bp_ret HF (res_one rfl HF rfl) ?_
    exact ⟨rfl, HT⟩
  · have h := (if_neg hb1).symm.trans h
    refine wp_if (b' := false) HF rfl (decide_eq_false hb1) ?_
    refine wp_skip ?_
    refine then_n ?_
    refine wp_seq ?_
    refine wc_text ?_
    refine wc_assign HF nS rfl rfl rfl (fun a HF => ?_)
    refine wc_end ?_
    refine then_n ?_
    obtain ⟨q1, hx2, h⟩ := obs h
    refine wp_cut (fun a w => ∃ z1, q1 = .brk z1 ∧ Fr a 47 [(6, .int .i64 z1)] ∧ St w0 (fun _ => False) w []) ?_ ?_
    · have hk1 := h
      have h := hx2
      refine wp_seq ?_
      refine wc_text ?_
      refine wc_move HF nS rfl rfl rfl (fun a HF => ?_)
      obtain ⟨hg3, h⟩ := grd h
      refine wc_bin HF nS rfl rfl (b_add hg3) rfl rfl (fun a HF => ?_)
      refine wc_assign HF nS rfl rfl rfl (fun a HF => ?_)
      refine wc_end ?_
      refine then_n ?_
      refine wp_block ?_
      refine wp_loopN (fun k1 a w => ∃ z2 z3, m_spec_l5Skip_L0 fuel x0 x1 e1 k1 z2 z3 = some q1 ∧ Fr a 47 [(0, .slice a_x0 x0.length c_x0), (5, .int .i64 ((x1 + 1) + e1.c)), (6, .int .i64 z2), (7, .int .i64 z3)] ∧ St w0 (fun _ => False) w []) fuel ⟨0, x1 + 1, h, (HF.keep (HF.keep (HF.keep (HF.keep HF.nil rfl) rfl) rfl) rfl), HT⟩ ?_
      rintro k1 a w ⟨z2, z3, h, HF, HT⟩
      cases k1 with
      | zero => cases h
      | succ k1 =>
        rw [m_spec_l5Skip_L0] at h
        refine ?_
        refine wp_seq ?_
        refine wp_seq ?_
        refine wc_text ?_
        refine wc_move HF nS rfl rfl rfl (fun a HF => ?_)
        refine wc_move HF nS rfl rfl rfl (fun a HF => ?_)
        refine wc_bin HF nS rfl rfl b_lt rfl rfl (fun a HF => ?_)
        refine wc_end ?_
        refine then_n ?_
        by_cases hb2 : z3 < ((x1 + 1) + e1.c)
        · have h := (if_pos hb2).symm.trans h
          refine wp_if (b' := true) HF rfl (decide_eq_true hb2) ?_
          refine wp_skip ?_
          refine then_n ?_
          obtain ⟨q2, hx3, h⟩ := obs h
          refine wp_cut (fun a w => ∃ z4, q2 = .brk z4 ∧ Fr a 47 [(0, .slice a_x0 x0.length c_x0), (5, .int .i64 ((x1 + 1) + e1.c)), (6, .int .i64 z4), (7, .int .i64 z3)] ∧ St w0 (fun _ => False) w []) ?_ ?_
          · have hk2 := h
            have h := hx3
            refine wp_block ?_
            obtain ⟨z5, hx4, h⟩ := obs h
            refine wp_cut (fun a w => Fr a 47 [(0, .slice a_x0 x0.length c_x0), (5, .int .i64 ((x1 + 1) + e1.c)), (6, .int .i64 z5), (7, .int .i64 z3)] ∧ St w0 (fun _ => False) w []) ?_ ?_
            · have hk3 := h
              have h := hx4
              refine wp_seq ?_
              refine wc_text ?_
              refine wc_move HF nS rfl rfl rfl (fun a HF => ?_)
              refine wc_move HF nS rfl rfl rfl (fun a HF => ?_)
              obtain ⟨e2, hx5, h⟩ := obs h
              refine wc_ixaddr HF nS el35 rfl ha1 ((HT.ro hr_x0).any).neq rfl hx5 rfl rfl (fun a HF => ?_)
              refine wc_faddr HF nS rfl fl25_0 rfl rfl (fun a HF => ?_)
              have hc2 := (HT.ro hr_x0).any.flatAt ha1 hx5
              refine wc_load HF rfl sc3 (hc2.get 0 rfl) rfl rfl (fun a HF => ?_)
              refine wc_bin HF nS rfl rfl b_eq rfl rfl (fun a HF => ?_)
              refine wc_end ?_
              refine then_n ?_
              by_cases hb3 : e2.a = 8
              · have h := (if_pos hb3).symm.trans h
                refine wp_if (b' := true) HF rfl (decide_eq_true hb3) ?_
                refine wc_text ?_
                refine wc_move HF nS rfl rfl rfl (fun a HF => ?_)
                obtain ⟨hg4, h⟩ := grd h
                refine wc_bin HF nS rfl rfl (b_add hg4) rfl rfl (fun a HF => ?_)
                refine wc_assign HF nS rfl rfl rfl (fun a HF => ?_)
                refine wc_end ?_
                obtain rfl := Option.some.inj h
                exact then_n ⟨(HF.keep (HF.keep (HF.keep (HF.keep HF.nil rfl) rfl) rfl) rfl), HT⟩
              · have h := (if_neg hb3).symm.trans h
                refine wp_if (b' := false) HF rfl (decide_eq_false hb3) ?_
                refine wp_skip ?_
                obtain rfl := Option.some.inj h
                exact then_n ⟨(HF.keep (HF.keep (HF.keep (HF.keep HF.nil rfl) rfl) rfl) rfl), HT⟩
            · rintro a w ⟨HF, HT⟩
              refine ?_
              obtain ⟨z6, hx6, h⟩ := obs h
              refine wp_cut (fun a w => Fr a 47 [(0, .slice a_x0 x0.length c_x0), (5, .int .i64 ((x1 + 1) + e1.c)), (6, .int .i64 z6), (7, .int .i64 z3)] ∧ St w0 (fun _ => False) w []) ?_ ?_
              · have hk3 := h
                have h := hx6
                refine wp_seq ?_
                refine wc_text ?_
                refine wc_move HF nS rfl rfl rfl (fun a HF => ?_)
                refine wc_move HF nS rfl rfl rfl (fun a HF => ?_)
                obtain ⟨e3, hx7, h⟩ := obs h
                refine wc_ixaddr HF nS el35 rfl ha1 ((HT.ro hr_x0).any).neq rfl hx7 rfl rfl (fun a HF => ?_)
                refine wc_faddr HF nS rfl fl25_0 rfl rfl (fun a HF => ?_)
                have hc3 := (HT.ro hr_x0).any.flatAt ha1 hx7
                refine wc_load HF rfl sc3 (hc3.get 0 rfl) rfl rfl (fun a HF => ?_)
                refine wc_bin HF nS rfl rfl b_eq rfl rfl (fun a HF => ?_)
                refine wc_end ?_
                refine then_n ?_
                by_cases hb4 : e3.a = 9
                · have h := (if_pos hb4).symm.trans h
                  refine wp_if (b' := true) HF rfl (decide_eq_true hb4) ?_
                  refine wc_text ?_
                  refine wc_move HF nS rfl rfl rfl (fun a HF => ?_)
                  obtain ⟨hg5, h⟩ := grd h
                  refine wc_bin HF nS rfl rfl (b_sub hg5) rfl rfl (fun a HF => ?_)
                  refine wc_assign HF nS rfl rfl rfl (fun a HF => ?_)
                  refine wc_end ?_
                  obtain rfl := Option.some.inj h
                  exact then_n ⟨(HF.keep (HF.keep (HF.keep (HF.keep HF.nil rfl) rfl) rfl) rfl), HT⟩
                · have h := (if_neg hb4).symm.trans h
                  refine wp_if (b' := false) HF rfl (decide_eq_false hb4) ?_
                  refine wp_skip ?_
                  obtain rfl := Option.some.inj h
                  exact then_n ⟨(HF.keep (HF.keep (HF.keep (HF.keep HF.nil rfl) rfl) rfl) rfl), HT⟩
              · rintro a w ⟨HF, HT⟩
                refine ?_
                refine wp_seq ?_
                refine wc_text ?_
                refine wc_move HF nS rfl rfl rfl (fun a HF => ?_)
                refine wc_bin HF nS rfl rfl b_lt rfl rfl (fun a HF => ?_)
                refine wc_end ?_
                refine then_n ?_
                by_cases hb5 : z6 < 0
                · have h := (if_pos hb5).symm.trans h
                  refine wp_if (b' := true) HF rfl (decide_eq_true hb5) ?_
                  refine wp_seq ?_
                  refine wc_text ?_
                  refine wc_assign HF nS rfl rfl rfl (fun a HF => ?_)
                  refine wc_end ?_
                  refine then_n ?_
                  refine wp_ret ?_
                  obtain rfl := Option.some.inj h
                  have h := retM hk2
                  obtain rfl := Option.some.inj h
                  have h := retL hk1
                  obtain rfl := Option.some.inj h
                  refine blk_r (then_r (then_r (blk_r (then_r (?_)))))
                  refine bp_ret HF (res_one rfl HF rfl) ?_
                  exact ⟨rfl, HT⟩
                · have h := (if_neg hb5).symm.trans h
                  refine wp_if (b' := false) HF rfl (decide_eq_false hb5) ?_
                  refine wp_skip ?_
                  refine blk_n ?_
                  exact then_n ⟨z6, (Option.some.inj h).symm, (HF.keep (HF.keep (HF.keep (HF.keep HF.nil rfl) rfl) rfl) rfl), HT⟩
          · rintro a w ⟨z4, rfl, HF, HT⟩
            have h := brkM1u h
            refine ?_
            refine wc_text ?_
            refine wc_move HF nS rfl rfl rfl (fun a HF => ?_)
            obtain ⟨hg6, h⟩ := grd h
            refine wc_bin HF nS rfl rfl (b_add hg6) rfl rfl (fun a HF => ?_)
            refine wc_assign HF nS rfl rfl rfl (fun a HF => ?_)
            refine wc_end ?_
            exact then_n ⟨k1, Nat.lt_succ_self k1, z4, z3 + 1, h, (HF.keep (HF.keep (HF.keep (HF.keep HF.nil rfl) rfl) rfl) rfl), HT⟩
        · have h := (if_neg hb2).symm.trans h
          refine wp_if (b' := false) HF rfl (decide_eq_false hb2) ?_
          refine wp_exit ?_
          refine then_x (then_x (?_))
          refine blk_x ?_
          exact then_n ⟨z2, (Option.some.inj h).symm, (HF.keep HF.nil rfl), HT⟩
    · rintro a w ⟨z1, rfl, HF, HT⟩
      have h := brkL1u h
      refine ?_
      refine wp_seq ?_
      refine wc_text ?_
      refine wc_move HF nS rfl rfl rfl (fun a HF => ?_)
      refine wc_bin HF nS rfl rfl b_eq rfl rfl (fun a HF => ?_)
      refine wc_assign HF nS rfl rfl rfl (fun a HF => ?_)
      refine wc_end ?_
      refine then_n ?_
      refine wp_ret ?_
      obtain rfl := Option.some.inj h
      refine bp_ret HF (res_one rfl HF rfl) ?_
      exact ⟨rfl, HT⟩

def m_spec_CodeOk_L0 (fuel : Nat) (x0 : List I4) : Nat → Int → Int → Int → Option (Lp Int Bool)
  | 0, _, _, _ => none
  | k1 + 1, z2, z3, z4 =>
    if z4 < (x0.length : Int) then
      (
        (at? x0 z4).bind fun e1 =>
        (m_spec_OpOk fuel e1.a e1.b e1.c e1.d).bind fun y1 =>
        if y1 = true then
          (
            if e1.a = 8 then
              if in64 (z2 + 1) then
                some (.brk (z2 + 1, z3))
              else none
            else
              if e1.a = 9 then
                if in64 (z2 - 1) then
                  some (.brk (z2 - 1, z3))
                else none
              else
                if e1.a = 7 then
                  (m_spec_l5Skip fuel x0 z4).bind fun y2 =>
                  if y2 = true then
                    some (.brk (z2, z3))
                  else
                    some (.ret false)
                else
                  if e1.a = 11 then
                    if in64 (z3 + 1) then
                      if 0 < z2 then
                        some (.ret false)
                      else
                        if 1 < (z3 + 1) then
                          some (.ret false)
                        else
                          some (.brk (z2, z3 + 1))
                    else none
                  else
                    some (.brk (z2, z3))).bind <| contM <| un2 fun z7 z8 =>
          if z7 < 0 then
            some (.ret false)
          else
            some (.brk (z7, z8))
        else
          some (.ret false)).bind <| contM <| un2 fun z5 z6 =>
      if in64 (z4 + 1) then
        m_spec_CodeOk_L0 fuel x0 k1 z5 z6 (z4 + 1)
      else none
    else
      some (.brk z2)

def m_spec_CodeOk (fuel : Nat) (x0 : List I4) : Option Bool :=
  if 24 < (x0.length : Int) then
    some false
  else
    (m_spec_CodeOk_L0 fuel x0 fuel 0 0 0).bind <| contL <| un1 fun z1 =>
    some (decide (z1 = 0))

set_option maxRecDepth 100000 in
set_option maxHeartbeats 4000000 in
theorem w_spec_CodeOk (fuel : Nat) {x0 : List I4} {a_x0 : Option Addr} {n_x0 c_x0 : Nat} {r0 : Bool} {w0 : World} (h : m_spec_CodeOk fuel x0 = some r0) (hr_x0 : RdT (fun b => ¬ False) w0 (rowT x0) (.slice a_x0 n_x0 c_x0)) :
    Calls Try.prog 52 #[.slice a_x0 n_x0 c_x0] w0 fun e w => e = .returned (.bool r0) ∧ St w0 (fun _ => False) w [] := by
  obtain rfl := hr_x0.neq
  have HT : St w0 (fun _ => False) w0 [] := St.init0
  rw [m_spec_CodeOk] at h
  refine calls_fr (n := 54) [.slice a_x0 x0.length c_x0] Try.func52 rfl rfl rfl (fun a HF => ?_)
  have HT : St w0 (fun _ => False) w0 [] := HT
  refine wp_seq ?_
  refine wc_text ?_
  refine wc_assign HF nS rfl rfl rfl (fun a HF => ?_)
  refine wc_end ?_
  refine then_n ?_
  refine wp_seq ?_
  refine wp_seq ?_
  refine wc_text ?_
  refine wc_move HF nS rfl rfl rfl (fun a HF => ?_)
  refine wc_lenR HF nS Try.underlying35 rfl rfl rfl (fun a HF => ?_)
  refine wc_bin HF nS rfl rfl b_gt rfl rfl (fun a HF => ?_)
  refine wc_end ?_
  refine then_n ?_
  by_cases hb1 : 24 < (x0.length : Int)
  · have h := (if_pos hb1).symm.trans h
    refine wp_if (b' := true) HF rfl (decide_eq_true hb1) ?_
    refine wp_seq ?_
    refine wc_text ?_
    refine wc_assign HF nS rfl rfl rfl (fun a HF => ?_)
    refine wc_end ?_
    refine then_n ?_
    refine wp_ret ?_
    obtain rfl := Option.some.inj h
    refine then_r (?_)
    refine bp_ret HF (res_one rfl HF rfl) ?_
    exact ⟨rfl, HT⟩
  · have h := (if_neg hb1).symm.trans h
    refine wp_if (b' := false) HF rfl (decide_eq_false hb1) ?_
    refine wp_skip ?_
    refine then_n ?_
    refine wp_seq ?_
    refine wc_text ?_
    refine wc_assign HF nS rfl rfl rfl (fun a HF => ?_)
    refine wc_end ?_
    refine then_n ?_
    refine wp_seq ?_
    refine wc_text ?_
    refine wc_assign HF nS rfl rfl rfl (fun a HF => ?_)
    refine wc_end ?_
    refine then_n ?_
    obtain ⟨q1, hx1, h⟩ := obs h
    refine wp_cut (fun a w => ∃ z1, q1 = .brk z1 ∧ Fr a 54 [(3, .int .i64 z1)] ∧ St w0 (fun _ => False) w []) ?_ ?_
    · have hk1 := h
      have h := hx1
      refine wp_seq ?_
      refine wc_text ?_
      refine wc_assign HF nS rfl rfl rfl (fun a HF => ?_)
      refine wc_end ?_
      refine then_n ?_
      refine wp_block ?_
      refine wp_loopN (fun k1 a w => ∃ z2 z3 z4, m_spec_CodeOk_L0 fuel x0 k1 z2 z3 z4 = some q1 ∧ Fr a 54 [(0, .slice a_x0 x0.length c_x0), (3, .int .i64 z2), (4, .int .i64 z3), (5, .int .i64 z4)] ∧ St w0 (fun _ => False) w []) fuel ⟨0, 0, 0, h, (HF.keep (HF.keep (HF.keep (HF.keep HF.nil rfl) rfl) rfl) rfl), HT⟩ ?_
      rintro k1 a w ⟨z2, z3, z4, h, HF, HT⟩
      cases k1 with
      | zero => cases h
      | succ k1 =>
        rw [m_spec_CodeOk_L0] at h
        refine ?_
        refine wp_seq ?_
        refine wp_seq ?_
        refine wc_text ?_
        refine wc_move HF nS rfl rfl rfl (fun a HF => ?_)
        refine wc_move HF nS rfl rfl rfl (fun a HF => ?_)
        refine wc_lenR HF nS Try.underlying35 rfl rfl rfl (fun a HF => ?_)
        refine wc_bin HF nS rfl rfl b_lt rfl rfl (fun a HF => ?_)
        refine wc_end ?_
        refine then_n ?_
        by_cases hb2 : z4 < (x0.length : Int)
        · have h := (if_pos hb2).symm.trans h
          refine wp_if (b' := true) HF rfl (decide_eq_true hb2) ?_
          refine wp_skip ?_
          refine then_n ?_
          obtain ⟨q2, hx2, h⟩ := obs h
          refine wp_cut (fun a w => ∃ z5 z6, q2 = .brk (z5, z6) ∧ Fr a 54 [(0, .slice a_x0 x0.length c_x0), (3, .int .i64 z5), (4, .int .i64 z6), (5, .int .i64 z4)] ∧ St w0 (fun _ => False) w []) ?_ ?_
          · have hk2 := h
            have h := hx2
            refine wp_block ?_
            refine wp_seq ?_
            refine wp_seq ?_
            refine wc_text ?_
            refine wc_move HF nS rfl rfl rfl (fun a HF => ?_)
            refine wc_move HF nS rfl rfl rfl (fun a HF => ?_)
            obtain ⟨e1, hx3, h⟩ := obs h
            obtain ⟨b1, o1, ha1⟩ := (HT.ro hr_x0).any.addr hx3
            refine wc_ixaddr HF nS el35 rfl ha1 ((HT.ro hr_x0).any).neq rfl hx3 rfl rfl (fun a HF => ?_)
            have hc1 := (HT.ro hr_x0).any.flatAt ha1 hx3
            refine wc_loadA (vs := [.int .i64 e1.a, .int .i64 e1.b, .int .i64 e1.c, .int .i64 e1.d]) HF rfl ag25 rfl (hc1.part 0 4) rfl rfl (fun a HF => ?_)
            obtain ⟨y1, hx4, h⟩ := obs h
            refine wc_call HF cf40 rfl (w_spec_OpOk fuel hx4) rfl rfl ?_
            rintro e w ⟨rfl, hE⟩
            have hb := hE.below
            have HT := HT.pure hE
            have HT : St w0 (fun _ => False) w [] := HT
            refine ⟨_, rfl, nS, fun a HF => ?_⟩
            refine wc_not HF nS rfl rfl rfl (fun a HF => ?_)
            refine wc_end ?_
            refine then_n ?_
            by_cases hb3 : y1 = true
            · have h := (if_pos hb3).symm.trans h
              refine wp_if (b' := false) HF rfl (notT hb3) ?_
              refine wp_skip ?_
              refine then_n ?_
              obtain ⟨q3, hx5, h⟩ := obs h
              refine wp_cut (fun a w => ∃ z7 z8, q3 = .brk (z7, z8) ∧ Fr a 54 [(0, .slice a_x0 x0.length c_x0), (3, .int .i64 z7), (4, .int .i64 z8), (5, .int .i64 z4)] ∧ St w0 (fun _ => False) w []) ?_ ?_
              · have hk3 := h
                have h := hx5
                refine wp_seq ?_
                refine wc_text ?_
                refine wc_move HF nS rfl rfl rfl (fun a HF => ?_)
                refine wc_move HF nS rfl rfl rfl (fun a HF => ?_)
                refine wc_ixaddr HF nS el35 rfl ha1 ((HT.ro hr_x0).any).neq rfl hx3 rfl rfl (fun a HF => ?_)
                refine wc_faddr HF nS rfl fl25_0 rfl rfl (fun a HF => ?_)
                have hc2 := (HT.ro hr_x0).any.flatAt ha1 hx3
                refine wc_load HF rfl sc3 (hc2.get 0 rfl) rfl rfl (fun a HF => ?_)
                refine wc_end ?_
                refine then_n ?_
                refine wp_block ?_
                refine wp_seq ?_
                refine wc_text ?_
                refine wc_bin HF nS rfl rfl b_eq rfl rfl (fun a HF => ?_)
                refine wc_assign HF nS rfl rfl rfl (fun a HF => ?_)
                refine wc_end ?_
                refine then_n ?_
                by_cases hb4 : e1.a = 8
                · have h := (if_pos hb4).symm.trans h
                  refine wp_if (b' := true) HF rfl (decide_eq_true hb4) ?_
                  refine wc_text ?_
                  refine wc_move HF nS rfl rfl rfl (fun a HF => ?_)
                  obtain ⟨hg1, h⟩ := grd h
                  refine wc_bin HF nS rfl rfl (b_add hg1) rfl rfl (fun a HF => ?_)
                  refine wc_assign HF nS rfl rfl rfl (fun a HF => ?_)
                  refine wc_end ?_
                  refine blk_n ?_
                  exact then_n ⟨z2 + 1, z3, (Option.some.inj h).symm, (HF.keep (HF.keep (HF.keep (HF.keep HF.nil rfl) rfl) rfl) rfl), HT⟩
                · have h := (if_neg hb4).symm.trans h
                  refine wp_if (b' := false) HF rfl (decide_eq_false hb4) ?_
                  refine wp_seq ?_
                  refine wc_text ?_
                  refine wc_bin HF nS rfl rfl b_eq rfl rfl (fun a HF => ?_)
                  refine wc_assign HF nS rfl rfl rfl (fun a HF => ?_)
                  refine wc_end ?_
                  refine then_n ?_
                  by_cases hb5 : e1.a = 9
                  · have h := (if_pos hb5).symm.trans h
                    refine wp_if (b' := true) HF rfl (decide_eq_true hb5) ?_
                    refine wc_text ?_
                    refine wc_move HF nS rfl rfl rfl (fun a HF => ?_)
                    obtain ⟨hg2, h⟩ := grd h
                    refine wc_bin HF nS rfl rfl (b_sub hg2) rfl rfl (fun a HF => ?_)
                    refine wc_assign HF nS rfl rfl rfl (fun a HF => ?_)
                    refine wc_end ?_
                    refine blk_n ?_
                    exact then_n ⟨z2 - 1, z3, (Option.some.inj h).symm, (HF.keep (HF.keep (HF.keep (HF.keep HF.nil rfl) rfl) rfl) rfl), HT⟩
                  · have h := (if_neg hb5).symm.trans h
                    refine wp_if (b' := false) HF rfl (decide_eq_false hb5) ?_
                    refine wp_seq ?_
                    refine wc_text ?_
                    refine wc_bin HF nS rfl rfl b_eq rfl rfl (fun a HF => ?_)
                    refine wc_assign HF nS rfl rfl rfl (fun a HF => ?_)
                    refine wc_end ?_
                    refine then_n ?_
                    by_cases hb6 : e1.a = 7
                    · have h := (if_pos hb6).symm.trans h
                      refine wp_if (b' := true) HF rfl (decide_eq_true hb6) ?_
                      refine wp_seq ?_
                      refine wc_text ?_
                      refine wc_move HF nS rfl rfl rfl (fun a HF => ?_)
                      refine wc_move HF nS rfl rfl rfl (fun a HF => ?_)
                      obtain ⟨y2, hx6, h⟩ := obs h
                      refine wc_call HF cf82 rfl (w_spec_l5Skip fuel hx6 (HT.ro hr_x0).any) rfl rfl ?_
                      rintro e w ⟨rfl, hE⟩
                      have hb := hE.below
                      have HT := HT.pure hE
                      have HT : St w0 (fun _ => False) w [] := HT
                      refine ⟨_, rfl, nS, fun a HF => ?_⟩
                      refine wc_not HF nS rfl rfl rfl (fun a HF => ?_)
                      refine wc_end ?_
                      refine then_n ?_
                      by_cases hb7 : y2 = true
                      · have h := (if_pos hb7).symm.trans h
                        refine wp_if (b' := false) HF rfl (notT hb7) ?_
                        refine wp_skip ?_
                        refine blk_n ?_
                        exact then_n ⟨z2, z3, (Option.some.inj h).symm, (HF.keep (HF.keep (HF.keep (HF.keep HF.nil rfl) rfl) rfl) rfl), HT⟩
                      · have h := (if_neg hb7).symm.trans h
                        refine wp_if (b' := true) HF rfl (notF (Bool.eq_false_iff.2 hb7)) ?_
                        refine wp_seq ?_
                        refine wc_text ?_
                        refine wc_assign HF nS rfl rfl rfl (fun a HF => ?_)
                        refine wc_end ?_
                        refine then_n ?_
                        refine wp_ret ?_
                        obtain rfl := Option.some.inj h
                        have h := retM hk3
                        obtain rfl := Option.some.inj h
                        have h := retM hk2
                        obtain rfl := Option.some.inj h
                        have h := retL hk1
                        obtain rfl := Option.some.inj h
                        refine blk_r (then_r (blk_r (then_r (then_r (blk_r (then_r (?_)))))))
                        refine bp_ret HF (res_one rfl HF rfl) ?_
                        exact ⟨rfl, HT⟩
                    · have h := (if_neg hb6).symm.trans h
                      refine wp_if (b' := false) HF rfl (decide_eq_false hb6) ?_
                      refine wp_seq ?_
                      refine wc_text ?_
                      refine wc_bin HF nS rfl rfl b_eq rfl rfl (fun a HF => ?_)
                      refine wc_assign HF nS rfl rfl rfl (fun a HF => ?_)
                      refine wc_end ?_
                      refine then_n ?_
                      by_cases hb8 : e1.a = 11
                      · have h := (if_pos hb8).symm.trans h
                        refine wp_if (b' := true) HF rfl (decide_eq_true hb8) ?_
                        refine wp_seq ?_
                        refine wc_text ?_
                        refine wc_move HF nS rfl rfl rfl (fun a HF => ?_)
                        obtain ⟨hg3, h⟩ := grd h
                        refine wc_bin HF nS rfl rfl (b_add hg3) rfl rfl (fun a HF => ?_)
                        refine wc_assign HF nS rfl rfl rfl (fun a HF => ?_)
                        refine wc_end ?_
                        refine then_n ?_
                        refine wp_seq ?_
                        refine wc_text ?_
                        refine wc_move HF nS rfl rfl rfl (fun a HF => ?_)
                        refine wc_bin HF nS rfl rfl b_gt rfl rfl (fun a HF => ?_)
                        refine wc_move HF nS rfl rfl rfl (fun a HF => ?_)
                        by_cases hb9 : 0 < z2
                        · have h := (if_pos hb9).symm.trans h
                          refine wc_skip HF nS (HF.wn rfl rfl rfl rfl (decide_eq_true hb9)) rfl (fun a HF => ?_)
                          refine wc_skip HF nS (HF.wn rfl rfl rfl rfl (decide_eq_true hb9)) rfl (fun a HF => ?_)
                          refine wc_pick (b := true) HF nS rfl (decide_eq_true hb9) rfl rfl rfl (fun a HF => ?_)
                          refine wc_end ?_
                          refine then_n ?_
                          refine wp_if (b' := true) HF rfl rfl ?_
                          refine wp_seq ?_
                          refine wc_text ?_
                          refine wc_assign HF nS rfl rfl rfl (fun a HF => ?_)
                          refine wc_end ?_
                          refine then_n ?_
                          refine wp_ret ?_
                          obtain rfl := Option.some.inj h
                          have h := retM hk3
                          obtain rfl := Option.some.inj h
                          have h := retM hk2
                          obtain rfl := Option.some.inj h
                          have h := retL hk1
                          obtain rfl := Option.some.inj h
                          refine blk_r (then_r (blk_r (then_r (then_r (blk_r (then_r (?_)))))))
                          refine bp_ret HF (res_one rfl HF rfl) ?_
                          exact ⟨rfl, HT⟩
                        · have h := (if_neg hb9).symm.trans h
                          refine wc_move HF nS rfl (HF.wy rfl rfl rfl rfl (decide_eq_false hb9)) rfl (fun a HF => ?_)
                          refine wc_bin HF nS rfl rfl b_gt (HF.wy rfl rfl rfl rfl (decide_eq_false hb9)) rfl (fun a HF => ?_)
                          refine wc_pick (b := false) HF nS rfl (decide_eq_false hb9) rfl rfl rfl (fun a HF => ?_)
                          refine wc_end ?_
                          refine then_n ?_
                          by_cases hb10 : 1 < (z3 + 1)
                          · have h := (if_pos hb10).symm.trans h
                            refine wp_if (b' := true) HF rfl (decide_eq_true hb10) ?_
                            refine wp_seq ?_
                            refine wc_text ?_
                            refine wc_assign HF nS rfl rfl rfl (fun a HF => ?_)
                            refine wc_end ?_
                            refine then_n ?_
                            refine wp_ret ?_
                            obtain rfl := Option.some.inj h
                            have h := retM hk3
                            obtain rfl := Option.some.inj h
                            have h := retM hk2
                            obtain rfl := Option.some.inj h
                            have h := retL hk1
                            obtain rfl := Option.some.inj h
                            refine blk_r (then_r (blk_r (then_r (then_r (blk_r (then_r (?_)))))))
                            refine bp_ret HF (res_one rfl HF rfl) ?_
                            exact ⟨rfl, HT⟩
                          · have h := (if_neg hb10).symm.trans h
                            refine wp_if (b' := false) HF rfl (decide_eq_false hb10) ?_
                            refine wp_skip ?_
                            refine blk_n ?_
                            exact then_n ⟨z2, z3 + 1, (Option.some.inj h).symm, (HF.keep (HF.keep (HF.keep (HF.keep HF.nil rfl) rfl) rfl) rfl), HT⟩
                      · have h := (if_neg hb8).symm.trans h
                        refine wp_if (b' := false) HF rfl (decide_eq_false hb8) ?_
                        refine wp_skip ?_
                        refine blk_n ?_
                        exact then_n ⟨z2, z3, (Option.some.inj h).symm, (HF.keep (HF.keep (HF.keep (HF.keep HF.nil rfl) rfl) rfl) rfl), HT⟩
              · rintro a w ⟨z7, z8, rfl, HF, HT⟩
                have h := brkM2 h
                refine ?_
                refine wp_seq ?_
                refine wc_text ?_
                refine wc_move HF nS rfl rfl rfl (fun a HF => ?_)
                refine wc_bin HF nS rfl rfl b_lt rfl rfl (fun a HF => ?_)
                refine wc_end ?_
                refine then_n ?_
                by_cases hb11 : z7 < 0
                · have h := (if_pos hb11).symm.trans h
                  refine wp_if (b' := true) HF rfl (decide_eq_true hb11) ?_
                  refine wp_seq ?_
                  refine wc_text ?_
                  refine wc_assign HF nS rfl rfl rfl (fun a HF => ?_)
                  refine wc_end ?_
                  refine then_n ?_
                  refine wp_ret ?_
                  obtain rfl := Option.some.inj h
                  have h := retM hk2
                  obtain rfl := Option.some.inj h
                  have h := retL hk1
                  obtain rfl := Option.some.inj h
                  refine blk_r (then_r (then_r (blk_r (then_r (?_)))))
                  refine bp_ret HF (res_one rfl HF rfl) ?_
                  exact ⟨rfl, HT⟩
                · have h := (if_neg hb11).symm.trans h
                  refine wp_if (b' := false) HF rfl (decide_eq_false hb11) ?_
                  refine wp_skip ?_
                  refine blk_n ?_
                  exact then_n ⟨z7, z8, (Option.some.inj h).symm, (HF.keep (HF.keep (HF.keep (HF.keep HF.nil rfl) rfl) rfl) rfl), HT⟩
            · have h := (if_neg hb3).symm.trans h
              refine wp_if (b' := true) HF rfl (notF (Bool.eq_false_iff.2 hb3)) ?_
              refine wp_seq ?_
              refine wc_text ?_
              refine wc_assign HF nS rfl rfl rfl (fun a HF => ?_)
              refine wc_end ?_
              refine then_n ?_
              refine wp_ret ?_
              obtain rfl := Option.some.inj h
              have h := retM hk2
              obtain rfl := Option.some.inj h
              have h := retL hk1
              obtain rfl := Option.some.inj h
              refine then_r (blk_r (then_r (then_r (blk_r (then_r (?_))))))
              refine bp_ret HF (res_one rfl HF rfl) ?_
              exact ⟨rfl, HT⟩
          · rintro a w ⟨z5, z6, rfl, HF, HT⟩
            have h := brkM2 h
            refine ?_
            refine wc_text ?_
            refine wc_move HF nS rfl rfl rfl (fun a HF => ?_)
            obtain ⟨hg4, h⟩ := grd h
            refine wc_bin HF nS rfl rfl (b_add hg4) rfl rfl (fun a HF => ?_)
            refine wc_assign HF nS rfl rfl rfl (fun a HF => ?_)
            refine wc_end ?_
            exact then_n ⟨k1, Nat.lt_succ_self k1, z5, z6, z4 + 1, h, (HF.keep (HF.keep (HF.keep (HF.keep HF.nil rfl) rfl) rfl) rfl), HT⟩
        · have h := (if_neg hb2).symm.trans h
          refine wp_if (b' := false) HF rfl (decide_eq_false hb2) ?_
          refine wp_exit ?_
          refine then_x (then_x (?_))
          refine blk_x ?_
          exact then_n ⟨z2, (Option.some.inj h).symm, (HF.keep HF.nil rfl), HT⟩
    · rintro a w ⟨z1, rfl, HF, HT⟩
      have h := brkL1u h
      refine ?_
      refine wp_seq ?_
      refine wc_text ?_
      refine wc_move HF nS rfl rfl rfl (fun a HF => ?_)
      refine wc_bin HF nS rfl rfl b_eq rfl rfl (fun a HF => ?_)
      refine wc_assign HF nS rfl rfl rfl (fun a HF => ?_)
      refine wc_end ?_
      refine then_n ?_
      refine wp_ret ?_
      obtain rfl := Option.some.inj h
      refine bp_ret HF (res_one rfl HF rfl) ?_
      exact ⟨rfl, HT⟩

def m_spec_Dec_L0 (fuel : Nat) : Nat → Int → Str → Option Str
  | 0, _, _ => none
  | k1 + 1, z2, z3 =>
    if z2 = 0 then
      some z3
    else
      if (10 : Int) ≠ 0 then
        (
          if (z2.tmod 10) < 0 then
            if in64 (0 - (z2.tmod 10)) then
              some (0 - (z2.tmod 10))
            else none
          else
            some (z2.tmod 10)).bind fun z4 =>
        if in64 (48 + z4) then
          if ((([b8 (48 + z4)] : List UInt8).length + z3.length : Nat) : Int) ≤ 9223372036854775807 then
            if (10 : Int) ≠ 0 ∧ in64 (z2.tdiv 10) then
              m_spec_Dec_L0 fuel k1 (z2.tdiv 10) (([b8 (48 + z4)] : List UInt8) ++ z3)
            else none
          else none
        else none
      else none

def m_spec_Dec (fuel : Nat) (x0 : Int) : Option Str :=
  if x0 = 0 then
    some [48]
  else
    (m_spec_Dec_L0 fuel fuel x0 []).bind fun z1 =>
    if x0 < 0 then
      if (([45].length + z1.length : Nat) : Int) ≤ 9223372036854775807 then
        some ([45] ++ z1)
      else none
    else
      some z1

set_option maxRecDepth 100000 in
set_option maxHeartbeats 4000000 in
theorem w_spec_Dec (fuel : Nat) {x0 : Int} {r0 : Str} {w0 : World} (h : m_spec_Dec fuel x0 = some r0) :
    Calls Try.prog 43 #[.int .i64 x0] w0 fun e w => e = .returned (sv r0) ∧ St w0 (fun _ => False) w [] := by
  have HT : St w0 (fun _ => False) w0 [] := St.init0
  rw [m_spec_Dec] at h
  refine calls_fr (n := 31) [.int .i64 x0] Try.func43 rfl rfl rfl (fun a HF => ?_)
  have HT : St w0 (fun _ => False) w0 [] := HT
  refine wp_seq ?_
  refine wc_text ?_
  refine wc_assign HF nS rfl rfl rfl (fun a HF => ?_)
  refine wc_end ?_
  refine then_n ?_
  refine wp_seq ?_
  refine wp_seq ?_
  refine wc_text ?_
  refine wc_move HF nS rfl rfl rfl (fun a HF => ?_)
  refine wc_bin HF nS rfl rfl b_eq rfl rfl (fun a HF => ?_)
  refine wc_end ?_
  refine then_n ?_
  by_cases hb1 : x0 = 0
  · have h := (if_pos hb1).symm.trans h
    refine wp_if (b' := true) HF rfl (decide_eq_true hb1) ?_
    refine wp_seq ?_
    refine wc_text ?_
    refine wc_assign HF nS rfl rfl rfl (fun a HF => ?_)
    refine wc_end ?_
    refine then_n ?_
    refine wp_ret ?_
    obtain rfl := Option.some.inj h
    refine then_r (?_)
    refine bp_ret HF (res_one rfl HF rfl) ?_
    exact ⟨rfl, HT⟩
  · have h := (if_neg hb1).symm.trans h
    refine wp_if (b' := false) HF rfl (decide_eq_false hb1) ?_
    refine wp_skip ?_
    refine then_n ?_
    refine wp_seq ?_
    refine wc_text ?_
    refine wc_assign HF nS rfl rfl rfl (fun a HF => ?_)
    refine wc_end ?_
    refine then_n ?_
    refine wp_seq ?_
    refine wc_text ?_
    refine wc_move HF nS rfl rfl rfl (fun a HF => ?_)
    refine wc_bin HF nS rfl rfl b_lt rfl rfl (fun a HF => ?_)
    refine wc_assign HF nS rfl rfl rfl (fun a HF => ?_)
    refine wc_end ?_
    refine then_n ?_
    obtain ⟨z1, hx1, h⟩ := obs h
    refine wp_cut (fun a w => Fr a 31 [(3, sv z1), (4, .bool (decide (x0 < 0)))] ∧ St w0 (fun _ => False) w []) ?_ ?_
    · have hk1 := h
      have h := hx1
      refine wp_block ?_
      refine wp_loopN (fun k1 a w => ∃ z2 z3, m_spec_Dec_L0 fuel k1 z2 z3 = some z1 ∧ Fr a 31 [(0, .int .i64 z2), (3, sv z3), (4, .bool (decide (x0 < 0)))] ∧ St w0 (fun _ => False) w []) fuel ⟨x0, [], h, (HF.keep (HF.keep (HF.keep HF.nil rfl) rfl) rfl), HT⟩ ?_
      rintro k1 a w ⟨z2, z3, h, HF, HT⟩
      cases k1 with
      | zero => cases h
      | succ k1 =>
        rw [m_spec_Dec_L0] at h
        refine ?_
        refine wp_seq ?_
        refine wp_seq ?_
        refine wc_text ?_
        refine wc_move HF nS rfl rfl rfl (fun a HF => ?_)
        refine wc_bin HF nS rfl rfl b_ne rfl rfl (fun a HF => ?_)
        refine wc_end ?_
        refine then_n ?_
        by_cases hb2 : z2 = 0
        · have h := (if_pos hb2).symm.trans h
          refine wp_if (b' := false) HF rfl (notT (decide_eq_true hb2)) ?_
          refine wp_exit ?_
          refine then_x (then_x (?_))
          refine blk_x ?_
          obtain rfl := Option.some.inj h
          exact then_n ⟨(HF.keep (HF.keep HF.nil rfl) rfl), HT⟩
        · have h := (if_neg hb2).symm.trans h
          refine wp_if (b' := true) HF rfl (notF (decide_eq_false hb2)) ?_
          refine wp_skip ?_
          refine then_n ?_
          refine wp_block ?_
          refine wp_seq ?_
          refine wc_text ?_
          refine wc_move HF nS rfl rfl rfl (fun a HF => ?_)
          obtain ⟨hg1, h⟩ := grd h
          refine wc_bin HF nS rfl rfl (b_rem hg1) rfl rfl (fun a HF => ?_)
          refine wc_assign HF nS rfl rfl rfl (fun a HF => ?_)
          refine wc_end ?_
          refine then_n ?_
          obtain ⟨z4, hx2, h⟩ := obs h
          refine wp_cut (fun a w => Fr a 31 [(0, .int .i64 z2), (3, sv z3), (4, .bool (decide (x0 < 0))), (5, .int .i64 z4)] ∧ St w0 (fun _ => False) w []) ?_ ?_
          · have hk2 := h
            have h := hx2
            refine wp_seq ?_
            refine wc_text ?_
            refine wc_move HF nS rfl rfl rfl (fun a HF => ?_)
            refine wc_bin HF nS rfl rfl b_lt rfl rfl (fun a HF => ?_)
            refine wc_end ?_
            refine then_n ?_
            by_cases hb3 : (z2.tmod 10) < 0
            · have h := (if_pos hb3).symm.trans h
              refine wp_if (b' := true) HF rfl (decide_eq_true hb3) ?_
              refine wc_text ?_
              refine wc_move HF nS rfl rfl rfl (fun a HF => ?_)
              obtain ⟨hg2, h⟩ := grd h
              refine wc_neg HF nS rfl hg2 rfl rfl (fun a HF => ?_)
              refine wc_assign HF nS rfl rfl rfl (fun a HF => ?_)
              refine wc_end ?_
              obtain rfl := Option.some.inj h
              exact then_n ⟨(HF.keep (HF.keep (HF.keep (HF.keep HF.nil rfl) rfl) rfl) rfl), HT⟩
            · have h := (if_neg hb3).symm.trans h
              refine wp_if (b' := false) HF rfl (decide_eq_false hb3) ?_
              refine wp_skip ?_
              obtain rfl := Option.some.inj h
              exact then_n ⟨(HF.keep (HF.keep (HF.keep (HF.keep HF.nil rfl) rfl) rfl) rfl), HT⟩
          · rintro a w ⟨HF, HT⟩
            refine ?_
            refine wp_seq ?_
            refine wc_text ?_
            refine wc_move HF nS rfl rfl rfl (fun a HF => ?_)
            obtain ⟨hg3, h⟩ := grd h
            refine wc_bin HF nS rfl rfl (b_add hg3) rfl rfl (fun a HF => ?_)
            refine wc_cvb HF nS Try.underlying5 Try.underlying3 rfl rfl rfl (fun a HF => ?_)
            refine wc_bslice (l := ([b8 (48 + z4)] : List UInt8)) (cs := [.int .u8 ((b8 (48 + z4)).toNat : Int)]) (A := []) HF HT bs56_1 rfl rfl (gives_flat rfl) rfl (by decide) rfl rfl (fun p1 w HT hb => ⟨nS, fun a HF => ?_⟩)
            refine wc_cvs HF nS Try.underlying56 Try.underlying5 Try.underlying9 rfl (HT.rdAt 0 rfl) rfl rfl (fun a HF => ?_)
            refine wc_move HF nS rfl rfl rfl (fun a HF => ?_)
            obtain ⟨hg4, h⟩ := grd h
            refine wc_bin HF nS rfl rfl (b_cat hg4) rfl rfl (fun a HF => ?_)
            refine wc_assign HF nS rfl rfl rfl (fun a HF => ?_)
            refine wc_end ?_
            refine then_n ?_
            refine wc_text ?_
            refine wc_move HF nS rfl rfl rfl (fun a HF => ?_)
            obtain ⟨hg5, h⟩ := grd h
            refine wc_bin HF nS rfl rfl (b_quo hg5) rfl rfl (fun a HF => ?_)
            refine wc_assign HF nS rfl rfl rfl (fun a HF => ?_)
            refine wc_end ?_
            refine blk_n ?_
            have HT : St w0 (fun _ => False) w [] := HT.take 0
            exact then_n ⟨k1, Nat.lt_succ_self k1, z2.tdiv 10, ([b8 (48 + z4)] : List UInt8) ++ z3, h, (HF.keep (HF.keep (HF.keep HF.nil rfl) rfl) rfl), HT⟩
    · rintro a w ⟨HF, HT⟩
      refine ?_
      refine wp_seq ?_
      refine wp_seq ?_
      refine wc_text ?_
      refine wc_move HF nS rfl rfl rfl (fun a HF => ?_)
      refine wc_end ?_
      refine then_n ?_
      by_cases hb4 : x0 < 0
      · have h := (if_pos hb4).symm.trans h
        refine wp_if (b' := true) HF rfl (decide_eq_true hb4) ?_
        refine wp_seq ?_
        refine wc_text ?_
        refine wc_move HF nS rfl rfl rfl (fun a HF => ?_)
        obtain ⟨hg6, h⟩ := grd h
        refine wc_bin HF nS rfl rfl (b_cat hg6) rfl rfl (fun a HF => ?_)
        refine wc_assign HF nS rfl rfl rfl (fun a HF => ?_)
        refine wc_end ?_
        refine then_n ?_
        refine wp_ret ?_
        obtain rfl := Option.some.inj h
        refine then_r (?_)
        refine bp_ret HF (res_one rfl HF rfl) ?_
        exact ⟨rfl, HT⟩
      · have h := (if_neg hb4).symm.trans h
        refine wp_if (b' := false) HF rfl (decide_eq_false hb4) ?_
        refine wp_skip ?_
        refine then_n ?_
        refine wp_seq ?_
        refine wc_text ?_
        refine wc_move HF nS rfl rfl rfl (fun a HF => ?_)
        refine wc_assign HF nS rfl rfl rfl (fun a HF => ?_)
        refine wc_end ?_
        refine then_n ?_
        refine wp_ret ?_
        obtain rfl := Option.some.inj h
        refine bp_ret HF (res_one rfl HF rfl) ?_
        exact ⟨rfl, HT⟩

def m_spec_l6Args (fuel : Nat) (x0 : Int) : Option Int :=
  (
    (
      if x0 = 2 then
        some (decide (x0 = 2))
      else
        if x0 = 3 then
          some (decide (x0 = 3))
        else
          if x0 = 4 then
            some (decide (x0 = 4))
          else
            some (decide (x0 = 12))).bind fun z1 =>
    if z1 = true then
      some (.ret 3)
    else
      (
        if x0 = 8 then
          some (decide (x0 = 8))
        else
          if x0 = 15 then
            some (decide (x0 = 15))
          else
            some (decide (x0 = 16))).bind fun z2 =>
      if z2 = true then
        some (.ret 1)
      else
        (
          if x0 = 9 then
            some (decide (x0 = 9))
          else
            if x0 = 10 then
              some (decide (x0 = 10))
            else
              some (decide (x0 = 11))).bind fun z3 =>
        if z3 = true then
          some (.ret 0)
        else
          some (.brk ())).bind <| contL <| un1 fun _ =>
  some 2

set_option maxRecDepth 100000 in
set_option maxHeartbeats 4000000 in
theorem w_spec_l6Args (fuel : Nat) {x0 : Int} {r0 : Int} {w0 : World} (h : m_spec_l6Args fuel x0 = some r0) :
    Calls Try.prog 42 #[.int .i64 x0] w0 fun e w => e = .returned (.int .i64 r0) ∧ St w0 (fun _ => False) w [] := by
  have HT : St w0 (fun _ => False) w0 [] := St.init0
  rw [m_spec_l6Args] at h
  refine calls_fr (n := 17) [.int .i64 x0] Try.func42 rfl rfl rfl (fun a HF => ?_)
  have HT : St w0 (fun _ => False) w0 [] := HT
  refine wp_seq ?_
  refine wc_text ?_
  refine wc_assign HF nS rfl rfl rfl (fun a HF => ?_)
  refine wc_end ?_
  refine then_n ?_
  obtain ⟨q1, hx1, h⟩ := obs h
  refine wp_cut (fun a w => q1 = .brk () ∧ Fr a 17 [] ∧ St w0 (fun _ => False) w []) ?_ ?_
  · have hk1 := h
    have h := hx1
    refine wp_seq ?_
    refine wc_text ?_
    refine wc_move HF nS rfl rfl rfl (fun a HF => ?_)
    refine wc_end ?_
    refine then_n ?_
    refine wp_block ?_
    obtain ⟨z1, hx2, h⟩ := obs h
    refine wp_cut (fun a w => Fr a 17 [(3, .int .i64 x0), (4, .bool z1)] ∧ St w0 (fun _ => False) w []) ?_ ?_
    · have hk2 := h
      have h := hx2
      refine wp_seq ?_
      refine wc_text ?_
      refine wc_bin HF nS rfl rfl b_eq rfl rfl (fun a HF => ?_)
      refine wc_assign HF nS rfl rfl rfl (fun a HF => ?_)
      refine wc_end ?_
      refine then_n ?_
      by_cases hb1 : x0 = 2
      · have h := (if_pos hb1).symm.trans h
        refine wp_if (b' := true) HF rfl (decide_eq_true hb1) ?_
        refine wp_skip ?_
        obtain rfl := Option.some.inj h
        exact then_n ⟨(HF.keep (HF.keep HF.nil rfl) rfl), HT⟩
      · have h := (if_neg hb1).symm.trans h
        refine wp_if (b' := false) HF rfl (decide_eq_false hb1) ?_
        refine wp_seq ?_
        refine wc_text ?_
        refine wc_bin HF nS rfl rfl b_eq rfl rfl (fun a HF => ?_)
        refine wc_assign HF nS rfl rfl rfl (fun a HF => ?_)
        refine wc_end ?_
        refine then_n ?_
        by_cases hb2 : x0 = 3
        · have h := (if_pos hb2).symm.trans h
          refine wp_if (b' := true) HF rfl (decide_eq_true hb2) ?_
          refine wp_skip ?_
          obtain rfl := Option.some.inj h
          exact then_n ⟨(HF.keep (HF.keep HF.nil rfl) rfl), HT⟩
        · have h := (if_neg hb2).symm.trans h
          refine wp_if (b' := false) HF rfl (decide_eq_false hb2) ?_
          refine wp_seq ?_
          refine wc_text ?_
          refine wc_bin HF nS rfl rfl b_eq rfl rfl (fun a HF => ?_)
          refine wc_assign HF nS rfl rfl rfl (fun a HF => ?_)
          refine wc_end ?_
          refine then_n ?_
          by_cases hb3 : x0 = 4
          · have h := (if_pos hb3).symm.trans h
            refine wp_if (b' := true) HF rfl (decide_eq_true hb3) ?_
            refine wp_skip ?_
            obtain rfl := Option.some.inj h
            exact then_n ⟨(HF.keep (HF.keep HF.nil rfl) rfl), HT⟩
          · have h := (if_neg hb3).symm.trans h
            refine wp_if (b' := false) HF rfl (decide_eq_false hb3) ?_
            refine wc_text ?_
            refine wc_bin HF nS rfl rfl b_eq rfl rfl (fun a HF => ?_)
            refine wc_assign HF nS rfl rfl rfl (fun a HF => ?_)
            refine wc_end ?_
            obtain rfl := Option.some.inj h
            exact then_n ⟨(HF.keep (HF.keep HF.nil rfl) rfl), HT⟩
    · rintro a w ⟨HF, HT⟩
      refine ?_
      by_cases hb4 : z1 = true
      · have h := (if_pos hb4).symm.trans h
        refine wp_if (b' := true) HF rfl hb4 ?_
        refine wp_seq ?_
        refine wc_text ?_
        refine wc_assign HF nS rfl rfl rfl (fun a HF => ?_)
        refine wc_end ?_
        refine then_n ?_
        refine wp_ret ?_
        obtain rfl := Option.some.inj h
        have h := retL hk1
        obtain rfl := Option.some.inj h
        refine blk_r (then_r (?_))
        refine bp_ret HF (res_one rfl HF rfl) ?_
        exact ⟨rfl, HT⟩
      · have h := (if_neg hb4).symm.trans h
        refine wp_if (b' := false) HF rfl (Bool.eq_false_iff.2 hb4) ?_
        obtain ⟨z2, hx3, h⟩ := obs h
        refine wp_cut (fun a w => Fr a 17 [(3, .int .i64 x0), (9, .bool z2)] ∧ St w0 (fun _ => False) w []) ?_ ?_
        · have hk2 := h
          have h := hx3
          refine wp_seq ?_
          refine wc_text ?_
          refine wc_bin HF nS rfl rfl b_eq rfl rfl (fun a HF => ?_)
          refine wc_assign HF nS rfl rfl rfl (fun a HF => ?_)
          refine wc_end ?_
          refine then_n ?_
          by_cases hb5 : x0 = 8
          · have h := (if_pos hb5).symm.trans h
            refine wp_if (b' := true) HF rfl (decide_eq_true hb5) ?_
            refine wp_skip ?_
            obtain rfl := Option.some.inj h
            exact then_n ⟨(HF.keep (HF.keep HF.nil rfl) rfl), HT⟩
          · have h := (if_neg hb5).symm.trans h
            refine wp_if (b' := false) HF rfl (decide_eq_false hb5) ?_
            refine wp_seq ?_
            refine wc_text ?_
            refine wc_bin HF nS rfl rfl b_eq rfl rfl (fun a HF => ?_)
            refine wc_assign HF nS rfl rfl rfl (fun a HF => ?_)
            refine wc_end ?_
            refine then_n ?_
            by_cases hb6 : x0 = 15
            · have h := (if_pos hb6).symm.trans h
              refine wp_if (b' := true) HF rfl (decide_eq_true hb6) ?_
              refine wp_skip ?_
              obtain rfl := Option.some.inj h
              exact then_n ⟨(HF.keep (HF.keep HF.nil rfl) rfl), HT⟩
            · have h := (if_neg hb6).symm.trans h
              refine wp_if (b' := false) HF rfl (decide_eq_false hb6) ?_
              refine wc_text ?_
              refine wc_bin HF nS rfl rfl b_eq rfl rfl (fun a HF => ?_)
              refine wc_assign HF nS rfl rfl rfl (fun a HF => ?_)
              refine wc_end ?_
              obtain rfl := Option.some.inj h
              exact then_n ⟨(HF.keep (HF.keep HF.nil rfl) rfl), HT⟩
        · rintro a w ⟨HF, HT⟩
          refine ?_
          by_cases hb7 : z2 = true
          · have h := (if_pos hb7).symm.trans h
            refine wp_if (b' := true) HF rfl hb7 ?_
            refine wp_seq ?_
            refine wc_text ?_
            refine wc_assign HF nS rfl rfl rfl (fun a HF => ?_)
            refine wc_end ?_
            refine then_n ?_
            refine wp_ret ?_
            obtain rfl := Option.some.inj h
            have h := retL hk1
            obtain rfl := Option.some.inj h
            refine blk_r (then_r (?_))
            refine bp_ret HF (res_one rfl HF rfl) ?_
            exact ⟨rfl, HT⟩
          · have h := (if_neg hb7).symm.trans h
            refine wp_if (b' := false) HF rfl (Bool.eq_false_iff.2 hb7) ?_
            obtain ⟨z3, hx4, h⟩ := obs h
            refine wp_cut (fun a w => Fr a 17 [(13, .bool z3)] ∧ St w0 (fun _ => False) w []) ?_ ?_
            · have hk2 := h
              have h := hx4
              refine wp_seq ?_
              refine wc_text ?_
              refine wc_bin HF nS rfl rfl b_eq rfl rfl (fun a HF => ?_)
              refine wc_assign HF nS rfl rfl rfl (fun a HF => ?_)
              refine wc_end ?_
              refine then_n ?_
              by_cases hb8 : x0 = 9
              · have h := (if_pos hb8).symm.trans h
                refine wp_if (b' := true) HF rfl (decide_eq_true hb8) ?_
                refine wp_skip ?_
                obtain rfl := Option.some.inj h
                exact then_n ⟨(HF.keep HF.nil rfl), HT⟩
              · have h := (if_neg hb8).symm.trans h
                refine wp_if (b' := false) HF rfl (decide_eq_false hb8) ?_
                refine wp_seq ?_
                refine wc_text ?_
                refine wc_bin HF nS rfl rfl b_eq rfl rfl (fun a HF => ?_)
                refine wc_assign HF nS rfl rfl rfl (fun a HF => ?_)
                refine wc_end ?_
                refine then_n ?_
                by_cases hb9 : x0 = 10
                · have h := (if_pos hb9).symm.trans h
                  refine wp_if (b' := true) HF rfl (decide_eq_true hb9) ?_
                  refine wp_skip ?_
                  obtain rfl := Option.some.inj h
                  exact then_n ⟨(HF.keep HF.nil rfl), HT⟩
                · have h := (if_neg hb9).symm.trans h
                  refine wp_if (b' := false) HF rfl (decide_eq_false hb9) ?_
                  refine wc_text ?_
                  refine wc_bin HF nS rfl rfl b_eq rfl rfl (fun a HF => ?_)
                  refine wc_assign HF nS rfl rfl rfl (fun a HF => ?_)
                  refine wc_end ?_
                  obtain rfl := Option.some.inj h
                  exact then_n ⟨(HF.keep HF.nil rfl), HT⟩
            · rintro a w ⟨HF, HT⟩
              refine ?_
              by_cases hb10 : z3 = true
              · have h := (if_pos hb10).symm.trans h
                refine wp_if (b' := true) HF rfl hb10 ?_
                refine wp_seq ?_
                refine wc_text ?_
                refine wc_assign HF nS rfl rfl rfl (fun a HF => ?_)
                refine wc_end ?_
                refine then_n ?_
                refine wp_ret ?_
                obtain rfl := Option.some.inj h
                have h := retL hk1
                obtain rfl := Option.some.inj h
                refine blk_r (then_r (?_))
                refine bp_ret HF (res_one rfl HF rfl) ?_
                exact ⟨rfl, HT⟩
              · have h := (if_neg hb10).symm.trans h
                refine wp_if (b' := false) HF rfl (Bool.eq_false_iff.2 hb10) ?_
                refine wp_skip ?_
                refine blk_n ?_
                exact then_n ⟨(Option.some.inj h).symm, HF.nil, HT⟩
  · rintro a w ⟨rfl, HF, HT⟩
    have h := brkL1u h
    refine ?_
    refine wp_seq ?_
    refine wc_text ?_
    refine wc_assign HF nS rfl rfl rfl (fun a HF => ?_)
    refine wc_end ?_
    refine then_n ?_
    refine wp_ret ?_
    obtain rfl := Option.some.inj h
    refine bp_ret HF (res_one rfl HF rfl) ?_
    exact ⟨rfl, HT⟩

def m_spec_l6Words (fuel : Nat) : Option (List SE) :=
  some ([(⟨[]⟩ : SE), (⟨[115, 101, 116]⟩ : SE), (⟨[97, 100, 100]⟩ : SE), (⟨[115, 117, 98]⟩ : SE), (⟨[108, 101, 115, 115]⟩ : SE), (⟨[114, 101, 97, 100]⟩ : SE), (⟨[119, 114, 105, 116, 101]⟩ : SE), (⟨[115, 107, 105, 112]⟩ : SE), (⟨[98, 101, 103, 105, 110]⟩ : SE), (⟨[101, 110, 100]⟩ : SE), (⟨[97, 98, 111, 114, 116]⟩ : SE), (⟨[102, 111, 114, 107]⟩ : SE), (⟨[112, 117, 116]⟩ : SE), (⟨[103, 101, 116]⟩ : SE), (⟨[100, 114, 111, 112]⟩ : SE), (⟨[98, 117, 109, 112]⟩ : SE), (⟨[99, 111, 117, 110, 116]⟩ : SE)] : List SE)

set_option maxRecDepth 100000 in
set_option maxHeartbeats 4000000 in
theorem w_spec_l6Words (fuel : Nat)  {r0 : List SE} {w0 : World} (h : m_spec_l6Words fuel  = some r0) :
    Calls Try.prog 41 #[] w0 fun e w => ∃ a_r0 n_r0 c_r0, e = .returned (.slice a_r0 n_r0 c_r0) ∧ St w0 (fun _ => False) w [Own 9 (rowT r0) (.slice a_r0 n_r0 c_r0)] := by
  have HT : St w0 (fun _ => False) w0 [] := St.init0
  rw [m_spec_l6Words] at h
  refine calls_fr (n := 2) [] Try.func41 rfl rfl rfl (fun a HF => ?_)
  have HT : St w0 (fun _ => False) w0 [] := HT
  refine wp_seq ?_
  refine wc_text ?_
  refine wc_assign HF nS rfl rfl rfl (fun a HF => ?_)
  refine wc_end ?_
  refine then_n ?_
  refine wp_seq ?_
  refine wc_text ?_
  refine wc_bslice (l := ([(⟨[]⟩ : SE), (⟨[115, 101, 116]⟩ : SE), (⟨[97, 100, 100]⟩ : SE), (⟨[115, 117, 98]⟩ : SE), (⟨[108, 101, 115, 115]⟩ : SE), (⟨[114, 101, 97, 100]⟩ : SE), (⟨[119, 114, 105, 116, 101]⟩ : SE), (⟨[115, 107, 105, 112]⟩ : SE), (⟨[98, 101, 103, 105, 110]⟩ : SE), (⟨[101, 110, 100]⟩ : SE), (⟨[97, 98, 111, 114, 116]⟩ : SE), (⟨[102, 111, 114, 107]⟩ : SE), (⟨[112, 117, 116]⟩ : SE), (⟨[103, 101, 116]⟩ : SE), (⟨[100, 114, 111, 112]⟩ : SE), (⟨[98, 117, 109, 112]⟩ : SE), (⟨[99, 111, 117, 110, 116]⟩ : SE)] : List SE)) (cs := [sv [], sv ([115, 101, 116]), sv ([97, 100, 100]), sv ([115, 117, 98]), sv ([108, 101, 115, 115]), sv ([114, 101, 97, 100]), sv ([119, 114, 105, 116, 101]), sv ([115, 107, 105, 112]), sv ([98, 101, 103, 105, 110]), sv ([101, 110, 100]), sv ([97, 98, 111, 114, 116]), sv ([102, 111, 114, 107]), sv ([112, 117, 116]), sv ([103, 101, 116]), sv ([100, 114, 111, 112]), sv ([98, 117, 109, 112]), sv ([99, 111, 117, 110, 116])]) (A := []) HF HT bs62_17 rfl rfl (gives_flat rfl) rfl (by decide) rfl rfl (fun p1 w HT hb => ⟨nS, fun a HF => ?_⟩)
  refine wc_assign HF nS rfl rfl rfl (fun a HF => ?_)
  refine wc_end ?_
  refine then_n ?_
  refine wp_ret ?_
  obtain rfl := Option.some.inj h
  refine bp_ret HF (res_one rfl HF rfl) ?_
  exact ⟨(some ⟨p1, 0, none⟩), 17, 17, rfl, HT⟩

def m_spec_ShowOp (fuel : Nat) (x0_0 : Int) (x0_1 : Int) (x0_2 : Int) (x0_3 : Int) : Option Str :=
  (m_spec_OpOk fuel x0_0 x0_1 x0_2 x0_3).bind fun y1 =>
  if y1 = true then
    (m_spec_l6Words fuel ).bind fun y2 =>
    (at? y2 x0_0).bind fun e1 =>
    (m_spec_l6Args fuel x0_0).bind fun y3 =>
    (
      if 0 < y3 then
        if ((e1.s.length + [32].length : Nat) : Int) ≤ 9223372036854775807 then
          (m_spec_Dec fuel x0_1).bind fun y4 =>
          if (((e1.s ++ [32]).length + y4.length : Nat) : Int) ≤ 9223372036854775807 then
            some ((e1.s ++ [32]) ++ y4)
          else none
        else none
      else
        some e1.s).bind fun z1 =>
    (
      if 1 < y3 then
        if ((z1.length + [32].length : Nat) : Int) ≤ 9223372036854775807 then
          (m_spec_Dec fuel x0_2).bind fun y5 =>
          if (((z1 ++ [32]).length + y5.length : Nat) : Int) ≤ 9223372036854775807 then
            some ((z1 ++ [32]) ++ y5)
          else none
        else none
      else
        some z1).bind fun z2 =>
    (
      if 2 < y3 then
        if ((z2.length + [32].length : Nat) : Int) ≤ 9223372036854775807 then
          (m_spec_Dec fuel x0_3).bind fun y6 =>
          if (((z2 ++ [32]).length + y6.length : Nat) : Int) ≤ 9223372036854775807 then
            some ((z2 ++ [32]) ++ y6)
          else none
        else none
      else
        some z2).bind fun z3 =>
    some z3
  else
    some []

set_option maxRecDepth 100000 in
set_option maxHeartbeats 4000000 in
theorem w_spec_ShowOp (fuel : Nat) {x0_0 : Int} {x0_1 : Int} {x0_2 : Int} {x0_3 : Int} {r0 : Str} {w0 : World} (h : m_spec_ShowOp fuel x0_0 x0_1 x0_2 x0_3 = some r0) :
    Calls Try.prog 10 #[.agg #[.int .i64 x0_0, .int .i64 x0_1, .int .i64 x0_2, .int .i64 x0_3]] w0 fun e w => e = .returned (sv r0) ∧ St w0 (fun _ => False) w [] := by
  have HT : St w0 (fun _ => False) w0 [] := St.init0
  rw [m_spec_ShowOp] at h
  refine calls_fr (n := 41) [.agg #[.int .i64 x0_0, .int .i64 x0_1, .int .i64 x0_2, .int .i64 x0_3]] Try.func10 rfl rfl rfl (fun a HF => ?_)
  have HT : St w0 (fun _ => False) w0 [] := HT
  refine wp_seq ?_
  refine wc_text ?_
  refine wc_box (cs := [.int .i64 x0_0, .int .i64 x0_1, .int .i64 x0_2, .int .i64 x0_3]) HF HT rfl rfl rfl rfl (fun p1 w HT hb => ⟨nS, fun a HF => ?_⟩)
  refine wc_assign HF nS rfl rfl rfl (fun a HF => ?_)
  refine wc_end ?_
  refine then_n ?_
  refine wp_seq ?_
  refine wp_seq ?_
  refine wc_text ?_
  refine wc_loadA (vs := [.int .i64 x0_0, .int .i64 x0_1, .int .i64 x0_2, .int .i64 x0_3]) HF rfl ag25 rfl ((HT.boxAt 0 rfl).part 0 4) rfl rfl (fun a HF => ?_)
  obtain ⟨y1, hx1, h⟩ := obs h
  refine wc_call HF cf40 rfl (w_spec_OpOk fuel hx1) rfl rfl ?_
  rintro e w ⟨rfl, hE⟩
  have hb := hE.below
  have HT := HT.pure hE
  have HT : St w0 (fun _ => False) w [Box p1 [.int .i64 x0_0, .int .i64 x0_1, .int .i64 x0_2, .int .i64 x0_3]] := HT
  refine ⟨_, rfl, nS, fun a HF => ?_⟩
  refine wc_not HF nS rfl rfl rfl (fun a HF => ?_)
  refine wc_end ?_
  refine then_n ?_
  by_cases hb1 : y1 = true
  · have h := (if_pos hb1).symm.trans h
    refine wp_if (b' := false) HF rfl (notT hb1) ?_
    refine wp_skip ?_
    refine then_n ?_
    refine wp_seq ?_
    refine wp_region_can [(1, false), (2, false), (0, false), (3, true), (4, true), (5, true)] (fun w' => w'.cell? ⟨p1, 0, none⟩ = some (.int .i64 x0_0) ∧ True) (by kernel_rfl) (by kernel_rfl) ?_
    have HT : St w0 (fun _ => False) w.drew [Box p1 [.int .i64 x0_0, .int .i64 x0_1, .int .i64 x0_2, .int .i64 x0_3]] := HT.drew
    refine wc_faddr HF (fun _ => ⟨(HT.boxAt 0 rfl).get 0 rfl, trivial⟩) rfl fl25_0 rfl rfl (fun a HF => ?_)
    refine wc_loadS HF ⟨(HT.boxAt 0 rfl).get 0 rfl, trivial⟩ rfl sc3 (fun w hS => hS.1) rfl rfl (fun a HF => ?_)
    obtain ⟨y2, hx2, h⟩ := obs h
    refine wc_call HF cf41 rfl (w_spec_l6Words fuel hx2) rfl rfl ?_
    rintro e w ⟨a1, n1, c1, rfl, hE⟩
    have hb := hE.below
    have HT := HT.pure hE
    obtain rfl := (HT.rdAt 0 rfl).neq
    have HT : St w0 (fun _ => False) w [Own 9 (rowT y2) (.slice a1 y2.length c1), Box p1 [.int .i64 x0_0, .int .i64 x0_1, .int .i64 x0_2, .int .i64 x0_3]] := HT
    refine ⟨_, rfl, (fun _ => ⟨(HT.boxAt 1 rfl).get 0 rfl, trivial⟩), fun a HF => ?_⟩
    obtain ⟨e1, hx3, h⟩ := obs h
    obtain ⟨b1, o1, ha1⟩ := (HT.rdAt 0 rfl).addr hx3
    refine wc_ixaddr HF nS el62 rfl ha1 ((HT.rdAt 0 rfl)).neq rfl hx3 rfl rfl (fun a HF => ?_)
    have hc1 := (HT.rdAt 0 rfl).flatAt ha1 hx3
    refine wc_load HF rfl sc9 (hc1.get 0 rfl) rfl rfl (fun a HF => ?_)
    refine wc_assign HF nS rfl rfl rfl (fun a HF => ?_)
    refine wc_endN ?_
    refine then_n ?_
    refine wp_seq ?_
    refine wc_text ?_
    refine wc_faddr HF nS rfl fl25_0 rfl rfl (fun a HF => ?_)
    refine wc_load HF rfl sc3 ((HT.boxAt 1 rfl).get 0 rfl) rfl rfl (fun a HF => ?_)
    obtain ⟨y3, hx4, h⟩ := obs h
    refine wc_call HF cf42 rfl (w_spec_l6Args fuel hx4) rfl rfl ?_
    rintro e w ⟨rfl, hE⟩
    have hb := hE.below
    have HT := HT.pure hE
    have HT : St w0 (fun _ => False) w [Own 9 (rowT y2) (.slice a1 y2.length c1), Box p1 [.int .i64 x0_0, .int .i64 x0_1, .int .i64 x0_2, .int .i64 x0_3]] := HT
    refine ⟨_, rfl, nS, fun a HF => ?_⟩
    refine wc_assign HF nS rfl rfl rfl (fun a HF => ?_)
    refine wc_end ?_
    refine then_n ?_
    obtain ⟨z1, hx5, h⟩ := obs h
    refine wp_cut (fun a w => Fr a 41 [(1, .pointer (some ⟨p1, 0, none⟩)), (3, sv z1), (4, .int .i64 y3)] ∧ St w0 (fun _ => False) w [Box p1 [.int .i64 x0_0, .int .i64 x0_1, .int .i64 x0_2, .int .i64 x0_3]]) ?_ ?_
    · have hk1 := h
      have h := hx5
      refine wp_seq ?_
      refine wc_text ?_
      refine wc_move HF nS rfl rfl rfl (fun a HF => ?_)
      refine wc_bin HF nS rfl rfl b_gt rfl rfl (fun a HF => ?_)
      refine wc_end ?_
      refine then_n ?_
      by_cases hb2 : 0 < y3
      · have h := (if_pos hb2).symm.trans h
        refine wp_if (b' := true) HF rfl (decide_eq_true hb2) ?_
        refine wc_text ?_
        refine wc_move HF nS rfl rfl rfl (fun a HF => ?_)
        obtain ⟨hg1, h⟩ := grd h
        refine wc_bin HF nS rfl rfl (b_cat hg1) rfl rfl (fun a HF => ?_)
        refine wc_faddr HF nS rfl fl25_1 rfl rfl (fun a HF => ?_)
        refine wc_load HF rfl sc3 ((HT.boxAt 1 rfl).get 1 rfl) rfl rfl (fun a HF => ?_)
        obtain ⟨y4, hx6, h⟩ := obs h
        refine wc_call HF cf43 rfl (w_spec_Dec fuel hx6) rfl rfl ?_
        rintro e w ⟨rfl, hE⟩
        have hb := hE.below
        have HT := HT.pure hE
        have HT : St w0 (fun _ => False) w [Own 9 (rowT y2) (.slice a1 y2.length c1), Box p1 [.int .i64 x0_0, .int .i64 x0_1, .int .i64 x0_2, .int .i64 x0_3]] := HT
        refine ⟨_, rfl, nS, fun a HF => ?_⟩
        obtain ⟨hg2, h⟩ := grd h
        refine wc_bin HF nS rfl rfl (b_cat hg2) rfl rfl (fun a HF => ?_)
        refine wc_assign HF nS rfl rfl rfl (fun a HF => ?_)
        refine wc_end ?_
        have HT : St w0 (fun _ => False) w [Box p1 [.int .i64 x0_0, .int .i64 x0_1, .int .i64 x0_2, .int .i64 x0_3], Own 9 (rowT y2) (.slice a1 y2.length c1)] := HT.pick 1
        have HT : St w0 (fun _ => False) w [Box p1 [.int .i64 x0_0, .int .i64 x0_1, .int .i64 x0_2, .int .i64 x0_3]] := HT.take 1
        obtain rfl := Option.some.inj h
        exact then_n ⟨(HF.keep (HF.keep (HF.keep HF.nil rfl) rfl) rfl), HT⟩
      · have h := (if_neg hb2).symm.trans h
        refine wp_if (b' := false) HF rfl (decide_eq_false hb2) ?_
        refine wp_skip ?_
        have HT : St w0 (fun _ => False) w [Box p1 [.int .i64 x0_0, .int .i64 x0_1, .int .i64 x0_2, .int .i64 x0_3], Own 9 (rowT y2) (.slice a1 y2.length c1)] := HT.pick 1
        have HT : St w0 (fun _ => False) w [Box p1 [.int .i64 x0_0, .int .i64 x0_1, .int .i64 x0_2, .int .i64 x0_3]] := HT.take 1
        obtain rfl := Option.some.inj h
        exact then_n ⟨(HF.keep (HF.keep (HF.keep HF.nil rfl) rfl) rfl), HT⟩
    · rintro a w ⟨HF, HT⟩
      refine ?_
      obtain ⟨z2, hx7, h⟩ := obs h
      refine wp_cut (fun a w => Fr a 41 [(1, .pointer (some ⟨p1, 0, none⟩)), (3, sv z2), (4, .int .i64 y3)] ∧ St w0 (fun _ => False) w [Box p1 [.int .i64 x0_0, .int .i64 x0_1, .int .i64 x0_2, .int .i64 x0_3]]) ?_ ?_
      · have hk1 := h
        have h := hx7
        refine wp_seq ?_
        refine wc_text ?_
        refine wc_move HF nS rfl rfl rfl (fun a HF => ?_)
        refine wc_bin HF nS rfl rfl b_gt rfl rfl (fun a HF => ?_)
        refine wc_end ?_
        refine then_n ?_
        by_cases hb3 : 1 < y3
        · have h := (if_pos hb3).symm.trans h
          refine wp_if (b' := true) HF rfl (decide_eq_true hb3) ?_
          refine wc_text ?_
          refine wc_move HF nS rfl rfl rfl (fun a HF => ?_)
          obtain ⟨hg3, h⟩ := grd h
          refine wc_bin HF nS rfl rfl (b_cat hg3) rfl rfl (fun a HF => ?_)
          refine wc_faddr HF nS rfl fl25_2 rfl rfl (fun a HF => ?_)
          refine wc_load HF rfl sc3 ((HT.boxAt 0 rfl).get 2 rfl) rfl rfl (fun a HF => ?_)
          obtain ⟨y5, hx8, h⟩ := obs h
          refine wc_call HF cf43 rfl (w_spec_Dec fuel hx8) rfl rfl ?_
          rintro e w ⟨rfl, hE⟩
          have hb := hE.below
          have HT := HT.pure hE
          have HT : St w0 (fun _ => False) w [Box p1 [.int .i64 x0_0, .int .i64 x0_1, .int .i64 x0_2, .int .i64 x0_3]] := HT
          refine ⟨_, rfl, nS, fun a HF => ?_⟩
          obtain ⟨hg4, h⟩ := grd h
          refine wc_bin HF nS rfl rfl (b_cat hg4) rfl rfl (fun a HF => ?_)
          refine wc_assign HF nS rfl rfl rfl (fun a HF => ?_)
          refine wc_end ?_
          obtain rfl := Option.some.inj h
          exact then_n ⟨(HF.keep (HF.keep (HF.keep HF.nil rfl) rfl) rfl), HT⟩
        · have h := (if_neg hb3).symm.trans h
          refine wp_if (b' := false) HF rfl (decide_eq_false hb3) ?_
          refine wp_skip ?_
          obtain rfl := Option.some.inj h
          exact then_n ⟨(HF.keep (HF.keep (HF.keep HF.nil rfl) rfl) rfl), HT⟩
      · rintro a w ⟨HF, HT⟩
        refine ?_
        obtain ⟨z3, hx9, h⟩ := obs h
        refine wp_cut (fun a w => Fr a 41 [(3, sv z3)] ∧ St w0 (fun _ => False) w []) ?_ ?_
        · have hk1 := h
          have h := hx9
          refine wp_seq ?_
          refine wc_text ?_
          refine wc_move HF nS rfl rfl rfl (fun a HF => ?_)
          refine wc_bin HF nS rfl rfl b_gt rfl rfl (fun a HF => ?_)
          refine wc_end ?_
          refine then_n ?_
          by_cases hb4 : 2 < y3
          · have h := (if_pos hb4).symm.trans h
            refine wp_if (b' := true) HF rfl (decide_eq_true hb4) ?_
            refine wc_text ?_
            refine wc_move HF nS rfl rfl rfl (fun a HF => ?_)
            obtain ⟨hg5, h⟩ := grd h
            refine wc_bin HF nS rfl rfl (b_cat hg5) rfl rfl (fun a HF => ?_)
            refine wc_faddr HF nS rfl fl25_3 rfl rfl (fun a HF => ?_)
            refine wc_load HF rfl sc3 ((HT.boxAt 0 rfl).get 3 rfl) rfl rfl (fun a HF => ?_)
            obtain ⟨y6, hx10, h⟩ := obs h
            refine wc_call HF cf43 rfl (w_spec_Dec fuel hx10) rfl rfl ?_
            rintro e w ⟨rfl, hE⟩
            have hb := hE.below
            have HT := HT.pure hE
            have HT : St w0 (fun _ => False) w [Box p1 [.int .i64 x0_0, .int .i64 x0_1, .int .i64 x0_2, .int .i64 x0_3]] := HT
            refine ⟨_, rfl, nS, fun a HF => ?_⟩
            obtain ⟨hg6, h⟩ := grd h
            refine wc_bin HF nS rfl rfl (b_cat hg6) rfl rfl (fun a HF => ?_)
            refine wc_assign HF nS rfl rfl rfl (fun a HF => ?_)
            refine wc_end ?_
            have HT : St w0 (fun _ => False) w [] := HT.take 0
            obtain rfl := Option.some.inj h
            exact then_n ⟨(HF.keep HF.nil rfl), HT⟩
          · have h := (if_neg hb4).symm.trans h
            refine wp_if (b' := false) HF rfl (decide_eq_false hb4) ?_
            refine wp_skip ?_
            have HT : St w0 (fun _ => False) w [] := HT.take 0
            obtain rfl := Option.some.inj h
            exact then_n ⟨(HF.keep HF.nil rfl), HT⟩
        · rintro a w ⟨HF, HT⟩
          refine ?_
          refine wp_seq ?_
          refine wc_text ?_
          refine wc_move HF nS rfl rfl rfl (fun a HF => ?_)
          refine wc_assign HF nS rfl rfl rfl (fun a HF => ?_)
          refine wc_end ?_
          refine then_n ?_
          refine wp_ret ?_
          obtain rfl := Option.some.inj h
          refine bp_ret HF (res_one rfl HF rfl) ?_
          exact ⟨rfl, HT⟩
  · have h := (if_neg hb1).symm.trans h
    refine wp_if (b' := true) HF rfl (notF (Bool.eq_false_iff.2 hb1)) ?_
    refine wp_seq ?_
    refine wc_text ?_
    refine wc_assign HF nS rfl rfl rfl (fun a HF => ?_)
    refine wc_end ?_
    refine then_n ?_
    refine wp_ret ?_
    obtain rfl := Option.some.inj h
    refine then_r (?_)
    refine bp_ret HF (res_one rfl HF rfl) ?_
    have HT : St w0 (fun _ => False) w [] := HT.take 0
    exact ⟨rfl, HT⟩

def m_spec_ShowCode_L0 (fuel : Nat) (x0 : List I4) : Nat → Str → Int → Option Str
  | 0, _, _ => none
  | k1 + 1, z2, z3 =>
    if z3 < (x0.length : Int) then
      (at? x0 z3).bind fun e1 =>
      (m_spec_ShowOp fuel e1.a e1.b e1.c e1.d).bind fun y2 =>
      if ((z2.length + y2.length : Nat) : Int) ≤ 9223372036854775807 then
        if (((z2 ++ y2).length + [10].length : Nat) : Int) ≤ 9223372036854775807 then
          if in64 (z3 + 1) then
            m_spec_ShowCode_L0 fuel x0 k1 ((z2 ++ y2) ++ [10]) (z3 + 1)
          else none
        else none
      else none
    else
      some z2

def m_spec_ShowCode (fuel : Nat) (x0 : List I4) : Option Str :=
  (m_spec_CodeOk fuel x0).bind fun y1 =>
  if y1 = true then
    (m_spec_ShowCode_L0 fuel x0 fuel [] 0).bind fun z1 =>
    some z1
  else
    some []

set_option maxRecDepth 100000 in
set_option maxHeartbeats 4000000 in
theorem w_spec_ShowCode (fuel : Nat) {x0 : List I4} {a_x0 : Option Addr} {n_x0 c_x0 : Nat} {r0 : Str} {w0 : World} (h : m_spec_ShowCode fuel x0 = some r0) (hr_x0 : RdT (fun b => ¬ False) w0 (rowT x0) (.slice a_x0 n_x0 c_x0)) :
    Calls Try.prog 17 #[.slice a_x0 n_x0 c_x0] w0 fun e w => e = .returned (sv r0) ∧ St w0 (fun _ => False) w [] := by
  obtain rfl := hr_x0.neq
  have HT : St w0 (fun _ => False) w0 [] := St.init0
  rw [m_spec_ShowCode] at h
  refine calls_fr (n := 23) [.slice a_x0 x0.length c_x0] Try.func17 rfl rfl rfl (fun a HF => ?_)
  have HT : St w0 (fun _ => False) w0 [] := HT
  refine wp_seq ?_
  refine wc_text ?_
  refine wc_assign HF nS rfl rfl rfl (fun a HF => ?_)
  refine wc_end ?_
  refine then_n ?_
  refine wp_seq ?_
  refine wp_seq ?_
  refine wc_text ?_
  refine wc_move HF nS rfl rfl rfl (fun a HF => ?_)
  obtain ⟨y1, hx1, h⟩ := obs h
  refine wc_call HF cf52 rfl (w_spec_CodeOk fuel hx1 (HT.ro hr_x0).any) rfl rfl ?_
  rintro e w ⟨rfl, hE⟩
  have hb := hE.below
  have HT := HT.pure hE
  have HT : St w0 (fun _ => False) w [] := HT
  refine ⟨_, rfl, nS, fun a HF => ?_⟩
  refine wc_not HF nS rfl rfl rfl (fun a HF => ?_)
  refine wc_end ?_
  refine then_n ?_
  by_cases hb1 : y1 = true
  · have h := (if_pos hb1).symm.trans h
    refine wp_if (b' := false) HF rfl (notT hb1) ?_
    refine wp_skip ?_
    refine then_n ?_
    refine wp_seq ?_
    refine wc_text ?_
    refine wc_assign HF nS rfl rfl rfl (fun a HF => ?_)
    refine wc_end ?_
    refine then_n ?_
    obtain ⟨z1, hx2, h⟩ := obs h
    refine wp_cut (fun a w => Fr a 23 [(3, sv z1)] ∧ St w0 (fun _ => False) w []) ?_ ?_
    · have hk1 := h
      have h := hx2
      refine wp_seq ?_
      refine wc_text ?_
      refine wc_assign HF nS rfl rfl rfl (fun a HF => ?_)
      refine wc_end ?_
      refine then_n ?_
      refine wp_block ?_
      refine wp_loopN (fun k1 a w => ∃ z2 z3, m_spec_ShowCode_L0 fuel x0 k1 z2 z3 = some z1 ∧ Fr a 23 [(0, .slice a_x0 x0.length c_x0), (3, sv z2), (4, .int .i64 z3)] ∧ St w0 (fun _ => False) w []) fuel ⟨[], 0, h, (HF.keep (HF.keep (HF.keep HF.nil rfl) rfl) rfl), HT⟩ ?_
      rintro k1 a w ⟨z2, z3, h, HF, HT⟩
      cases k1 with
      | zero => cases h
      | succ k1 =>
        rw [m_spec_ShowCode_L0] at h
        refine ?_
        refine wp_seq ?_
        refine wp_seq ?_
        refine wc_text ?_
        refine wc_move HF nS rfl rfl rfl (fun a HF => ?_)
        refine wc_move HF nS rfl rfl rfl (fun a HF => ?_)
        refine wc_lenR HF nS Try.underlying35 rfl rfl rfl (fun a HF => ?_)
        refine wc_bin HF nS rfl rfl b_lt rfl rfl (fun a HF => ?_)
        refine wc_end ?_
        refine then_n ?_
        by_cases hb2 : z3 < (x0.length : Int)
        · have h := (if_pos hb2).symm.trans h
          refine wp_if (b' := true) HF rfl (decide_eq_true hb2) ?_
          refine wp_skip ?_
          refine then_n ?_
          refine wp_seq ?_
          refine wp_block ?_
          refine wc_text ?_
          refine wc_move HF nS rfl rfl rfl (fun a HF => ?_)
          refine wc_move HF nS rfl rfl rfl (fun a HF => ?_)
          refine wc_move HF nS rfl rfl rfl (fun a HF => ?_)
          obtain ⟨e1, hx3, h⟩ := obs h
          obtain ⟨b1, o1, ha1⟩ := (HT.ro hr_x0).any.addr hx3
          refine wc_ixaddr HF nS el35 rfl ha1 ((HT.ro hr_x0).any).neq rfl hx3 rfl rfl (fun a HF => ?_)
          have hc1 := (HT.ro hr_x0).any.flatAt ha1 hx3
          refine wc_loadA (vs := [.int .i64 e1.a, .int .i64 e1.b, .int .i64 e1.c, .int .i64 e1.d]) HF rfl ag25 rfl (hc1.part 0 4) rfl rfl (fun a HF => ?_)
          obtain ⟨y2, hx4, h⟩ := obs h
          refine wc_call HF cf10 rfl (w_spec_ShowOp fuel hx4) rfl rfl ?_
          rintro e w ⟨rfl, hE⟩
          have hb := hE.below
          have HT := HT.pure hE
          have HT : St w0 (fun _ => False) w [] := HT
          refine ⟨_, rfl, nS, fun a HF => ?_⟩
          obtain ⟨hg1, h⟩ := grd h
          refine wc_bin HF nS rfl rfl (b_cat hg1) rfl rfl (fun a HF => ?_)
          obtain ⟨hg2, h⟩ := grd h
          refine wc_bin HF nS rfl rfl (b_cat hg2) rfl rfl (fun a HF => ?_)
          refine wc_assign HF nS rfl rfl rfl (fun a HF => ?_)
          refine wc_end ?_
          refine blk_n ?_
          refine then_n ?_
          refine wc_text ?_
          refine wc_move HF nS rfl rfl rfl (fun a HF => ?_)
          obtain ⟨hg3, h⟩ := grd h
          refine wc_bin HF nS rfl rfl (b_add hg3) rfl rfl (fun a HF => ?_)
          refine wc_assign HF nS rfl rfl rfl (fun a HF => ?_)
          refine wc_end ?_
          exact then_n ⟨k1, Nat.lt_succ_self k1, (z2 ++ y2) ++ [10], z3 + 1, h, (HF.keep (HF.keep (HF.keep HF.nil rfl) rfl) rfl), HT⟩
        · have h := (if_neg hb2).symm.trans h
          refine wp_if (b' := false) HF rfl (decide_eq_false hb2) ?_
          refine wp_exit ?_
          refine then_x (then_x (?_))
          refine blk_x ?_
          obtain rfl := Option.some.inj h
          exact then_n ⟨(HF.keep HF.nil rfl), HT⟩
    · rintro a w ⟨HF, HT⟩
      refine ?_
      refine wp_seq ?_
      refine wc_text ?_
      refine wc_move HF nS rfl rfl rfl (fun a HF => ?_)
      refine wc_assign HF nS rfl rfl rfl (fun a HF => ?_)
      refine wc_end ?_
      refine then_n ?_
      refine wp_ret ?_
      obtain rfl := Option.some.inj h
      refine bp_ret HF (res_one rfl HF rfl) ?_
      exact ⟨rfl, HT⟩
  · have h := (if_neg hb1).symm.trans h
    refine wp_if (b' := true) HF rfl (notF (Bool.eq_false_iff.2 hb1)) ?_
    refine wp_seq ?_
    refine wc_text ?_
    refine wc_assign HF nS rfl rfl rfl (fun a HF => ?_)
    refine wc_end ?_
    refine then_n ?_
    refine wp_ret ?_
    obtain rfl := Option.some.inj h
    refine then_r (?_)
    refine bp_ret HF (res_one rfl HF rfl) ?_
    exact ⟨rfl, HT⟩

def m_laws_FnExactShowCode (fuel : Nat) (x0 : List I4) : Option Bool :=
  (m_laws_szOpS fuel x0 1048576).bind fun y1 =>
  if y1 < 0 then
    some true
  else
    (m_laws_toOpS fuel x0).bind fun y2 =>
    (m_spec_ShowCode fuel y2).bind fun y3 =>
    (m_laws_toOpS fuel x0).bind fun y4 =>
    (m_impl_ShowCode fuel y4).bind fun y5 =>
    if y5 = y3 then
      (m_laws_toOpS fuel x0).bind fun y6 =>
      (m_laws_eqOpS fuel y4 y6).bind fun y7 =>
      if y7 = true then
        some true
      else
        some false
    else
      some false

set_option maxRecDepth 100000 in
set_option maxHeartbeats 4000000 in
theorem w_laws_FnExactShowCode (fuel : Nat) {x0 : List I4} {a_x0 : Option Addr} {n_x0 c_x0 : Nat} {r0 : Bool} {w0 : World} (h : m_laws_FnExactShowCode fuel x0 = some r0) (hr_x0 : RdT (fun b => ¬ False) w0 (rowT x0) (.slice a_x0 n_x0 c_x0)) :
    Calls Try.prog 5 #[.slice a_x0 n_x0 c_x0] w0 fun e w => e = .returned (.bool r0) ∧ St w0 (fun _ => False) w [] := by
  obtain rfl := hr_x0.neq
  have HT : St w0 (fun _ => False) w0 [] := St.init0
  rw [m_laws_FnExactShowCode] at h
  refine calls_fr (n := 27) [.slice a_x0 x0.length c_x0] Try.func5 rfl rfl rfl (fun a HF => ?_)
  have HT : St w0 (fun _ => False) w0 [] := HT
  refine wp_seq ?_
  refine wc_text ?_
  refine wc_assign HF nS rfl rfl rfl (fun a HF => ?_)
  refine wc_end ?_
  refine then_n ?_
  refine wp_seq ?_
  refine wc_text ?_
  refine wc_assign HF nS rfl rfl rfl (fun a HF => ?_)
  refine wc_end ?_
  refine then_n ?_
  refine wp_seq ?_
  refine wc_text ?_
  refine wc_move HF nS rfl rfl rfl (fun a HF => ?_)
  refine wc_move HF nS rfl rfl rfl (fun a HF => ?_)
  obtain ⟨y1, hx1, h⟩ := obs h
  refine wc_call HF cf16 rfl (w_laws_szOpS fuel hx1 (HT.ro hr_x0).any) rfl rfl ?_
  rintro e w ⟨rfl, hE⟩
  have hb := hE.below
  have HT := HT.pure hE
  have HT : St w0 (fun _ => False) w [] := HT
  refine ⟨_, rfl, nS, fun a HF => ?_⟩
  refine wc_assign HF nS rfl rfl rfl (fun a HF => ?_)
  refine wc_end ?_
  refine then_n ?_
  refine wp_seq ?_
  refine wp_seq ?_
  refine wc_text ?_
  refine wc_move HF nS rfl rfl rfl (fun a HF => ?_)
  refine wc_bin HF nS rfl rfl b_lt rfl rfl (fun a HF => ?_)
  refine wc_end ?_
  refine then_n ?_
  by_cases hb1 : y1 < 0
  · have h := (if_pos hb1).symm.trans h
    refine wp_if (b' := true) HF rfl (decide_eq_true hb1) ?_
    refine wp_seq ?_
    refine wc_text ?_
    refine wc_assign HF nS rfl rfl rfl (fun a HF => ?_)
    refine wc_end ?_
    refine then_n ?_
    refine wp_ret ?_
    obtain rfl := Option.some.inj h
    refine then_r (?_)
    refine bp_ret HF (res_one rfl HF rfl) ?_
    exact ⟨rfl, HT⟩
  · have h := (if_neg hb1).symm.trans h
    refine wp_if (b' := false) HF rfl (decide_eq_false hb1) ?_
    refine wp_skip ?_
    refine then_n ?_
    refine wp_seq ?_
    refine wc_text ?_
    refine wc_move HF nS rfl rfl rfl (fun a HF => ?_)
    obtain ⟨y2, hx2, h⟩ := obs h
    refine wc_call HF cf18 rfl (w_laws_toOpS fuel hx2 (HT.ro hr_x0).any) rfl rfl ?_
    rintro e w ⟨a1, n1, c1, rfl, hE⟩
    have hb := hE.below
    have HT := HT.pure hE
    obtain rfl := (HT.rdAt 0 rfl).neq
    have HT : St w0 (fun _ => False) w [Own 25 (rowT y2) (.slice a1 y2.length c1)] := HT
    refine ⟨_, rfl, nS, fun a HF => ?_⟩
    obtain ⟨y3, hx3, h⟩ := obs h
    refine wc_call HF cf17 rfl (w_spec_ShowCode fuel hx3 (HT.rdAt 0 rfl)) rfl rfl ?_
    rintro e w ⟨rfl, hE⟩
    have hb := hE.below
    have HT := HT.pure hE
    have HT : St w0 (fun _ => False) w [Own 25 (rowT y2) (.slice a1 y2.length c1)] := HT
    refine ⟨_, rfl, nS, fun a HF => ?_⟩
    refine wc_assign HF nS rfl rfl rfl (fun a HF => ?_)
    refine wc_end ?_
    refine then_n ?_
    refine wp_seq ?_
    refine wc_text ?_
    refine wc_move HF nS rfl rfl rfl (fun a HF => ?_)
    obtain ⟨y4, hx4, h⟩ := obs h
    refine wc_call HF cf18 rfl (w_laws_toOpS fuel hx4 (HT.ro hr_x0).any) rfl rfl ?_
    rintro e w ⟨a2, n2, c2, rfl, hE⟩
    have hb := hE.below
    have HT := HT.pure hE
    obtain rfl := (HT.rdAt 0 rfl).neq
    have HT : St w0 (fun _ => False) w [Own 25 (rowT y4) (.slice a2 y4.length c2), Own 25 (rowT y2) (.slice a1 y2.length c1)] := HT
    refine ⟨_, rfl, nS, fun a HF => ?_⟩
    refine wc_assign HF nS rfl rfl rfl (fun a HF => ?_)
    refine wc_end ?_
    refine then_n ?_
    refine wp_seq ?_
    refine wc_text ?_
    refine wc_move HF nS rfl rfl rfl (fun a HF => ?_)
    obtain ⟨y5, hx5, h⟩ := obs h
    refine wc_call HF cf19 rfl (w_impl_ShowCode fuel hx5 (HT.rdAt 0 rfl)) rfl rfl ?_
    rintro e w ⟨rfl, hE⟩
    have hb := hE.below
    have HT := HT.pure hE
    have HT : St w0 (fun _ => False) w [Own 25 (rowT y4) (.slice a2 y4.length c2), Own 25 (rowT y2) (.slice a1 y2.length c1)] := HT
    refine ⟨_, rfl, nS, fun a HF => ?_⟩
    refine wc_assign HF nS rfl rfl rfl (fun a HF => ?_)
    refine wc_end ?_
    refine then_n ?_
    refine wp_seq ?_
    refine wp_seq ?_
    refine wc_text ?_
    refine wc_move HF nS rfl rfl rfl (fun a HF => ?_)
    refine wc_move HF nS rfl rfl rfl (fun a HF => ?_)
    refine wc_bin HF nS rfl rfl b_sne rfl rfl (fun a HF => ?_)
    refine wc_end ?_
    refine then_n ?_
    by_cases hb2 : y5 = y3
    · have h := (if_pos hb2).symm.trans h
      refine wp_if (b' := false) HF rfl (notT (decide_eq_true hb2)) ?_
      refine wp_skip ?_
      refine then_n ?_
      refine wp_seq ?_
      refine wp_seq ?_
      refine wc_text ?_
      refine wc_move HF nS rfl rfl rfl (fun a HF => ?_)
      refine wc_move HF nS rfl rfl rfl (fun a HF => ?_)
      obtain ⟨y6, hx6, h⟩ := obs h
      refine wc_call HF cf18 rfl (w_laws_toOpS fuel hx6 (HT.ro hr_x0).any) rfl rfl ?_
      rintro e w ⟨a3, n3, c3, rfl, hE⟩
      have hb := hE.below
      have HT := HT.pure hE
      obtain rfl := (HT.rdAt 0 rfl).neq
      have HT : St w0 (fun _ => False) w [Own 25 (rowT y6) (.slice a3 y6.length c3), Own 25 (rowT y4) (.slice a2 y4.length c2), Own 25 (rowT y2) (.slice a1 y2.length c1)] := HT
      refine ⟨_, rfl, nS, fun a HF => ?_⟩
      obtain ⟨y7, hx7, h⟩ := obs h
      refine wc_call HF cf20 rfl (w_laws_eqOpS fuel hx7 (HT.rdAt 1 rfl) (HT.rdAt 0 rfl)) rfl rfl ?_
      rintro e w ⟨rfl, hE⟩
      have hb := hE.below
      have HT := HT.pure hE
      have HT : St w0 (fun _ => False) w [Own 25 (rowT y6) (.slice a3 y6.length c3), Own 25 (rowT y4) (.slice a2 y4.length c2), Own 25 (rowT y2) (.slice a1 y2.length c1)] := HT
      refine ⟨_, rfl, nS, fun a HF => ?_⟩
      refine wc_not HF nS rfl rfl rfl (fun a HF => ?_)
      refine wc_end ?_
      refine then_n ?_
      by_cases hb3 : y7 = true
      · have h := (if_pos hb3).symm.trans h
        refine wp_if (b' := false) HF rfl (notT hb3) ?_
        refine wp_skip ?_
        refine then_n ?_
        refine wp_seq ?_
        refine wc_text ?_
        refine wc_assign HF nS rfl rfl rfl (fun a HF => ?_)
        refine wc_end ?_
        refine then_n ?_
        refine wp_ret ?_
        obtain rfl := Option.some.inj h
        refine bp_ret HF (res_one rfl HF rfl) ?_
        have HT : St w0 (fun _ => False) w [] := HT.take 0
        exact ⟨rfl, HT⟩
      · have h := (if_neg hb3).symm.trans h
        refine wp_if (b' := true) HF rfl (notF (Bool.eq_false_iff.2 hb3)) ?_
        refine wp_seq ?_
        refine wc_text ?_
        refine wc_assign HF nS rfl rfl rfl (fun a HF => ?_)
        refine wc_end ?_
        refine then_n ?_
        refine wp_ret ?_
        obtain rfl := Option.some.inj h
        refine then_r (?_)
        refine bp_ret HF (res_one rfl HF rfl) ?_
        have HT : St w0 (fun _ => False) w [] := HT.take 0
        exact ⟨rfl, HT⟩
    · have h := (if_neg hb2).symm.trans h
      refine wp_if (b' := true) HF rfl (notF (decide_eq_false hb2)) ?_
      refine wp_seq ?_
      refine wc_text ?_
      refine wc_assign HF nS rfl rfl rfl (fun a HF => ?_)
      refine wc_end ?_
      refine then_n ?_
      refine wp_ret ?_
      obtain rfl := Option.some.inj h
      refine then_r (?_)
      refine bp_ret HF (res_one rfl HF rfl) ?_
      have HT : St w0 (fun _ => False) w [] := HT.take 0
      exact ⟨rfl, HT⟩

def m_impl_HasFork_1 (fuel : Nat) (x0_0 : Int) (x0_1 : Int) (x0_2 : Int) (x0_3 : Int) : Option Bool :=
  some (decide (x0_0 = 11))

set_option maxRecDepth 100000 in
set_option maxHeartbeats 4000000 in
theorem w_impl_HasFork_1 (fuel : Nat) {x0_0 : Int} {x0_1 : Int} {x0_2 : Int} {x0_3 : Int} {r0 : Bool} {w0 : World} (h : m_impl_HasFork_1 fuel x0_0 x0_1 x0_2 x0_3 = some r0) :
    Calls Try.prog 102 #[.agg #[.int .i64 x0_0, .int .i64 x0_1, .int .i64 x0_2, .int .i64 x0_3]] w0 fun e w => e = .returned (.bool r0) ∧ St w0 (fun _ => False) w [] := by
  have HT : St w0 (fun _ => False) w0 [] := St.init0
  rw [m_impl_HasFork_1] at h
  refine calls_fr (n := 6) [.agg #[.int .i64 x0_0, .int .i64 x0_1, .int .i64 x0_2, .int .i64 x0_3]] Try.func102 rfl rfl rfl (fun a HF => ?_)
  have HT : St w0 (fun _ => False) w0 [] := HT
  refine wp_seq ?_
  refine wc_text ?_
  refine wc_box (cs := [.int .i64 x0_0, .int .i64 x0_1, .int .i64 x0_2, .int .i64 x0_3]) HF HT rfl rfl rfl rfl (fun p1 w HT hb => ⟨nS, fun a HF => ?_⟩)
  refine wc_assign HF nS rfl rfl rfl (fun a HF => ?_)
  refine wc_end ?_
  refine then_n ?_
  refine wp_seq ?_
  refine wc_text ?_
  refine wc_faddr HF nS rfl fl25_0 rfl rfl (fun a HF => ?_)
  refine wc_load HF rfl sc3 ((HT.boxAt 0 rfl).get 0 rfl) rfl rfl (fun a HF => ?_)
  refine wc_bin HF nS rfl rfl b_eq rfl rfl (fun a HF => ?_)
  refine wc_assign HF nS rfl rfl rfl (fun a HF => ?_)
  refine wc_end ?_
  refine then_n ?_
  refine wp_ret ?_
  obtain rfl := Option.some.inj h
  refine bp_ret HF (res_one rfl HF rfl) ?_
  have HT : St w0 (fun _ => False) w [] := HT.take 0
  exact ⟨rfl, HT⟩

def m_slices_IndexFunc___impl_Op_impl_Op__102_L0 (fuel : Nat) (x0 : List I4) : Nat → Int → Option (Lp Unit Int)
  | 0, _ => none
  | k1 + 1, z1 =>
    if z1 < (x0.length : Int) then
      (at? x0 z1).bind fun e1 =>
      (m_impl_HasFork_1 fuel e1.a e1.b e1.c e1.d).bind fun y1 =>
      if y1 = true then
        some (.ret z1)
      else
        if in64 (z1 + 1) then
          m_slices_IndexFunc___impl_Op_impl_Op__102_L0 fuel x0 k1 (z1 + 1)
        else none
    else
      some (.brk ())

def m_slices_IndexFunc___impl_Op_impl_Op__102 (fuel : Nat) (x0 : List I4) : Option Int :=
  (m_slices_IndexFunc___impl_Op_impl_Op__102_L0 fuel x0 fuel 0).bind <| contL <| un1 fun _ =>
  some (-1)

set_option maxRecDepth 100000 in
set_option maxHeartbeats 4000000 in
theorem w_slices_IndexFunc___impl_Op_impl_Op__102 (fuel : Nat) {x0 : List I4} {a_x0 : Option Addr} {n_x0 c_x0 : Nat} {r0 : Int} {w0 : World} (h : m_slices_IndexFunc___impl_Op_impl_Op__102 fuel x0 = some r0) (hr_x0 : RdT (fun b => ¬ False) w0 (rowT x0) (.slice a_x0 n_x0 c_x0)) :
    Calls Try.prog 105 #[.slice a_x0 n_x0 c_x0, .func (.func 102) #[] #[]] w0 fun e w => e = .returned (.int .i64 r0) ∧ St w0 (fun _ => False) w [] := by
  obtain rfl := hr_x0.neq
  have HT : St w0 (fun _ => False) w0 [] := St.init0
  rw [m_slices_IndexFunc___impl_Op_impl_Op__102] at h
  refine calls_fr (n := 19) [.slice a_x0 x0.length c_x0, .func (.func 102) #[] #[]] Try.func105 rfl rfl rfl (fun a HF => ?_)
  have HT : St w0 (fun _ => False) w0 [] := HT
  refine wp_seq ?_
  refine wc_text ?_
  refine wc_assign HF nS rfl rfl rfl (fun a HF => ?_)
  refine wc_end ?_
  refine then_n ?_
  obtain ⟨q1, hx1, h⟩ := obs h
  refine wp_cut (fun a w => q1 = .brk () ∧ Fr a 19 [] ∧ St w0 (fun _ => False) w []) ?_ ?_
  · have hk1 := h
    have h := hx1
    refine wp_seq ?_
    refine wc_text ?_
    refine wc_move HF nS rfl rfl rfl (fun a HF => ?_)
    refine wc_lenR HF nS Try.underlying35 rfl rfl rfl (fun a HF => ?_)
    refine wc_move HF nS rfl rfl rfl (fun a HF => ?_)
    refine wc_end ?_
    refine then_n ?_
    refine wp_block ?_
    refine wp_loopN (fun k1 a w => ∃ z1, m_slices_IndexFunc___impl_Op_impl_Op__102_L0 fuel x0 k1 z1 = some q1 ∧ Fr a 19 [(0, .slice a_x0 x0.length c_x0), (1, .func (.func 102) #[] #[]), (7, .int .i64 (x0.length : Int)), (8, .int .i64 z1)] ∧ St w0 (fun _ => False) w []) fuel ⟨0, h, (HF.keep (HF.keep (HF.keep (HF.keep HF.nil rfl) rfl) rfl) rfl), HT⟩ ?_
    rintro k1 a w ⟨z1, h, HF, HT⟩
    cases k1 with
    | zero => cases h
    | succ k1 =>
      rw [m_slices_IndexFunc___impl_Op_impl_Op__102_L0] at h
      refine ?_
      refine wp_seq ?_
      refine wc_text ?_
      refine wc_bin HF nS rfl rfl b_lt rfl rfl (fun a HF => ?_)
      refine wc_end ?_
      refine then_n ?_
      refine wp_seq ?_
      by_cases hb1 : z1 < (x0.length : Int)
      · have h := (if_pos hb1).symm.trans h
        refine wp_if (b' := true) HF rfl (decide_eq_true hb1) ?_
        refine wp_skip ?_
        refine then_n ?_
        refine wp_seq ?_
        refine wp_block ?_
        refine wp_seq ?_
        refine wc_text ?_
        refine wc_move HF nS rfl rfl rfl (fun a HF => ?_)
        refine wc_assign HF nS rfl rfl rfl (fun a HF => ?_)
        refine wc_end ?_
        refine then_n ?_
        refine wp_seq ?_
        refine wc_text ?_
        refine wc_move HF nS rfl rfl rfl (fun a HF => ?_)
        refine wc_move HF nS rfl rfl rfl (fun a HF => ?_)
        refine wc_move HF nS rfl rfl rfl (fun a HF => ?_)
        obtain ⟨e1, hx2, h⟩ := obs h
        obtain ⟨b1, o1, ha1⟩ := (HT.ro hr_x0).any.addr hx2
        refine wc_ixaddr HF nS el35 rfl ha1 ((HT.ro hr_x0).any).neq rfl hx2 rfl rfl (fun a HF => ?_)
        have hc1 := (HT.ro hr_x0).any.flatAt ha1 hx2
        refine wc_loadA (vs := [.int .i64 e1.a, .int .i64 e1.b, .int .i64 e1.c, .int .i64 e1.d]) HF rfl ag25 rfl (hc1.part 0 4) rfl rfl (fun a HF => ?_)
        obtain ⟨y1, hx3, h⟩ := obs h
        refine wc_callv HF cf102 rfl rfl (w_impl_HasFork_1 fuel hx3) rfl rfl ?_
        rintro e w ⟨rfl, hE⟩
        have hb := hE.below
        have HT := HT.pure hE
        have HT : St w0 (fun _ => False) w [] := HT
        refine ⟨_, rfl, nS, fun a HF => ?_⟩
        refine wc_end ?_
        refine then_n ?_
        by_cases hb2 : y1 = true
        · have h := (if_pos hb2).symm.trans h
          refine wp_if (b' := true) HF rfl hb2 ?_
          refine wp_seq ?_
          refine wc_text ?_
          refine wc_move HF nS rfl rfl rfl (fun a HF => ?_)
          refine wc_assign HF nS rfl rfl rfl (fun a HF => ?_)
          refine wc_end ?_
          refine then_n ?_
          refine wp_ret ?_
          obtain rfl := Option.some.inj h
          have h := retL hk1
          obtain rfl := Option.some.inj h
          refine blk_r (then_r (then_r (blk_r (then_r (?_)))))
          refine bp_ret HF (res_one rfl HF rfl) ?_
          exact ⟨rfl, HT⟩
        · have h := (if_neg hb2).symm.trans h
          refine wp_if (b' := false) HF rfl (Bool.eq_false_iff.2 hb2) ?_
          refine wp_skip ?_
          refine blk_n ?_
          refine then_n ?_
          refine wc_text ?_
          obtain ⟨hg1, h⟩ := grd h
          refine wc_bin HF nS rfl rfl (b_add hg1) rfl rfl (fun a HF => ?_)
          refine wc_move HF nS rfl rfl rfl (fun a HF => ?_)
          refine wc_end ?_
          exact then_n ⟨k1, Nat.lt_succ_self k1, z1 + 1, h, (HF.keep (HF.keep (HF.keep (HF.keep HF.nil rfl) rfl) rfl) rfl), HT⟩
      · have h := (if_neg hb1).symm.trans h
        refine wp_if (b' := false) HF rfl (decide_eq_false hb1) ?_
        refine wp_exit ?_
        refine then_x (then_x (?_))
        refine blk_x ?_
        exact then_n ⟨(Option.some.inj h).symm, HF.nil, HT⟩
  · rintro a w ⟨rfl, HF, HT⟩
    have h := brkL1u h
    refine ?_
    refine wp_seq ?_
    refine wc_text ?_
    refine wc_assign HF nS rfl rfl rfl (fun a HF => ?_)
    refine wc_end ?_
    refine then_n ?_
    refine wp_ret ?_
    obtain rfl := Option.some.inj h
    refine bp_ret HF (res_one rfl HF rfl) ?_
    exact ⟨rfl, HT⟩

def m_slices_ContainsFunc___impl_Op_impl_Op__102 (fuel : Nat) (x0 : List I4) : Option Bool :=
  (m_slices_IndexFunc___impl_Op_impl_Op__102 fuel x0).bind fun y1 =>
  some (decide (0 ≤ y1))

set_option maxRecDepth 100000 in
set_option maxHeartbeats 4000000 in
theorem w_slices_ContainsFunc___impl_Op_impl_Op__102 (fuel : Nat) {x0 : List I4} {a_x0 : Option Addr} {n_x0 c_x0 : Nat} {r0 : Bool} {w0 : World} (h : m_slices_ContainsFunc___impl_Op_impl_Op__102 fuel x0 = some r0) (hr_x0 : RdT (fun b => ¬ False) w0 (rowT x0) (.slice a_x0 n_x0 c_x0)) :
    Calls Try.prog 101 #[.slice a_x0 n_x0 c_x0, .func (.func 102) #[] #[]] w0 fun e w => e = .returned (.bool r0) ∧ St w0 (fun _ => False) w [] := by
  obtain rfl := hr_x0.neq
  have HT : St w0 (fun _ => False) w0 [] := St.init0
  rw [m_slices_ContainsFunc___impl_Op_impl_Op__102] at h
  refine calls_fr (n := 9) [.slice a_x0 x0.length c_x0, .func (.func 102) #[] #[]] Try.func101 rfl rfl rfl (fun a HF => ?_)
  have HT : St w0 (fun _ => False) w0 [] := HT
  refine wp_seq ?_
  refine wc_text ?_
  refine wc_assign HF nS rfl rfl rfl (fun a HF => ?_)
  refine wc_end ?_
  refine then_n ?_
  refine wp_seq ?_
  refine wc_text ?_
  refine wc_move HF nS rfl rfl rfl (fun a HF => ?_)
  refine wc_move HF nS rfl rfl rfl (fun a HF => ?_)
  obtain ⟨y1, hx1, h⟩ := obs h
  refine wc_call HF cf105 rfl (w_slices_IndexFunc___impl_Op_impl_Op__102 fuel hx1 (HT.ro hr_x0).any) rfl rfl ?_
  rintro e w ⟨rfl, hE⟩
  have hb := hE.below
  have HT := HT.pure hE
  have HT : St w0 (fun _ => False) w [] := HT
  refine ⟨_, rfl, nS, fun a HF => ?_⟩
  refine wc_bin HF nS rfl rfl b_ge rfl rfl (fun a HF => ?_)
  refine wc_assign HF nS rfl rfl rfl (fun a HF => ?_)
  refine wc_end ?_
  refine then_n ?_
  refine wp_ret ?_
  obtain rfl := Option.some.inj h
  refine bp_ret HF (res_one rfl HF rfl) ?_
  exact ⟨rfl, HT⟩

def m_impl_HasFork (fuel : Nat) (x0 : List I4) : Option Bool :=
  (m_slices_ContainsFunc___impl_Op_impl_Op__102 fuel x0).bind fun y1 =>
  some y1

set_option maxRecDepth 100000 in
set_option maxHeartbeats 4000000 in
theorem w_impl_HasFork (fuel : Nat) {x0 : List I4} {a_x0 : Option Addr} {n_x0 c_x0 : Nat} {r0 : Bool} {w0 : World} (h : m_impl_HasFork fuel x0 = some r0) (hr_x0 : RdT (fun b => ¬ False) w0 (rowT x0) (.slice a_x0 n_x0 c_x0)) :
    Calls Try.prog 88 #[.slice a_x0 n_x0 c_x0] w0 fun e w => e = .returned (.bool r0) ∧ St w0 (fun _ => False) w [] := by
  obtain rfl := hr_x0.neq
  have HT : St w0 (fun _ => False) w0 [] := St.init0
  rw [m_impl_HasFork] at h
  refine calls_fr (n := 5) [.slice a_x0 x0.length c_x0] Try.func88 rfl rfl rfl (fun a HF => ?_)
  have HT : St w0 (fun _ => False) w0 [] := HT
  refine wp_seq ?_
  refine wc_text ?_
  refine wc_assign HF nS rfl rfl rfl (fun a HF => ?_)
  refine wc_end ?_
  refine then_n ?_
  refine wp_seq ?_
  refine wc_text ?_
  refine wc_move HF nS rfl rfl rfl (fun a HF => ?_)
  obtain ⟨y1, hx1, h⟩ := obs h
  refine wc_call HF cf101 rfl (w_slices_ContainsFunc___impl_Op_impl_Op__102 fuel hx1 (HT.ro hr_x0).any) rfl rfl ?_
  rintro e w ⟨rfl, hE⟩
  have hb := hE.below
  have HT := HT.pure hE
  have HT : St w0 (fun _ => False) w [] := HT
  refine ⟨_, rfl, nS, fun a HF => ?_⟩
  refine wc_assign HF nS rfl rfl rfl (fun a HF => ?_)
  refine wc_end ?_
  refine then_n ?_
  refine wp_ret ?_
  obtain rfl := Option.some.inj h
  refine bp_ret HF (res_one rfl HF rfl) ?_
  exact ⟨rfl, HT⟩

def m_impl_Touches (fuel : Nat) (x0_0 : Int) (x0_1 : Int) (x0_2 : Int) (x0_3 : Int) : Option Int :=
  (m_impl_OpOk fuel x0_0 x0_1 x0_2 x0_3).bind fun y1 =>
  if y1 = true then
    (
      (
        if x0_0 = 5 then
          some (decide (x0_0 = 5))
        else
          some (decide (x0_0 = 6))).bind fun z1 =>
      if z1 = true then
        some (.ret 1)
      else
        (
          if x0_0 = 12 then
            some (decide (x0_0 = 12))
          else
            if x0_0 = 13 then
              some (decide (x0_0 = 13))
            else
              if x0_0 = 14 then
                some (decide (x0_0 = 14))
              else
                if x0_0 = 15 then
                  some (decide (x0_0 = 15))
                else
                  some (decide (x0_0 = 16))).bind fun z2 =>
        if z2 = true then
          some (.ret 2)
        else
          some (.brk ())).bind <| contL <| un1 fun _ =>
    some 0
  else
    some 0

set_option maxRecDepth 100000 in
set_option maxHeartbeats 4000000 in
theorem w_impl_Touches (fuel : Nat) {x0_0 : Int} {x0_1 : Int} {x0_2 : Int} {x0_3 : Int} {r0 : Int} {w0 : World} (h : m_impl_Touches fuel x0_0 x0_1 x0_2 x0_3 = some r0) :
    Calls Try.prog 100 #[.agg #[.int .i64 x0_0, .int .i64 x0_1, .int .i64 x0_2, .int .i64 x0_3]] w0 fun e w => e = .returned (.int .i64 r0) ∧ St w0 (fun _ => False) w [] := by
  have HT : St w0 (fun _ => False) w0 [] := St.init0
  rw [m_impl_Touches] at h
  refine calls_fr (n := 17) [.agg #[.int .i64 x0_0, .int .i64 x0_1, .int .i64 x0_2, .int .i64 x0_3]] Try.func100 rfl rfl rfl (fun a HF => ?_)
  have HT : St w0 (fun _ => False) w0 [] := HT
  refine wp_seq ?_
  refine wc_text ?_
  refine wc_box (cs := [.int .i64 x0_0, .int .i64 x0_1, .int .i64 x0_2, .int .i64 x0_3]) HF HT rfl rfl rfl rfl (fun p1 w HT hb => ⟨nS, fun a HF => ?_⟩)
  refine wc_assign HF nS rfl rfl rfl (fun a HF => ?_)
  refine wc_end ?_
  refine then_n ?_
  refine wp_seq ?_
  refine wp_seq ?_
  refine wc_text ?_
  refine wc_loadA (vs := [.int .i64 x0_0, .int .i64 x0_1, .int .i64 x0_2, .int .i64 x0_3]) HF rfl ag25 rfl ((HT.boxAt 0 rfl).part 0 4) rfl rfl (fun a HF => ?_)
  obtain ⟨y1, hx1, h⟩ := obs h
  refine wc_call HF cf44 rfl (w_impl_OpOk fuel hx1) rfl rfl ?_
  rintro e w ⟨rfl, hE⟩
  have hb := hE.below
  have HT := HT.pure hE
  have HT : St w0 (fun _ => False) w [Box p1 [.int .i64 x0_0, .int .i64 x0_1, .int .i64 x0_2, .int .i64 x0_3]] := HT
  refine ⟨_, rfl, nS, fun a HF => ?_⟩
  refine wc_not HF nS rfl rfl rfl (fun a HF => ?_)
  refine wc_end ?_
  refine then_n ?_
  by_cases hb1 : y1 = true
  · have h := (if_pos hb1).symm.trans h
    refine wp_if (b' := false) HF rfl (notT hb1) ?_
    refine wp_skip ?_
    refine then_n ?_
    obtain ⟨q1, hx2, h⟩ := obs h
    refine wp_cut (fun a w => q1 = .brk () ∧ Fr a 17 [] ∧ St w0 (fun _ => False) w []) ?_ ?_
    · have hk1 := h
      have h := hx2
      refine wp_seq ?_
      refine wc_text ?_
      refine wc_faddr HF nS rfl fl25_0 rfl rfl (fun a HF => ?_)
      refine wc_load HF rfl sc3 ((HT.boxAt 0 rfl).get 0 rfl) rfl rfl (fun a HF => ?_)
      refine wc_end ?_
      refine then_n ?_
      refine wp_block ?_
      obtain ⟨z1, hx3, h⟩ := obs h
      refine wp_cut (fun a w => Fr a 17 [(7, .int .i64 x0_0), (8, .bool z1)] ∧ St w0 (fun _ => False) w []) ?_ ?_
      · have hk2 := h
        have h := hx3
        refine wp_seq ?_
        refine wc_text ?_
        refine wc_bin HF nS rfl rfl b_eq rfl rfl (fun a HF => ?_)
        refine wc_assign HF nS rfl rfl rfl (fun a HF => ?_)
        refine wc_end ?_
        refine then_n ?_
        by_cases hb2 : x0_0 = 5
        · have h := (if_pos hb2).symm.trans h
          refine wp_if (b' := true) HF rfl (decide_eq_true hb2) ?_
          refine wp_skip ?_
          have HT : St w0 (fun _ => False) w [] := HT.take 0
          obtain rfl := Option.some.inj h
          exact then_n ⟨(HF.keep (HF.keep HF.nil rfl) rfl), HT⟩
        · have h := (if_neg hb2).symm.trans h
          refine wp_if (b' := false) HF rfl (decide_eq_false hb2) ?_
          refine wc_text ?_
          refine wc_bin HF nS rfl rfl b_eq rfl rfl (fun a HF => ?_)
          refine wc_assign HF nS rfl rfl rfl (fun a HF => ?_)
          refine wc_end ?_
          have HT : St w0 (fun _ => False) w [] := HT.take 0
          obtain rfl := Option.some.inj h
          exact then_n ⟨(HF.keep (HF.keep HF.nil rfl) rfl), HT⟩
      · rintro a w ⟨HF, HT⟩
        refine ?_
        by_cases hb3 : z1 = true
        · have h := (if_pos hb3).symm.trans h
          refine wp_if (b' := true) HF rfl hb3 ?_
          refine wp_seq ?_
          refine wc_text ?_
          refine wc_assign HF nS rfl rfl rfl (fun a HF => ?_)
          refine wc_end ?_
          refine then_n ?_
          refine wp_ret ?_
          obtain rfl := Option.some.inj h
          have h := retL hk1
          obtain rfl := Option.some.inj h
          refine blk_r (then_r (?_))
          refine bp_ret HF (res_one rfl HF rfl) ?_
          exact ⟨rfl, HT⟩
        · have h := (if_neg hb3).symm.trans h
          refine wp_if (b' := false) HF rfl (Bool.eq_false_iff.2 hb3) ?_
          obtain ⟨z2, hx4, h⟩ := obs h
          refine wp_cut (fun a w => Fr a 17 [(11, .bool z2)] ∧ St w0 (fun _ => False) w []) ?_ ?_
          · have hk2 := h
            have h := hx4
            refine wp_seq ?_
            refine wc_text ?_
            refine wc_bin HF nS rfl rfl b_eq rfl rfl (fun a HF => ?_)
            refine wc_assign HF nS rfl rfl rfl (fun a HF => ?_)
            refine wc_end ?_
            refine then_n ?_
            by_cases hb4 : x0_0 = 12
            · have h := (if_pos hb4).symm.trans h
              refine wp_if (b' := true) HF rfl (decide_eq_true hb4) ?_
              refine wp_skip ?_
              obtain rfl := Option.some.inj h
              exact then_n ⟨(HF.keep HF.nil rfl), HT⟩
            · have h := (if_neg hb4).symm.trans h
              refine wp_if (b' := false) HF rfl (decide_eq_false hb4) ?_
              refine wp_seq ?_
              refine wc_text ?_
              refine wc_bin HF nS rfl rfl b_eq rfl rfl (fun a HF => ?_)
              refine wc_assign HF nS rfl rfl rfl (fun a HF => ?_)
              refine wc_end ?_
              refine then_n ?_
              by_cases hb5 : x0_0 = 13
              · have h := (if_pos hb5).symm.trans h
                refine wp_if (b' := true) HF rfl (decide_eq_true hb5) ?_
                refine wp_skip ?_
                obtain rfl := Option.some.inj h
                exact then_n ⟨(HF.keep HF.nil rfl), HT⟩
              · have h := (if_neg hb5).symm.trans h
                refine wp_if (b' := false) HF rfl (decide_eq_false hb5) ?_
                refine wp_seq ?_
                refine wc_text ?_
                refine wc_bin HF nS rfl rfl b_eq rfl rfl (fun a HF => ?_)
                refine wc_assign HF nS rfl rfl rfl (fun a HF => ?_)
                refine wc_end ?_
                refine then_n ?_
                by_cases hb6 : x0_0 = 14
                · have h := (if_pos hb6).symm.trans h
                  refine wp_if (b' := true) HF rfl (decide_eq_true hb6) ?_
                  refine wp_skip ?_
                  obtain rfl := Option.some.inj h
                  exact then_n ⟨(HF.keep HF.nil rfl), HT⟩
                · have h := (if_neg hb6).symm.trans h
                  refine wp_if (b' := false) HF rfl (decide_eq_false hb6) ?_
                  refine wp_seq ?_
                  refine wc_text ?_
                  refine wc_bin HF nS rfl rfl b_eq rfl rfl (fun a HF => ?_)
                  refine wc_assign HF nS rfl rfl rfl (fun a HF => ?_)
                  refine wc_end ?_
                  refine then_n ?_
                  by_cases hb7 : x0_0 = 15
                  · have h := (if_pos hb7).symm.trans h
                    refine wp_if (b' := true) HF rfl (decide_eq_true hb7) ?_
                    refine wp_skip ?_
                    obtain rfl := Option.some.inj h
                    exact then_n ⟨(HF.keep HF.nil rfl), HT⟩
                  · have h := (if_neg hb7).symm.trans h
                    refine wp_if (b' := false) HF rfl (decide_eq_false hb7) ?_
                    refine wc_text ?_
                    refine wc_bin HF nS rfl rfl b_eq rfl rfl (fun a HF => ?_)
                    refine wc_assign HF nS rfl rfl rfl (fun a HF => ?_)
                    refine wc_end ?_
                    obtain rfl := Option.some.inj h
                    exact then_n ⟨(HF.keep HF.nil rfl), HT⟩
          · rintro a w ⟨HF, HT⟩
            refine ?_
            by_cases hb8 : z2 = true
            · have h := (if_pos hb8).symm.trans h
              refine wp_if (b' := true) HF rfl hb8 ?_
              refine wp_seq ?_
              refine wc_text ?_
              refine wc_assign HF nS rfl rfl rfl (fun a HF => ?_)
              refine wc_end ?_
              refine then_n ?_
              refine wp_ret ?_
              obtain rfl := Option.some.inj h
              have h := retL hk1
              obtain rfl := Option.some.inj h
              refine blk_r (then_r (?_))
              refine bp_ret HF (res_one rfl HF rfl) ?_
              exact ⟨rfl, HT⟩
            · have h := (if_neg hb8).symm.trans h
              refine wp_if (b' := false) HF rfl (Bool.eq_false_iff.2 hb8) ?_
              refine wp_skip ?_
              refine blk_n ?_
              exact then_n ⟨(Option.some.inj h).symm, HF.nil, HT⟩
    · rintro a w ⟨rfl, HF, HT⟩
      have h := brkL1u h
      refine ?_
      refine wp_seq ?_
      refine wc_text ?_
      refine wc_assign HF nS rfl rfl rfl (fun a HF => ?_)
      refine wc_end ?_
      refine then_n ?_
      refine wp_ret ?_
      obtain rfl := Option.some.inj h
      refine bp_ret HF (res_one rfl HF rfl) ?_
      exact ⟨rfl, HT⟩
  · have h := (if_neg hb1).symm.trans h
    refine wp_if (b' := true) HF rfl (notF (Bool.eq_false_iff.2 hb1)) ?_
    refine wp_seq ?_
    refine wc_text ?_
    refine wc_assign HF nS rfl rfl rfl (fun a HF => ?_)
    refine wc_end ?_
    refine then_n ?_
    refine wp_ret ?_
    obtain rfl := Option.some.inj h
    refine then_r (?_)
    refine bp_ret HF (res_one rfl HF rfl) ?_
    have HT : St w0 (fun _ => False) w [] := HT.take 0
    exact ⟨rfl, HT⟩

def m_impl_KidOk_L0 (fuel : Nat) (x0 : List I4) : Nat → Int → Option (Lp Unit Bool)
  | 0, _ => none
  | k1 + 1, z1 =>
    if z1 < (x0.length : Int) then
      (at? x0 z1).bind fun e1 =>
      if e1.a = 11 then
        some (.ret false)
      else
        (m_impl_Touches fuel e1.a e1.b e1.c e1.d).bind fun y1 =>
        if y1 = 2 then
          some (.ret false)
        else
          if in64 (z1 + 1) then
            m_impl_KidOk_L0 fuel x0 k1 (z1 + 1)
          else none
    else
      some (.brk ())

def m_impl_KidOk (fuel : Nat) (x0 : List I4) : Option Bool :=
  (m_impl_KidOk_L0 fuel x0 fuel 0).bind <| contL <| un1 fun _ =>
  (m_impl_CodeOk fuel x0).bind fun y2 =>
  some y2

set_option maxRecDepth 100000 in
set_option maxHeartbeats 4000000 in
theorem w_impl_KidOk (fuel : Nat) {x0 : List I4} {a_x0 : Option Addr} {n_x0 c_x0 : Nat} {r0 : Bool} {w0 : World} (h : m_impl_KidOk fuel x0 = some r0) (hr_x0 : RdT (fun b => ¬ False) w0 (rowT x0) (.slice a_x0 n_x0 c_x0)) :
    Calls Try.prog 87 #[.slice a_x0 n_x0 c_x0] w0 fun e w => e = .returned (.bool r0) ∧ St w0 (fun _ => False) w [] := by
  obtain rfl := hr_x0.neq
  have HT : St w0 (fun _ => False) w0 [] := St.init0
  rw [m_impl_KidOk] at h
  refine calls_fr (n := 22) [.slice a_x0 x0.length c_x0] Try.func87 rfl rfl rfl (fun a HF => ?_)
  have HT : St w0 (fun _ => False) w0 [] := HT
  refine wp_seq ?_
  refine wc_text ?_
  refine wc_assign HF nS rfl rfl rfl (fun a HF => ?_)
  refine wc_end ?_
  refine then_n ?_
  obtain ⟨q1, hx1, h⟩ := obs h
  refine wp_cut (fun a w => q1 = .brk () ∧ Fr a 22 [(0, .slice a_x0 x0.length c_x0)] ∧ St w0 (fun _ => False) w []) ?_ ?_
  · have hk1 := h
    have h := hx1
    refine wp_seq ?_
    refine wc_text ?_
    refine wc_move HF nS rfl rfl rfl (fun a HF => ?_)
    refine wc_lenR HF nS Try.underlying35 rfl rfl rfl (fun a HF => ?_)
    refine wc_move HF nS rfl rfl rfl (fun a HF => ?_)
    refine wc_end ?_
    refine then_n ?_
    refine wp_block ?_
    refine wp_loopN (fun k1 a w => ∃ z1, m_impl_KidOk_L0 fuel x0 k1 z1 = some q1 ∧ Fr a 22 [(0, .slice a_x0 x0.length c_x0), (5, .slice a_x0 x0.length c_x0), (6, .int .i64 (x0.length : Int)), (7, .int .i64 z1)] ∧ St w0 (fun _ => False) w []) fuel ⟨0, h, (HF.keep (HF.keep (HF.keep (HF.keep HF.nil rfl) rfl) rfl) rfl), HT⟩ ?_
    rintro k1 a w ⟨z1, h, HF, HT⟩
    cases k1 with
    | zero => cases h
    | succ k1 =>
      rw [m_impl_KidOk_L0] at h
      refine ?_
      refine wp_seq ?_
      refine wc_text ?_
      refine wc_bin HF nS rfl rfl b_lt rfl rfl (fun a HF => ?_)
      refine wc_end ?_
      refine then_n ?_
      refine wp_seq ?_
      by_cases hb1 : z1 < (x0.length : Int)
      · have h := (if_pos hb1).symm.trans h
        refine wp_if (b' := true) HF rfl (decide_eq_true hb1) ?_
        refine wp_skip ?_
        refine then_n ?_
        refine wp_seq ?_
        refine wp_block ?_
        refine wp_seq ?_
        refine wc_text ?_
        obtain ⟨e1, hx2, h⟩ := obs h
        obtain ⟨b1, o1, ha1⟩ := (HT.ro hr_x0).any.addr hx2
        refine wc_ixaddr HF nS el35 rfl ha1 ((HT.ro hr_x0).any).neq rfl hx2 rfl rfl (fun a HF => ?_)
        have hc1 := (HT.ro hr_x0).any.flatAt ha1 hx2
        refine wc_loadA (vs := [.int .i64 e1.a, .int .i64 e1.b, .int .i64 e1.c, .int .i64 e1.d]) HF rfl ag25 rfl (hc1.part 0 4) rfl rfl (fun a HF => ?_)
        refine wc_alloc (cs := [.int .i64 0, .int .i64 0, .int .i64 0, .int .i64 0]) HF HT zr25 rfl rfl rfl (fun p1 w HT hb => ⟨nS, fun a HF => ?_⟩)
        refine wc_storeB (cs' := [.int .i64 e1.a, .int .i64 e1.b, .int .i64 e1.c, .int .i64 e1.d]) HF HT rfl rfl (fun w => (ag25 w).2) rfl rfl rfl rfl rfl (fun w HT => ⟨nS, ?_⟩)
        refine wc_end ?_
        refine then_n ?_
        refine wp_seq ?_
        refine wc_text ?_
        refine wc_faddr HF nS rfl fl25_0 rfl rfl (fun a HF => ?_)
        refine wc_load HF rfl sc3 ((HT.boxAt 0 rfl).get 0 rfl) rfl rfl (fun a HF => ?_)
        refine wc_bin HF nS rfl rfl b_eq rfl rfl (fun a HF => ?_)
        refine wc_move HF nS rfl rfl rfl (fun a HF => ?_)
        by_cases hb2 : e1.a = 11
        · have h := (if_pos hb2).symm.trans h
          refine wc_skip HF nS (HF.wn rfl rfl rfl rfl (decide_eq_true hb2)) rfl (fun a HF => ?_)
          refine wc_skip HF nS (HF.wn rfl rfl rfl rfl (decide_eq_true hb2)) rfl (fun a HF => ?_)
          refine wc_skip HF nS (HF.wn rfl rfl rfl rfl (decide_eq_true hb2)) rfl (fun a HF => ?_)
          refine wc_pick (b := true) HF nS rfl (decide_eq_true hb2) rfl rfl rfl (fun a HF => ?_)
          refine wc_end ?_
          refine then_n ?_
          refine wp_if (b' := true) HF rfl rfl ?_
          refine wp_seq ?_
          refine wc_text ?_
          refine wc_assign HF nS rfl rfl rfl (fun a HF => ?_)
          refine wc_end ?_
          refine then_n ?_
          refine wp_ret ?_
          obtain rfl := Option.some.inj h
          have h := retL hk1
          obtain rfl := Option.some.inj h
          refine blk_r (then_r (then_r (blk_r (then_r (?_)))))
          refine bp_ret HF (res_one rfl HF rfl) ?_
          have HT : St w0 (fun _ => False) w [] := HT.take 0
          exact ⟨rfl, HT⟩
        · have h := (if_neg hb2).symm.trans h
          refine wc_loadA (vs := [.int .i64 e1.a, .int .i64 e1.b, .int .i64 e1.c, .int .i64 e1.d]) HF rfl ag25 rfl ((HT.boxAt 0 rfl).part 0 4) (HF.wy rfl rfl rfl rfl (decide_eq_false hb2)) rfl (fun a HF => ?_)
          obtain ⟨y1, hx3, h⟩ := obs h
          refine wc_call HF cf100 rfl (w_impl_Touches fuel hx3) (HF.wy rfl rfl rfl rfl (decide_eq_false hb2)) rfl ?_
          rintro e w ⟨rfl, hE⟩
          have hb := hE.below
          have HT := HT.pure hE
          have HT : St w0 (fun _ => False) w [Box p1 [.int .i64 e1.a, .int .i64 e1.b, .int .i64 e1.c, .int .i64 e1.d]] := HT
          refine ⟨_, rfl, nS, fun a HF => ?_⟩
          refine wc_bin HF nS rfl rfl b_eq (HF.wy rfl rfl rfl rfl (decide_eq_false hb2)) rfl (fun a HF => ?_)
          refine wc_pick (b := false) HF nS rfl (decide_eq_false hb2) rfl rfl rfl (fun a HF => ?_)
          refine wc_end ?_
          refine then_n ?_
          by_cases hb3 : y1 = 2
          · have h := (if_pos hb3).symm.trans h
            refine wp_if (b' := true) HF rfl (decide_eq_true hb3) ?_
            refine wp_seq ?_
            refine wc_text ?_
            refine wc_assign HF nS rfl rfl rfl (fun a HF => ?_)
            refine wc_end ?_
            refine then_n ?_
            refine wp_ret ?_
            obtain rfl := Option.some.inj h
            have h := retL hk1
            obtain rfl := Option.some.inj h
            refine blk_r (then_r (then_r (blk_r (then_r (?_)))))
            refine bp_ret HF (res_one rfl HF rfl) ?_
            have HT : St w0 (fun _ => False) w [] := HT.take 0
            exact ⟨rfl, HT⟩
          · have h := (if_neg hb3).symm.trans h
            refine wp_if (b' := false) HF rfl (decide_eq_false hb3) ?_
            refine wp_skip ?_
            refine blk_n ?_
            refine then_n ?_
            refine wc_text ?_
            obtain ⟨hg1, h⟩ := grd h
            refine wc_bin HF nS rfl rfl (b_add hg1) rfl rfl (fun a HF => ?_)
            refine wc_move HF nS rfl rfl rfl (fun a HF => ?_)
            refine wc_end ?_
            have HT : St w0 (fun _ => False) w [] := HT.take 0
            exact then_n ⟨k1, Nat.lt_succ_self k1, z1 + 1, h, (HF.keep (HF.keep (HF.keep (HF.keep HF.nil rfl) rfl) rfl) rfl), HT⟩
      · have h := (if_neg hb1).symm.trans h
        refine wp_if (b' := false) HF rfl (decide_eq_false hb1) ?_
        refine wp_exit ?_
        refine then_x (then_x (?_))
        refine blk_x ?_
        exact then_n ⟨(Option.some.inj h).symm, (HF.keep HF.nil rfl), HT⟩
  · rintro a w ⟨rfl, HF, HT⟩
    have h := brkL1u h
    refine ?_
    refine wp_seq ?_
    refine wc_text ?_
    refine wc_move HF nS rfl rfl rfl (fun a HF => ?_)
    obtain ⟨y2, hx4, h⟩ := obs h
    refine wc_call HF cf53 rfl (w_impl_CodeOk fuel hx4 (HT.ro hr_x0).any) rfl rfl ?_
    rintro e w ⟨rfl, hE⟩
    have hb := hE.below
    have HT := HT.pure hE
    have HT : St w0 (fun _ => False) w [] := HT
    refine ⟨_, rfl, nS, fun a HF => ?_⟩
    refine wc_assign HF nS rfl rfl rfl (fun a HF => ?_)
    refine wc_end ?_
    refine then_n ?_
    refine wp_ret ?_
    obtain rfl := Option.some.inj h
    refine bp_ret HF (res_one rfl HF rfl) ?_
    exact ⟨rfl, HT⟩

def m_impl_ProgOk_L0 (fuel : Nat) (x0_1 : List KidD) : Nat → Int → Option (Lp Unit Bool)
  | 0, _ => none
  | k1 + 1, z1 =>
    if z1 < (x0_1.length : Int) then
      (at? x0_1 z1).bind fun e1 =>
      (m_impl_KidOk fuel e1.code).bind fun y1 =>
      if y1 = true then
        if in64 (z1 + 1) then
          m_impl_ProgOk_L0 fuel x0_1 k1 (z1 + 1)
        else none
      else
        some (.ret false)
    else
      some (.brk ())

def m_impl_ProgOk (fuel : Nat) (x0_0 : List I4) (x0_1 : List KidD) : Option Bool :=
  (m_impl_ProgOk_L0 fuel x0_1 fuel 0).bind <| contL <| un1 fun _ =>
  (m_impl_CodeOk fuel x0_0).bind fun y2 =>
  if y2 = true then
    if (x0_1.length : Int) ≤ 3 then
      (m_impl_HasFork fuel x0_0).bind fun y3 =>
      some (y3 == (decide (0 < (x0_1.length : Int))))
    else
      some false
  else
    some false

set_option maxRecDepth 100000 in
set_option maxHeartbeats 4000000 in
theorem w_impl_ProgOk (fuel : Nat) {x0_0 : List I4} {x0_1 : List KidD} {a_x0_0 : Option Addr} {n_x0_0 c_x0_0 : Nat} {a_x0_1 : Option Addr} {n_x0_1 c_x0_1 : Nat} {r0 : Bool} {w0 : World} (h : m_impl_ProgOk fuel x0_0 x0_1 = some r0) (hr_x0_0 : RdT (fun b => ¬ False) w0 (rowT x0_0) (.slice a_x0_0 n_x0_0 c_x0_0)) (hr_x0_1 : RdT (fun b => ¬ False) w0 (rowT x0_1) (.slice a_x0_1 n_x0_1 c_x0_1)) :
    Calls Try.prog 58 #[.agg #[.slice a_x0_0 n_x0_0 c_x0_0, .slice a_x0_1 n_x0_1 c_x0_1]] w0 fun e w => e = .returned (.bool r0) ∧ St w0 (fun _ => False) w [] := by
  obtain rfl := hr_x0_0.neq
  obtain rfl := hr_x0_1.neq
  have HT : St w0 (fun _ => False) w0 [] := St.init0
  rw [m_impl_ProgOk] at h
  refine calls_fr (n := 36) [.agg #[.slice a_x0_0 x0_0.length c_x0_0, .slice a_x0_1 x0_1.length c_x0_1]] Try.func58 rfl rfl rfl (fun a HF => ?_)
  have HT : St w0 (fun _ => False) w0 [] := HT
  refine wp_seq ?_
  refine wc_text ?_
  refine wc_box (cs := [.slice a_x0_0 x0_0.length c_x0_0, .slice a_x0_1 x0_1.length c_x0_1]) HF HT rfl rfl rfl rfl (fun p1 w HT hb => ⟨nS, fun a HF => ?_⟩)
  refine wc_assign HF nS rfl rfl rfl (fun a HF => ?_)
  refine wc_end ?_
  refine then_n ?_
  obtain ⟨q1, hx1, h⟩ := obs h
  refine wp_cut (fun a w => q1 = .brk () ∧ Fr a 36 [(1, .pointer (some ⟨p1, 0, none⟩))] ∧ St w0 (fun _ => False) w [Box p1 [.slice a_x0_0 x0_0.length c_x0_0, .slice a_x0_1 x0_1.length c_x0_1]]) ?_ ?_
  · have hk1 := h
    have h := hx1
    refine wp_seq ?_
    refine wc_text ?_
    refine wc_faddr HF nS rfl fl49_1 rfl rfl (fun a HF => ?_)
    refine wc_load HF rfl sc47 ((HT.boxAt 0 rfl).get 1 rfl) rfl rfl (fun a HF => ?_)
    refine wc_lenR HF nS Try.underlying47 rfl rfl rfl (fun a HF => ?_)
    refine wc_move HF nS rfl rfl rfl (fun a HF => ?_)
    refine wc_end ?_
    refine then_n ?_
    refine wp_block ?_
    refine wp_loopN (fun k1 a w => ∃ z1, m_impl_ProgOk_L0 fuel x0_1 k1 z1 = some q1 ∧ Fr a 36 [(1, .pointer (some ⟨p1, 0, none⟩)), (6, .slice a_x0_1 x0_1.length c_x0_1), (7, .int .i64 (x0_1.length : Int)), (8, .int .i64 z1)] ∧ St w0 (fun _ => False) w [Box p1 [.slice a_x0_0 x0_0.length c_x0_0, .slice a_x0_1 x0_1.length c_x0_1]]) fuel ⟨0, h, (HF.keep (HF.keep (HF.keep (HF.keep HF.nil rfl) rfl) rfl) rfl), HT⟩ ?_
    rintro k1 a w ⟨z1, h, HF, HT⟩
    cases k1 with
    | zero => cases h
    | succ k1 =>
      rw [m_impl_ProgOk_L0] at h
      refine ?_
      refine wp_seq ?_
      refine wc_text ?_
      refine wc_bin HF nS rfl rfl b_lt rfl rfl (fun a HF => ?_)
      refine wc_end ?_
      refine then_n ?_
      refine wp_seq ?_
      by_cases hb1 : z1 < (x0_1.length : Int)
      · have h := (if_pos hb1).symm.trans h
        refine wp_if (b' := true) HF rfl (decide_eq_true hb1) ?_
        refine wp_skip ?_
        refine then_n ?_
        refine wp_seq ?_
        refine wp_block ?_
        refine wp_seq ?_
        refine wc_text ?_
        obtain ⟨e1, hx2, h⟩ := obs h
        obtain ⟨b1, o1, ha1⟩ := (HT.ro hr_x0_1).any.addr hx2
        refine wc_ixaddr HF nS el47 rfl ha1 ((HT.ro hr_x0_1).any).neq rfl hx2 rfl rfl (fun a HF => ?_)
        obtain ⟨_, hP1, hc1, hr1⟩ := hr_x0_1.elemAt ha1 hx2
        obtain ⟨a1, c1, rfl, hr2⟩ := cells_Kid hr1
        have hc2 := HT.roLd hP1 hc1
        refine wc_loadA (vs := [.slice a1 e1.code.length c1]) HF rfl ag77 rfl (hc2.part 0 1) rfl rfl (fun a HF => ?_)
        refine wc_alloc (cs := [.slice none 0 0]) HF HT zr77 rfl rfl rfl (fun p2 w HT hb => ⟨nS, fun a HF => ?_⟩)
        refine wc_storeB (cs' := [.slice a1 e1.code.length c1]) HF HT rfl rfl (fun w => (ag77 w).2) rfl rfl rfl rfl rfl (fun w HT => ⟨nS, ?_⟩)
        refine wc_end ?_
        refine then_n ?_
        refine wp_seq ?_
        refine wc_text ?_
        refine wc_faddr HF nS rfl fl77_0 rfl rfl (fun a HF => ?_)
        refine wc_load HF rfl sc35 ((HT.boxAt 0 rfl).get 0 rfl) rfl rfl (fun a HF => ?_)
        obtain ⟨y1, hx3, h⟩ := obs h
        refine wc_call HF cf87 rfl (w_impl_KidOk fuel hx3 (HT.ro hr2).any) rfl rfl ?_
        rintro e w ⟨rfl, hE⟩
        have hb := hE.below
        have HT := HT.pure hE
        have HT : St w0 (fun _ => False) w [Box p2 [.slice a1 e1.code.length c1], Box p1 [.slice a_x0_0 x0_0.length c_x0_0, .slice a_x0_1 x0_1.length c_x0_1]] := HT
        refine ⟨_, rfl, nS, fun a HF => ?_⟩
        refine wc_not HF nS rfl rfl rfl (fun a HF => ?_)
        refine wc_end ?_
        refine then_n ?_
        by_cases hb2 : y1 = true
        · have h := (if_pos hb2).symm.trans h
          refine wp_if (b' := false) HF rfl (notT hb2) ?_
          refine wp_skip ?_
          refine blk_n ?_
          refine then_n ?_
          refine wc_text ?_
          obtain ⟨hg1, h⟩ := grd h
          refine wc_bin HF nS rfl rfl (b_add hg1) rfl rfl (fun a HF => ?_)
          refine wc_move HF nS rfl rfl rfl (fun a HF => ?_)
          refine wc_end ?_
          have HT : St w0 (fun _ => False) w [Box p1 [.slice a_x0_0 x0_0.length c_x0_0, .slice a_x0_1 x0_1.length c_x0_1], Box p2 [.slice a1 e1.code.length c1]] := HT.pick 1
          have HT : St w0 (fun _ => False) w [Box p1 [.slice a_x0_0 x0_0.length c_x0_0, .slice a_x0_1 x0_1.length c_x0_1]] := HT.take 1
          exact then_n ⟨k1, Nat.lt_succ_self k1, z1 + 1, h, (HF.keep (HF.keep (HF.keep (HF.keep HF.nil rfl) rfl) rfl) rfl), HT⟩
        · have h := (if_neg hb2).symm.trans h
          refine wp_if (b' := true) HF rfl (notF (Bool.eq_false_iff.2 hb2)) ?_
          refine wp_seq ?_
          refine wc_text ?_
          refine wc_assign HF nS rfl rfl rfl (fun a HF => ?_)
          refine wc_end ?_
          refine then_n ?_
          refine wp_ret ?_
          obtain rfl := Option.some.inj h
          have h := retL hk1
          obtain rfl := Option.some.inj h
          refine blk_r (then_r (then_r (blk_r (then_r (?_)))))
          refine bp_ret HF (res_one rfl HF rfl) ?_
          have HT : St w0 (fun _ => False) w [] := HT.take 0
          exact ⟨rfl, HT⟩
      · have h := (if_neg hb1).symm.trans h
        refine wp_if (b' := false) HF rfl (decide_eq_false hb1) ?_
        refine wp_exit ?_
        refine then_x (then_x (?_))
        refine blk_x ?_
        exact then_n ⟨(Option.some.inj h).symm, (HF.keep HF.nil rfl), HT⟩
  · rintro a w ⟨rfl, HF, HT⟩
    have h := brkL1u h
    refine ?_
    refine wp_seq ?_
    refine wp_region_can [(0, true), (1, true), (2, false), (3, true), (4, true), (5, true), (6, true), (7, true), (8, true), (9, true), (10, true), (11, true), (13, false), (14, false), (15, false), (16, false), (12, false), (17, true), (18, true), (19, true)] (fun w' => w'.cell? ⟨p1, 1, none⟩ = some (.slice a_x0_1 x0_1.length c_x0_1) ∧ True) (by kernel_rfl) (by kernel_rfl) ?_
    have HT : St w0 (fun _ => False) w.drew [Box p1 [.slice a_x0_0 x0_0.length c_x0_0, .slice a_x0_1 x0_1.length c_x0_1]] := HT.drew
    refine wc_faddr HF nS rfl fl49_0 rfl rfl (fun a HF => ?_)
    refine wc_load HF rfl sc35 ((HT.boxAt 0 rfl).get 0 rfl) rfl rfl (fun a HF => ?_)
    obtain ⟨y2, hx4, h⟩ := obs h
    refine wc_call HF cf53 rfl (w_impl_CodeOk fuel hx4 (HT.ro hr_x0_0).any) rfl rfl ?_
    rintro e w ⟨rfl, hE⟩
    have hb := hE.below
    have HT := HT.pure hE
    have HT : St w0 (fun _ => False) w [Box p1 [.slice a_x0_0 x0_0.length c_x0_0, .slice a_x0_1 x0_1.length c_x0_1]] := HT
    refine ⟨_, rfl, (fun _ => ⟨(HT.boxAt 0 rfl).get 1 rfl, trivial⟩), fun a HF => ?_⟩
    refine wc_move HF nS rfl rfl rfl (fun a HF => ?_)
    by_cases hb3 : y2 = true
    · have h := (if_pos hb3).symm.trans h
      refine wc_faddr HF nS rfl fl49_1 (HF.wy rfl rfl rfl rfl hb3) rfl (fun a HF => ?_)
      refine wc_load HF rfl sc47 ((HT.boxAt 0 rfl).get 1 rfl) (HF.wy rfl rfl rfl rfl hb3) rfl (fun a HF => ?_)
      refine wc_lenR HF nS Try.underlying47 rfl (HF.wy rfl rfl rfl rfl hb3) rfl (fun a HF => ?_)
      refine wc_bin HF nS rfl rfl b_le (HF.wy rfl rfl rfl rfl hb3) rfl (fun a HF => ?_)
      refine wc_pick (b := true) HF nS rfl hb3 rfl rfl rfl (fun a HF => ?_)
      refine wc_move HF nS rfl rfl rfl (fun a HF => ?_)
      by_cases hb4 : (x0_1.length : Int) ≤ 3
      · have h := (if_pos hb4).symm.trans h
        refine wc_faddr HF nS rfl fl49_0 (HF.wy rfl rfl rfl rfl (decide_eq_true hb4)) rfl (fun a HF => ?_)
        refine wc_load HF rfl sc35 ((HT.boxAt 0 rfl).get 0 rfl) (HF.wy rfl rfl rfl rfl (decide_eq_true hb4)) rfl (fun a HF => ?_)
        refine wc_faddr HF (fun _ => ⟨(HT.boxAt 0 rfl).get 1 rfl, trivial⟩) rfl fl49_1 (HF.wy rfl rfl rfl rfl (decide_eq_true hb4)) rfl (fun a HF => ?_)
        refine wc_loadS HF ⟨(HT.boxAt 0 rfl).get 1 rfl, trivial⟩ rfl sc47 (fun w hS => hS.1) (HF.wy rfl rfl rfl rfl (decide_eq_true hb4)) rfl (fun a HF => ?_)
        refine wc_lenR HF (fun _ => ⟨(HT.boxAt 0 rfl).get 1 rfl, trivial⟩) Try.underlying47 rfl (HF.wy rfl rfl rfl rfl (decide_eq_true hb4)) rfl (fun a HF => ?_)
        refine wc_bin HF (fun _ => ⟨(HT.boxAt 0 rfl).get 1 rfl, trivial⟩) rfl rfl b_gt (HF.wy rfl rfl rfl rfl (decide_eq_true hb4)) rfl (fun a HF => ?_)
        obtain ⟨y3, hx5, h⟩ := obs h
        refine wc_call HF cf88 rfl (w_impl_HasFork fuel hx5 (HT.ro hr_x0_0).any) (HF.wy rfl rfl rfl rfl (decide_eq_true hb4)) rfl ?_
        rintro e w ⟨rfl, hE⟩
        have hb := hE.below
        have HT := HT.pure hE
        have HT : St w0 (fun _ => False) w [Box p1 [.slice a_x0_0 x0_0.length c_x0_0, .slice a_x0_1 x0_1.length c_x0_1]] := HT
        refine ⟨_, rfl, (fun _ => ⟨(HT.boxAt 0 rfl).get 1 rfl, trivial⟩), fun a HF => ?_⟩
        refine wc_bin HF nS rfl rfl (b_beq Try.underlying4) (HF.wy rfl rfl rfl rfl (decide_eq_true hb4)) rfl (fun a HF => ?_)
        refine wc_pick (b := true) HF nS rfl (decide_eq_true hb4) rfl rfl rfl (fun a HF => ?_)
        refine wc_assign HF nS rfl rfl rfl (fun a HF => ?_)
        refine wc_endN ?_
        refine then_n ?_
        refine wp_ret ?_
        obtain rfl := Option.some.inj h
        refine bp_ret HF (res_one rfl HF rfl) ?_
        have HT : St w0 (fun _ => False) w [] := HT.take 0
        exact ⟨rfl, HT⟩
      · have h := (if_neg hb4).symm.trans h
        refine wc_skip HF nS (HF.wn rfl rfl rfl rfl (decide_eq_false hb4)) rfl (fun a HF => ?_)
        refine wc_skip HF nS (HF.wn rfl rfl rfl rfl (decide_eq_false hb4)) rfl (fun a HF => ?_)
        refine wc_skip HF (fun _ => ⟨(HT.boxAt 0 rfl).get 1 rfl, trivial⟩) (HF.wn rfl rfl rfl rfl (decide_eq_false hb4)) rfl (fun a HF => ?_)
        refine wc_skip HF (fun _ => ⟨(HT.boxAt 0 rfl).get 1 rfl, trivial⟩) (HF.wn rfl rfl rfl rfl (decide_eq_false hb4)) rfl (fun a HF => ?_)
        refine wc_skip HF (fun _ => ⟨(HT.boxAt 0 rfl).get 1 rfl, trivial⟩) (HF.wn rfl rfl rfl rfl (decide_eq_false hb4)) rfl (fun a HF => ?_)
        refine wc_skip HF (fun _ => ⟨(HT.boxAt 0 rfl).get 1 rfl, trivial⟩) (HF.wn rfl rfl rfl rfl (decide_eq_false hb4)) rfl (fun a HF => ?_)
        refine wc_skip HF (fun _ => ⟨(HT.boxAt 0 rfl).get 1 rfl, trivial⟩) (HF.wn rfl rfl rfl rfl (decide_eq_false hb4)) rfl (fun a HF => ?_)
        refine wc_skip HF nS (HF.wn rfl rfl rfl rfl (decide_eq_false hb4)) rfl (fun a HF => ?_)
        refine wc_pick (b := false) HF nS rfl (decide_eq_false hb4) rfl rfl rfl (fun a HF => ?_)
        refine wc_assign HF nS rfl rfl rfl (fun a HF => ?_)
        refine wc_endN ?_
        refine then_n ?_
        refine wp_ret ?_
        obtain rfl := Option.some.inj h
        refine bp_ret HF (res_one rfl HF rfl) ?_
        have HT : St w0 (fun _ => False) w [] := HT.take 0
        exact ⟨rfl, HT⟩
    · have h := (if_neg hb3).symm.trans h
      refine wc_skip HF nS (HF.wn rfl rfl rfl rfl (Bool.eq_false_iff.2 hb3)) rfl (fun a HF => ?_)
      refine wc_skip HF nS (HF.wn rfl rfl rfl rfl (Bool.eq_false_iff.2 hb3)) rfl (fun a HF => ?_)
      refine wc_skip HF nS (HF.wn rfl rfl rfl rfl (Bool.eq_false_iff.2 hb3)) rfl (fun a HF => ?_)
      refine wc_skip HF nS (HF.wn rfl rfl rfl rfl (Bool.eq_false_iff.2 hb3)) rfl (fun a HF => ?_)
      refine wc_pick (b := false) HF nS rfl (Bool.eq_false_iff.2 hb3) rfl rfl rfl (fun a HF => ?_)
      refine wc_move HF nS rfl rfl rfl (fun a HF => ?_)
      refine wc_skip HF nS (HF.wn rfl rfl rfl rfl rfl) rfl (fun a HF => ?_)
      refine wc_skip HF nS (HF.wn rfl rfl rfl rfl rfl) rfl (fun a HF => ?_)
      refine wc_skip HF (fun _ => ⟨(HT.boxAt 0 rfl).get 1 rfl, trivial⟩) (HF.wn rfl rfl rfl rfl rfl) rfl (fun a HF => ?_)
      refine wc_skip HF (fun _ => ⟨(HT.boxAt 0 rfl).get 1 rfl, trivial⟩) (HF.wn rfl rfl rfl rfl rfl) rfl (fun a HF => ?_)
      refine wc_skip HF (fun _ => ⟨(HT.boxAt 0 rfl).get 1 rfl, trivial⟩) (HF.wn rfl rfl rfl rfl rfl) rfl (fun a HF => ?_)
      refine wc_skip HF (fun _ => ⟨(HT.boxAt 0 rfl).get 1 rfl, trivial⟩) (HF.wn rfl rfl rfl rfl rfl) rfl (fun a HF => ?_)
      refine wc_skip HF (fun _ => ⟨(HT.boxAt 0 rfl).get 1 rfl, trivial⟩) (HF.wn rfl rfl rfl rfl rfl) rfl (fun a HF => ?_)
      refine wc_skip HF nS (HF.wn rfl rfl rfl rfl rfl) rfl (fun a HF => ?_)
      refine wc_pick (b := false) HF nS rfl rfl rfl rfl rfl (fun a HF => ?_)
      refine wc_assign HF nS rfl rfl rfl (fun a HF => ?_)
      refine wc_endN ?_
      refine then_n ?_
      refine wp_ret ?_
      obtain rfl := Option.some.inj h
      refine bp_ret HF (res_one rfl HF rfl) ?_
      have HT : St w0 (fun _ => False) w [] := HT.take 0
      exact ⟨rfl, HT⟩

def m_impl_ShowProg_L0 (fuel : Nat) (x0_1 : List KidD) : Nat → Str → Int → Option Str
  | 0, _, _ => none
  | k1 + 1, z2, z3 =>
    if z3 < (x0_1.length : Int) then
      (at? x0_1 z3).bind fun e1 =>
      if ((z2.length + ([107, 105, 100, 10]).length : Nat) : Int) ≤ 9223372036854775807 then
        (m_impl_ShowCode fuel e1.code).bind fun y3 =>
        if (((z2 ++ ([107, 105, 100, 10])).length + y3.length : Nat) : Int) ≤ 9223372036854775807 then
          if in64 (z3 + 1) then
            m_impl_ShowProg_L0 fuel x0_1 k1 ((z2 ++ ([107, 105, 100, 10])) ++ y3) (z3 + 1)
          else none
        else none
      else none
    else
      some z2

def m_impl_ShowProg (fuel : Nat) (x0_0 : List I4) (x0_1 : List KidD) : Option Str :=
  (m_impl_ProgOk fuel x0_0 x0_1).bind fun y1 =>
  if y1 = true then
    (m_impl_ShowCode fuel x0_0).bind fun y2 =>
    (m_impl_ShowProg_L0 fuel x0_1 fuel y2 0).bind fun z1 =>
    some z1
  else
    some []

set_option maxRecDepth 100000 in
set_option maxHeartbeats 4000000 in
theorem w_impl_ShowProg (fuel : Nat) {x0_0 : List I4} {x0_1 : List KidD} {a_x0_0 : Option Addr} {n_x0_0 c_x0_0 : Nat} {a_x0_1 : Option Addr} {n_x0_1 c_x0_1 : Nat} {r0 : Str} {w0 : World} (h : m_impl_ShowProg fuel x0_0 x0_1 = some r0) (hr_x0_0 : RdT (fun b => ¬ False) w0 (rowT x0_0) (.slice a_x0_0 n_x0_0 c_x0_0)) (hr_x0_1 : RdT (fun b => ¬ False) w0 (rowT x0_1) (.slice a_x0_1 n_x0_1 c_x0_1)) :
    Calls Try.prog 28 #[.agg #[.slice a_x0_0 n_x0_0 c_x0_0, .slice a_x0_1 n_x0_1 c_x0_1]] w0 fun e w => e = .returned (sv r0) ∧ St w0 (fun _ => False) w [] := by
  obtain rfl := hr_x0_0.neq
  obtain rfl := hr_x0_1.neq
  have HT : St w0 (fun _ => False) w0 [] := St.init0
  rw [m_impl_ShowProg] at h
  refine calls_fr (n := 27) [.agg #[.slice a_x0_0 x0_0.length c_x0_0, .slice a_x0_1 x0_1.length c_x0_1]] Try.func28 rfl rfl rfl (fun a HF => ?_)
  have HT : St w0 (fun _ => False) w0 [] := HT
  refine wp_seq ?_
  refine wc_text ?_
  refine wc_box (cs := [.slice a_x0_0 x0_0.length c_x0_0, .slice a_x0_1 x0_1.length c_x0_1]) HF HT rfl rfl rfl rfl (fun p1 w HT hb => ⟨nS, fun a HF => ?_⟩)
  refine wc_assign HF nS rfl rfl rfl (fun a HF => ?_)
  refine wc_end ?_
  refine then_n ?_
  refine wp_seq ?_
  refine wp_seq ?_
  refine wc_text ?_
  refine wc_loadA (vs := [.slice a_x0_0 x0_0.length c_x0_0, .slice a_x0_1 x0_1.length c_x0_1]) HF rfl ag49 rfl ((HT.boxAt 0 rfl).part 0 2) rfl rfl (fun a HF => ?_)
  obtain ⟨y1, hx1, h⟩ := obs h
  refine wc_call HF cf58 rfl (w_impl_ProgOk fuel hx1 (HT.ro hr_x0_0).any (HT.ro hr_x0_1).any) rfl rfl ?_
  rintro e w ⟨rfl, hE⟩
  have hb := hE.below
  have HT := HT.pure hE
  have HT : St w0 (fun _ => False) w [Box p1 [.slice a_x0_0 x0_0.length c_x0_0, .slice a_x0_1 x0_1.length c_x0_1]] := HT
  refine ⟨_, rfl, nS, fun a HF => ?_⟩
  refine wc_not HF nS rfl rfl rfl (fun a HF => ?_)
  refine wc_end ?_
  refine then_n ?_
  by_cases hb1 : y1 = true
  · have h := (if_pos hb1).symm.trans h
    refine wp_if (b' := false) HF rfl (notT hb1) ?_
    refine wp_skip ?_
    refine then_n ?_
    refine wp_seq ?_
    refine wc_text ?_
    refine wc_faddr HF nS rfl fl49_0 rfl rfl (fun a HF => ?_)
    refine wc_load HF rfl sc35 ((HT.boxAt 0 rfl).get 0 rfl) rfl rfl (fun a HF => ?_)
    obtain ⟨y2, hx2, h⟩ := obs h
    refine wc_call HF cf19 rfl (w_impl_ShowCode fuel hx2 (HT.ro hr_x0_0).any) rfl rfl ?_
    rintro e w ⟨rfl, hE⟩
    have hb := hE.below
    have HT := HT.pure hE
    have HT : St w0 (fun _ => False) w [Box p1 [.slice a_x0_0 x0_0.length c_x0_0, .slice a_x0_1 x0_1.length c_x0_1]] := HT
    refine ⟨_, rfl, nS, fun a HF => ?_⟩
    refine wc_assign HF nS rfl rfl rfl (fun a HF => ?_)
    refine wc_end ?_
    refine then_n ?_
    obtain ⟨z1, hx3, h⟩ := obs h
    refine wp_cut (fun a w => Fr a 27 [(3, sv z1)] ∧ St w0 (fun _ => False) w []) ?_ ?_
    · have hk1 := h
      have h := hx3
      refine wp_seq ?_
      refine wc_text ?_
      refine wc_faddr HF nS rfl fl49_1 rfl rfl (fun a HF => ?_)
      refine wc_load HF rfl sc47 ((HT.boxAt 0 rfl).get 1 rfl) rfl rfl (fun a HF => ?_)
      refine wc_lenR HF nS Try.underlying47 rfl rfl rfl (fun a HF => ?_)
      refine wc_move HF nS rfl rfl rfl (fun a HF => ?_)
      refine wc_end ?_
      refine then_n ?_
      refine wp_block ?_
      have HT : St w0 (fun _ => False) w [] := HT.take 0
      refine wp_loopN (fun k1 a w => ∃ z2 z3, m_impl_ShowProg_L0 fuel x0_1 k1 z2 z3 = some z1 ∧ Fr a 27 [(3, sv z2), (13, .slice a_x0_1 x0_1.length c_x0_1), (14, .int .i64 (x0_1.length : Int)), (15, .int .i64 z3)] ∧ St w0 (fun _ => False) w []) fuel ⟨y2, 0, h, (HF.keep (HF.keep (HF.keep (HF.keep HF.nil rfl) rfl) rfl) rfl), HT⟩ ?_
      rintro k1 a w ⟨z2, z3, h, HF, HT⟩
      cases k1 with
      | zero => cases h
      | succ k1 =>
        rw [m_impl_ShowProg_L0] at h
        refine ?_
        refine wp_seq ?_
        refine wc_text ?_
        refine wc_bin HF nS rfl rfl b_lt rfl rfl (fun a HF => ?_)
        refine wc_end ?_
        refine then_n ?_
        refine wp_seq ?_
        by_cases hb2 : z3 < (x0_1.length : Int)
        · have h := (if_pos hb2).symm.trans h
          refine wp_if (b' := true) HF rfl (decide_eq_true hb2) ?_
          refine wp_skip ?_
          refine then_n ?_
          refine wp_seq ?_
          refine wp_block ?_
          refine wp_seq ?_
          refine wc_text ?_
          obtain ⟨e1, hx4, h⟩ := obs h
          obtain ⟨b1, o1, ha1⟩ := (HT.ro hr_x0_1).any.addr hx4
          refine wc_ixaddr HF nS el47 rfl ha1 ((HT.ro hr_x0_1).any).neq rfl hx4 rfl rfl (fun a HF => ?_)
          obtain ⟨_, hP1, hc1, hr1⟩ := hr_x0_1.elemAt ha1 hx4
          obtain ⟨a1, c1, rfl, hr2⟩ := cells_Kid hr1
          have hc2 := HT.roLd hP1 hc1
          refine wc_loadA (vs := [.slice a1 e1.code.length c1]) HF rfl ag77 rfl (hc2.part 0 1) rfl rfl (fun a HF => ?_)
          refine wc_alloc (cs := [.slice none 0 0]) HF HT zr77 rfl rfl rfl (fun p2 w HT hb => ⟨nS, fun a HF => ?_⟩)
          refine wc_storeB (cs' := [.slice a1 e1.code.length c1]) HF HT rfl rfl (fun w => (ag77 w).2) rfl rfl rfl rfl rfl (fun w HT => ⟨nS, ?_⟩)
          refine wc_end ?_
          refine then_n ?_
          refine wc_text ?_
          refine wc_move HF nS rfl rfl rfl (fun a HF => ?_)
          obtain ⟨hg1, h⟩ := grd h
          refine wc_bin HF nS rfl rfl (b_cat hg1) rfl rfl (fun a HF => ?_)
          refine wc_faddr HF nS rfl fl77_0 rfl rfl (fun a HF => ?_)
          refine wc_load HF rfl sc35 ((HT.boxAt 0 rfl).get 0 rfl) rfl rfl (fun a HF => ?_)
          obtain ⟨y3, hx5, h⟩ := obs h
          refine wc_call HF cf19 rfl (w_impl_ShowCode fuel hx5 (HT.ro hr2).any) rfl rfl ?_
          rintro e w ⟨rfl, hE⟩
          have hb := hE.below
          have HT := HT.pure hE
          have HT : St w0 (fun _ => False) w [Box p2 [.slice a1 e1.code.length c1]] := HT
          refine ⟨_, rfl, nS, fun a HF => ?_⟩
          obtain ⟨hg2, h⟩ := grd h
          refine wc_bin HF nS rfl rfl (b_cat hg2) rfl rfl (fun a HF => ?_)
          refine wc_assign HF nS rfl rfl rfl (fun a HF => ?_)
          refine wc_end ?_
          refine blk_n ?_
          refine then_n ?_
          refine wc_text ?_
          obtain ⟨hg3, h⟩ := grd h
          refine wc_bin HF nS rfl rfl (b_add hg3) rfl rfl (fun a HF => ?_)
          refine wc_move HF nS rfl rfl rfl (fun a HF => ?_)
          refine wc_end ?_
          have HT : St w0 (fun _ => False) w [] := HT.take 0
          exact then_n ⟨k1, Nat.lt_succ_self k1, (z2 ++ ([107, 105, 100, 10])) ++ y3, z3 + 1, h, (HF.keep (HF.keep (HF.keep (HF.keep HF.nil rfl) rfl) rfl) rfl), HT⟩
        · have h := (if_neg hb2).symm.trans h
          refine wp_if (b' := false) HF rfl (decide_eq_false hb2) ?_
          refine wp_exit ?_
          refine then_x (then_x (?_))
          refine blk_x ?_
          obtain rfl := Option.some.inj h
          exact then_n ⟨(HF.keep HF.nil rfl), HT⟩
    · rintro a w ⟨HF, HT⟩
      refine ?_
      refine wp_seq ?_
      refine wc_text ?_
      refine wc_move HF nS rfl rfl rfl (fun a HF => ?_)
      refine wc_assign HF nS rfl rfl rfl (fun a HF => ?_)
      refine wc_end ?_
      refine then_n ?_
      refine wp_ret ?_
      obtain rfl := Option.some.inj h
      refine bp_ret HF (res_one rfl HF rfl) ?_
      exact ⟨rfl, HT⟩
  · have h := (if_neg hb1).symm.trans h
    refine wp_if (b' := true) HF rfl (notF (Bool.eq_false_iff.2 hb1)) ?_
    refine wp_seq ?_
    refine wc_text ?_
    refine wc_assign HF nS rfl rfl rfl (fun a HF => ?_)
    refine wc_end ?_
    refine then_n ?_
    refine wp_ret ?_
    obtain rfl := Option.some.inj h
    refine then_r (?_)
    refine bp_ret HF (res_one rfl HF rfl) ?_
    have HT : St w0 (fun _ => False) w [] := HT.take 0
    exact ⟨rfl, HT⟩

def m_laws_eqKid (fuel : Nat) (x0_0 : List I4) (x1_0 : List I4) : Option Bool :=
  (m_laws_eqOpS fuel x0_0 x1_0).bind fun y1 =>
  if y1 = true then
    some true
  else
    some false

set_option maxRecDepth 100000 in
set_option maxHeartbeats 4000000 in
theorem w_laws_eqKid (fuel : Nat) {x0_0 : List I4} {x1_0 : List I4} {a_x0_0 : Option Addr} {n_x0_0 c_x0_0 : Nat} {a_x1_0 : Option Addr} {n_x1_0 c_x1_0 : Nat} {r0 : Bool} {w0 : World} (h : m_laws_eqKid fuel x0_0 x1_0 = some r0) (hr_x0_0 : RdT (fun b => ¬ False) w0 (rowT x0_0) (.slice a_x0_0 n_x0_0 c_x0_0)) (hr_x1_0 : RdT (fun b => ¬ False) w0 (rowT x1_0) (.slice a_x1_0 n_x1_0 c_x1_0)) :
    Calls Try.prog 89 #[.agg #[.slice a_x0_0 n_x0_0 c_x0_0], .agg #[.slice a_x1_0 n_x1_0 c_x1_0]] w0 fun e w => e = .returned (.bool r0) ∧ St w0 (fun _ => False) w [] := by
  obtain rfl := hr_x0_0.neq
  obtain rfl := hr_x1_0.neq
  have HT : St w0 (fun _ => False) w0 [] := St.init0
  rw [m_laws_eqKid] at h
  refine calls_fr (n := 11) [.agg #[.slice a_x0_0 x0_0.length c_x0_0], .agg #[.slice a_x1_0 x1_0.length c_x1_0]] Try.func89 rfl rfl rfl (fun a HF => ?_)
  have HT : St w0 (fun _ => False) w0 [] := HT
  refine wp_seq ?_
  refine wc_text ?_
  refine wc_box (cs := [.slice a_x0_0 x0_0.length c_x0_0]) HF HT rfl rfl rfl rfl (fun p1 w HT hb => ⟨nS, fun a HF => ?_⟩)
  refine wc_box (cs := [.slice a_x1_0 x1_0.length c_x1_0]) HF HT rfl rfl rfl rfl (fun p2 w HT hb => ⟨nS, fun a HF => ?_⟩)
  refine wc_assign HF nS rfl rfl rfl (fun a HF => ?_)
  refine wc_end ?_
  refine then_n ?_
  refine wp_seq ?_
  refine wp_seq ?_
  refine wc_text ?_
  refine wc_faddr HF nS rfl fl77_0 rfl rfl (fun a HF => ?_)
  refine wc_load HF rfl sc35 ((HT.boxAt 1 rfl).get 0 rfl) rfl rfl (fun a HF => ?_)
  refine wc_faddr HF nS rfl fl77_0 rfl rfl (fun a HF => ?_)
  refine wc_load HF rfl sc35 ((HT.boxAt 0 rfl).get 0 rfl) rfl rfl (fun a HF => ?_)
  obtain ⟨y1, hx1, h⟩ := obs h
  refine wc_call HF cf20 rfl (w_laws_eqOpS fuel hx1 (HT.ro hr_x0_0).any (HT.ro hr_x1_0).any) rfl rfl ?_
  rintro e w ⟨rfl, hE⟩
  have hb := hE.below
  have HT := HT.pure hE
  have HT : St w0 (fun _ => False) w [Box p2 [.slice a_x1_0 x1_0.length c_x1_0], Box p1 [.slice a_x0_0 x0_0.length c_x0_0]] := HT
  refine ⟨_, rfl, nS, fun a HF => ?_⟩
  refine wc_not HF nS rfl rfl rfl (fun a HF => ?_)
  refine wc_end ?_
  refine then_n ?_
  by_cases hb1 : y1 = true
  · have h := (if_pos hb1).symm.trans h
    refine wp_if (b' := false) HF rfl (notT hb1) ?_
    refine wp_skip ?_
    refine then_n ?_
    refine wp_seq ?_
    refine wc_text ?_
    refine wc_assign HF nS rfl rfl rfl (fun a HF => ?_)
    refine wc_end ?_
    refine then_n ?_
    refine wp_ret ?_
    obtain rfl := Option.some.inj h
    refine bp_ret HF (res_one rfl HF rfl) ?_
    have HT : St w0 (fun _ => False) w [] := HT.take 0
    exact ⟨rfl, HT⟩
  · have h := (if_neg hb1).symm.trans h
    refine wp_if (b' := true) HF rfl (notF (Bool.eq_false_iff.2 hb1)) ?_
    refine wp_seq ?_
    refine wc_text ?_
    refine wc_assign HF nS rfl rfl rfl (fun a HF => ?_)
    refine wc_end ?_
    refine then_n ?_
    refine wp_ret ?_
    obtain rfl := Option.some.inj h
    refine then_r (?_)
    refine bp_ret HF (res_one rfl HF rfl) ?_
    have HT : St w0 (fun _ => False) w [] := HT.take 0
    exact ⟨rfl, HT⟩

def m_laws_eqKidS_L0 (fuel : Nat) (x0 : List KidD) (x1 : List KidD) : Nat → Int → Option (Lp Unit Bool)
  | 0, _ => none
  | k1 + 1, z1 =>
    if z1 < (x0.length : Int) then
      (at? x0 z1).bind fun e1 =>
      (at? x1 z1).bind fun e2 =>
      (m_laws_eqKid fuel e1.code e2.code).bind fun y1 =>
      if y1 = true then
        if in64 (z1 + 1) then
          m_laws_eqKidS_L0 fuel x0 x1 k1 (z1 + 1)
        else none
      else
        some (.ret false)
    else
      some (.brk ())

def m_laws_eqKidS (fuel : Nat) (x0 : List KidD) (x1 : List KidD) : Option Bool :=
  if (x0.length : Int) = (x1.length : Int) then
    (m_laws_eqKidS_L0 fuel x0 x1 fuel 0).bind <| contL <| un1 fun _ =>
    some true
  else
    some false

set_option maxRecDepth 100000 in
set_option maxHeartbeats 4000000 in
theorem w_laws_eqKidS (fuel : Nat) {x0 : List KidD} {x1 : List KidD} {a_x0 : Option Addr} {n_x0 c_x0 : Nat} {a_x1 : Option Addr} {n_x1 c_x1 : Nat} {r0 : Bool} {w0 : World} (h : m_laws_eqKidS fuel x0 x1 = some r0) (hr_x0 : RdT (fun b => ¬ False) w0 (rowT x0) (.slice a_x0 n_x0 c_x0)) (hr_x1 : RdT (fun b => ¬ False) w0 (rowT x1) (.slice a_x1 n_x1 c_x1)) :
    Calls Try.prog 59 #[.slice a_x0 n_x0 c_x0, .slice a_x1 n_x1 c_x1] w0 fun e w => e = .returned (.bool r0) ∧ St w0 (fun _ => False) w [] := by
  obtain rfl := hr_x0.neq
  obtain rfl := hr_x1.neq
  have HT : St w0 (fun _ => False) w0 [] := St.init0
  rw [m_laws_eqKidS] at h
  refine calls_fr (n := 27) [.slice a_x0 x0.length c_x0, .slice a_x1 x1.length c_x1] Try.func59 rfl rfl rfl (fun a HF => ?_)
  have HT : St w0 (fun _ => False) w0 [] := HT
  refine wp_seq ?_
  refine wc_text ?_
  refine wc_assign HF nS rfl rfl rfl (fun a HF => ?_)
  refine wc_end ?_
  refine then_n ?_
  refine wp_seq ?_
  refine wp_seq ?_
  refine wc_text ?_
  refine wc_move HF nS rfl rfl rfl (fun a HF => ?_)
  refine wc_lenR HF nS Try.underlying47 rfl rfl rfl (fun a HF => ?_)
  refine wc_move HF nS rfl rfl rfl (fun a HF => ?_)
  refine wc_lenR HF nS Try.underlying47 rfl rfl rfl (fun a HF => ?_)
  refine wc_bin HF nS rfl rfl b_ne rfl rfl (fun a HF => ?_)
  refine wc_end ?_
  refine then_n ?_
  by_cases hb1 : (x0.length : Int) = (x1.length : Int)
  · have h := (if_pos hb1).symm.trans h
    refine wp_if (b' := false) HF rfl (notT (decide_eq_true hb1)) ?_
    refine wp_skip ?_
    refine then_n ?_
    obtain ⟨q1, hx1, h⟩ := obs h
    refine wp_cut (fun a w => q1 = .brk () ∧ Fr a 27 [] ∧ St w0 (fun _ => False) w []) ?_ ?_
    · have hk1 := h
      have h := hx1
      refine wp_seq ?_
      refine wc_text ?_
      refine wc_assign HF nS rfl rfl rfl (fun a HF => ?_)
      refine wc_end ?_
      refine then_n ?_
      refine wp_block ?_
      refine wp_loopN (fun k1 a w => ∃ z1, m_laws_eqKidS_L0 fuel x0 x1 k1 z1 = some q1 ∧ Fr a 27 [(0, .slice a_x0 x0.length c_x0), (1, .slice a_x1 x1.length c_x1), (5, .int .i64 z1)] ∧ St w0 (fun _ => False) w []) fuel ⟨0, h, (HF.keep (HF.keep (HF.keep HF.nil rfl) rfl) rfl), HT⟩ ?_
      rintro k1 a w ⟨z1, h, HF, HT⟩
      cases k1 with
      | zero => cases h
      | succ k1 =>
        rw [m_laws_eqKidS_L0] at h
        refine ?_
        refine wp_seq ?_
        refine wp_seq ?_
        refine wc_text ?_
        refine wc_move HF nS rfl rfl rfl (fun a HF => ?_)
        refine wc_move HF nS rfl rfl rfl (fun a HF => ?_)
        refine wc_lenR HF nS Try.underlying47 rfl rfl rfl (fun a HF => ?_)
        refine wc_bin HF nS rfl rfl b_lt rfl rfl (fun a HF => ?_)
        refine wc_end ?_
        refine then_n ?_
        by_cases hb2 : z1 < (x0.length : Int)
        · have h := (if_pos hb2).symm.trans h
          refine wp_if (b' := true) HF rfl (decide_eq_true hb2) ?_
          refine wp_skip ?_
          refine then_n ?_
          refine wp_seq ?_
          refine wp_block ?_
          refine wp_seq ?_
          refine wp_region_can [(0, true), (1, true), (2, true), (3, true), (4, true), (5, true), (6, true), (7, true), (8, true), (9, true)] (fun w' => True) (by kernel_rfl) (by kernel_rfl) ?_
          have HT : St w0 (fun _ => False) w.drew [] := HT.drew
          refine wc_move HF nS rfl rfl rfl (fun a HF => ?_)
          refine wc_move HF nS rfl rfl rfl (fun a HF => ?_)
          obtain ⟨e1, hx2, h⟩ := obs h
          obtain ⟨b1, o1, ha1⟩ := (HT.ro hr_x0).any.addr hx2
          refine wc_ixaddr HF nS el47 rfl ha1 ((HT.ro hr_x0).any).neq rfl hx2 rfl rfl (fun a HF => ?_)
          obtain ⟨_, hP1, hc1, hr1⟩ := hr_x0.elemAt ha1 hx2
          obtain ⟨a1, c1, rfl, hr2⟩ := cells_Kid hr1
          have hc2 := HT.roLd hP1 hc1
          refine wc_loadA (vs := [.slice a1 e1.code.length c1]) HF rfl ag77 rfl (hc2.part 0 1) rfl rfl (fun a HF => ?_)
          refine wc_move HF nS rfl rfl rfl (fun a HF => ?_)
          refine wc_move HF nS rfl rfl rfl (fun a HF => ?_)
          obtain ⟨e2, hx3, h⟩ := obs h
          obtain ⟨b2, o2, ha2⟩ := (HT.ro hr_x1).any.addr hx3
          refine wc_ixaddr HF nS el47 rfl ha2 ((HT.ro hr_x1).any).neq rfl hx3 rfl rfl (fun a HF => ?_)
          obtain ⟨_, hP2, hc3, hr3⟩ := hr_x1.elemAt ha2 hx3
          obtain ⟨a2, c2, rfl, hr4⟩ := cells_Kid hr3
          have hc4 := HT.roLd hP2 hc3
          refine wc_loadA (vs := [.slice a2 e2.code.length c2]) HF rfl ag77 rfl (hc4.part 0 1) rfl rfl (fun a HF => ?_)
          obtain ⟨y1, hx4, h⟩ := obs h
          refine wc_call HF cf89 rfl (w_laws_eqKid fuel hx4 (HT.ro hr2).any (HT.ro hr4).any) rfl rfl ?_
          rintro e w ⟨rfl, hE⟩
          have hb := hE.below
          have HT := HT.pure hE
          have HT : St w0 (fun _ => False) w [] := HT
          refine ⟨_, rfl, nS, fun a HF => ?_⟩
          refine wc_not HF nS rfl rfl rfl (fun a HF => ?_)
          refine wc_endN ?_
          refine then_n ?_
          by_cases hb3 : y1 = true
          · have h := (if_pos hb3).symm.trans h
            refine wp_if (b' := false) HF rfl (notT hb3) ?_
            refine wp_skip ?_
            refine blk_n ?_
            refine then_n ?_
            refine wc_text ?_
            refine wc_move HF nS rfl rfl rfl (fun a HF => ?_)
            obtain ⟨hg1, h⟩ := grd h
            refine wc_bin HF nS rfl rfl (b_add hg1) rfl rfl (fun a HF => ?_)
            refine wc_assign HF nS rfl rfl rfl (fun a HF => ?_)
            refine wc_end ?_
            exact then_n ⟨k1, Nat.lt_succ_self k1, z1 + 1, h, (HF.keep (HF.keep (HF.keep HF.nil rfl) rfl) rfl), HT⟩
          · have h := (if_neg hb3).symm.trans h
            refine wp_if (b' := true) HF rfl (notF (Bool.eq_false_iff.2 hb3)) ?_
            refine wp_seq ?_
            refine wc_text ?_
            refine wc_assign HF nS rfl rfl rfl (fun a HF => ?_)
            refine wc_end ?_
            refine then_n ?_
            refine wp_ret ?_
            obtain rfl := Option.some.inj h
            have h := retL hk1
            obtain rfl := Option.some.inj h
            refine blk_r (then_r (then_r (blk_r (then_r (?_)))))
            refine bp_ret HF (res_one rfl HF rfl) ?_
            exact ⟨rfl, HT⟩
        · have h := (if_neg hb2).symm.trans h
          refine wp_if (b' := false) HF rfl (decide_eq_false hb2) ?_
          refine wp_exit ?_
          refine then_x (then_x (?_))
          refine blk_x ?_
          exact then_n ⟨(Option.some.inj h).symm, HF.nil, HT⟩
    · rintro a w ⟨rfl, HF, HT⟩
      have h := brkL1u h
      refine ?_
      refine wp_seq ?_
      refine wc_text ?_
      refine wc_assign HF nS rfl rfl rfl (fun a HF => ?_)
      refine wc_end ?_
      refine then_n ?_
      refine wp_ret ?_
      obtain rfl := Option.some.inj h
      refine bp_ret HF (res_one rfl HF rfl) ?_
      exact ⟨rfl, HT⟩
  · have h := (if_neg hb1).symm.trans h
    refine wp_if (b' := true) HF rfl (notF (decide_eq_false hb1)) ?_
    refine wp_seq ?_
    refine wc_text ?_
    refine wc_assign HF nS rfl rfl rfl (fun a HF => ?_)
    refine wc_end ?_
    refine then_n ?_
    refine wp_ret ?_
    obtain rfl := Option.some.inj h
    refine then_r (?_)
    refine bp_ret HF (res_one rfl HF rfl) ?_
    exact ⟨rfl, HT⟩

def m_laws_eqProg (fuel : Nat) (x0_0 : List I4) (x0_1 : List KidD) (x1_0 : List I4) (x1_1 : List KidD) : Option Bool :=
  (m_laws_eqOpS fuel x0_0 x1_0).bind fun y1 =>
  if y1 = true then
    (m_laws_eqKidS fuel x0_1 x1_1).bind fun y2 =>
    if y2 = true then
      some true
    else
      some false
  else
    some false

set_option maxRecDepth 100000 in
set_option maxHeartbeats 4000000 in
theorem w_laws_eqProg (fuel : Nat) {x0_0 : List I4} {x0_1 : List KidD} {x1_0 : List I4} {x1_1 : List KidD} {a_x0_0 : Option Addr} {n_x0_0 c_x0_0 : Nat} {a_x0_1 : Option Addr} {n_x0_1 c_x0_1 : Nat} {a_x1_0 : Option Addr} {n_x1_0 c_x1_0 : Nat} {a_x1_1 : Option Addr} {n_x1_1 c_x1_1 : Nat} {r0 : Bool} {w0 : World} (h : m_laws_eqProg fuel x0_0 x0_1 x1_0 x1_1 = some r0) (hr_x0_0 : RdT (fun b => ¬ False) w0 (rowT x0_0) (.slice a_x0_0 n_x0_0 c_x0_0)) (hr_x0_1 : RdT (fun b => ¬ False) w0 (rowT x0_1) (.slice a_x0_1 n_x0_1 c_x0_1)) (hr_x1_0 : RdT (fun b => ¬ False) w0 (rowT x1_0) (.slice a_x1_0 n_x1_0 c_x1_0)) (hr_x1_1 : RdT (fun b => ¬ False) w0 (rowT x1_1) (.slice a_x1_1 n_x1_1 c_x1_1)) :
    Calls Try.prog 29 #[.agg #[.slice a_x0_0 n_x0_0 c_x0_0, .slice a_x0_1 n_x0_1 c_x0_1], .agg #[.slice a_x1_0 n_x1_0 c_x1_0, .slice a_x1_1 n_x1_1 c_x1_1]] w0 fun e w => e = .returned (.bool r0) ∧ St w0 (fun _ => False) w [] := by
  obtain rfl := hr_x0_0.neq
  obtain rfl := hr_x0_1.neq
  obtain rfl := hr_x1_0.neq
  obtain rfl := hr_x1_1.neq
  have HT : St w0 (fun _ => False) w0 [] := St.init0
  rw [m_laws_eqProg] at h
  refine calls_fr (n := 17) [.agg #[.slice a_x0_0 x0_0.length c_x0_0, .slice a_x0_1 x0_1.length c_x0_1], .agg #[.slice a_x1_0 x1_0.length c_x1_0, .slice a_x1_1 x1_1.length c_x1_1]] Try.func29 rfl rfl rfl (fun a HF => ?_)
  have HT : St w0 (fun _ => False) w0 [] := HT
  refine wp_seq ?_
  refine wc_text ?_
  refine wc_box (cs := [.slice a_x0_0 x0_0.length c_x0_0, .slice a_x0_1 x0_1.length c_x0_1]) HF HT rfl rfl rfl rfl (fun p1 w HT hb => ⟨nS, fun a HF => ?_⟩)
  refine wc_box (cs := [.slice a_x1_0 x1_0.length c_x1_0, .slice a_x1_1 x1_1.length c_x1_1]) HF HT rfl rfl rfl rfl (fun p2 w HT hb => ⟨nS, fun a HF => ?_⟩)
  refine wc_assign HF nS rfl rfl rfl (fun a HF => ?_)
  refine wc_end ?_
  refine then_n ?_
  refine wp_seq ?_
  refine wp_seq ?_
  refine wc_text ?_
  refine wc_faddr HF nS rfl fl49_0 rfl rfl (fun a HF => ?_)
  refine wc_load HF rfl sc35 ((HT.boxAt 1 rfl).get 0 rfl) rfl rfl (fun a HF => ?_)
  refine wc_faddr HF nS rfl fl49_0 rfl rfl (fun a HF => ?_)
  refine wc_load HF rfl sc35 ((HT.boxAt 0 rfl).get 0 rfl) rfl rfl (fun a HF => ?_)
  obtain ⟨y1, hx1, h⟩ := obs h
  refine wc_call HF cf20 rfl (w_laws_eqOpS fuel hx1 (HT.ro hr_x0_0).any (HT.ro hr_x1_0).any) rfl rfl ?_
  rintro e w ⟨rfl, hE⟩
  have hb := hE.below
  have HT := HT.pure hE
  have HT : St w0 (fun _ => False) w [Box p2 [.slice a_x1_0 x1_0.length c_x1_0, .slice a_x1_1 x1_1.length c_x1_1], Box p1 [.slice a_x0_0 x0_0.length c_x0_0, .slice a_x0_1 x0_1.length c_x0_1]] := HT
  refine ⟨_, rfl, nS, fun a HF => ?_⟩
  refine wc_not HF nS rfl rfl rfl (fun a HF => ?_)
  refine wc_end ?_
  refine then_n ?_
  by_cases hb1 : y1 = true
  · have h := (if_pos hb1).symm.trans h
    refine wp_if (b' := false) HF rfl (notT hb1) ?_
    refine wp_skip ?_
    refine then_n ?_
    refine wp_seq ?_
    refine wp_seq ?_
    refine wc_text ?_
    refine wc_faddr HF nS rfl fl49_1 rfl rfl (fun a HF => ?_)
    refine wc_load HF rfl sc47 ((HT.boxAt 1 rfl).get 1 rfl) rfl rfl (fun a HF => ?_)
    refine wc_faddr HF nS rfl fl49_1 rfl rfl (fun a HF => ?_)
    refine wc_load HF rfl sc47 ((HT.boxAt 0 rfl).get 1 rfl) rfl rfl (fun a HF => ?_)
    obtain ⟨y2, hx2, h⟩ := obs h
    refine wc_call HF cf59 rfl (w_laws_eqKidS fuel hx2 (HT.ro hr_x0_1).any (HT.ro hr_x1_1).any) rfl rfl ?_
    rintro e w ⟨rfl, hE⟩
    have hb := hE.below
    have HT := HT.pure hE
    have HT : St w0 (fun _ => False) w [Box p2 [.slice a_x1_0 x1_0.length c_x1_0, .slice a_x1_1 x1_1.length c_x1_1], Box p1 [.slice a_x0_0 x0_0.length c_x0_0, .slice a_x0_1 x0_1.length c_x0_1]] := HT
    refine ⟨_, rfl, nS, fun a HF => ?_⟩
    refine wc_not HF nS rfl rfl rfl (fun a HF => ?_)
    refine wc_end ?_
    refine then_n ?_
    by_cases hb2 : y2 = true
    · have h := (if_pos hb2).symm.trans h
      refine wp_if (b' := false) HF rfl (notT hb2) ?_
      refine wp_skip ?_
      refine then_n ?_
      refine wp_seq ?_
      refine wc_text ?_
      refine wc_assign HF nS rfl rfl rfl (fun a HF => ?_)
      refine wc_end ?_
      refine then_n ?_
      refine wp_ret ?_
      obtain rfl := Option.some.inj h
      refine bp_ret HF (res_one rfl HF rfl) ?_
      have HT : St w0 (fun _ => False) w [] := HT.take 0
      exact ⟨rfl, HT⟩
    · have h := (if_neg hb2).symm.trans h
      refine wp_if (b' := true) HF rfl (notF (Bool.eq_false_iff.2 hb2)) ?_
      refine wp_seq ?_
      refine wc_text ?_
      refine wc_assign HF nS rfl rfl rfl (fun a HF => ?_)
      refine wc_end ?_
      refine then_n ?_
      refine wp_ret ?_
      obtain rfl := Option.some.inj h
      refine then_r (?_)
      refine bp_ret HF (res_one rfl HF rfl) ?_
      have HT : St w0 (fun _ => False) w [] := HT.take 0
      exact ⟨rfl, HT⟩
  · have h := (if_neg hb1).symm.trans h
    refine wp_if (b' := true) HF rfl (notF (Bool.eq_false_iff.2 hb1)) ?_
    refine wp_seq ?_
    refine wc_text ?_
    refine wc_assign HF nS rfl rfl rfl (fun a HF => ?_)
    refine wc_end ?_
    refine then_n ?_
    refine wp_ret ?_
    obtain rfl := Option.some.inj h
    refine then_r (?_)
    refine bp_ret HF (res_one rfl HF rfl) ?_
    have HT : St w0 (fun _ => False) w [] := HT.take 0
    exact ⟨rfl, HT⟩

def m_laws_szKid (fuel : Nat) (x0_0 : List I4) (x1 : Int) : Option Int :=
  (m_laws_szOpS fuel x0_0 x1).bind fun y1 =>
  if y1 < 0 then
    some (-1)
  else
    some y1

set_option maxRecDepth 100000 in
set_option maxHeartbeats 4000000 in
theorem w_laws_szKid (fuel : Nat) {x0_0 : List I4} {x1 : Int} {a_x0_0 : Option Addr} {n_x0_0 c_x0_0 : Nat} {r0 : Int} {w0 : World} (h : m_laws_szKid fuel x0_0 x1 = some r0) (hr_x0_0 : RdT (fun b => ¬ False) w0 (rowT x0_0) (.slice a_x0_0 n_x0_0 c_x0_0)) :
    Calls Try.prog 85 #[.agg #[.slice a_x0_0 n_x0_0 c_x0_0], .int .i64 x1] w0 fun e w => e = .returned (.int .i64 r0) ∧ St w0 (fun _ => False) w [] := by
  obtain rfl := hr_x0_0.neq
  have HT : St w0 (fun _ => False) w0 [] := St.init0
  rw [m_laws_szKid] at h
  refine calls_fr (n := 12) [.agg #[.slice a_x0_0 x0_0.length c_x0_0], .int .i64 x1] Try.func85 rfl rfl rfl (fun a HF => ?_)
  have HT : St w0 (fun _ => False) w0 [] := HT
  refine wp_seq ?_
  refine wc_text ?_
  refine wc_box (cs := [.slice a_x0_0 x0_0.length c_x0_0]) HF HT rfl rfl rfl rfl (fun p1 w HT hb => ⟨nS, fun a HF => ?_⟩)
  refine wc_assign HF nS rfl rfl rfl (fun a HF => ?_)
  refine wc_end ?_
  refine then_n ?_
  refine wp_seq ?_
  refine wc_text ?_
  refine wc_faddr HF nS rfl fl95_0 rfl rfl (fun a HF => ?_)
  refine wc_load HF rfl sc32 ((HT.boxAt 0 rfl).get 0 rfl) rfl rfl (fun a HF => ?_)
  refine wc_move HF nS rfl rfl rfl (fun a HF => ?_)
  obtain ⟨y1, hx1, h⟩ := obs h
  refine wc_call HF cf16 rfl (w_laws_szOpS fuel hx1 (HT.ro hr_x0_0).any) rfl rfl ?_
  rintro e w ⟨rfl, hE⟩
  have hb := hE.below
  have HT := HT.pure hE
  have HT : St w0 (fun _ => False) w [Box p1 [.slice a_x0_0 x0_0.length c_x0_0]] := HT
  refine ⟨_, rfl, nS, fun a HF => ?_⟩
  refine wc_assign HF nS rfl rfl rfl (fun a HF => ?_)
  refine wc_end ?_
  refine then_n ?_
  refine wp_seq ?_
  refine wp_seq ?_
  refine wc_text ?_
  refine wc_move HF nS rfl rfl rfl (fun a HF => ?_)
  refine wc_bin HF nS rfl rfl b_lt rfl rfl (fun a HF => ?_)
  refine wc_end ?_
  refine then_n ?_
  by_cases hb1 : y1 < 0
  · have h := (if_pos hb1).symm.trans h
    refine wp_if (b' := true) HF rfl (decide_eq_true hb1) ?_
    refine wp_seq ?_
    refine wc_text ?_
    refine wc_assign HF nS rfl rfl rfl (fun a HF => ?_)
    refine wc_end ?_
    refine then_n ?_
    refine wp_ret ?_
    obtain rfl := Option.some.inj h
    refine then_r (?_)
    refine bp_ret HF (res_one rfl HF rfl) ?_
    have HT : St w0 (fun _ => False) w [] := HT.take 0
    exact ⟨rfl, HT⟩
  · have h := (if_neg hb1).symm.trans h
    refine wp_if (b' := false) HF rfl (decide_eq_false hb1) ?_
    refine wp_skip ?_
    refine then_n ?_
    refine wp_seq ?_
    refine wc_text ?_
    refine wc_move HF nS rfl rfl rfl (fun a HF => ?_)
    refine wc_assign HF nS rfl rfl rfl (fun a HF => ?_)
    refine wc_end ?_
    refine then_n ?_
    refine wp_ret ?_
    obtain rfl := Option.some.inj h
    refine bp_ret HF (res_one rfl HF rfl) ?_
    have HT : St w0 (fun _ => False) w [] := HT.take 0
    exact ⟨rfl, HT⟩

def m_laws_szKidS_L0 (fuel : Nat) (x0 : List KidD) : Nat → Int → Int → Option (Lp Int Int)
  | 0, _, _ => none
  | k1 + 1, z2, z3 =>
    if z3 < (x0.length : Int) then
      (at? x0 z3).bind fun e1 =>
      (m_laws_szKid fuel e1.code z2).bind fun y1 =>
      if y1 < 0 then
        some (.ret (-1))
      else
        if in64 (z3 + 1) then
          m_laws_szKidS_L0 fuel x0 k1 y1 (z3 + 1)
        else none
    else
      some (.brk z2)

def m_laws_szKidS (fuel : Nat) (x0 : List KidD) (x1 : Int) : Option Int :=
  if in64 (x1 - (x0.length : Int)) then
    if (x1 - (x0.length : Int)) < 0 then
      some (-1)
    else
      (m_laws_szKidS_L0 fuel x0 fuel (x1 - (x0.length : Int)) 0).bind <| contL <| un1 fun z1 =>
      some z1
  else none

set_option maxRecDepth 100000 in
set_option maxHeartbeats 4000000 in
theorem w_laws_szKidS (fuel : Nat) {x0 : List KidD} {x1 : Int} {a_x0 : Option Addr} {n_x0 c_x0 : Nat} {r0 : Int} {w0 : World} (h : m_laws_szKidS fuel x0 x1 = some r0) (hr_x0 : RdT (fun b => ¬ False) w0 (rowT x0) (.slice a_x0 n_x0 c_x0)) :
    Calls Try.prog 56 #[.slice a_x0 n_x0 c_x0, .int .i64 x1] w0 fun e w => e = .returned (.int .i64 r0) ∧ St w0 (fun _ => False) w [] := by
  obtain rfl := hr_x0.neq
  have HT : St w0 (fun _ => False) w0 [] := St.init0
  rw [m_laws_szKidS] at h
  refine calls_fr (n := 27) [.slice a_x0 x0.length c_x0, .int .i64 x1] Try.func56 rfl rfl rfl (fun a HF => ?_)
  have HT : St w0 (fun _ => False) w0 [] := HT
  refine wp_seq ?_
  refine wc_text ?_
  refine wc_assign HF nS rfl rfl rfl (fun a HF => ?_)
  refine wc_end ?_
  refine then_n ?_
  refine wp_seq ?_
  refine wc_text ?_
  refine wc_move HF nS rfl rfl rfl (fun a HF => ?_)
  refine wc_move HF nS rfl rfl rfl (fun a HF => ?_)
  refine wc_lenR HF nS Try.underlying42 rfl rfl rfl (fun a HF => ?_)
  obtain ⟨hg1, h⟩ := grd h
  refine wc_bin HF nS rfl rfl (b_sub hg1) rfl rfl (fun a HF => ?_)
  refine wc_assign HF nS rfl rfl rfl (fun a HF => ?_)
  refine wc_end ?_
  refine then_n ?_
  refine wp_seq ?_
  refine wp_seq ?_
  refine wc_text ?_
  refine wc_move HF nS rfl rfl rfl (fun a HF => ?_)
  refine wc_bin HF nS rfl rfl b_lt rfl rfl (fun a HF => ?_)
  refine wc_end ?_
  refine then_n ?_
  by_cases hb1 : (x1 - (x0.length : Int)) < 0
  · have h := (if_pos hb1).symm.trans h
    refine wp_if (b' := true) HF rfl (decide_eq_true hb1) ?_
    refine wp_seq ?_
    refine wc_text ?_
    refine wc_assign HF nS rfl rfl rfl (fun a HF => ?_)
    refine wc_end ?_
    refine then_n ?_
    refine wp_ret ?_
    obtain rfl := Option.some.inj h
    refine then_r (?_)
    refine bp_ret HF (res_one rfl HF rfl) ?_
    exact ⟨rfl, HT⟩
  · have h := (if_neg hb1).symm.trans h
    refine wp_if (b' := false) HF rfl (decide_eq_false hb1) ?_
    refine wp_skip ?_
    refine then_n ?_
    obtain ⟨q1, hx1, h⟩ := obs h
    refine wp_cut (fun a w => ∃ z1, q1 = .brk z1 ∧ Fr a 27 [(1, .int .i64 z1)] ∧ St w0 (fun _ => False) w []) ?_ ?_
    · have hk1 := h
      have h := hx1
      refine wp_seq ?_
      refine wc_text ?_
      refine wc_assign HF nS rfl rfl rfl (fun a HF => ?_)
      refine wc_end ?_
      refine then_n ?_
      refine wp_block ?_
      refine wp_loopN (fun k1 a w => ∃ z2 z3, m_laws_szKidS_L0 fuel x0 k1 z2 z3 = some q1 ∧ Fr a 27 [(0, .slice a_x0 x0.length c_x0), (1, .int .i64 z2), (5, .int .i64 z3)] ∧ St w0 (fun _ => False) w []) fuel ⟨x1 - (x0.length : Int), 0, h, (HF.keep (HF.keep (HF.keep HF.nil rfl) rfl) rfl), HT⟩ ?_
      rintro k1 a w ⟨z2, z3, h, HF, HT⟩
      cases k1 with
      | zero => cases h
      | succ k1 =>
        rw [m_laws_szKidS_L0] at h
        refine ?_
        refine wp_seq ?_
        refine wp_seq ?_
        refine wc_text ?_
        refine wc_move HF nS rfl rfl rfl (fun a HF => ?_)
        refine wc_move HF nS rfl rfl rfl (fun a HF => ?_)
        refine wc_lenR HF nS Try.underlying42 rfl rfl rfl (fun a HF => ?_)
        refine wc_bin HF nS rfl rfl b_lt rfl rfl (fun a HF => ?_)
        refine wc_end ?_
        refine then_n ?_
        by_cases hb2 : z3 < (x0.length : Int)
        · have h := (if_pos hb2).symm.trans h
          refine wp_if (b' := true) HF rfl (decide_eq_true hb2) ?_
          refine wp_skip ?_
          refine then_n ?_
          refine wp_seq ?_
          refine wp_block ?_
          refine wp_seq ?_
          refine wc_text ?_
          refine wc_move HF nS rfl rfl rfl (fun a HF => ?_)
          refine wc_move HF nS rfl rfl rfl (fun a HF => ?_)
          obtain ⟨e1, hx2, h⟩ := obs h
          obtain ⟨b1, o1, ha1⟩ := (HT.ro hr_x0).any.addr hx2
          refine wc_ixaddr HF nS el42 rfl ha1 ((HT.ro hr_x0).any).neq rfl hx2 rfl rfl (fun a HF => ?_)
          obtain ⟨_, hP1, hc1, hr1⟩ := hr_x0.elemAt ha1 hx2
          obtain ⟨a1, c1, rfl, hr2⟩ := cells_Kid hr1
          have hc2 := HT.roLd hP1 hc1
          refine wc_loadA (vs := [.slice a1 e1.code.length c1]) HF rfl ag95 rfl (hc2.part 0 1) rfl rfl (fun a HF => ?_)
          refine wc_move HF nS rfl rfl rfl (fun a HF => ?_)
          obtain ⟨y1, hx3, h⟩ := obs h
          refine wc_call HF cf85 rfl (w_laws_szKid fuel hx3 (HT.ro hr2).any) rfl rfl ?_
          rintro e w ⟨rfl, hE⟩
          have hb := hE.below
          have HT := HT.pure hE
          have HT : St w0 (fun _ => False) w [] := HT
          refine ⟨_, rfl, nS, fun a HF => ?_⟩
          refine wc_assign HF nS rfl rfl rfl (fun a HF => ?_)
          refine wc_end ?_
          refine then_n ?_
          refine wp_seq ?_
          refine wc_text ?_
          refine wc_move HF nS rfl rfl rfl (fun a HF => ?_)
          refine wc_bin HF nS rfl rfl b_lt rfl rfl (fun a HF => ?_)
          refine wc_end ?_
          refine then_n ?_
          by_cases hb3 : y1 < 0
          · have h := (if_pos hb3).symm.trans h
            refine wp_if (b' := true) HF rfl (decide_eq_true hb3) ?_
            refine wp_seq ?_
            refine wc_text ?_
            refine wc_assign HF nS rfl rfl rfl (fun a HF => ?_)
            refine wc_end ?_
            refine then_n ?_
            refine wp_ret ?_
            obtain rfl := Option.some.inj h
            have h := retL hk1
            obtain rfl := Option.some.inj h
            refine blk_r (then_r (then_r (blk_r (then_r (?_)))))
            refine bp_ret HF (res_one rfl HF rfl) ?_
            exact ⟨rfl, HT⟩
          · have h := (if_neg hb3).symm.trans h
            refine wp_if (b' := false) HF rfl (decide_eq_false hb3) ?_
            refine wp_skip ?_
            refine blk_n ?_
            refine then_n ?_
            refine wc_text ?_
            refine wc_move HF nS rfl rfl rfl (fun a HF => ?_)
            obtain ⟨hg2, h⟩ := grd h
            refine wc_bin HF nS rfl rfl (b_add hg2) rfl rfl (fun a HF => ?_)
            refine wc_assign HF nS rfl rfl rfl (fun a HF => ?_)
            refine wc_end ?_
            exact then_n ⟨k1, Nat.lt_succ_self k1, y1, z3 + 1, h, (HF.keep (HF.keep (HF.keep HF.nil rfl) rfl) rfl), HT⟩
        · have h := (if_neg hb2).symm.trans h
          refine wp_if (b' := false) HF rfl (decide_eq_false hb2) ?_
          refine wp_exit ?_
          refine then_x (then_x (?_))
          refine blk_x ?_
          exact then_n ⟨z2, (Option.some.inj h).symm, (HF.keep HF.nil rfl), HT⟩
    · rintro a w ⟨z1, rfl, HF, HT⟩
      have h := brkL1u h
      refine ?_
      refine wp_seq ?_
      refine wc_text ?_
      refine wc_move HF nS rfl rfl rfl (fun a HF => ?_)
      refine wc_assign HF nS rfl rfl rfl (fun a HF => ?_)
      refine wc_end ?_
      refine then_n ?_
      refine wp_ret ?_
      obtain rfl := Option.some.inj h
      refine bp_ret HF (res_one rfl HF rfl) ?_
      exact ⟨rfl, HT⟩

def m_laws_szProg (fuel : Nat) (x0_0 : List I4) (x0_1 : List KidD) (x1 : Int) : Option Int :=
  (m_laws_szOpS fuel x0_0 x1).bind fun y1 =>
  if y1 < 0 then
    some (-1)
  else
    (m_laws_szKidS fuel x0_1 y1).bind fun y2 =>
    if y2 < 0 then
      some (-1)
    else
      some y2

set_option maxRecDepth 100000 in
set_option maxHeartbeats 4000000 in
theorem w_laws_szProg (fuel : Nat) {x0_0 : List I4} {x0_1 : List KidD} {x1 : Int} {a_x0_0 : Option Addr} {n_x0_0 c_x0_0 : Nat} {a_x0_1 : Option Addr} {n_x0_1 c_x0_1 : Nat} {r0 : Int} {w0 : World} (h : m_laws_szProg fuel x0_0 x0_1 x1 = some r0) (hr_x0_0 : RdT (fun b => ¬ False) w0 (rowT x0_0) (.slice a_x0_0 n_x0_0 c_x0_0)) (hr_x0_1 : RdT (fun b => ¬ False) w0 (rowT x0_1) (.slice a_x0_1 n_x0_1 c_x0_1)) :
    Calls Try.prog 25 #[.agg #[.slice a_x0_0 n_x0_0 c_x0_0, .slice a_x0_1 n_x0_1 c_x0_1], .int .i64 x1] w0 fun e w => e = .returned (.int .i64 r0) ∧ St w0 (fun _ => False) w [] := by
  obtain rfl := hr_x0_0.neq
  obtain rfl := hr_x0_1.neq
  have HT : St w0 (fun _ => False) w0 [] := St.init0
  rw [m_laws_szProg] at h
  refine calls_fr (n := 18) [.agg #[.slice a_x0_0 x0_0.length c_x0_0, .slice a_x0_1 x0_1.length c_x0_1], .int .i64 x1] Try.func25 rfl rfl rfl (fun a HF => ?_)
  have HT : St w0 (fun _ => False) w0 [] := HT
  refine wp_seq ?_
  refine wc_text ?_
  refine wc_box (cs := [.slice a_x0_0 x0_0.length c_x0_0, .slice a_x0_1 x0_1.length c_x0_1]) HF HT rfl rfl rfl rfl (fun p1 w HT hb => ⟨nS, fun a HF => ?_⟩)
  refine wc_assign HF nS rfl rfl rfl (fun a HF => ?_)
  refine wc_end ?_
  refine then_n ?_
  refine wp_seq ?_
  refine wc_text ?_
  refine wc_faddr HF nS rfl fl44_0 rfl rfl (fun a HF => ?_)
  refine wc_load HF rfl sc32 ((HT.boxAt 0 rfl).get 0 rfl) rfl rfl (fun a HF => ?_)
  refine wc_move HF nS rfl rfl rfl (fun a HF => ?_)
  obtain ⟨y1, hx1, h⟩ := obs h
  refine wc_call HF cf16 rfl (w_laws_szOpS fuel hx1 (HT.ro hr_x0_0).any) rfl rfl ?_
  rintro e w ⟨rfl, hE⟩
  have hb := hE.below
  have HT := HT.pure hE
  have HT : St w0 (fun _ => False) w [Box p1 [.slice a_x0_0 x0_0.length c_x0_0, .slice a_x0_1 x0_1.length c_x0_1]] := HT
  refine ⟨_, rfl, nS, fun a HF => ?_⟩
  refine wc_assign HF nS rfl rfl rfl (fun a HF => ?_)
  refine wc_end ?_
  refine then_n ?_
  refine wp_seq ?_
  refine wp_seq ?_
  refine wc_text ?_
  refine wc_move HF nS rfl rfl rfl (fun a HF => ?_)
  refine wc_bin HF nS rfl rfl b_lt rfl rfl (fun a HF => ?_)
  refine wc_end ?_
  refine then_n ?_
  by_cases hb1 : y1 < 0
  · have h := (if_pos hb1).symm.trans h
    refine wp_if (b' := true) HF rfl (decide_eq_true hb1) ?_
    refine wp_seq ?_
    refine wc_text ?_
    refine wc_assign HF nS rfl rfl rfl (fun a HF => ?_)
    refine wc_end ?_
    refine then_n ?_
    refine wp_ret ?_
    obtain rfl := Option.some.inj h
    refine then_r (?_)
    refine bp_ret HF (res_one rfl HF rfl) ?_
    have HT : St w0 (fun _ => False) w [] := HT.take 0
    exact ⟨rfl, HT⟩
  · have h := (if_neg hb1).symm.trans h
    refine wp_if (b' := false) HF rfl (decide_eq_false hb1) ?_
    refine wp_skip ?_
    refine then_n ?_
    refine wp_seq ?_
    refine wc_text ?_
    refine wc_faddr HF nS rfl fl44_1 rfl rfl (fun a HF => ?_)
    refine wc_load HF rfl sc42 ((HT.boxAt 0 rfl).get 1 rfl) rfl rfl (fun a HF => ?_)
    refine wc_move HF nS rfl rfl rfl (fun a HF => ?_)
    obtain ⟨y2, hx2, h⟩ := obs h
    refine wc_call HF cf56 rfl (w_laws_szKidS fuel hx2 (HT.ro hr_x0_1).any) rfl rfl ?_
    rintro e w ⟨rfl, hE⟩
    have hb := hE.below
    have HT := HT.pure hE
    have HT : St w0 (fun _ => False) w [Box p1 [.slice a_x0_0 x0_0.length c_x0_0, .slice a_x0_1 x0_1.length c_x0_1]] := HT
    refine ⟨_, rfl, nS, fun a HF => ?_⟩
    refine wc_assign HF nS rfl rfl rfl (fun a HF => ?_)
    refine wc_end ?_
    refine then_n ?_
    refine wp_seq ?_
    refine wp_seq ?_
    refine wc_text ?_
    refine wc_move HF nS rfl rfl rfl (fun a HF => ?_)
    refine wc_bin HF nS rfl rfl b_lt rfl rfl (fun a HF => ?_)
    refine wc_end ?_
    refine then_n ?_
    by_cases hb2 : y2 < 0
    · have h := (if_pos hb2).symm.trans h
      refine wp_if (b' := true) HF rfl (decide_eq_true hb2) ?_
      refine wp_seq ?_
      refine wc_text ?_
      refine wc_assign HF nS rfl rfl rfl (fun a HF => ?_)
      refine wc_end ?_
      refine then_n ?_
      refine wp_ret ?_
      obtain rfl := Option.some.inj h
      refine then_r (?_)
      refine bp_ret HF (res_one rfl HF rfl) ?_
      have HT : St w0 (fun _ => False) w [] := HT.take 0
      exact ⟨rfl, HT⟩
    · have h := (if_neg hb2).symm.trans h
      refine wp_if (b' := false) HF rfl (decide_eq_false hb2) ?_
      refine wp_skip ?_
      refine then_n ?_
      refine wp_seq ?_
      refine wc_text ?_
      refine wc_move HF nS rfl rfl rfl (fun a HF => ?_)
      refine wc_assign HF nS rfl rfl rfl (fun a HF => ?_)
      refine wc_end ?_
      refine then_n ?_
      refine wp_ret ?_
      obtain rfl := Option.some.inj h
      refine bp_ret HF (res_one rfl HF rfl) ?_
      have HT : St w0 (fun _ => False) w [] := HT.take 0
      exact ⟨rfl, HT⟩

def m_laws_toKid (fuel : Nat) (x0_0 : List I4) : Option (List I4) :=
  (m_laws_toOpS fuel x0_0).bind fun y1 =>
  some y1

set_option maxRecDepth 100000 in
set_option maxHeartbeats 4000000 in
theorem w_laws_toKid (fuel : Nat) {x0_0 : List I4} {a_x0_0 : Option Addr} {n_x0_0 c_x0_0 : Nat} {r0_0 : List I4} {w0 : World} (h : m_laws_toKid fuel x0_0 = some r0_0) (hr_x0_0 : RdT (fun b => ¬ False) w0 (rowT x0_0) (.slice a_x0_0 n_x0_0 c_x0_0)) :
    Calls Try.prog 86 #[.agg #[.slice a_x0_0 n_x0_0 c_x0_0]] w0 fun e w => ∃ a_r0_0 n_r0_0 c_r0_0, e = .returned (.agg #[.slice a_r0_0 n_r0_0 c_r0_0]) ∧ St w0 (fun _ => False) w [Own 25 (rowT r0_0) (.slice a_r0_0 n_r0_0 c_r0_0)] := by
  obtain rfl := hr_x0_0.neq
  have HT : St w0 (fun _ => False) w0 [] := St.init0
  rw [m_laws_toKid] at h
  refine calls_fr (n := 9) [.agg #[.slice a_x0_0 x0_0.length c_x0_0]] Try.func86 rfl rfl rfl (fun a HF => ?_)
  have HT : St w0 (fun _ => False) w0 [] := HT
  refine wp_seq ?_
  refine wc_text ?_
  refine wc_box (cs := [.slice a_x0_0 x0_0.length c_x0_0]) HF HT rfl rfl rfl rfl (fun p1 w HT hb => ⟨nS, fun a HF => ?_⟩)
  refine wc_alloc (cs := [.slice none 0 0]) HF HT zr77 rfl rfl rfl (fun p2 w HT hb => ⟨nS, fun a HF => ?_⟩)
  refine wc_end ?_
  refine then_n ?_
  refine wp_seq ?_
  refine wc_text ?_
  refine wc_alloc (cs := [.slice none 0 0]) HF HT zr77 rfl rfl rfl (fun p3 w HT hb => ⟨nS, fun a HF => ?_⟩)
  refine wc_end ?_
  refine then_n ?_
  refine wp_seq ?_
  refine wc_text ?_
  refine wc_faddr HF nS rfl fl95_0 rfl rfl (fun a HF => ?_)
  refine wc_load HF rfl sc32 ((HT.boxAt 2 rfl).get 0 rfl) rfl rfl (fun a HF => ?_)
  obtain ⟨y1, hx1, h⟩ := obs h
  refine wc_call HF cf18 rfl (w_laws_toOpS fuel hx1 (HT.ro hr_x0_0).any) rfl rfl ?_
  rintro e w ⟨a1, n1, c1, rfl, hE⟩
  have hb := hE.below
  have HT := HT.pure hE
  obtain rfl := (HT.rdAt 0 rfl).neq
  have HT : St w0 (fun _ => False) w [Own 25 (rowT y1) (.slice a1 y1.length c1), Box p3 [.slice none 0 0], Box p2 [.slice none 0 0], Box p1 [.slice a_x0_0 x0_0.length c_x0_0]] := HT
  refine ⟨_, rfl, nS, fun a HF => ?_⟩
  refine wc_faddr HF nS rfl fl77_0 rfl rfl (fun a HF => ?_)
  have HT : St w0 (fun _ => False) w [Box p3 [.slice none 0 0], Own 25 (rowT y1) (.slice a1 y1.length c1), Box p2 [.slice none 0 0], Box p1 [.slice a_x0_0 x0_0.length c_x0_0]] := HT.pick 1
  refine wc_storeB (cs' := [.slice a1 y1.length c1]) HF HT rfl rfl (fun w => (sc35 w).2) rfl rfl rfl rfl rfl (fun w HT => ⟨nS, ?_⟩)
  refine wc_end ?_
  refine then_n ?_
  refine wp_seq ?_
  refine wc_text ?_
  refine wc_loadA (vs := [.slice a1 y1.length c1]) HF rfl ag77 rfl ((HT.boxAt 0 rfl).part 0 1) rfl rfl (fun a HF => ?_)
  have HT : St w0 (fun _ => False) w [Box p2 [.slice none 0 0], Box p3 [.slice a1 y1.length c1], Own 25 (rowT y1) (.slice a1 y1.length c1), Box p1 [.slice a_x0_0 x0_0.length c_x0_0]] := HT.pick 2
  refine wc_storeB (cs' := [.slice a1 y1.length c1]) HF HT rfl rfl (fun w => (ag77 w).2) rfl rfl rfl rfl rfl (fun w HT => ⟨nS, ?_⟩)
  refine wc_end ?_
  refine then_n ?_
  refine wp_ret ?_
  obtain rfl := Option.some.inj h
  refine bp_ret HF (res_cell (vs := [.slice a1 y1.length c1]) rfl HF rfl ag77 rfl (HT.boxAt 0 rfl)) ?_
  have HT : St w0 (fun _ => False) w [Own 25 (rowT y1) (.slice a1 y1.length c1), Box p2 [.slice a1 y1.length c1], Box p3 [.slice a1 y1.length c1], Box p1 [.slice a_x0_0 x0_0.length c_x0_0]] := HT.pick 2
  have HT : St w0 (fun _ => False) w [Own 25 (rowT y1) (.slice a1 y1.length c1)] := HT.take 1
  exact ⟨a1, y1.length, c1, rfl, HT⟩
end Go.Proofs.Ytpbfppelmgjfpaa
