/- Walks of functions, by program: laws.FnNumbers. -/
import Derived.Test.YtikfmmfifhnbjaaTy
import Derived.Test.YtikfmmfifhnbjaaX1
namespace Go.Proofs.Ytikfmmfifhnbjaa
open Go Go.RowKit
set_option linter.unusedVariables false
set_option linter.unusedSimpArgs false
def m_laws_FnNumbers (fuel : Nat) (x0 : List UInt8) : Option Bool :=
  (m_laws_big fuel x0).bind fun y1 =>
  if y1 = true then
    some true
  else
  (m_spec_DrawVar fuel x0).bind fun y2 =>
  (m_spec_DrawHex fuel x0).bind fun y3 =>
  (m_impl_Var fuel y2).bind fun y4 =>
  if ((y4.length + y3.length : Nat) : Int) ≤ 9223372036854775807 then
    bind2 (m_impl_ReadVar fuel (y4 ++ y3)) fun y5 y6 =>
    (
      (
        if 0 ≤ y2 then
          if ((!(decide (y4 = []))) == (decide (y2 ≤ 562949953421311))) = true then
            if y4 = [] then
              some false
            else
            if y5 = y2 then
              some (!(decide (y6 = (y4.length : Int))))
            else
            some true
          else
          some true
        else
        if ((!(decide (y4 = []))) == false) = true then
          if y4 = [] then
            some false
          else
          if y5 = y2 then
            some (!(decide (y6 = (y4.length : Int))))
          else
          some true
        else
        some true).bind fun z1 =>
      if z1 = true then
        some (.ret false)
      else
      some (.brk ())).bind <| contL <| un1 fun _ =>
    (m_impl_Fixed fuel y2 7).bind fun y7 =>
    if ((y7.length + y3.length : Nat) : Int) ≤ 9223372036854775807 then
      bind2 (m_impl_ReadFixed fuel (y7 ++ y3) 7) fun y8 y9 =>
      (
        (
          if y7 = [] then
            if y2 < 0 then
              some (!(((decide (y7 = [])) == true)))
            else
            some (!(((decide (y7 = [])) == (decide (72057594037927936 ≤ y2)))))
          else
          if y9 = true then
            if y8 = y2 then
              if (y7.length : Int) = 7 then
                if y2 < 0 then
                  some (!(((decide (y7 = [])) == true)))
                else
                some (!(((decide (y7 = [])) == (decide (72057594037927936 ≤ y2)))))
              else
              some true
            else
            some true
          else
          some true).bind fun z2 =>
        if z2 = true then
          some (.ret false)
        else
        some (.brk ())).bind <| contL <| un1 fun _ =>
      (m_impl_Dec fuel y2).bind fun y10 =>
      bind2 (m_impl_ReadDec fuel y10) fun y11 y12 =>
      (
        (
          if (-1000000000) < y2 then
            if (y12 == (decide (y2 < 1000000000))) = true then
              if y12 = true then
                some (!(decide (y11 = y2)))
              else
              some false
            else
            some true
          else
          if (y12 == false) = true then
            if y12 = true then
              some (!(decide (y11 = y2)))
            else
            some false
          else
          some true).bind fun z3 =>
        if z3 = true then
          some (.ret false)
        else
        some (.brk ())).bind <| contL <| un1 fun _ =>
      (m_impl_Hex fuel y3).bind fun y13 =>
      bind2 (m_impl_Unhex fuel y13) fun y14 y15 =>
      (m_spec_DrawReadVar fuel x0).bind fun y16 =>
      bind2 (m_impl_ReadVar fuel y16) fun y17 y18 =>
      (
        if y15 = true then
          if y14 = y3 then
            if y18 = 0 then
              some true
            else
            if 0 < y18 then
              (m_spec_DrawReadVar fuel x0).bind fun y19 =>
              if y18 ≤ (y19.length : Int) then
                (m_impl_Var fuel y17).bind fun y20 =>
                (m_spec_DrawReadVar fuel x0).bind fun y21 =>
                if 0 ≤ (0 : Int) ∧ (0 : Int) ≤ y18 ∧ y18 ≤ (y21.length : Int) then
                  some (decide (y20 = (sub y21 0 y18)))
                else none
              else
              some false
            else
            some false
          else
          some false
        else
        some false).bind fun z4 =>
      some z4
    else none
  else none

set_option maxRecDepth 100000 in
set_option maxHeartbeats 4000000 in
theorem w_laws_FnNumbers (fuel : Nat) {x0 : List UInt8} {a_x0 : Option Addr} {n_x0 c_x0 : Nat} {r0 : Bool} {w0 : World} (h : m_laws_FnNumbers fuel x0 = some r0) (hr_x0 : RdT (fun b => ¬ False) w0 (rowT x0) (.slice a_x0 n_x0 c_x0)) :
    Calls Try.prog 3 #[.slice a_x0 n_x0 c_x0] w0 fun e w => e = .returned (.bool r0) ∧ St w0 (fun _ => False) w [] := by
  obtain rfl := hr_x0.neq
  have HT : St w0 (fun _ => False) w0 [] := St.init0
  rw [m_laws_FnNumbers] at h
  refine calls_fr (n := 156) [.slice a_x0 x0.length c_x0] Try.func3 rfl rfl rfl (fun a HF => ?_)
  have HT : St w0 (fun _ => False) w0 [] := HT
  refine wp_seq ?_
  refine wc_text ?_
  refine wc_assign HF nS rfl rfl rfl (fun a HF => ?_)
  refine wc_end ?_
  refine then_n ?_
  refine wp_seq ?_
  refine wp_seq ?_
  refine wc_text ?_
  refine wc_move HF nS rfl rfl rfl (fun a HF => ?_)
  obtain ⟨y1, hx1, h⟩ := obs h
  refine wc_call HF cf5 rfl (w_laws_big fuel hx1 (HT.ro hr_x0).any) rfl rfl ?_
  rintro e w ⟨rfl, hE⟩
  have hb := hE.below
  have HT := HT.pure hE
  have HT : St w0 (fun _ => False) w [] := HT
  refine ⟨_, rfl, nS, fun a HF => ?_⟩
  refine wc_end ?_
  refine then_n ?_
  by_cases hb1 : y1 = true
  · have h := (if_pos hb1).symm.trans h
    refine wp_if (b' := true) HF rfl hb1 ?_
    refine wp_seq ?_
    refine wc_text ?_
    refine wc_assign HF nS rfl rfl rfl (fun a HF => ?_)
    refine wc_end ?_
    refine then_n ?_
    refine wp_ret ?_
    obtain rfl := Option.some.inj h
    refine then_r (?_)
    refine bp_ret HF (res_one rfl HF rfl) ?_
    exact ⟨rfl, HT⟩
  have h := (if_neg hb1).symm.trans h
  refine wp_if (b' := false) HF rfl (Bool.eq_false_iff.2 hb1) ?_
  refine wp_skip ?_
  refine then_n ?_
  refine wp_seq ?_
  refine wc_text ?_
  refine wc_move HF nS rfl rfl rfl (fun a HF => ?_)
  obtain ⟨y2, hx2, h⟩ := obs h
  refine wc_call HF cf6 rfl (w_spec_DrawVar fuel hx2 (HT.ro hr_x0).any) rfl rfl ?_
  rintro e w ⟨rfl, hE⟩
  have hb := hE.below
  have HT := HT.pure hE
  have HT : St w0 (fun _ => False) w [] := HT
  refine ⟨_, rfl, nS, fun a HF => ?_⟩
  refine wc_assign HF nS rfl rfl rfl (fun a HF => ?_)
  refine wc_end ?_
  refine then_n ?_
  refine wp_seq ?_
  refine wc_text ?_
  refine wc_move HF nS rfl rfl rfl (fun a HF => ?_)
  obtain ⟨y3, hx3, h⟩ := obs h
  refine wc_call HF cf7 rfl (w_spec_DrawHex fuel hx3 (HT.ro hr_x0).any) rfl rfl ?_
  rintro e w ⟨rfl, hE⟩
  have hb := hE.below
  have HT := HT.pure hE
  have HT : St w0 (fun _ => False) w [] := HT
  refine ⟨_, rfl, nS, fun a HF => ?_⟩
  refine wc_assign HF nS rfl rfl rfl (fun a HF => ?_)
  refine wc_end ?_
  refine then_n ?_
  refine wp_seq ?_
  refine wc_text ?_
  refine wc_move HF nS rfl rfl rfl (fun a HF => ?_)
  obtain ⟨y4, hx4, h⟩ := obs h
  refine wc_call HF cf8 rfl (w_impl_Var fuel hx4) rfl rfl ?_
  rintro e w ⟨rfl, hE⟩
  have hb := hE.below
  have HT := HT.pure hE
  have HT : St w0 (fun _ => False) w [] := HT
  refine ⟨_, rfl, nS, fun a HF => ?_⟩
  refine wc_assign HF nS rfl rfl rfl (fun a HF => ?_)
  refine wc_end ?_
  refine then_n ?_
  refine wp_seq ?_
  refine wc_text ?_
  refine wc_move HF nS rfl rfl rfl (fun a HF => ?_)
  refine wc_move HF nS rfl rfl rfl (fun a HF => ?_)
  obtain ⟨hg1, h⟩ := grd h
  refine wc_bin HF nS rfl rfl (b_cat hg1) rfl rfl (fun a HF => ?_)
  obtain ⟨y5, y6, hx5, h⟩ := obs2 h
  refine wc_call HF cf9 rfl (w_impl_ReadVar fuel hx5) rfl rfl ?_
  rintro e w ⟨rfl, hE⟩
  have hb := hE.below
  have HT := HT.pure hE
  have HT : St w0 (fun _ => False) w [] := HT
  refine ⟨_, rfl, nS, fun a HF => ?_⟩
  refine wc_move HF nS rfl rfl rfl (fun a HF => ?_)
  refine wc_extract (v := .int .i64 y5) HF nS rfl rfl rfl rfl (fun a HF => ?_)
  refine wc_extract (v := .int .i64 y6) HF nS rfl rfl rfl rfl (fun a HF => ?_)
  refine wc_assign HF nS rfl rfl rfl (fun a HF => ?_)
  refine wc_assign HF nS rfl rfl rfl (fun a HF => ?_)
  refine wc_end ?_
  refine then_n ?_
  obtain ⟨q1, hx6, h⟩ := obs h
  refine wp_cut (fun a w => q1 = .brk () ∧ Fr a 156 [(0, .slice a_x0 x0.length c_x0), (3, .int .i64 y2), (4, sv y3)] ∧ St w0 (fun _ => False) w []) ?_ ?_
  · have hk1 := h
    have h := hx6
    obtain ⟨z1, hx7, h⟩ := obs h
    refine wp_cut (fun a w => Fr a 156 [(0, .slice a_x0 x0.length c_x0), (3, .int .i64 y2), (4, sv y3), (55, .bool z1)] ∧ St w0 (fun _ => False) w []) ?_ ?_
    · have hk2 := h
      have h := hx7
      refine wc_text ?_
      refine wc_move HF nS rfl rfl rfl (fun a HF => ?_)
      refine wc_bin HF nS rfl rfl b_sne rfl rfl (fun a HF => ?_)
      refine wc_move HF nS rfl rfl rfl (fun a HF => ?_)
      refine wc_bin HF nS rfl rfl b_ge rfl rfl (fun a HF => ?_)
      refine wc_move HF nS rfl rfl rfl (fun a HF => ?_)
      by_cases hb2 : 0 ≤ y2
      · have h := (if_pos hb2).symm.trans h
        refine wc_move HF nS rfl (HF.wy rfl rfl rfl rfl (decide_eq_true hb2)) rfl (fun a HF => ?_)
        refine wc_bin HF nS rfl rfl b_le (HF.wy rfl rfl rfl rfl (decide_eq_true hb2)) rfl (fun a HF => ?_)
        refine wc_pick (b := true) HF nS rfl (decide_eq_true hb2) rfl rfl rfl (fun a HF => ?_)
        refine wc_bin HF nS rfl rfl (b_bne Try.underlying4) rfl rfl (fun a HF => ?_)
        refine wc_move HF nS rfl rfl rfl (fun a HF => ?_)
        by_cases hb3 : ((!(decide (y4 = []))) == (decide (y2 ≤ 562949953421311))) = true
        · have h := (if_pos hb3).symm.trans h
          refine wc_move HF nS rfl (HF.wy rfl rfl rfl rfl (notT hb3)) rfl (fun a HF => ?_)
          refine wc_bin HF nS rfl rfl b_sne (HF.wy rfl rfl rfl rfl (notT hb3)) rfl (fun a HF => ?_)
          refine wc_move HF nS rfl (HF.wy rfl rfl rfl rfl (notT hb3)) rfl (fun a HF => ?_)
          by_cases hb4 : y4 = []
          · have h := (if_pos hb4).symm.trans h
            refine wc_skip HF nS (HF.wn rfl rfl rfl rfl (notT (decide_eq_true hb4))) rfl (fun a HF => ?_)
            refine wc_skip HF nS (HF.wn rfl rfl rfl rfl (notT (decide_eq_true hb4))) rfl (fun a HF => ?_)
            refine wc_skip HF nS (HF.wn rfl rfl rfl rfl (notT (decide_eq_true hb4))) rfl (fun a HF => ?_)
            refine wc_skip HF nS (HF.wn rfl rfl rfl rfl (notT (decide_eq_true hb4))) rfl (fun a HF => ?_)
            refine wc_skip HF nS (HF.unwanted rfl rfl rfl rfl) rfl (fun a HF => ?_)
            refine wc_skip HF nS (HF.unwanted rfl rfl rfl rfl) rfl (fun a HF => ?_)
            refine wc_skip HF nS (HF.unwanted rfl rfl rfl rfl) rfl (fun a HF => ?_)
            refine wc_skip HF nS (HF.unwanted rfl rfl rfl rfl) rfl (fun a HF => ?_)
            refine wc_skip HF nS (HF.wn rfl rfl rfl rfl (notT (decide_eq_true hb4))) rfl (fun a HF => ?_)
            refine wc_pick (b := false) HF nS rfl (notT (decide_eq_true hb4)) rfl (HF.wy rfl rfl rfl rfl (notT hb3)) rfl (fun a HF => ?_)
            refine wc_pick (b := false) HF nS rfl (notT hb3) rfl rfl rfl (fun a HF => ?_)
            refine wc_end ?_
            obtain rfl := Option.some.inj h
            exact then_n ⟨(HF.keep (HF.keep (HF.keep (HF.keep HF.nil rfl) rfl) rfl) rfl), HT⟩
          have h := (if_neg hb4).symm.trans h
          refine wc_move HF nS rfl (HF.wy rfl rfl rfl rfl (notF (decide_eq_false hb4))) rfl (fun a HF => ?_)
          refine wc_move HF nS rfl (HF.wy rfl rfl rfl rfl (notF (decide_eq_false hb4))) rfl (fun a HF => ?_)
          refine wc_bin HF nS rfl rfl b_ne (HF.wy rfl rfl rfl rfl (notF (decide_eq_false hb4))) rfl (fun a HF => ?_)
          refine wc_move HF nS rfl (HF.wy rfl rfl rfl rfl (notF (decide_eq_false hb4))) rfl (fun a HF => ?_)
          by_cases hb5 : y5 = y2
          · have h := (if_pos hb5).symm.trans h
            refine wc_move HF nS rfl (HF.wy rfl rfl rfl rfl (notT (decide_eq_true hb5))) rfl (fun a HF => ?_)
            refine wc_move HF nS rfl (HF.wy rfl rfl rfl rfl (notT (decide_eq_true hb5))) rfl (fun a HF => ?_)
            refine wc_lenS (ats := #[]) HF nS Try.underlying9 rfl (HF.wy rfl rfl rfl rfl (notT (decide_eq_true hb5))) rfl (fun a HF => ?_)
            refine wc_bin HF nS rfl rfl b_ne (HF.wy rfl rfl rfl rfl (notT (decide_eq_true hb5))) rfl (fun a HF => ?_)
            refine wc_pick (b := false) HF nS rfl (notT (decide_eq_true hb5)) rfl (HF.wy rfl rfl rfl rfl (notF (decide_eq_false hb4))) rfl (fun a HF => ?_)
            refine wc_pick (b := true) HF nS rfl (notF (decide_eq_false hb4)) rfl (HF.wy rfl rfl rfl rfl (notT hb3)) rfl (fun a HF => ?_)
            refine wc_pick (b := false) HF nS rfl (notT hb3) rfl rfl rfl (fun a HF => ?_)
            refine wc_end ?_
            obtain rfl := Option.some.inj h
            exact then_n ⟨(HF.keep (HF.keep (HF.keep (HF.keep HF.nil rfl) rfl) rfl) rfl), HT⟩
          have h := (if_neg hb5).symm.trans h
          refine wc_skip HF nS (HF.wn rfl rfl rfl rfl (notF (decide_eq_false hb5))) rfl (fun a HF => ?_)
          refine wc_skip HF nS (HF.wn rfl rfl rfl rfl (notF (decide_eq_false hb5))) rfl (fun a HF => ?_)
          refine wc_skip HF nS (HF.wn rfl rfl rfl rfl (notF (decide_eq_false hb5))) rfl (fun a HF => ?_)
          refine wc_skip HF nS (HF.wn rfl rfl rfl rfl (notF (decide_eq_false hb5))) rfl (fun a HF => ?_)
          refine wc_pick (b := true) HF nS rfl (notF (decide_eq_false hb5)) rfl (HF.wy rfl rfl rfl rfl (notF (decide_eq_false hb4))) rfl (fun a HF => ?_)
          refine wc_pick (b := true) HF nS rfl (notF (decide_eq_false hb4)) rfl (HF.wy rfl rfl rfl rfl (notT hb3)) rfl (fun a HF => ?_)
          refine wc_pick (b := false) HF nS rfl (notT hb3) rfl rfl rfl (fun a HF => ?_)
          refine wc_end ?_
          obtain rfl := Option.some.inj h
          exact then_n ⟨(HF.keep (HF.keep (HF.keep (HF.keep HF.nil rfl) rfl) rfl) rfl), HT⟩
        have h := (if_neg hb3).symm.trans h
        refine wc_skip HF nS (HF.wn rfl rfl rfl rfl (notF (Bool.eq_false_iff.2 hb3))) rfl (fun a HF => ?_)
        refine wc_skip HF nS (HF.wn rfl rfl rfl rfl (notF (Bool.eq_false_iff.2 hb3))) rfl (fun a HF => ?_)
        refine wc_skip HF nS (HF.wn rfl rfl rfl rfl (notF (Bool.eq_false_iff.2 hb3))) rfl (fun a HF => ?_)
        refine wc_skip HF nS (HF.unwanted rfl rfl rfl rfl) rfl (fun a HF => ?_)
        refine wc_skip HF nS (HF.unwanted rfl rfl rfl rfl) rfl (fun a HF => ?_)
        refine wc_skip HF nS (HF.unwanted rfl rfl rfl rfl) rfl (fun a HF => ?_)
        refine wc_skip HF nS (HF.unwanted rfl rfl rfl rfl) rfl (fun a HF => ?_)
        refine wc_skip HF nS (HF.unwanted rfl rfl rfl rfl) rfl (fun a HF => ?_)
        refine wc_skip HF nS (HF.unwanted rfl rfl rfl rfl) rfl (fun a HF => ?_)
        refine wc_skip HF nS (HF.unwanted rfl rfl rfl rfl) rfl (fun a HF => ?_)
        refine wc_skip HF nS (HF.unwanted rfl rfl rfl rfl) rfl (fun a HF => ?_)
        refine wc_skip HF nS (HF.unwanted rfl rfl rfl rfl) rfl (fun a HF => ?_)
        refine wc_skip HF nS (HF.wn rfl rfl rfl rfl (notF (Bool.eq_false_iff.2 hb3))) rfl (fun a HF => ?_)
        refine wc_pick (b := true) HF nS rfl (notF (Bool.eq_false_iff.2 hb3)) rfl rfl rfl (fun a HF => ?_)
        refine wc_end ?_
        obtain rfl := Option.some.inj h
        exact then_n ⟨(HF.keep (HF.keep (HF.keep (HF.keep HF.nil rfl) rfl) rfl) rfl), HT⟩
      have h := (if_neg hb2).symm.trans h
      refine wc_skip HF nS (HF.wn rfl rfl rfl rfl (decide_eq_false hb2)) rfl (fun a HF => ?_)
      refine wc_skip HF nS (HF.wn rfl rfl rfl rfl (decide_eq_false hb2)) rfl (fun a HF => ?_)
      refine wc_pick (b := false) HF nS rfl (decide_eq_false hb2) rfl rfl rfl (fun a HF => ?_)
      refine wc_bin HF nS rfl rfl (b_bne Try.underlying4) rfl rfl (fun a HF => ?_)
      refine wc_move HF nS rfl rfl rfl (fun a HF => ?_)
      by_cases hb6 : ((!(decide (y4 = []))) == false) = true
      · have h := (if_pos hb6).symm.trans h
        refine wc_move HF nS rfl (HF.wy rfl rfl rfl rfl (notT hb6)) rfl (fun a HF => ?_)
        refine wc_bin HF nS rfl rfl b_sne (HF.wy rfl rfl rfl rfl (notT hb6)) rfl (fun a HF => ?_)
        refine wc_move HF nS rfl (HF.wy rfl rfl rfl rfl (notT hb6)) rfl (fun a HF => ?_)
        by_cases hb7 : y4 = []
        · have h := (if_pos hb7).symm.trans h
          refine wc_skip HF nS (HF.wn rfl rfl rfl rfl (notT (decide_eq_true hb7))) rfl (fun a HF => ?_)
          refine wc_skip HF nS (HF.wn rfl rfl rfl rfl (notT (decide_eq_true hb7))) rfl (fun a HF => ?_)
          refine wc_skip HF nS (HF.wn rfl rfl rfl rfl (notT (decide_eq_true hb7))) rfl (fun a HF => ?_)
          refine wc_skip HF nS (HF.wn rfl rfl rfl rfl (notT (decide_eq_true hb7))) rfl (fun a HF => ?_)
          refine wc_skip HF nS (HF.unwanted rfl rfl rfl rfl) rfl (fun a HF => ?_)
          refine wc_skip HF nS (HF.unwanted rfl rfl rfl rfl) rfl (fun a HF => ?_)
          refine wc_skip HF nS (HF.unwanted rfl rfl rfl rfl) rfl (fun a HF => ?_)
          refine wc_skip HF nS (HF.unwanted rfl rfl rfl rfl) rfl (fun a HF => ?_)
          refine wc_skip HF nS (HF.wn rfl rfl rfl rfl (notT (decide_eq_true hb7))) rfl (fun a HF => ?_)
          refine wc_pick (b := false) HF nS rfl (notT (decide_eq_true hb7)) rfl (HF.wy rfl rfl rfl rfl (notT hb6)) rfl (fun a HF => ?_)
          refine wc_pick (b := false) HF nS rfl (notT hb6) rfl rfl rfl (fun a HF => ?_)
          refine wc_end ?_
          obtain rfl := Option.some.inj h
          exact then_n ⟨(HF.keep (HF.keep (HF.keep (HF.keep HF.nil rfl) rfl) rfl) rfl), HT⟩
        have h := (if_neg hb7).symm.trans h
        refine wc_move HF nS rfl (HF.wy rfl rfl rfl rfl (notF (decide_eq_false hb7))) rfl (fun a HF => ?_)
        refine wc_move HF nS rfl (HF.wy rfl rfl rfl rfl (notF (decide_eq_false hb7))) rfl (fun a HF => ?_)
        refine wc_bin HF nS rfl rfl b_ne (HF.wy rfl rfl rfl rfl (notF (decide_eq_false hb7))) rfl (fun a HF => ?_)
        refine wc_move HF nS rfl (HF.wy rfl rfl rfl rfl (notF (decide_eq_false hb7))) rfl (fun a HF => ?_)
        by_cases hb8 : y5 = y2
        · have h := (if_pos hb8).symm.trans h
          refine wc_move HF nS rfl (HF.wy rfl rfl rfl rfl (notT (decide_eq_true hb8))) rfl (fun a HF => ?_)
          refine wc_move HF nS rfl (HF.wy rfl rfl rfl rfl (notT (decide_eq_true hb8))) rfl (fun a HF => ?_)
          refine wc_lenS (ats := #[]) HF nS Try.underlying9 rfl (HF.wy rfl rfl rfl rfl (notT (decide_eq_true hb8))) rfl (fun a HF => ?_)
          refine wc_bin HF nS rfl rfl b_ne (HF.wy rfl rfl rfl rfl (notT (decide_eq_true hb8))) rfl (fun a HF => ?_)
          refine wc_pick (b := false) HF nS rfl (notT (decide_eq_true hb8)) rfl (HF.wy rfl rfl rfl rfl (notF (decide_eq_false hb7))) rfl (fun a HF => ?_)
          refine wc_pick (b := true) HF nS rfl (notF (decide_eq_false hb7)) rfl (HF.wy rfl rfl rfl rfl (notT hb6)) rfl (fun a HF => ?_)
          refine wc_pick (b := false) HF nS rfl (notT hb6) rfl rfl rfl (fun a HF => ?_)
          refine wc_end ?_
          obtain rfl := Option.some.inj h
          exact then_n ⟨(HF.keep (HF.keep (HF.keep (HF.keep HF.nil rfl) rfl) rfl) rfl), HT⟩
        have h := (if_neg hb8).symm.trans h
        refine wc_skip HF nS (HF.wn rfl rfl rfl rfl (notF (decide_eq_false hb8))) rfl (fun a HF => ?_)
        refine wc_skip HF nS (HF.wn rfl rfl rfl rfl (notF (decide_eq_false hb8))) rfl (fun a HF => ?_)
        refine wc_skip HF nS (HF.wn rfl rfl rfl rfl (notF (decide_eq_false hb8))) rfl (fun a HF => ?_)
        refine wc_skip HF nS (HF.wn rfl rfl rfl rfl (notF (decide_eq_false hb8))) rfl (fun a HF => ?_)
        refine wc_pick (b := true) HF nS rfl (notF (decide_eq_false hb8)) rfl (HF.wy rfl rfl rfl rfl (notF (decide_eq_false hb7))) rfl (fun a HF => ?_)
        refine wc_pick (b := true) HF nS rfl (notF (decide_eq_false hb7)) rfl (HF.wy rfl rfl rfl rfl (notT hb6)) rfl (fun a HF => ?_)
        refine wc_pick (b := false) HF nS rfl (notT hb6) rfl rfl rfl (fun a HF => ?_)
        refine wc_end ?_
        obtain rfl := Option.some.inj h
        exact then_n ⟨(HF.keep (HF.keep (HF.keep (HF.keep HF.nil rfl) rfl) rfl) rfl), HT⟩
      have h := (if_neg hb6).symm.trans h
      refine wc_skip HF nS (HF.wn rfl rfl rfl rfl (notF (Bool.eq_false_iff.2 hb6))) rfl (fun a HF => ?_)
      refine wc_skip HF nS (HF.wn rfl rfl rfl rfl (notF (Bool.eq_false_iff.2 hb6))) rfl (fun a HF => ?_)
      refine wc_skip HF nS (HF.wn rfl rfl rfl rfl (notF (Bool.eq_false_iff.2 hb6))) rfl (fun a HF => ?_)
      refine wc_skip HF nS (HF.unwanted rfl rfl rfl rfl) rfl (fun a HF => ?_)
      refine wc_skip HF nS (HF.unwanted rfl rfl rfl rfl) rfl (fun a HF => ?_)
      refine wc_skip HF nS (HF.unwanted rfl rfl rfl rfl) rfl (fun a HF => ?_)
      refine wc_skip HF nS (HF.unwanted rfl rfl rfl rfl) rfl (fun a HF => ?_)
      refine wc_skip HF nS (HF.unwanted rfl rfl rfl rfl) rfl (fun a HF => ?_)
      refine wc_skip HF nS (HF.unwanted rfl rfl rfl rfl) rfl (fun a HF => ?_)
      refine wc_skip HF nS (HF.unwanted rfl rfl rfl rfl) rfl (fun a HF => ?_)
      refine wc_skip HF nS (HF.unwanted rfl rfl rfl rfl) rfl (fun a HF => ?_)
      refine wc_skip HF nS (HF.unwanted rfl rfl rfl rfl) rfl (fun a HF => ?_)
      refine wc_skip HF nS (HF.wn rfl rfl rfl rfl (notF (Bool.eq_false_iff.2 hb6))) rfl (fun a HF => ?_)
      refine wc_pick (b := true) HF nS rfl (notF (Bool.eq_false_iff.2 hb6)) rfl rfl rfl (fun a HF => ?_)
      refine wc_end ?_
      obtain rfl := Option.some.inj h
      exact then_n ⟨(HF.keep (HF.keep (HF.keep (HF.keep HF.nil rfl) rfl) rfl) rfl), HT⟩
    rintro a w ⟨HF, HT⟩
    refine ?_
    by_cases hb9 : z1 = true
    · have h := (if_pos hb9).symm.trans h
      refine wp_if (b' := true) HF rfl hb9 ?_
      refine wp_seq ?_
      refine wc_text ?_
      refine wc_assign HF nS rfl rfl rfl (fun a HF => ?_)
      refine wc_end ?_
      refine then_n ?_
      refine wp_ret ?_
      obtain rfl := Option.some.inj h
      have h := retL hk1
      obtain rfl := Option.some.inj h
      refine then_r (?_)
      refine bp_ret HF (res_one rfl HF rfl) ?_
      exact ⟨rfl, HT⟩
    have h := (if_neg hb9).symm.trans h
    refine wp_if (b' := false) HF rfl (Bool.eq_false_iff.2 hb9) ?_
    refine wp_skip ?_
    exact then_n ⟨(Option.some.inj h).symm, (HF.keep (HF.keep (HF.keep HF.nil rfl) rfl) rfl), HT⟩
  rintro a w ⟨rfl, HF, HT⟩
  have h := brkL1u h
  refine ?_
  refine wp_seq ?_
  refine wc_text ?_
  refine wc_move HF nS rfl rfl rfl (fun a HF => ?_)
  obtain ⟨y7, hx8, h⟩ := obs h
  refine wc_call HF cf10 rfl (w_impl_Fixed fuel hx8) rfl rfl ?_
  rintro e w ⟨rfl, hE⟩
  have hb := hE.below
  have HT := HT.pure hE
  have HT : St w0 (fun _ => False) w [] := HT
  refine ⟨_, rfl, nS, fun a HF => ?_⟩
  refine wc_assign HF nS rfl rfl rfl (fun a HF => ?_)
  refine wc_end ?_
  refine then_n ?_
  refine wp_seq ?_
  refine wc_text ?_
  refine wc_move HF nS rfl rfl rfl (fun a HF => ?_)
  refine wc_move HF nS rfl rfl rfl (fun a HF => ?_)
  obtain ⟨hg2, h⟩ := grd h
  refine wc_bin HF nS rfl rfl (b_cat hg2) rfl rfl (fun a HF => ?_)
  obtain ⟨y8, y9, hx9, h⟩ := obs2 h
  refine wc_call HF cf11 rfl (w_impl_ReadFixed fuel hx9) rfl rfl ?_
  rintro e w ⟨rfl, hE⟩
  have hb := hE.below
  have HT := HT.pure hE
  have HT : St w0 (fun _ => False) w [] := HT
  refine ⟨_, rfl, nS, fun a HF => ?_⟩
  refine wc_move HF nS rfl rfl rfl (fun a HF => ?_)
  refine wc_extract (v := .int .i64 y8) HF nS rfl rfl rfl rfl (fun a HF => ?_)
  refine wc_extract (v := .bool y9) HF nS rfl rfl rfl rfl (fun a HF => ?_)
  refine wc_assign HF nS rfl rfl rfl (fun a HF => ?_)
  refine wc_assign HF nS rfl rfl rfl (fun a HF => ?_)
  refine wc_end ?_
  refine then_n ?_
  obtain ⟨q3, hx10, h⟩ := obs h
  refine wp_cut (fun a w => q3 = .brk () ∧ Fr a 156 [(0, .slice a_x0 x0.length c_x0), (3, .int .i64 y2), (4, sv y3)] ∧ St w0 (fun _ => False) w []) ?_ ?_
  · have hk1 := h
    have h := hx10
    obtain ⟨z2, hx11, h⟩ := obs h
    refine wp_cut (fun a w => Fr a 156 [(0, .slice a_x0 x0.length c_x0), (3, .int .i64 y2), (4, sv y3), (91, .bool z2)] ∧ St w0 (fun _ => False) w []) ?_ ?_
    · have hk2 := h
      have h := hx11
      refine wc_text ?_
      refine wc_move HF nS rfl rfl rfl (fun a HF => ?_)
      refine wc_bin HF nS rfl rfl b_sne rfl rfl (fun a HF => ?_)
      refine wc_move HF nS rfl rfl rfl (fun a HF => ?_)
      by_cases hb10 : y7 = []
      · have h := (if_pos hb10).symm.trans h
        refine wc_skip HF nS (HF.wn rfl rfl rfl rfl (notT (decide_eq_true hb10))) rfl (fun a HF => ?_)
        refine wc_skip HF nS (HF.wn rfl rfl rfl rfl (notT (decide_eq_true hb10))) rfl (fun a HF => ?_)
        refine wc_skip HF nS (HF.wn rfl rfl rfl rfl (notT (decide_eq_true hb10))) rfl (fun a HF => ?_)
        refine wc_skip HF nS (HF.unwanted rfl rfl rfl rfl) rfl (fun a HF => ?_)
        refine wc_skip HF nS (HF.unwanted rfl rfl rfl rfl) rfl (fun a HF => ?_)
        refine wc_skip HF nS (HF.unwanted rfl rfl rfl rfl) rfl (fun a HF => ?_)
        refine wc_skip HF nS (HF.wn rfl rfl rfl rfl (notT (decide_eq_true hb10))) rfl (fun a HF => ?_)
        refine wc_skip HF nS (HF.wn rfl rfl rfl rfl (notT (decide_eq_true hb10))) rfl (fun a HF => ?_)
        refine wc_skip HF nS (HF.unwanted rfl rfl rfl rfl) rfl (fun a HF => ?_)
        refine wc_skip HF nS (HF.unwanted rfl rfl rfl rfl) rfl (fun a HF => ?_)
        refine wc_skip HF nS (HF.unwanted rfl rfl rfl rfl) rfl (fun a HF => ?_)
        refine wc_skip HF nS (HF.wn rfl rfl rfl rfl (notT (decide_eq_true hb10))) rfl (fun a HF => ?_)
        refine wc_pick (b := false) HF nS rfl (notT (decide_eq_true hb10)) rfl rfl rfl (fun a HF => ?_)
        refine wc_move HF nS rfl rfl rfl (fun a HF => ?_)
        refine wc_move HF nS rfl (HF.wy rfl rfl rfl rfl rfl) rfl (fun a HF => ?_)
        refine wc_bin HF nS rfl rfl b_seq (HF.wy rfl rfl rfl rfl rfl) rfl (fun a HF => ?_)
        refine wc_move HF nS rfl (HF.wy rfl rfl rfl rfl rfl) rfl (fun a HF => ?_)
        refine wc_bin HF nS rfl rfl b_lt (HF.wy rfl rfl rfl rfl rfl) rfl (fun a HF => ?_)
        refine wc_move HF nS rfl (HF.wy rfl rfl rfl rfl rfl) rfl (fun a HF => ?_)
        by_cases hb11 : y2 < 0
        · have h := (if_pos hb11).symm.trans h
          refine wc_skip HF nS (HF.wn rfl rfl rfl rfl (decide_eq_true hb11)) rfl (fun a HF => ?_)
          refine wc_skip HF nS (HF.wn rfl rfl rfl rfl (decide_eq_true hb11)) rfl (fun a HF => ?_)
          refine wc_pick (b := true) HF nS rfl (decide_eq_true hb11) rfl (HF.wy rfl rfl rfl rfl rfl) rfl (fun a HF => ?_)
          refine wc_bin HF nS rfl rfl (b_bne Try.underlying4) (HF.wy rfl rfl rfl rfl rfl) rfl (fun a HF => ?_)
          refine wc_pick (b := false) HF nS rfl rfl rfl rfl rfl (fun a HF => ?_)
          refine wc_end ?_
          obtain rfl := Option.some.inj h
          exact then_n ⟨(HF.keep (HF.keep (HF.keep (HF.keep HF.nil rfl) rfl) rfl) rfl), HT⟩
        have h := (if_neg hb11).symm.trans h
        refine wc_move HF nS rfl (HF.wy rfl rfl rfl rfl (decide_eq_false hb11)) rfl (fun a HF => ?_)
        refine wc_bin HF nS rfl rfl b_ge (HF.wy rfl rfl rfl rfl (decide_eq_false hb11)) rfl (fun a HF => ?_)
        refine wc_pick (b := false) HF nS rfl (decide_eq_false hb11) rfl (HF.wy rfl rfl rfl rfl rfl) rfl (fun a HF => ?_)
        refine wc_bin HF nS rfl rfl (b_bne Try.underlying4) (HF.wy rfl rfl rfl rfl rfl) rfl (fun a HF => ?_)
        refine wc_pick (b := false) HF nS rfl rfl rfl rfl rfl (fun a HF => ?_)
        refine wc_end ?_
        obtain rfl := Option.some.inj h
        exact then_n ⟨(HF.keep (HF.keep (HF.keep (HF.keep HF.nil rfl) rfl) rfl) rfl), HT⟩
      have h := (if_neg hb10).symm.trans h
      refine wc_move HF nS rfl (HF.wy rfl rfl rfl rfl (notF (decide_eq_false hb10))) rfl (fun a HF => ?_)
      refine wc_not HF nS rfl (HF.wy rfl rfl rfl rfl (notF (decide_eq_false hb10))) rfl (fun a HF => ?_)
      refine wc_move HF nS rfl (HF.wy rfl rfl rfl rfl (notF (decide_eq_false hb10))) rfl (fun a HF => ?_)
      by_cases hb12 : y9 = true
      · have h := (if_pos hb12).symm.trans h
        refine wc_move HF nS rfl (HF.wy rfl rfl rfl rfl (notT hb12)) rfl (fun a HF => ?_)
        refine wc_move HF nS rfl (HF.wy rfl rfl rfl rfl (notT hb12)) rfl (fun a HF => ?_)
        refine wc_bin HF nS rfl rfl b_ne (HF.wy rfl rfl rfl rfl (notT hb12)) rfl (fun a HF => ?_)
        refine wc_pick (b := false) HF nS rfl (notT hb12) rfl (HF.wy rfl rfl rfl rfl (notF (decide_eq_false hb10))) rfl (fun a HF => ?_)
        refine wc_move HF nS rfl (HF.wy rfl rfl rfl rfl (notF (decide_eq_false hb10))) rfl (fun a HF => ?_)
        by_cases hb13 : y8 = y2
        · have h := (if_pos hb13).symm.trans h
          refine wc_move HF nS rfl (HF.wy rfl rfl rfl rfl (notT (decide_eq_true hb13))) rfl (fun a HF => ?_)
          refine wc_lenS (ats := #[]) HF nS Try.underlying9 rfl (HF.wy rfl rfl rfl rfl (notT (decide_eq_true hb13))) rfl (fun a HF => ?_)
          refine wc_bin HF nS rfl rfl b_ne (HF.wy rfl rfl rfl rfl (notT (decide_eq_true hb13))) rfl (fun a HF => ?_)
          refine wc_pick (b := false) HF nS rfl (notT (decide_eq_true hb13)) rfl (HF.wy rfl rfl rfl rfl (notF (decide_eq_false hb10))) rfl (fun a HF => ?_)
          refine wc_pick (b := true) HF nS rfl (notF (decide_eq_false hb10)) rfl rfl rfl (fun a HF => ?_)
          refine wc_move HF nS rfl rfl rfl (fun a HF => ?_)
          by_cases hb14 : (y7.length : Int) = 7
          · have h := (if_pos hb14).symm.trans h
            refine wc_move HF nS rfl (HF.wy rfl rfl rfl rfl (notT (decide_eq_true hb14))) rfl (fun a HF => ?_)
            refine wc_bin HF nS rfl rfl b_seq (HF.wy rfl rfl rfl rfl (notT (decide_eq_true hb14))) rfl (fun a HF => ?_)
            refine wc_move HF nS rfl (HF.wy rfl rfl rfl rfl (notT (decide_eq_true hb14))) rfl (fun a HF => ?_)
            refine wc_bin HF nS rfl rfl b_lt (HF.wy rfl rfl rfl rfl (notT (decide_eq_true hb14))) rfl (fun a HF => ?_)
            refine wc_move HF nS rfl (HF.wy rfl rfl rfl rfl (notT (decide_eq_true hb14))) rfl (fun a HF => ?_)
            by_cases hb15 : y2 < 0
            · have h := (if_pos hb15).symm.trans h
              refine wc_skip HF nS (HF.wn rfl rfl rfl rfl (decide_eq_true hb15)) rfl (fun a HF => ?_)
              refine wc_skip HF nS (HF.wn rfl rfl rfl rfl (decide_eq_true hb15)) rfl (fun a HF => ?_)
              refine wc_pick (b := true) HF nS rfl (decide_eq_true hb15) rfl (HF.wy rfl rfl rfl rfl (notT (decide_eq_true hb14))) rfl (fun a HF => ?_)
              refine wc_bin HF nS rfl rfl (b_bne Try.underlying4) (HF.wy rfl rfl rfl rfl (notT (decide_eq_true hb14))) rfl (fun a HF => ?_)
              refine wc_pick (b := false) HF nS rfl (notT (decide_eq_true hb14)) rfl rfl rfl (fun a HF => ?_)
              refine wc_end ?_
              obtain rfl := Option.some.inj h
              exact then_n ⟨(HF.keep (HF.keep (HF.keep (HF.keep HF.nil rfl) rfl) rfl) rfl), HT⟩
            have h := (if_neg hb15).symm.trans h
            refine wc_move HF nS rfl (HF.wy rfl rfl rfl rfl (decide_eq_false hb15)) rfl (fun a HF => ?_)
            refine wc_bin HF nS rfl rfl b_ge (HF.wy rfl rfl rfl rfl (decide_eq_false hb15)) rfl (fun a HF => ?_)
            refine wc_pick (b := false) HF nS rfl (decide_eq_false hb15) rfl (HF.wy rfl rfl rfl rfl (notT (decide_eq_true hb14))) rfl (fun a HF => ?_)
            refine wc_bin HF nS rfl rfl (b_bne Try.underlying4) (HF.wy rfl rfl rfl rfl (notT (decide_eq_true hb14))) rfl (fun a HF => ?_)
            refine wc_pick (b := false) HF nS rfl (notT (decide_eq_true hb14)) rfl rfl rfl (fun a HF => ?_)
            refine wc_end ?_
            obtain rfl := Option.some.inj h
            exact then_n ⟨(HF.keep (HF.keep (HF.keep (HF.keep HF.nil rfl) rfl) rfl) rfl), HT⟩
          have h := (if_neg hb14).symm.trans h
          refine wc_skip HF nS (HF.wn rfl rfl rfl rfl (notF (decide_eq_false hb14))) rfl (fun a HF => ?_)
          refine wc_skip HF nS (HF.wn rfl rfl rfl rfl (notF (decide_eq_false hb14))) rfl (fun a HF => ?_)
          refine wc_skip HF nS (HF.wn rfl rfl rfl rfl (notF (decide_eq_false hb14))) rfl (fun a HF => ?_)
          refine wc_skip HF nS (HF.wn rfl rfl rfl rfl (notF (decide_eq_false hb14))) rfl (fun a HF => ?_)
          refine wc_skip HF nS (HF.wn rfl rfl rfl rfl (notF (decide_eq_false hb14))) rfl (fun a HF => ?_)
          refine wc_skip HF nS (HF.unwanted rfl rfl rfl rfl) rfl (fun a HF => ?_)
          refine wc_skip HF nS (HF.unwanted rfl rfl rfl rfl) rfl (fun a HF => ?_)
          refine wc_skip HF nS (HF.wn rfl rfl rfl rfl (notF (decide_eq_false hb14))) rfl (fun a HF => ?_)
          refine wc_skip HF nS (HF.wn rfl rfl rfl rfl (notF (decide_eq_false hb14))) rfl (fun a HF => ?_)
          refine wc_pick (b := true) HF nS rfl (notF (decide_eq_false hb14)) rfl rfl rfl (fun a HF => ?_)
          refine wc_end ?_
          obtain rfl := Option.some.inj h
          exact then_n ⟨(HF.keep (HF.keep (HF.keep (HF.keep HF.nil rfl) rfl) rfl) rfl), HT⟩
        have h := (if_neg hb13).symm.trans h
        refine wc_skip HF nS (HF.wn rfl rfl rfl rfl (notF (decide_eq_false hb13))) rfl (fun a HF => ?_)
        refine wc_skip HF nS (HF.wn rfl rfl rfl rfl (notF (decide_eq_false hb13))) rfl (fun a HF => ?_)
        refine wc_skip HF nS (HF.wn rfl rfl rfl rfl (notF (decide_eq_false hb13))) rfl (fun a HF => ?_)
        refine wc_pick (b := true) HF nS rfl (notF (decide_eq_false hb13)) rfl (HF.wy rfl rfl rfl rfl (notF (decide_eq_false hb10))) rfl (fun a HF => ?_)
        refine wc_pick (b := true) HF nS rfl (notF (decide_eq_false hb10)) rfl rfl rfl (fun a HF => ?_)
        refine wc_move HF nS rfl rfl rfl (fun a HF => ?_)
        refine wc_skip HF nS (HF.wn rfl rfl rfl rfl rfl) rfl (fun a HF => ?_)
        refine wc_skip HF nS (HF.wn rfl rfl rfl rfl rfl) rfl (fun a HF => ?_)
        refine wc_skip HF nS (HF.wn rfl rfl rfl rfl rfl) rfl (fun a HF => ?_)
        refine wc_skip HF nS (HF.wn rfl rfl rfl rfl rfl) rfl (fun a HF => ?_)
        refine wc_skip HF nS (HF.wn rfl rfl rfl rfl rfl) rfl (fun a HF => ?_)
        refine wc_skip HF nS (HF.unwanted rfl rfl rfl rfl) rfl (fun a HF => ?_)
        refine wc_skip HF nS (HF.unwanted rfl rfl rfl rfl) rfl (fun a HF => ?_)
        refine wc_skip HF nS (HF.wn rfl rfl rfl rfl rfl) rfl (fun a HF => ?_)
        refine wc_skip HF nS (HF.wn rfl rfl rfl rfl rfl) rfl (fun a HF => ?_)
        refine wc_pick (b := true) HF nS rfl rfl rfl rfl rfl (fun a HF => ?_)
        refine wc_end ?_
        obtain rfl := Option.some.inj h
        exact then_n ⟨(HF.keep (HF.keep (HF.keep (HF.keep HF.nil rfl) rfl) rfl) rfl), HT⟩
      have h := (if_neg hb12).symm.trans h
      refine wc_skip HF nS (HF.wn rfl rfl rfl rfl (notF (Bool.eq_false_iff.2 hb12))) rfl (fun a HF => ?_)
      refine wc_skip HF nS (HF.wn rfl rfl rfl rfl (notF (Bool.eq_false_iff.2 hb12))) rfl (fun a HF => ?_)
      refine wc_skip HF nS (HF.wn rfl rfl rfl rfl (notF (Bool.eq_false_iff.2 hb12))) rfl (fun a HF => ?_)
      refine wc_pick (b := true) HF nS rfl (notF (Bool.eq_false_iff.2 hb12)) rfl (HF.wy rfl rfl rfl rfl (notF (decide_eq_false hb10))) rfl (fun a HF => ?_)
      refine wc_move HF nS rfl (HF.wy rfl rfl rfl rfl (notF (decide_eq_false hb10))) rfl (fun a HF => ?_)
      refine wc_skip HF nS (HF.wn rfl rfl rfl rfl rfl) rfl (fun a HF => ?_)
      refine wc_skip HF nS (HF.wn rfl rfl rfl rfl rfl) rfl (fun a HF => ?_)
      refine wc_skip HF nS (HF.wn rfl rfl rfl rfl rfl) rfl (fun a HF => ?_)
      refine wc_pick (b := true) HF nS rfl rfl rfl (HF.wy rfl rfl rfl rfl (notF (decide_eq_false hb10))) rfl (fun a HF => ?_)
      refine wc_pick (b := true) HF nS rfl (notF (decide_eq_false hb10)) rfl rfl rfl (fun a HF => ?_)
      refine wc_move HF nS rfl rfl rfl (fun a HF => ?_)
      refine wc_skip HF nS (HF.wn rfl rfl rfl rfl rfl) rfl (fun a HF => ?_)
      refine wc_skip HF nS (HF.wn rfl rfl rfl rfl rfl) rfl (fun a HF => ?_)
      refine wc_skip HF nS (HF.wn rfl rfl rfl rfl rfl) rfl (fun a HF => ?_)
      refine wc_skip HF nS (HF.wn rfl rfl rfl rfl rfl) rfl (fun a HF => ?_)
      refine wc_skip HF nS (HF.wn rfl rfl rfl rfl rfl) rfl (fun a HF => ?_)
      refine wc_skip HF nS (HF.unwanted rfl rfl rfl rfl) rfl (fun a HF => ?_)
      refine wc_skip HF nS (HF.unwanted rfl rfl rfl rfl) rfl (fun a HF => ?_)
      refine wc_skip HF nS (HF.wn rfl rfl rfl rfl rfl) rfl (fun a HF => ?_)
      refine wc_skip HF nS (HF.wn rfl rfl rfl rfl rfl) rfl (fun a HF => ?_)
      refine wc_pick (b := true) HF nS rfl rfl rfl rfl rfl (fun a HF => ?_)
      refine wc_end ?_
      obtain rfl := Option.some.inj h
      exact then_n ⟨(HF.keep (HF.keep (HF.keep (HF.keep HF.nil rfl) rfl) rfl) rfl), HT⟩
    rintro a w ⟨HF, HT⟩
    refine ?_
    by_cases hb16 : z2 = true
    · have h := (if_pos hb16).symm.trans h
      refine wp_if (b' := true) HF rfl hb16 ?_
      refine wp_seq ?_
      refine wc_text ?_
      refine wc_assign HF nS rfl rfl rfl (fun a HF => ?_)
      refine wc_end ?_
      refine then_n ?_
      refine wp_ret ?_
      obtain rfl := Option.some.inj h
      have h := retL hk1
      obtain rfl := Option.some.inj h
      refine then_r (?_)
      refine bp_ret HF (res_one rfl HF rfl) ?_
      exact ⟨rfl, HT⟩
    have h := (if_neg hb16).symm.trans h
    refine wp_if (b' := false) HF rfl (Bool.eq_false_iff.2 hb16) ?_
    refine wp_skip ?_
    exact then_n ⟨(Option.some.inj h).symm, (HF.keep (HF.keep (HF.keep HF.nil rfl) rfl) rfl), HT⟩
  rintro a w ⟨rfl, HF, HT⟩
  have h := brkL1u h
  refine ?_
  refine wp_seq ?_
  refine wc_text ?_
  refine wc_move HF nS rfl rfl rfl (fun a HF => ?_)
  obtain ⟨y10, hx12, h⟩ := obs h
  refine wc_call HF cf13 rfl (w_impl_Dec fuel hx12) rfl rfl ?_
  rintro e w ⟨rfl, hE⟩
  have hb := hE.below
  have HT := HT.pure hE
  have HT : St w0 (fun _ => False) w [] := HT
  refine ⟨_, rfl, nS, fun a HF => ?_⟩
  obtain ⟨y11, y12, hx13, h⟩ := obs2 h
  refine wc_call HF cf12 rfl (w_impl_ReadDec fuel hx13) rfl rfl ?_
  rintro e w ⟨rfl, hE⟩
  have hb := hE.below
  have HT := HT.pure hE
  have HT : St w0 (fun _ => False) w [] := HT
  refine ⟨_, rfl, nS, fun a HF => ?_⟩
  refine wc_move HF nS rfl rfl rfl (fun a HF => ?_)
  refine wc_extract (v := .int .i64 y11) HF nS rfl rfl rfl rfl (fun a HF => ?_)
  refine wc_extract (v := .bool y12) HF nS rfl rfl rfl rfl (fun a HF => ?_)
  refine wc_assign HF nS rfl rfl rfl (fun a HF => ?_)
  refine wc_assign HF nS rfl rfl rfl (fun a HF => ?_)
  refine wc_end ?_
  refine then_n ?_
  obtain ⟨q5, hx14, h⟩ := obs h
  refine wp_cut (fun a w => q5 = .brk () ∧ Fr a 156 [(0, .slice a_x0 x0.length c_x0), (4, sv y3)] ∧ St w0 (fun _ => False) w []) ?_ ?_
  · have hk1 := h
    have h := hx14
    obtain ⟨z3, hx15, h⟩ := obs h
    refine wp_cut (fun a w => Fr a 156 [(0, .slice a_x0 x0.length c_x0), (4, sv y3), (113, .bool z3)] ∧ St w0 (fun _ => False) w []) ?_ ?_
    · have hk2 := h
      have h := hx15
      refine wc_text ?_
      refine wc_move HF nS rfl rfl rfl (fun a HF => ?_)
      refine wc_move HF nS rfl rfl rfl (fun a HF => ?_)
      refine wc_bin HF nS rfl rfl b_gt rfl rfl (fun a HF => ?_)
      refine wc_move HF nS rfl rfl rfl (fun a HF => ?_)
      by_cases hb17 : (-1000000000) < y2
      · have h := (if_pos hb17).symm.trans h
        refine wc_move HF nS rfl (HF.wy rfl rfl rfl rfl (decide_eq_true hb17)) rfl (fun a HF => ?_)
        refine wc_bin HF nS rfl rfl b_lt (HF.wy rfl rfl rfl rfl (decide_eq_true hb17)) rfl (fun a HF => ?_)
        refine wc_pick (b := true) HF nS rfl (decide_eq_true hb17) rfl rfl rfl (fun a HF => ?_)
        refine wc_bin HF nS rfl rfl (b_bne Try.underlying4) rfl rfl (fun a HF => ?_)
        refine wc_move HF nS rfl rfl rfl (fun a HF => ?_)
        by_cases hb18 : (y12 == (decide (y2 < 1000000000))) = true
        · have h := (if_pos hb18).symm.trans h
          refine wc_move HF nS rfl (HF.wy rfl rfl rfl rfl (notT hb18)) rfl (fun a HF => ?_)
          refine wc_move HF nS rfl (HF.wy rfl rfl rfl rfl (notT hb18)) rfl (fun a HF => ?_)
          by_cases hb19 : y12 = true
          · have h := (if_pos hb19).symm.trans h
            refine wc_move HF nS rfl (HF.wy rfl rfl rfl rfl hb19) rfl (fun a HF => ?_)
            refine wc_move HF nS rfl (HF.wy rfl rfl rfl rfl hb19) rfl (fun a HF => ?_)
            refine wc_bin HF nS rfl rfl b_ne (HF.wy rfl rfl rfl rfl hb19) rfl (fun a HF => ?_)
            refine wc_pick (b := true) HF nS rfl hb19 rfl (HF.wy rfl rfl rfl rfl (notT hb18)) rfl (fun a HF => ?_)
            refine wc_pick (b := false) HF nS rfl (notT hb18) rfl rfl rfl (fun a HF => ?_)
            refine wc_end ?_
            obtain rfl := Option.some.inj h
            exact then_n ⟨(HF.keep (HF.keep (HF.keep HF.nil rfl) rfl) rfl), HT⟩
          have h := (if_neg hb19).symm.trans h
          refine wc_skip HF nS (HF.wn rfl rfl rfl rfl (Bool.eq_false_iff.2 hb19)) rfl (fun a HF => ?_)
          refine wc_skip HF nS (HF.wn rfl rfl rfl rfl (Bool.eq_false_iff.2 hb19)) rfl (fun a HF => ?_)
          refine wc_skip HF nS (HF.wn rfl rfl rfl rfl (Bool.eq_false_iff.2 hb19)) rfl (fun a HF => ?_)
          refine wc_pick (b := false) HF nS rfl (Bool.eq_false_iff.2 hb19) rfl (HF.wy rfl rfl rfl rfl (notT hb18)) rfl (fun a HF => ?_)
          refine wc_pick (b := false) HF nS rfl (notT hb18) rfl rfl rfl (fun a HF => ?_)
          refine wc_end ?_
          obtain rfl := Option.some.inj h
          exact then_n ⟨(HF.keep (HF.keep (HF.keep HF.nil rfl) rfl) rfl), HT⟩
        have h := (if_neg hb18).symm.trans h
        refine wc_skip HF nS (HF.wn rfl rfl rfl rfl (notF (Bool.eq_false_iff.2 hb18))) rfl (fun a HF => ?_)
        refine wc_skip HF nS (HF.wn rfl rfl rfl rfl (notF (Bool.eq_false_iff.2 hb18))) rfl (fun a HF => ?_)
        refine wc_skip HF nS (HF.unwanted rfl rfl rfl rfl) rfl (fun a HF => ?_)
        refine wc_skip HF nS (HF.unwanted rfl rfl rfl rfl) rfl (fun a HF => ?_)
        refine wc_skip HF nS (HF.unwanted rfl rfl rfl rfl) rfl (fun a HF => ?_)
        refine wc_skip HF nS (HF.wn rfl rfl rfl rfl (notF (Bool.eq_false_iff.2 hb18))) rfl (fun a HF => ?_)
        refine wc_pick (b := true) HF nS rfl (notF (Bool.eq_false_iff.2 hb18)) rfl rfl rfl (fun a HF => ?_)
        refine wc_end ?_
        obtain rfl := Option.some.inj h
        exact then_n ⟨(HF.keep (HF.keep (HF.keep HF.nil rfl) rfl) rfl), HT⟩
      have h := (if_neg hb17).symm.trans h
      refine wc_skip HF nS (HF.wn rfl rfl rfl rfl (decide_eq_false hb17)) rfl (fun a HF => ?_)
      refine wc_skip HF nS (HF.wn rfl rfl rfl rfl (decide_eq_false hb17)) rfl (fun a HF => ?_)
      refine wc_pick (b := false) HF nS rfl (decide_eq_false hb17) rfl rfl rfl (fun a HF => ?_)
      refine wc_bin HF nS rfl rfl (b_bne Try.underlying4) rfl rfl (fun a HF => ?_)
      refine wc_move HF nS rfl rfl rfl (fun a HF => ?_)
      by_cases hb20 : (y12 == false) = true
      · have h := (if_pos hb20).symm.trans h
        refine wc_move HF nS rfl (HF.wy rfl rfl rfl rfl (notT hb20)) rfl (fun a HF => ?_)
        refine wc_move HF nS rfl (HF.wy rfl rfl rfl rfl (notT hb20)) rfl (fun a HF => ?_)
        by_cases hb21 : y12 = true
        · have h := (if_pos hb21).symm.trans h
          refine wc_move HF nS rfl (HF.wy rfl rfl rfl rfl hb21) rfl (fun a HF => ?_)
          refine wc_move HF nS rfl (HF.wy rfl rfl rfl rfl hb21) rfl (fun a HF => ?_)
          refine wc_bin HF nS rfl rfl b_ne (HF.wy rfl rfl rfl rfl hb21) rfl (fun a HF => ?_)
          refine wc_pick (b := true) HF nS rfl hb21 rfl (HF.wy rfl rfl rfl rfl (notT hb20)) rfl (fun a HF => ?_)
          refine wc_pick (b := false) HF nS rfl (notT hb20) rfl rfl rfl (fun a HF => ?_)
          refine wc_end ?_
          obtain rfl := Option.some.inj h
          exact then_n ⟨(HF.keep (HF.keep (HF.keep HF.nil rfl) rfl) rfl), HT⟩
        have h := (if_neg hb21).symm.trans h
        refine wc_skip HF nS (HF.wn rfl rfl rfl rfl (Bool.eq_false_iff.2 hb21)) rfl (fun a HF => ?_)
        refine wc_skip HF nS (HF.wn rfl rfl rfl rfl (Bool.eq_false_iff.2 hb21)) rfl (fun a HF => ?_)
        refine wc_skip HF nS (HF.wn rfl rfl rfl rfl (Bool.eq_false_iff.2 hb21)) rfl (fun a HF => ?_)
        refine wc_pick (b := false) HF nS rfl (Bool.eq_false_iff.2 hb21) rfl (HF.wy rfl rfl rfl rfl (notT hb20)) rfl (fun a HF => ?_)
        refine wc_pick (b := false) HF nS rfl (notT hb20) rfl rfl rfl (fun a HF => ?_)
        refine wc_end ?_
        obtain rfl := Option.some.inj h
        exact then_n ⟨(HF.keep (HF.keep (HF.keep HF.nil rfl) rfl) rfl), HT⟩
      have h := (if_neg hb20).symm.trans h
      refine wc_skip HF nS (HF.wn rfl rfl rfl rfl (notF (Bool.eq_false_iff.2 hb20))) rfl (fun a HF => ?_)
      refine wc_skip HF nS (HF.wn rfl rfl rfl rfl (notF (Bool.eq_false_iff.2 hb20))) rfl (fun a HF => ?_)
      refine wc_skip HF nS (HF.unwanted rfl rfl rfl rfl) rfl (fun a HF => ?_)
      refine wc_skip HF nS (HF.unwanted rfl rfl rfl rfl) rfl (fun a HF => ?_)
      refine wc_skip HF nS (HF.unwanted rfl rfl rfl rfl) rfl (fun a HF => ?_)
      refine wc_skip HF nS (HF.wn rfl rfl rfl rfl (notF (Bool.eq_false_iff.2 hb20))) rfl (fun a HF => ?_)
      refine wc_pick (b := true) HF nS rfl (notF (Bool.eq_false_iff.2 hb20)) rfl rfl rfl (fun a HF => ?_)
      refine wc_end ?_
      obtain rfl := Option.some.inj h
      exact then_n ⟨(HF.keep (HF.keep (HF.keep HF.nil rfl) rfl) rfl), HT⟩
    rintro a w ⟨HF, HT⟩
    refine ?_
    by_cases hb22 : z3 = true
    · have h := (if_pos hb22).symm.trans h
      refine wp_if (b' := true) HF rfl hb22 ?_
      refine wp_seq ?_
      refine wc_text ?_
      refine wc_assign HF nS rfl rfl rfl (fun a HF => ?_)
      refine wc_end ?_
      refine then_n ?_
      refine wp_ret ?_
      obtain rfl := Option.some.inj h
      have h := retL hk1
      obtain rfl := Option.some.inj h
      refine then_r (?_)
      refine bp_ret HF (res_one rfl HF rfl) ?_
      exact ⟨rfl, HT⟩
    have h := (if_neg hb22).symm.trans h
    refine wp_if (b' := false) HF rfl (Bool.eq_false_iff.2 hb22) ?_
    refine wp_skip ?_
    exact then_n ⟨(Option.some.inj h).symm, (HF.keep (HF.keep HF.nil rfl) rfl), HT⟩
  rintro a w ⟨rfl, HF, HT⟩
  have h := brkL1u h
  refine ?_
  refine wp_seq ?_
  refine wc_text ?_
  refine wc_move HF nS rfl rfl rfl (fun a HF => ?_)
  obtain ⟨y13, hx16, h⟩ := obs h
  refine wc_call HF cf15 rfl (w_impl_Hex fuel hx16) rfl rfl ?_
  rintro e w ⟨rfl, hE⟩
  have hb := hE.below
  have HT := HT.pure hE
  have HT : St w0 (fun _ => False) w [] := HT
  refine ⟨_, rfl, nS, fun a HF => ?_⟩
  obtain ⟨y14, y15, hx17, h⟩ := obs2 h
  refine wc_call HF cf14 rfl (w_impl_Unhex fuel hx17) rfl rfl ?_
  rintro e w ⟨rfl, hE⟩
  have hb := hE.below
  have HT := HT.pure hE
  have HT : St w0 (fun _ => False) w [] := HT
  refine ⟨_, rfl, nS, fun a HF => ?_⟩
  refine wc_move HF nS rfl rfl rfl (fun a HF => ?_)
  refine wc_extract (v := sv y14) HF nS rfl rfl rfl rfl (fun a HF => ?_)
  refine wc_extract (v := .bool y15) HF nS rfl rfl rfl rfl (fun a HF => ?_)
  refine wc_assign HF nS rfl rfl rfl (fun a HF => ?_)
  refine wc_assign HF nS rfl rfl rfl (fun a HF => ?_)
  refine wc_end ?_
  refine then_n ?_
  refine wp_seq ?_
  refine wc_text ?_
  refine wc_move HF nS rfl rfl rfl (fun a HF => ?_)
  obtain ⟨y16, hx18, h⟩ := obs h
  refine wc_call HF cf16 rfl (w_spec_DrawReadVar fuel hx18 (HT.ro hr_x0).any) rfl rfl ?_
  rintro e w ⟨rfl, hE⟩
  have hb := hE.below
  have HT := HT.pure hE
  have HT : St w0 (fun _ => False) w [] := HT
  refine ⟨_, rfl, nS, fun a HF => ?_⟩
  obtain ⟨y17, y18, hx19, h⟩ := obs2 h
  refine wc_call HF cf9 rfl (w_impl_ReadVar fuel hx19) rfl rfl ?_
  rintro e w ⟨rfl, hE⟩
  have hb := hE.below
  have HT := HT.pure hE
  have HT : St w0 (fun _ => False) w [] := HT
  refine ⟨_, rfl, nS, fun a HF => ?_⟩
  refine wc_move HF nS rfl rfl rfl (fun a HF => ?_)
  refine wc_extract (v := .int .i64 y17) HF nS rfl rfl rfl rfl (fun a HF => ?_)
  refine wc_extract (v := .int .i64 y18) HF nS rfl rfl rfl rfl (fun a HF => ?_)
  refine wc_assign HF nS rfl rfl rfl (fun a HF => ?_)
  refine wc_assign HF nS rfl rfl rfl (fun a HF => ?_)
  refine wc_end ?_
  refine then_n ?_
  obtain ⟨z4, hx20, h⟩ := obs h
  refine wp_cut (fun a w => Fr a 156 [(2, .bool z4)] ∧ St w0 (fun _ => False) w []) ?_ ?_
  · have hk1 := h
    have h := hx20
    refine wc_text ?_
    refine wc_move HF nS rfl rfl rfl (fun a HF => ?_)
    refine wc_move HF nS rfl rfl rfl (fun a HF => ?_)
    by_cases hb23 : y15 = true
    · have h := (if_pos hb23).symm.trans h
      refine wc_move HF nS rfl (HF.wy rfl rfl rfl rfl hb23) rfl (fun a HF => ?_)
      refine wc_move HF nS rfl (HF.wy rfl rfl rfl rfl hb23) rfl (fun a HF => ?_)
      refine wc_bin HF nS rfl rfl b_seq (HF.wy rfl rfl rfl rfl hb23) rfl (fun a HF => ?_)
      refine wc_pick (b := true) HF nS rfl hb23 rfl rfl rfl (fun a HF => ?_)
      refine wc_move HF nS rfl rfl rfl (fun a HF => ?_)
      by_cases hb24 : y14 = y3
      · have h := (if_pos hb24).symm.trans h
        refine wc_move HF nS rfl (HF.wy rfl rfl rfl rfl (decide_eq_true hb24)) rfl (fun a HF => ?_)
        refine wc_bin HF nS rfl rfl b_eq (HF.wy rfl rfl rfl rfl (decide_eq_true hb24)) rfl (fun a HF => ?_)
        refine wc_move HF nS rfl (HF.wy rfl rfl rfl rfl (decide_eq_true hb24)) rfl (fun a HF => ?_)
        by_cases hb25 : y18 = 0
        · have h := (if_pos hb25).symm.trans h
          refine wc_skip HF nS (HF.wn rfl rfl rfl rfl (decide_eq_true hb25)) rfl (fun a HF => ?_)
          refine wc_skip HF nS (HF.wn rfl rfl rfl rfl (decide_eq_true hb25)) rfl (fun a HF => ?_)
          refine wc_skip HF nS (HF.wn rfl rfl rfl rfl (decide_eq_true hb25)) rfl (fun a HF => ?_)
          refine wc_skip HF nS (HF.unwanted rfl rfl rfl rfl) rfl (fun a HF => ?_)
          refine wc_skip HF nS (HF.unwanted rfl rfl rfl rfl) rfl (fun a HF => ?_)
          refine wc_skip HF nS (HF.unwanted rfl rfl rfl rfl) rfl (fun a HF => ?_)
          refine wc_skip HF nS (HF.unwanted rfl rfl rfl rfl) rfl (fun a HF => ?_)
          refine wc_skip HF nS (HF.unwanted rfl rfl rfl rfl) rfl (fun a HF => ?_)
          refine wc_skip HF nS (HF.wn rfl rfl rfl rfl (decide_eq_true hb25)) rfl (fun a HF => ?_)
          refine wc_skip HF nS (HF.wn rfl rfl rfl rfl (decide_eq_true hb25)) rfl (fun a HF => ?_)
          refine wc_skip HF nS (HF.unwanted rfl rfl rfl rfl) rfl (fun a HF => ?_)
          refine wc_skip HF nS (HF.unwanted rfl rfl rfl rfl) rfl (fun a HF => ?_)
          refine wc_skip HF nS (HF.unwanted rfl rfl rfl rfl) rfl (fun a HF => ?_)
          refine wc_skip HF nS (HF.unwanted rfl rfl rfl rfl) rfl (fun a HF => ?_)
          refine wc_skip HF nS (HF.unwanted rfl rfl rfl rfl) rfl (fun a HF => ?_)
          refine wc_skip HF nS (HF.unwanted rfl rfl rfl rfl) rfl (fun a HF => ?_)
          refine wc_skip HF nS (HF.unwanted rfl rfl rfl rfl) rfl (fun a HF => ?_)
          refine wc_skip HF nS (HF.wn rfl rfl rfl rfl (decide_eq_true hb25)) rfl (fun a HF => ?_)
          refine wc_pick (b := true) HF nS rfl (decide_eq_true hb25) rfl (HF.wy rfl rfl rfl rfl (decide_eq_true hb24)) rfl (fun a HF => ?_)
          refine wc_pick (b := true) HF nS rfl (decide_eq_true hb24) rfl rfl rfl (fun a HF => ?_)
          refine wc_assign HF nS rfl rfl rfl (fun a HF => ?_)
          refine wc_end ?_
          obtain rfl := Option.some.inj h
          exact then_n ⟨(HF.keep HF.nil rfl), HT⟩
        have h := (if_neg hb25).symm.trans h
        refine wc_move HF nS rfl (HF.wy rfl rfl rfl rfl (decide_eq_false hb25)) rfl (fun a HF => ?_)
        refine wc_bin HF nS rfl rfl b_gt (HF.wy rfl rfl rfl rfl (decide_eq_false hb25)) rfl (fun a HF => ?_)
        refine wc_move HF nS rfl (HF.wy rfl rfl rfl rfl (decide_eq_false hb25)) rfl (fun a HF => ?_)
        by_cases hb26 : 0 < y18
        · have h := (if_pos hb26).symm.trans h
          refine wc_move HF nS rfl (HF.wy rfl rfl rfl rfl (decide_eq_true hb26)) rfl (fun a HF => ?_)
          refine wc_move HF nS rfl (HF.wy rfl rfl rfl rfl (decide_eq_true hb26)) rfl (fun a HF => ?_)
          obtain ⟨y19, hx21, h⟩ := obs h
          refine wc_call HF cf16 rfl (w_spec_DrawReadVar fuel hx21 (HT.ro hr_x0).any) (HF.wy rfl rfl rfl rfl (decide_eq_true hb26)) rfl ?_
          rintro e w ⟨rfl, hE⟩
          have hb := hE.below
          have HT := HT.pure hE
          have HT : St w0 (fun _ => False) w [] := HT
          refine ⟨_, rfl, nS, fun a HF => ?_⟩
          refine wc_lenS (ats := #[]) HF nS Try.underlying9 rfl (HF.wy rfl rfl rfl rfl (decide_eq_true hb26)) rfl (fun a HF => ?_)
          refine wc_bin HF nS rfl rfl b_le (HF.wy rfl rfl rfl rfl (decide_eq_true hb26)) rfl (fun a HF => ?_)
          refine wc_pick (b := true) HF nS rfl (decide_eq_true hb26) rfl (HF.wy rfl rfl rfl rfl (decide_eq_false hb25)) rfl (fun a HF => ?_)
          refine wc_move HF nS rfl (HF.wy rfl rfl rfl rfl (decide_eq_false hb25)) rfl (fun a HF => ?_)
          by_cases hb27 : y18 ≤ (y19.length : Int)
          · have h := (if_pos hb27).symm.trans h
            refine wc_move HF nS rfl (HF.wy rfl rfl rfl rfl (decide_eq_true hb27)) rfl (fun a HF => ?_)
            obtain ⟨y20, hx22, h⟩ := obs h
            refine wc_call HF cf8 rfl (w_impl_Var fuel hx22) (HF.wy rfl rfl rfl rfl (decide_eq_true hb27)) rfl ?_
            rintro e w ⟨rfl, hE⟩
            have hb := hE.below
            have HT := HT.pure hE
            have HT : St w0 (fun _ => False) w [] := HT
            refine ⟨_, rfl, nS, fun a HF => ?_⟩
            refine wc_move HF nS rfl (HF.wy rfl rfl rfl rfl (decide_eq_true hb27)) rfl (fun a HF => ?_)
            obtain ⟨y21, hx23, h⟩ := obs h
            refine wc_call HF cf16 rfl (w_spec_DrawReadVar fuel hx23 (HT.ro hr_x0).any) (HF.wy rfl rfl rfl rfl (decide_eq_true hb27)) rfl ?_
            rintro e w ⟨rfl, hE⟩
            have hb := hE.below
            have HT := HT.pure hE
            have HT : St w0 (fun _ => False) w [] := HT
            refine ⟨_, rfl, nS, fun a HF => ?_⟩
            refine wc_move HF nS rfl (HF.wy rfl rfl rfl rfl (decide_eq_true hb27)) rfl (fun a HF => ?_)
            obtain ⟨hg3, h⟩ := grd h
            refine wc_slsH HF nS Try.underlying9 rfl rfl hg3 (HF.wy rfl rfl rfl rfl (decide_eq_true hb27)) rfl (fun a HF => ?_)
            refine wc_bin HF nS rfl rfl b_seq (HF.wy rfl rfl rfl rfl (decide_eq_true hb27)) rfl (fun a HF => ?_)
            refine wc_pick (b := true) HF nS rfl (decide_eq_true hb27) rfl (HF.wy rfl rfl rfl rfl (decide_eq_false hb25)) rfl (fun a HF => ?_)
            refine wc_pick (b := false) HF nS rfl (decide_eq_false hb25) rfl (HF.wy rfl rfl rfl rfl (decide_eq_true hb24)) rfl (fun a HF => ?_)
            refine wc_pick (b := true) HF nS rfl (decide_eq_true hb24) rfl rfl rfl (fun a HF => ?_)
            refine wc_assign HF nS rfl rfl rfl (fun a HF => ?_)
            refine wc_end ?_
            obtain rfl := Option.some.inj h
            exact then_n ⟨(HF.keep HF.nil rfl), HT⟩
          have h := (if_neg hb27).symm.trans h
          refine wc_skip HF nS (HF.wn rfl rfl rfl rfl (decide_eq_false hb27)) rfl (fun a HF => ?_)
          refine wc_skip HF nS (HF.wn rfl rfl rfl rfl (decide_eq_false hb27)) rfl (fun a HF => ?_)
          refine wc_skip HF nS (HF.wn rfl rfl rfl rfl (decide_eq_false hb27)) rfl (fun a HF => ?_)
          refine wc_skip HF nS (HF.wn rfl rfl rfl rfl (decide_eq_false hb27)) rfl (fun a HF => ?_)
          refine wc_skip HF nS (HF.wn rfl rfl rfl rfl (decide_eq_false hb27)) rfl (fun a HF => ?_)
          refine wc_skip HF nS (HF.wn rfl rfl rfl rfl (decide_eq_false hb27)) rfl (fun a HF => ?_)
          refine wc_skip HF nS (HF.wn rfl rfl rfl rfl (decide_eq_false hb27)) rfl (fun a HF => ?_)
          refine wc_pick (b := false) HF nS rfl (decide_eq_false hb27) rfl (HF.wy rfl rfl rfl rfl (decide_eq_false hb25)) rfl (fun a HF => ?_)
          refine wc_pick (b := false) HF nS rfl (decide_eq_false hb25) rfl (HF.wy rfl rfl rfl rfl (decide_eq_true hb24)) rfl (fun a HF => ?_)
          refine wc_pick (b := true) HF nS rfl (decide_eq_true hb24) rfl rfl rfl (fun a HF => ?_)
          refine wc_assign HF nS rfl rfl rfl (fun a HF => ?_)
          refine wc_end ?_
          obtain rfl := Option.some.inj h
          exact then_n ⟨(HF.keep HF.nil rfl), HT⟩
        have h := (if_neg hb26).symm.trans h
        refine wc_skip HF nS (HF.wn rfl rfl rfl rfl (decide_eq_false hb26)) rfl (fun a HF => ?_)
        refine wc_skip HF nS (HF.wn rfl rfl rfl rfl (decide_eq_false hb26)) rfl (fun a HF => ?_)
        refine wc_skip HF nS (HF.wn rfl rfl rfl rfl (decide_eq_false hb26)) rfl (fun a HF => ?_)
        refine wc_skip HF nS (HF.wn rfl rfl rfl rfl (decide_eq_false hb26)) rfl (fun a HF => ?_)
        refine wc_skip HF nS (HF.wn rfl rfl rfl rfl (decide_eq_false hb26)) rfl (fun a HF => ?_)
        refine wc_pick (b := false) HF nS rfl (decide_eq_false hb26) rfl (HF.wy rfl rfl rfl rfl (decide_eq_false hb25)) rfl (fun a HF => ?_)
        refine wc_move HF nS rfl (HF.wy rfl rfl rfl rfl (decide_eq_false hb25)) rfl (fun a HF => ?_)
        refine wc_skip HF nS (HF.wn rfl rfl rfl rfl rfl) rfl (fun a HF => ?_)
        refine wc_skip HF nS (HF.wn rfl rfl rfl rfl rfl) rfl (fun a HF => ?_)
        refine wc_skip HF nS (HF.wn rfl rfl rfl rfl rfl) rfl (fun a HF => ?_)
        refine wc_skip HF nS (HF.wn rfl rfl rfl rfl rfl) rfl (fun a HF => ?_)
        refine wc_skip HF nS (HF.wn rfl rfl rfl rfl rfl) rfl (fun a HF => ?_)
        refine wc_skip HF nS (HF.wn rfl rfl rfl rfl rfl) rfl (fun a HF => ?_)
        refine wc_skip HF nS (HF.wn rfl rfl rfl rfl rfl) rfl (fun a HF => ?_)
        refine wc_pick (b := false) HF nS rfl rfl rfl (HF.wy rfl rfl rfl rfl (decide_eq_false hb25)) rfl (fun a HF => ?_)
        refine wc_pick (b := false) HF nS rfl (decide_eq_false hb25) rfl (HF.wy rfl rfl rfl rfl (decide_eq_true hb24)) rfl (fun a HF => ?_)
        refine wc_pick (b := true) HF nS rfl (decide_eq_true hb24) rfl rfl rfl (fun a HF => ?_)
        refine wc_assign HF nS rfl rfl rfl (fun a HF => ?_)
        refine wc_end ?_
        obtain rfl := Option.some.inj h
        exact then_n ⟨(HF.keep HF.nil rfl), HT⟩
      have h := (if_neg hb24).symm.trans h
      refine wc_skip HF nS (HF.wn rfl rfl rfl rfl (decide_eq_false hb24)) rfl (fun a HF => ?_)
      refine wc_skip HF nS (HF.wn rfl rfl rfl rfl (decide_eq_false hb24)) rfl (fun a HF => ?_)
      refine wc_skip HF nS (HF.wn rfl rfl rfl rfl (decide_eq_false hb24)) rfl (fun a HF => ?_)
      refine wc_skip HF nS (HF.unwanted rfl rfl rfl rfl) rfl (fun a HF => ?_)
      refine wc_skip HF nS (HF.unwanted rfl rfl rfl rfl) rfl (fun a HF => ?_)
      refine wc_skip HF nS (HF.unwanted rfl rfl rfl rfl) rfl (fun a HF => ?_)
      refine wc_skip HF nS (HF.unwanted rfl rfl rfl rfl) rfl (fun a HF => ?_)
      refine wc_skip HF nS (HF.unwanted rfl rfl rfl rfl) rfl (fun a HF => ?_)
      refine wc_skip HF nS (HF.unwanted rfl rfl rfl rfl) rfl (fun a HF => ?_)
      refine wc_skip HF nS (HF.unwanted rfl rfl rfl rfl) rfl (fun a HF => ?_)
      refine wc_skip HF nS (HF.unwanted rfl rfl rfl rfl) rfl (fun a HF => ?_)
      refine wc_skip HF nS (HF.unwanted rfl rfl rfl rfl) rfl (fun a HF => ?_)
      refine wc_skip HF nS (HF.unwanted rfl rfl rfl rfl) rfl (fun a HF => ?_)
      refine wc_skip HF nS (HF.unwanted rfl rfl rfl rfl) rfl (fun a HF => ?_)
      refine wc_skip HF nS (HF.unwanted rfl rfl rfl rfl) rfl (fun a HF => ?_)
      refine wc_skip HF nS (HF.unwanted rfl rfl rfl rfl) rfl (fun a HF => ?_)
      refine wc_skip HF nS (HF.unwanted rfl rfl rfl rfl) rfl (fun a HF => ?_)
      refine wc_skip HF nS (HF.unwanted rfl rfl rfl rfl) rfl (fun a HF => ?_)
      refine wc_skip HF nS (HF.unwanted rfl rfl rfl rfl) rfl (fun a HF => ?_)
      refine wc_skip HF nS (HF.unwanted rfl rfl rfl rfl) rfl (fun a HF => ?_)
      refine wc_skip HF nS (HF.unwanted rfl rfl rfl rfl) rfl (fun a HF => ?_)
      refine wc_skip HF nS (HF.wn rfl rfl rfl rfl (decide_eq_false hb24)) rfl (fun a HF => ?_)
      refine wc_pick (b := false) HF nS rfl (decide_eq_false hb24) rfl rfl rfl (fun a HF => ?_)
      refine wc_assign HF nS rfl rfl rfl (fun a HF => ?_)
      refine wc_end ?_
      obtain rfl := Option.some.inj h
      exact then_n ⟨(HF.keep HF.nil rfl), HT⟩
    have h := (if_neg hb23).symm.trans h
    refine wc_skip HF nS (HF.wn rfl rfl rfl rfl (Bool.eq_false_iff.2 hb23)) rfl (fun a HF => ?_)
    refine wc_skip HF nS (HF.wn rfl rfl rfl rfl (Bool.eq_false_iff.2 hb23)) rfl (fun a HF => ?_)
    refine wc_skip HF nS (HF.wn rfl rfl rfl rfl (Bool.eq_false_iff.2 hb23)) rfl (fun a HF => ?_)
    refine wc_pick (b := false) HF nS rfl (Bool.eq_false_iff.2 hb23) rfl rfl rfl (fun a HF => ?_)
    refine wc_move HF nS rfl rfl rfl (fun a HF => ?_)
    refine wc_skip HF nS (HF.wn rfl rfl rfl rfl rfl) rfl (fun a HF => ?_)
    refine wc_skip HF nS (HF.wn rfl rfl rfl rfl rfl) rfl (fun a HF => ?_)
    refine wc_skip HF nS (HF.wn rfl rfl rfl rfl rfl) rfl (fun a HF => ?_)
    refine wc_skip HF nS (HF.unwanted rfl rfl rfl rfl) rfl (fun a HF => ?_)
    refine wc_skip HF nS (HF.unwanted rfl rfl rfl rfl) rfl (fun a HF => ?_)
    refine wc_skip HF nS (HF.unwanted rfl rfl rfl rfl) rfl (fun a HF => ?_)
    refine wc_skip HF nS (HF.unwanted rfl rfl rfl rfl) rfl (fun a HF => ?_)
    refine wc_skip HF nS (HF.unwanted rfl rfl rfl rfl) rfl (fun a HF => ?_)
    refine wc_skip HF nS (HF.unwanted rfl rfl rfl rfl) rfl (fun a HF => ?_)
    refine wc_skip HF nS (HF.unwanted rfl rfl rfl rfl) rfl (fun a HF => ?_)
    refine wc_skip HF nS (HF.unwanted rfl rfl rfl rfl) rfl (fun a HF => ?_)
    refine wc_skip HF nS (HF.unwanted rfl rfl rfl rfl) rfl (fun a HF => ?_)
    refine wc_skip HF nS (HF.unwanted rfl rfl rfl rfl) rfl (fun a HF => ?_)
    refine wc_skip HF nS (HF.unwanted rfl rfl rfl rfl) rfl (fun a HF => ?_)
    refine wc_skip HF nS (HF.unwanted rfl rfl rfl rfl) rfl (fun a HF => ?_)
    refine wc_skip HF nS (HF.unwanted rfl rfl rfl rfl) rfl (fun a HF => ?_)
    refine wc_skip HF nS (HF.unwanted rfl rfl rfl rfl) rfl (fun a HF => ?_)
    refine wc_skip HF nS (HF.unwanted rfl rfl rfl rfl) rfl (fun a HF => ?_)
    refine wc_skip HF nS (HF.unwanted rfl rfl rfl rfl) rfl (fun a HF => ?_)
    refine wc_skip HF nS (HF.unwanted rfl rfl rfl rfl) rfl (fun a HF => ?_)
    refine wc_skip HF nS (HF.unwanted rfl rfl rfl rfl) rfl (fun a HF => ?_)
    refine wc_skip HF nS (HF.wn rfl rfl rfl rfl rfl) rfl (fun a HF => ?_)
    refine wc_pick (b := false) HF nS rfl rfl rfl rfl rfl (fun a HF => ?_)
    refine wc_assign HF nS rfl rfl rfl (fun a HF => ?_)
    refine wc_end ?_
    obtain rfl := Option.some.inj h
    exact then_n ⟨(HF.keep HF.nil rfl), HT⟩
  rintro a w ⟨HF, HT⟩
  refine ?_
  refine wp_ret ?_
  obtain rfl := Option.some.inj h
  refine bp_ret HF (res_one rfl HF rfl) ?_
  exact ⟨rfl, HT⟩
end Go.Proofs.Ytikfmmfifhnbjaa
