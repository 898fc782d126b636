/- Walks of functions, by program: laws.FnExactOverlay, spec.CellsOf, impl.CellsOf, laws.FnExactCellsOf. -/
import Derived.Test.YtaplpbafnnlojaaTy
import Derived.Test.YtaplpbafnnlojaaG1
namespace Go.Proofs.Ytaplpbafnnlojaa
open Go Go.RowKit
set_option linter.unusedVariables false
set_option linter.unusedSimpArgs false
def m_laws_FnExactOverlay (fuel : Nat) (x0 : List Int) (x1 : List I2) : Option Bool :=
  if 1048576 < (x0.length : Int) then
    some true
  else
    (m_laws_szRowS fuel x1 1048576).bind fun y1 =>
    if y1 < 0 then
      some true
    else
      (m_laws_toIntS fuel x0).bind fun y2 =>
      (m_laws_toRowS fuel x1).bind fun y3 =>
      (m_spec_Overlay fuel y2 y3).bind fun y4 =>
      (m_laws_toIntS fuel x0).bind fun y5 =>
      (m_laws_toRowS fuel x1).bind fun y6 =>
      (m_impl_Overlay fuel y5 y6).bind fun y7 =>
      (m_laws_eqIntS fuel y7 y4).bind fun y8 =>
      if y8 = true then
        (m_laws_toIntS fuel x0).bind fun y9 =>
        (m_laws_eqIntS fuel y5 y9).bind fun y10 =>
        if y10 = true then
          (m_laws_toRowS fuel x1).bind fun y11 =>
          (m_laws_eqRowS fuel y6 y11).bind fun y12 =>
          if y12 = true then
            bind2 (m_laws_markIntS fuel y5 1) fun y13 y14 =>
            bind2 (m_laws_markRowS fuel y6 y13) fun y15 y16 =>
            if y15 < 0 then
              some false
            else
              (m_laws_eqIntS fuel y7 y4).bind fun y17 =>
              if y17 = true then
                bind2 (m_laws_markIntS fuel y7 1) fun y18 y19 =>
                (m_laws_heldIntS fuel y19 1).bind fun y20 =>
                if y20 < 0 then
                  some false
                else
                  if y20 = y18 then
                    (m_laws_toIntS fuel x0).bind fun y21 =>
                    (m_laws_toRowS fuel x1).bind fun y22 =>
                    (m_impl_Overlay fuel y21 y22).bind fun y23 =>
                    (m_laws_eqIntS fuel y23 y4).bind fun y24 =>
                    if y24 = true then
                      (m_laws_heldIntS fuel y19 1).bind fun y25 =>
                      if y25 < 0 then
                        some false
                      else
                        if y25 = y18 then
                          some true
                        else
                          some false
                    else
                      some false
                  else
                    some false
              else
                some false
          else
            some false
        else
          some false
      else
        some false

set_option maxRecDepth 100000 in
set_option maxHeartbeats 4000000 in
theorem w_laws_FnExactOverlay (fuel : Nat) {x0 : List Int} {x1 : List I2} {a_x0 : Option Addr} {n_x0 c_x0 : Nat} {a_x1 : Option Addr} {n_x1 c_x1 : Nat} {r0 : Bool} {w0 : World} (h : m_laws_FnExactOverlay fuel x0 x1 = some r0) (hr_x0 : RdT (fun b => ¬ False) w0 (rowT x0) (.slice a_x0 n_x0 c_x0)) (hr_x1 : RdT (fun b => ¬ False) w0 (rowT x1) (.slice a_x1 n_x1 c_x1)) :
    Calls Try.prog 7 #[.slice a_x0 n_x0 c_x0, .slice a_x1 n_x1 c_x1] w0 fun e w => e = .returned (.bool r0) ∧ St w0 (fun _ => False) w [] := by
  obtain rfl := hr_x0.neq
  obtain rfl := hr_x1.neq
  have HT : St w0 (fun _ => False) w0 [] := St.init0
  rw [m_laws_FnExactOverlay] at h
  refine calls_fr (n := 90) [.slice a_x0 x0.length c_x0, .slice a_x1 x1.length c_x1] Try.func7 rfl rfl rfl (fun a HF => ?_)
  have HT : St w0 (fun _ => False) w0 [] := HT
  refine wp_seq ?_
  refine wc_text ?_
  refine wc_assign HF nS rfl rfl rfl (fun a HF => ?_)
  refine wc_end ?_
  refine then_n ?_
  refine wp_seq ?_
  refine wp_seq ?_
  refine wc_text ?_
  refine wc_move HF nS rfl rfl rfl (fun a HF => ?_)
  refine wc_lenR HF nS Try.underlying35 rfl rfl rfl (fun a HF => ?_)
  refine wc_bin HF nS rfl rfl b_gt rfl rfl (fun a HF => ?_)
  refine wc_end ?_
  refine then_n ?_
  by_cases hb1 : 1048576 < (x0.length : Int)
  · have h := (if_pos hb1).symm.trans h
    refine wp_if (b' := true) HF rfl (decide_eq_true hb1) ?_
    refine wp_seq ?_
    refine wc_text ?_
    refine wc_assign HF nS rfl rfl rfl (fun a HF => ?_)
    refine wc_end ?_
    refine then_n ?_
    refine wp_ret ?_
    obtain rfl := Option.some.inj h
    refine then_r (?_)
    refine bp_ret HF (res_one rfl HF rfl) ?_
    exact ⟨rfl, HT⟩
  · have h := (if_neg hb1).symm.trans h
    refine wp_if (b' := false) HF rfl (decide_eq_false hb1) ?_
    refine wp_skip ?_
    refine then_n ?_
    refine wp_seq ?_
    refine wc_text ?_
    refine wc_assign HF nS rfl rfl rfl (fun a HF => ?_)
    refine wc_end ?_
    refine then_n ?_
    refine wp_seq ?_
    refine wc_text ?_
    refine wc_move HF nS rfl rfl rfl (fun a HF => ?_)
    refine wc_move HF nS rfl rfl rfl (fun a HF => ?_)
    obtain ⟨y1, hx1, h⟩ := obs h
    refine wc_call HF cf9 rfl (w_laws_szRowS fuel hx1 (HT.ro hr_x1).any) rfl rfl ?_
    rintro e w ⟨rfl, hE⟩
    have hb := hE.below
    have HT := HT.pure hE
    have HT : St w0 (fun _ => False) w [] := HT
    refine ⟨_, rfl, nS, fun a HF => ?_⟩
    refine wc_assign HF nS rfl rfl rfl (fun a HF => ?_)
    refine wc_end ?_
    refine then_n ?_
    refine wp_seq ?_
    refine wp_seq ?_
    refine wc_text ?_
    refine wc_move HF nS rfl rfl rfl (fun a HF => ?_)
    refine wc_bin HF nS rfl rfl b_lt rfl rfl (fun a HF => ?_)
    refine wc_end ?_
    refine then_n ?_
    by_cases hb2 : y1 < 0
    · have h := (if_pos hb2).symm.trans h
      refine wp_if (b' := true) HF rfl (decide_eq_true hb2) ?_
      refine wp_seq ?_
      refine wc_text ?_
      refine wc_assign HF nS rfl rfl rfl (fun a HF => ?_)
      refine wc_end ?_
      refine then_n ?_
      refine wp_ret ?_
      obtain rfl := Option.some.inj h
      refine then_r (?_)
      refine bp_ret HF (res_one rfl HF rfl) ?_
      exact ⟨rfl, HT⟩
    · have h := (if_neg hb2).symm.trans h
      refine wp_if (b' := false) HF rfl (decide_eq_false hb2) ?_
      refine wp_skip ?_
      refine then_n ?_
      refine wp_seq ?_
      refine wc_text ?_
      refine wc_move HF nS rfl rfl rfl (fun a HF => ?_)
      obtain ⟨y2, hx2, h⟩ := obs h
      refine wc_call HF cf23 rfl (w_laws_toIntS fuel hx2 (HT.ro hr_x0).any) rfl rfl ?_
      rintro e w ⟨a1, n1, c1, rfl, hE⟩
      have hb := hE.below
      have HT := HT.pure hE
      obtain rfl := (HT.rdAt 0 rfl).neq
      have HT : St w0 (fun _ => False) w [Own 3 (rowT y2) (.slice a1 y2.length c1)] := HT
      refine ⟨_, rfl, nS, fun a HF => ?_⟩
      refine wc_move HF nS rfl rfl rfl (fun a HF => ?_)
      obtain ⟨y3, hx3, h⟩ := obs h
      refine wc_call HF cf11 rfl (w_laws_toRowS fuel hx3 (HT.ro hr_x1).any) rfl rfl ?_
      rintro e w ⟨a2, n2, c2, rfl, hE⟩
      have hb := hE.below
      have HT := HT.pure hE
      obtain rfl := (HT.rdAt 0 rfl).neq
      have HT : St w0 (fun _ => False) w [Own 44 (rowT y3) (.slice a2 y3.length c2), Own 3 (rowT y2) (.slice a1 y2.length c1)] := HT
      refine ⟨_, rfl, nS, fun a HF => ?_⟩
      obtain ⟨y4, hx4, h⟩ := obs h
      refine wc_call HF cf22 rfl (w_spec_Overlay fuel hx4 (HT.rdAt 1 rfl) (HT.rdAt 0 rfl)) rfl rfl ?_
      rintro e w ⟨a3, n3, c3, rfl, hE⟩
      have hb := hE.below
      have HT := HT.pure hE
      obtain rfl := (HT.rdAt 0 rfl).neq
      have HT : St w0 (fun _ => False) w [Own 3 (rowT y4) (.slice a3 y4.length c3), Own 44 (rowT y3) (.slice a2 y3.length c2), Own 3 (rowT y2) (.slice a1 y2.length c1)] := HT
      refine ⟨_, rfl, nS, fun a HF => ?_⟩
      refine wc_assign HF nS rfl rfl rfl (fun a HF => ?_)
      refine wc_end ?_
      refine then_n ?_
      refine wp_seq ?_
      refine wc_text ?_
      refine wc_move HF nS rfl rfl rfl (fun a HF => ?_)
      obtain ⟨y5, hx5, h⟩ := obs h
      refine wc_call HF cf23 rfl (w_laws_toIntS fuel hx5 (HT.ro hr_x0).any) rfl rfl ?_
      rintro e w ⟨a4, n4, c4, rfl, hE⟩
      have hb := hE.below
      have HT := HT.pure hE
      obtain rfl := (HT.rdAt 0 rfl).neq
      have HT : St w0 (fun _ => False) w [Own 3 (rowT y5) (.slice a4 y5.length c4), Own 3 (rowT y4) (.slice a3 y4.length c3), Own 44 (rowT y3) (.slice a2 y3.length c2), Own 3 (rowT y2) (.slice a1 y2.length c1)] := HT
      refine ⟨_, rfl, nS, fun a HF => ?_⟩
      refine wc_assign HF nS rfl rfl rfl (fun a HF => ?_)
      refine wc_end ?_
      refine then_n ?_
      refine wp_seq ?_
      refine wc_text ?_
      refine wc_move HF nS rfl rfl rfl (fun a HF => ?_)
      obtain ⟨y6, hx6, h⟩ := obs h
      refine wc_call HF cf11 rfl (w_laws_toRowS fuel hx6 (HT.ro hr_x1).any) rfl rfl ?_
      rintro e w ⟨a5, n5, c5, rfl, hE⟩
      have hb := hE.below
      have HT := HT.pure hE
      obtain rfl := (HT.rdAt 0 rfl).neq
      have HT : St w0 (fun _ => False) w [Own 44 (rowT y6) (.slice a5 y6.length c5), Own 3 (rowT y5) (.slice a4 y5.length c4), Own 3 (rowT y4) (.slice a3 y4.length c3), Own 44 (rowT y3) (.slice a2 y3.length c2), Own 3 (rowT y2) (.slice a1 y2.length c1)] := HT
      refine ⟨_, rfl, nS, fun a HF => ?_⟩
      refine wc_assign HF nS rfl rfl rfl (fun a HF => ?_)
      refine wc_end ?_
      refine then_n ?_
      refine wp_seq ?_
      refine wc_text ?_
      refine wc_move HF nS rfl rfl rfl (fun a HF => ?_)
      refine wc_move HF nS rfl rfl rfl (fun a HF => ?_)
      obtain ⟨y7, hx7, h⟩ := obs h
      refine wc_call HF cf24 rfl (w_impl_Overlay fuel hx7 (HT.rdAt 1 rfl) (HT.rdAt 0 rfl)) rfl rfl ?_
      rintro e w ⟨a6, n6, c6, rfl, hE⟩
      have hb := hE.below
      have HT := HT.pure hE
      obtain rfl := (HT.rdAt 0 rfl).neq
      have HT : St w0 (fun _ => False) w [Own 3 (rowT y7) (.slice a6 y7.length c6), Own 44 (rowT y6) (.slice a5 y6.length c5), Own 3 (rowT y5) (.slice a4 y5.length c4), Own 3 (rowT y4) (.slice a3 y4.length c3), Own 44 (rowT y3) (.slice a2 y3.length c2), Own 3 (rowT y2) (.slice a1 y2.length c1)] := HT
      refine ⟨_, rfl, nS, fun a HF => ?_⟩
      refine wc_assign HF nS rfl rfl rfl (fun a HF => ?_)
      refine wc_end ?_
      refine then_n ?_
      refine wp_seq ?_
      refine wp_seq ?_
      refine wc_text ?_
      refine wc_move HF nS rfl rfl rfl (fun a HF => ?_)
      refine wc_move HF nS rfl rfl rfl (fun a HF => ?_)
      obtain ⟨y8, hx8, h⟩ := obs h
      refine wc_call HF cf25 rfl (w_laws_eqIntS fuel hx8 (HT.rdAt 0 rfl) (HT.rdAt 3 rfl)) rfl rfl ?_
      rintro e w ⟨rfl, hE⟩
      have hb := hE.below
      have HT := HT.pure hE
      have HT : St w0 (fun _ => False) w [Own 3 (rowT y7) (.slice a6 y7.length c6), Own 44 (rowT y6) (.slice a5 y6.length c5), Own 3 (rowT y5) (.slice a4 y5.length c4), Own 3 (rowT y4) (.slice a3 y4.length c3), Own 44 (rowT y3) (.slice a2 y3.length c2), Own 3 (rowT y2) (.slice a1 y2.length c1)] := HT
      refine ⟨_, rfl, nS, fun a HF => ?_⟩
      refine wc_not HF nS rfl rfl rfl (fun a HF => ?_)
      refine wc_end ?_
      refine then_n ?_
      by_cases hb3 : y8 = true
      · have h := (if_pos hb3).symm.trans h
        refine wp_if (b' := false) HF rfl (notT hb3) ?_
        refine wp_skip ?_
        refine then_n ?_
        refine wp_seq ?_
        refine wp_seq ?_
        refine wc_text ?_
        refine wc_move HF nS rfl rfl rfl (fun a HF => ?_)
        refine wc_move HF nS rfl rfl rfl (fun a HF => ?_)
        obtain ⟨y9, hx9, h⟩ := obs h
        refine wc_call HF cf23 rfl (w_laws_toIntS fuel hx9 (HT.ro hr_x0).any) rfl rfl ?_
        rintro e w ⟨a7, n7, c7, rfl, hE⟩
        have hb := hE.below
        have HT := HT.pure hE
        obtain rfl := (HT.rdAt 0 rfl).neq
        have HT : St w0 (fun _ => False) w [Own 3 (rowT y9) (.slice a7 y9.length c7), Own 3 (rowT y7) (.slice a6 y7.length c6), Own 44 (rowT y6) (.slice a5 y6.length c5), Own 3 (rowT y5) (.slice a4 y5.length c4), Own 3 (rowT y4) (.slice a3 y4.length c3), Own 44 (rowT y3) (.slice a2 y3.length c2), Own 3 (rowT y2) (.slice a1 y2.length c1)] := HT
        refine ⟨_, rfl, nS, fun a HF => ?_⟩
        obtain ⟨y10, hx10, h⟩ := obs h
        refine wc_call HF cf25 rfl (w_laws_eqIntS fuel hx10 (HT.rdAt 3 rfl) (HT.rdAt 0 rfl)) rfl rfl ?_
        rintro e w ⟨rfl, hE⟩
        have hb := hE.below
        have HT := HT.pure hE
        have HT : St w0 (fun _ => False) w [Own 3 (rowT y9) (.slice a7 y9.length c7), Own 3 (rowT y7) (.slice a6 y7.length c6), Own 44 (rowT y6) (.slice a5 y6.length c5), Own 3 (rowT y5) (.slice a4 y5.length c4), Own 3 (rowT y4) (.slice a3 y4.length c3), Own 44 (rowT y3) (.slice a2 y3.length c2), Own 3 (rowT y2) (.slice a1 y2.length c1)] := HT
        refine ⟨_, rfl, nS, fun a HF => ?_⟩
        refine wc_not HF nS rfl rfl rfl (fun a HF => ?_)
        refine wc_end ?_
        refine then_n ?_
        by_cases hb4 : y10 = true
        · have h := (if_pos hb4).symm.trans h
          refine wp_if (b' := false) HF rfl (notT hb4) ?_
          refine wp_skip ?_
          refine then_n ?_
          refine wp_seq ?_
          refine wp_seq ?_
          refine wc_text ?_
          refine wc_move HF nS rfl rfl rfl (fun a HF => ?_)
          refine wc_move HF nS rfl rfl rfl (fun a HF => ?_)
          obtain ⟨y11, hx11, h⟩ := obs h
          refine wc_call HF cf11 rfl (w_laws_toRowS fuel hx11 (HT.ro hr_x1).any) rfl rfl ?_
          rintro e w ⟨a8, n8, c8, rfl, hE⟩
          have hb := hE.below
          have HT := HT.pure hE
          obtain rfl := (HT.rdAt 0 rfl).neq
          have HT : St w0 (fun _ => False) w [Own 44 (rowT y11) (.slice a8 y11.length c8), Own 3 (rowT y9) (.slice a7 y9.length c7), Own 3 (rowT y7) (.slice a6 y7.length c6), Own 44 (rowT y6) (.slice a5 y6.length c5), Own 3 (rowT y5) (.slice a4 y5.length c4), Own 3 (rowT y4) (.slice a3 y4.length c3), Own 44 (rowT y3) (.slice a2 y3.length c2), Own 3 (rowT y2) (.slice a1 y2.length c1)] := HT
          refine ⟨_, rfl, nS, fun a HF => ?_⟩
          obtain ⟨y12, hx12, h⟩ := obs h
          refine wc_call HF cf13 rfl (w_laws_eqRowS fuel hx12 (HT.rdAt 3 rfl) (HT.rdAt 0 rfl)) rfl rfl ?_
          rintro e w ⟨rfl, hE⟩
          have hb := hE.below
          have HT := HT.pure hE
          have HT : St w0 (fun _ => False) w [Own 44 (rowT y11) (.slice a8 y11.length c8), Own 3 (rowT y9) (.slice a7 y9.length c7), Own 3 (rowT y7) (.slice a6 y7.length c6), Own 44 (rowT y6) (.slice a5 y6.length c5), Own 3 (rowT y5) (.slice a4 y5.length c4), Own 3 (rowT y4) (.slice a3 y4.length c3), Own 44 (rowT y3) (.slice a2 y3.length c2), Own 3 (rowT y2) (.slice a1 y2.length c1)] := HT
          refine ⟨_, rfl, nS, fun a HF => ?_⟩
          refine wc_not HF nS rfl rfl rfl (fun a HF => ?_)
          refine wc_end ?_
          refine then_n ?_
          by_cases hb5 : y12 = true
          · have h := (if_pos hb5).symm.trans h
            refine wp_if (b' := false) HF rfl (notT hb5) ?_
            refine wp_skip ?_
            refine then_n ?_
            refine wp_seq ?_
            refine wc_text ?_
            refine wc_assign HF nS rfl rfl rfl (fun a HF => ?_)
            refine wc_end ?_
            refine then_n ?_
            refine wp_seq ?_
            refine wc_text ?_
            refine wc_move HF nS rfl rfl rfl (fun a HF => ?_)
            refine wc_move HF nS rfl rfl rfl (fun a HF => ?_)
            obtain ⟨y13, y14, hx13, h⟩ := obs2 h
            have HT : St w0 (fun _ => False) w [Own 3 (rowT y5) (.slice a4 y5.length c4), Own 44 (rowT y11) (.slice a8 y11.length c8), Own 3 (rowT y9) (.slice a7 y9.length c7), Own 3 (rowT y7) (.slice a6 y7.length c6), Own 44 (rowT y6) (.slice a5 y6.length c5), Own 3 (rowT y4) (.slice a3 y4.length c3), Own 44 (rowT y3) (.slice a2 y3.length c2), Own 3 (rowT y2) (.slice a1 y2.length c1)] := HT.pick 4
            obtain ⟨F1, hAF1, hFF1, hbackF1, hroF1, hownF1⟩ := St.handR (A := [Own 3 (rowT y5) (.slice a4 y5.length c4)]) HT
            refine wc_call HF cf26 rfl (w_laws_markIntS fuel hx13 hAF1) rfl rfl ?_
            rintro e w ⟨rfl, hE⟩
            have HT := hbackF1 _ _ hE
            have HT : St w0 (fun _ => False) w [Own 3 (rowT y14) (.slice a4 y5.length c4), Own 44 (rowT y11) (.slice a8 y11.length c8), Own 3 (rowT y9) (.slice a7 y9.length c7), Own 3 (rowT y7) (.slice a6 y7.length c6), Own 44 (rowT y6) (.slice a5 y6.length c5), Own 3 (rowT y4) (.slice a3 y4.length c3), Own 44 (rowT y3) (.slice a2 y3.length c2), Own 3 (rowT y2) (.slice a1 y2.length c1)] := HT
            refine ⟨_, rfl, nS, fun a HF => ?_⟩
            refine wc_assign HF nS rfl rfl rfl (fun a HF => ?_)
            refine wc_end ?_
            refine then_n ?_
            refine wp_seq ?_
            refine wc_text ?_
            refine wc_move HF nS rfl rfl rfl (fun a HF => ?_)
            refine wc_move HF nS rfl rfl rfl (fun a HF => ?_)
            obtain ⟨y15, y16, hx14, h⟩ := obs2 h
            have HT : St w0 (fun _ => False) w [Own 44 (rowT y6) (.slice a5 y6.length c5), Own 3 (rowT y14) (.slice a4 y5.length c4), Own 44 (rowT y11) (.slice a8 y11.length c8), Own 3 (rowT y9) (.slice a7 y9.length c7), Own 3 (rowT y7) (.slice a6 y7.length c6), Own 3 (rowT y4) (.slice a3 y4.length c3), Own 44 (rowT y3) (.slice a2 y3.length c2), Own 3 (rowT y2) (.slice a1 y2.length c1)] := HT.pick 4
            obtain ⟨F2, hAF2, hFF2, hbackF2, hroF2, hownF2⟩ := St.handR (A := [Own 44 (rowT y6) (.slice a5 y6.length c5)]) HT
            refine wc_call HF cf18 rfl (w_laws_markRowS fuel hx14 hAF2) rfl rfl ?_
            rintro e w ⟨rfl, hE⟩
            have HT := hbackF2 _ _ hE
            have HT : St w0 (fun _ => False) w [Own 44 (rowT y16) (.slice a5 y6.length c5), Own 3 (rowT y14) (.slice a4 y5.length c4), Own 44 (rowT y11) (.slice a8 y11.length c8), Own 3 (rowT y9) (.slice a7 y9.length c7), Own 3 (rowT y7) (.slice a6 y7.length c6), Own 3 (rowT y4) (.slice a3 y4.length c3), Own 44 (rowT y3) (.slice a2 y3.length c2), Own 3 (rowT y2) (.slice a1 y2.length c1)] := HT
            refine ⟨_, rfl, nS, fun a HF => ?_⟩
            refine wc_assign HF nS rfl rfl rfl (fun a HF => ?_)
            refine wc_end ?_
            refine then_n ?_
            refine wp_seq ?_
            refine wp_seq ?_
            refine wc_text ?_
            refine wc_move HF nS rfl rfl rfl (fun a HF => ?_)
            refine wc_bin HF nS rfl rfl b_lt rfl rfl (fun a HF => ?_)
            refine wc_move HF nS rfl rfl rfl (fun a HF => ?_)
            by_cases hb6 : y15 < 0
            · have h := (if_pos hb6).symm.trans h
              refine wc_skip HF nS (HF.wn rfl rfl rfl rfl (decide_eq_true hb6)) rfl (fun a HF => ?_)
              refine wc_skip HF nS (HF.wn rfl rfl rfl rfl (decide_eq_true hb6)) rfl (fun a HF => ?_)
              refine wc_skip HF nS (HF.wn rfl rfl rfl rfl (decide_eq_true hb6)) rfl (fun a HF => ?_)
              refine wc_skip HF nS (HF.wn rfl rfl rfl rfl (decide_eq_true hb6)) rfl (fun a HF => ?_)
              refine wc_pick (b := true) HF nS rfl (decide_eq_true hb6) rfl rfl rfl (fun a HF => ?_)
              refine wc_end ?_
              refine then_n ?_
              refine wp_if (b' := true) HF rfl rfl ?_
              refine wp_seq ?_
              refine wc_text ?_
              refine wc_assign HF nS rfl rfl rfl (fun a HF => ?_)
              refine wc_end ?_
              refine then_n ?_
              refine wp_ret ?_
              obtain rfl := Option.some.inj h
              refine then_r (?_)
              refine bp_ret HF (res_one rfl HF rfl) ?_
              have HT : St w0 (fun _ => False) w [] := HT.take 0
              exact ⟨rfl, HT⟩
            · have h := (if_neg hb6).symm.trans h
              refine wc_move HF nS rfl (HF.wy rfl rfl rfl rfl (decide_eq_false hb6)) rfl (fun a HF => ?_)
              refine wc_move HF nS rfl (HF.wy rfl rfl rfl rfl (decide_eq_false hb6)) rfl (fun a HF => ?_)
              obtain ⟨y17, hx15, h⟩ := obs h
              refine wc_call HF cf25 rfl (w_laws_eqIntS fuel hx15 (HT.rdAt 4 rfl) (HT.rdAt 5 rfl)) (HF.wy rfl rfl rfl rfl (decide_eq_false hb6)) rfl ?_
              rintro e w ⟨rfl, hE⟩
              have hb := hE.below
              have HT := HT.pure hE
              have HT : St w0 (fun _ => False) w [Own 44 (rowT y16) (.slice a5 y6.length c5), Own 3 (rowT y14) (.slice a4 y5.length c4), Own 44 (rowT y11) (.slice a8 y11.length c8), Own 3 (rowT y9) (.slice a7 y9.length c7), Own 3 (rowT y7) (.slice a6 y7.length c6), Own 3 (rowT y4) (.slice a3 y4.length c3), Own 44 (rowT y3) (.slice a2 y3.length c2), Own 3 (rowT y2) (.slice a1 y2.length c1)] := HT
              refine ⟨_, rfl, nS, fun a HF => ?_⟩
              refine wc_not HF nS rfl (HF.wy rfl rfl rfl rfl (decide_eq_false hb6)) rfl (fun a HF => ?_)
              refine wc_pick (b := false) HF nS rfl (decide_eq_false hb6) rfl rfl rfl (fun a HF => ?_)
              refine wc_end ?_
              refine then_n ?_
              by_cases hb7 : y17 = true
              · have h := (if_pos hb7).symm.trans h
                refine wp_if (b' := false) HF rfl (notT hb7) ?_
                refine wp_skip ?_
                refine then_n ?_
                refine wp_seq ?_
                refine wc_text ?_
                refine wc_assign HF nS rfl rfl rfl (fun a HF => ?_)
                refine wc_end ?_
                refine then_n ?_
                refine wp_seq ?_
                refine wc_text ?_
                refine wc_move HF nS rfl rfl rfl (fun a HF => ?_)
                refine wc_move HF nS rfl rfl rfl (fun a HF => ?_)
                obtain ⟨y18, y19, hx16, h⟩ := obs2 h
                have HT : St w0 (fun _ => False) w [Own 3 (rowT y7) (.slice a6 y7.length c6), Own 44 (rowT y16) (.slice a5 y6.length c5), Own 3 (rowT y14) (.slice a4 y5.length c4), Own 44 (rowT y11) (.slice a8 y11.length c8), Own 3 (rowT y9) (.slice a7 y9.length c7), Own 3 (rowT y4) (.slice a3 y4.length c3), Own 44 (rowT y3) (.slice a2 y3.length c2), Own 3 (rowT y2) (.slice a1 y2.length c1)] := HT.pick 4
                obtain ⟨F3, hAF3, hFF3, hbackF3, hroF3, hownF3⟩ := St.handR (A := [Own 3 (rowT y7) (.slice a6 y7.length c6)]) HT
                refine wc_call HF cf26 rfl (w_laws_markIntS fuel hx16 hAF3) rfl rfl ?_
                rintro e w ⟨rfl, hE⟩
                have HT := hbackF3 _ _ hE
                have HT : St w0 (fun _ => False) w [Own 3 (rowT y19) (.slice a6 y7.length c6), Own 44 (rowT y16) (.slice a5 y6.length c5), Own 3 (rowT y14) (.slice a4 y5.length c4), Own 44 (rowT y11) (.slice a8 y11.length c8), Own 3 (rowT y9) (.slice a7 y9.length c7), Own 3 (rowT y4) (.slice a3 y4.length c3), Own 44 (rowT y3) (.slice a2 y3.length c2), Own 3 (rowT y2) (.slice a1 y2.length c1)] := HT
                refine ⟨_, rfl, nS, fun a HF => ?_⟩
                refine wc_assign HF nS rfl rfl rfl (fun a HF => ?_)
                refine wc_end ?_
                refine then_n ?_
                refine wp_seq ?_
                refine wc_text ?_
                refine wc_assign HF nS rfl rfl rfl (fun a HF => ?_)
                refine wc_end ?_
                refine then_n ?_
                refine wp_seq ?_
                refine wc_text ?_
                refine wc_move HF nS rfl rfl rfl (fun a HF => ?_)
                refine wc_move HF nS rfl rfl rfl (fun a HF => ?_)
                obtain ⟨y20, hx17, h⟩ := obs h
                refine wc_call HF cf27 rfl (w_laws_heldIntS fuel hx17 (HT.rdAt 0 rfl)) rfl rfl ?_
                rintro e w ⟨rfl, hE⟩
                have hb := hE.below
                have HT := HT.pure hE
                have HT : St w0 (fun _ => False) w [Own 3 (rowT y19) (.slice a6 y7.length c6), Own 44 (rowT y16) (.slice a5 y6.length c5), Own 3 (rowT y14) (.slice a4 y5.length c4), Own 44 (rowT y11) (.slice a8 y11.length c8), Own 3 (rowT y9) (.slice a7 y9.length c7), Own 3 (rowT y4) (.slice a3 y4.length c3), Own 44 (rowT y3) (.slice a2 y3.length c2), Own 3 (rowT y2) (.slice a1 y2.length c1)] := HT
                refine ⟨_, rfl, nS, fun a HF => ?_⟩
                refine wc_assign HF nS rfl rfl rfl (fun a HF => ?_)
                refine wc_end ?_
                refine then_n ?_
                refine wp_seq ?_
                refine wp_seq ?_
                refine wc_text ?_
                refine wc_move HF nS rfl rfl rfl (fun a HF => ?_)
                refine wc_bin HF nS rfl rfl b_lt rfl rfl (fun a HF => ?_)
                refine wc_end ?_
                refine then_n ?_
                by_cases hb8 : y20 < 0
                · have h := (if_pos hb8).symm.trans h
                  refine wp_if (b' := true) HF rfl (decide_eq_true hb8) ?_
                  refine wp_seq ?_
                  refine wc_text ?_
                  refine wc_assign HF nS rfl rfl rfl (fun a HF => ?_)
                  refine wc_end ?_
                  refine then_n ?_
                  refine wp_ret ?_
                  obtain rfl := Option.some.inj h
                  refine then_r (?_)
                  refine bp_ret HF (res_one rfl HF rfl) ?_
                  have HT : St w0 (fun _ => False) w [] := HT.take 0
                  exact ⟨rfl, HT⟩
                · have h := (if_neg hb8).symm.trans h
                  refine wp_if (b' := false) HF rfl (decide_eq_false hb8) ?_
                  refine wp_skip ?_
                  refine then_n ?_
                  refine wp_seq ?_
                  refine wp_seq ?_
                  refine wc_text ?_
                  refine wc_move HF nS rfl rfl rfl (fun a HF => ?_)
                  refine wc_move HF nS rfl rfl rfl (fun a HF => ?_)
                  refine wc_bin HF nS rfl rfl b_ne rfl rfl (fun a HF => ?_)
                  refine wc_end ?_
                  refine then_n ?_
                  by_cases hb9 : y20 = y18
                  · have h := (if_pos hb9).symm.trans h
                    refine wp_if (b' := false) HF rfl (notT (decide_eq_true hb9)) ?_
                    refine wp_skip ?_
                    refine then_n ?_
                    refine wp_seq ?_
                    refine wc_text ?_
                    refine wc_move HF nS rfl rfl rfl (fun a HF => ?_)
                    obtain ⟨y21, hx18, h⟩ := obs h
                    refine wc_call HF cf23 rfl (w_laws_toIntS fuel hx18 (HT.ro hr_x0).any) rfl rfl ?_
                    rintro e w ⟨a9, n9, c9, rfl, hE⟩
                    have hb := hE.below
                    have HT := HT.pure hE
                    obtain rfl := (HT.rdAt 0 rfl).neq
                    have HT : St w0 (fun _ => False) w [Own 3 (rowT y21) (.slice a9 y21.length c9), Own 3 (rowT y19) (.slice a6 y7.length c6), Own 44 (rowT y16) (.slice a5 y6.length c5), Own 3 (rowT y14) (.slice a4 y5.length c4), Own 44 (rowT y11) (.slice a8 y11.length c8), Own 3 (rowT y9) (.slice a7 y9.length c7), Own 3 (rowT y4) (.slice a3 y4.length c3), Own 44 (rowT y3) (.slice a2 y3.length c2), Own 3 (rowT y2) (.slice a1 y2.length c1)] := HT
                    refine ⟨_, rfl, nS, fun a HF => ?_⟩
                    refine wc_move HF nS rfl rfl rfl (fun a HF => ?_)
                    obtain ⟨y22, hx19, h⟩ := obs h
                    refine wc_call HF cf11 rfl (w_laws_toRowS fuel hx19 (HT.ro hr_x1).any) rfl rfl ?_
                    rintro e w ⟨a10, n10, c10, rfl, hE⟩
                    have hb := hE.below
                    have HT := HT.pure hE
                    obtain rfl := (HT.rdAt 0 rfl).neq
                    have HT : St w0 (fun _ => False) w [Own 44 (rowT y22) (.slice a10 y22.length c10), Own 3 (rowT y21) (.slice a9 y21.length c9), Own 3 (rowT y19) (.slice a6 y7.length c6), Own 44 (rowT y16) (.slice a5 y6.length c5), Own 3 (rowT y14) (.slice a4 y5.length c4), Own 44 (rowT y11) (.slice a8 y11.length c8), Own 3 (rowT y9) (.slice a7 y9.length c7), Own 3 (rowT y4) (.slice a3 y4.length c3), Own 44 (rowT y3) (.slice a2 y3.length c2), Own 3 (rowT y2) (.slice a1 y2.length c1)] := HT
                    refine ⟨_, rfl, nS, fun a HF => ?_⟩
                    obtain ⟨y23, hx20, h⟩ := obs h
                    refine wc_call HF cf24 rfl (w_impl_Overlay fuel hx20 (HT.rdAt 1 rfl) (HT.rdAt 0 rfl)) rfl rfl ?_
                    rintro e w ⟨a11, n11, c11, rfl, hE⟩
                    have hb := hE.below
                    have HT := HT.pure hE
                    obtain rfl := (HT.rdAt 0 rfl).neq
                    have HT : St w0 (fun _ => False) w [Own 3 (rowT y23) (.slice a11 y23.length c11), Own 44 (rowT y22) (.slice a10 y22.length c10), Own 3 (rowT y21) (.slice a9 y21.length c9), Own 3 (rowT y19) (.slice a6 y7.length c6), Own 44 (rowT y16) (.slice a5 y6.length c5), Own 3 (rowT y14) (.slice a4 y5.length c4), Own 44 (rowT y11) (.slice a8 y11.length c8), Own 3 (rowT y9) (.slice a7 y9.length c7), Own 3 (rowT y4) (.slice a3 y4.length c3), Own 44 (rowT y3) (.slice a2 y3.length c2), Own 3 (rowT y2) (.slice a1 y2.length c1)] := HT
                    refine ⟨_, rfl, nS, fun a HF => ?_⟩
                    refine wc_assign HF nS rfl rfl rfl (fun a HF => ?_)
                    refine wc_end ?_
                    refine then_n ?_
                    refine wp_seq ?_
                    refine wp_seq ?_
                    refine wc_text ?_
                    refine wc_move HF nS rfl rfl rfl (fun a HF => ?_)
                    refine wc_move HF nS rfl rfl rfl (fun a HF => ?_)
                    obtain ⟨y24, hx21, h⟩ := obs h
                    refine wc_call HF cf25 rfl (w_laws_eqIntS fuel hx21 (HT.rdAt 0 rfl) (HT.rdAt 8 rfl)) rfl rfl ?_
                    rintro e w ⟨rfl, hE⟩
                    have hb := hE.below
                    have HT := HT.pure hE
                    have HT : St w0 (fun _ => False) w [Own 3 (rowT y23) (.slice a11 y23.length c11), Own 44 (rowT y22) (.slice a10 y22.length c10), Own 3 (rowT y21) (.slice a9 y21.length c9), Own 3 (rowT y19) (.slice a6 y7.length c6), Own 44 (rowT y16) (.slice a5 y6.length c5), Own 3 (rowT y14) (.slice a4 y5.length c4), Own 44 (rowT y11) (.slice a8 y11.length c8), Own 3 (rowT y9) (.slice a7 y9.length c7), Own 3 (rowT y4) (.slice a3 y4.length c3), Own 44 (rowT y3) (.slice a2 y3.length c2), Own 3 (rowT y2) (.slice a1 y2.length c1)] := HT
                    refine ⟨_, rfl, nS, fun a HF => ?_⟩
                    refine wc_not HF nS rfl rfl rfl (fun a HF => ?_)
                    refine wc_end ?_
                    refine then_n ?_
                    by_cases hb10 : y24 = true
                    · have h := (if_pos hb10).symm.trans h
                      refine wp_if (b' := false) HF rfl (notT hb10) ?_
                      refine wp_skip ?_
                      refine then_n ?_
                      refine wp_seq ?_
                      refine wc_text ?_
                      refine wc_assign HF nS rfl rfl rfl (fun a HF => ?_)
                      refine wc_end ?_
                      refine then_n ?_
                      refine wp_seq ?_
                      refine wc_text ?_
                      refine wc_move HF nS rfl rfl rfl (fun a HF => ?_)
                      refine wc_move HF nS rfl rfl rfl (fun a HF => ?_)
                      obtain ⟨y25, hx22, h⟩ := obs h
                      refine wc_call HF cf27 rfl (w_laws_heldIntS fuel hx22 (HT.rdAt 3 rfl)) rfl rfl ?_
                      rintro e w ⟨rfl, hE⟩
                      have hb := hE.below
                      have HT := HT.pure hE
                      have HT : St w0 (fun _ => False) w [Own 3 (rowT y23) (.slice a11 y23.length c11), Own 44 (rowT y22) (.slice a10 y22.length c10), Own 3 (rowT y21) (.slice a9 y21.length c9), Own 3 (rowT y19) (.slice a6 y7.length c6), Own 44 (rowT y16) (.slice a5 y6.length c5), Own 3 (rowT y14) (.slice a4 y5.length c4), Own 44 (rowT y11) (.slice a8 y11.length c8), Own 3 (rowT y9) (.slice a7 y9.length c7), Own 3 (rowT y4) (.slice a3 y4.length c3), Own 44 (rowT y3) (.slice a2 y3.length c2), Own 3 (rowT y2) (.slice a1 y2.length c1)] := HT
                      refine ⟨_, rfl, nS, fun a HF => ?_⟩
                      refine wc_assign HF nS rfl rfl rfl (fun a HF => ?_)
                      refine wc_end ?_
                      refine then_n ?_
                      refine wp_seq ?_
                      refine wp_seq ?_
                      refine wc_text ?_
                      refine wc_move HF nS rfl rfl rfl (fun a HF => ?_)
                      refine wc_bin HF nS rfl rfl b_lt rfl rfl (fun a HF => ?_)
                      refine wc_end ?_
                      refine then_n ?_
                      by_cases hb11 : y25 < 0
                      · have h := (if_pos hb11).symm.trans h
                        refine wp_if (b' := true) HF rfl (decide_eq_true hb11) ?_
                        refine wp_seq ?_
                        refine wc_text ?_
                        refine wc_assign HF nS rfl rfl rfl (fun a HF => ?_)
                        refine wc_end ?_
                        refine then_n ?_
                        refine wp_ret ?_
                        obtain rfl := Option.some.inj h
                        refine then_r (?_)
                        refine bp_ret HF (res_one rfl HF rfl) ?_
                        have HT : St w0 (fun _ => False) w [] := HT.take 0
                        exact ⟨rfl, HT⟩
                      · have h := (if_neg hb11).symm.trans h
                        refine wp_if (b' := false) HF rfl (decide_eq_false hb11) ?_
                        refine wp_skip ?_
                        refine then_n ?_
                        refine wp_seq ?_
                        refine wp_seq ?_
                        refine wc_text ?_
                        refine wc_move HF nS rfl rfl rfl (fun a HF => ?_)
                        refine wc_move HF nS rfl rfl rfl (fun a HF => ?_)
                        refine wc_bin HF nS rfl rfl b_ne rfl rfl (fun a HF => ?_)
                        refine wc_end ?_
                        refine then_n ?_
                        by_cases hb12 : y25 = y18
                        · have h := (if_pos hb12).symm.trans h
                          refine wp_if (b' := false) HF rfl (notT (decide_eq_true hb12)) ?_
                          refine wp_skip ?_
                          refine then_n ?_
                          refine wp_seq ?_
                          refine wc_text ?_
                          refine wc_assign HF nS rfl rfl rfl (fun a HF => ?_)
                          refine wc_end ?_
                          refine then_n ?_
                          refine wp_ret ?_
                          obtain rfl := Option.some.inj h
                          refine bp_ret HF (res_one rfl HF rfl) ?_
                          have HT : St w0 (fun _ => False) w [] := HT.take 0
                          exact ⟨rfl, HT⟩
                        · have h := (if_neg hb12).symm.trans h
                          refine wp_if (b' := true) HF rfl (notF (decide_eq_false hb12)) ?_
                          refine wp_seq ?_
                          refine wc_text ?_
                          refine wc_assign HF nS rfl rfl rfl (fun a HF => ?_)
                          refine wc_end ?_
                          refine then_n ?_
                          refine wp_ret ?_
                          obtain rfl := Option.some.inj h
                          refine then_r (?_)
                          refine bp_ret HF (res_one rfl HF rfl) ?_
                          have HT : St w0 (fun _ => False) w [] := HT.take 0
                          exact ⟨rfl, HT⟩
                    · have h := (if_neg hb10).symm.trans h
                      refine wp_if (b' := true) HF rfl (notF (Bool.eq_false_iff.2 hb10)) ?_
                      refine wp_seq ?_
                      refine wc_text ?_
                      refine wc_assign HF nS rfl rfl rfl (fun a HF => ?_)
                      refine wc_end ?_
                      refine then_n ?_
                      refine wp_ret ?_
                      obtain rfl := Option.some.inj h
                      refine then_r (?_)
                      refine bp_ret HF (res_one rfl HF rfl) ?_
                      have HT : St w0 (fun _ => False) w [] := HT.take 0
                      exact ⟨rfl, HT⟩
                  · have h := (if_neg hb9).symm.trans h
                    refine wp_if (b' := true) HF rfl (notF (decide_eq_false hb9)) ?_
                    refine wp_seq ?_
                    refine wc_text ?_
                    refine wc_assign HF nS rfl rfl rfl (fun a HF => ?_)
                    refine wc_end ?_
                    refine then_n ?_
                    refine wp_ret ?_
                    obtain rfl := Option.some.inj h
                    refine then_r (?_)
                    refine bp_ret HF (res_one rfl HF rfl) ?_
                    have HT : St w0 (fun _ => False) w [] := HT.take 0
                    exact ⟨rfl, HT⟩
              · have h := (if_neg hb7).symm.trans h
                refine wp_if (b' := true) HF rfl (notF (Bool.eq_false_iff.2 hb7)) ?_
                refine wp_seq ?_
                refine wc_text ?_
                refine wc_assign HF nS rfl rfl rfl (fun a HF => ?_)
                refine wc_end ?_
                refine then_n ?_
                refine wp_ret ?_
                obtain rfl := Option.some.inj h
                refine then_r (?_)
                refine bp_ret HF (res_one rfl HF rfl) ?_
                have HT : St w0 (fun _ => False) w [] := HT.take 0
                exact ⟨rfl, HT⟩
          · have h := (if_neg hb5).symm.trans h
            refine wp_if (b' := true) HF rfl (notF (Bool.eq_false_iff.2 hb5)) ?_
            refine wp_seq ?_
            refine wc_text ?_
            refine wc_assign HF nS rfl rfl rfl (fun a HF => ?_)
            refine wc_end ?_
            refine then_n ?_
            refine wp_ret ?_
            obtain rfl := Option.some.inj h
            refine then_r (?_)
            refine bp_ret HF (res_one rfl HF rfl) ?_
            have HT : St w0 (fun _ => False) w [] := HT.take 0
            exact ⟨rfl, HT⟩
        · have h := (if_neg hb4).symm.trans h
          refine wp_if (b' := true) HF rfl (notF (Bool.eq_false_iff.2 hb4)) ?_
          refine wp_seq ?_
          refine wc_text ?_
          refine wc_assign HF nS rfl rfl rfl (fun a HF => ?_)
          refine wc_end ?_
          refine then_n ?_
          refine wp_ret ?_
          obtain rfl := Option.some.inj h
          refine then_r (?_)
          refine bp_ret HF (res_one rfl HF rfl) ?_
          have HT : St w0 (fun _ => False) w [] := HT.take 0
          exact ⟨rfl, HT⟩
      · have h := (if_neg hb3).symm.trans h
        refine wp_if (b' := true) HF rfl (notF (Bool.eq_false_iff.2 hb3)) ?_
        refine wp_seq ?_
        refine wc_text ?_
        refine wc_assign HF nS rfl rfl rfl (fun a HF => ?_)
        refine wc_end ?_
        refine then_n ?_
        refine wp_ret ?_
        obtain rfl := Option.some.inj h
        refine then_r (?_)
        refine bp_ret HF (res_one rfl HF rfl) ?_
        have HT : St w0 (fun _ => False) w [] := HT.take 0
        exact ⟨rfl, HT⟩

def m_spec_CellsOf_L0 (fuel : Nat) (y1 : List I2) : Nat → (List Int) → Int → Option (List Int)
  | 0, _, _ => none
  | k1 + 1, z2, z3 =>
    if z3 < (y1.length : Int) then
      (at? y1 z3).bind fun e1 =>
      if z2.length + 1 ≤ 17179869184 then
        if in64 (z3 + 1) then
          m_spec_CellsOf_L0 fuel y1 k1 (z2 ++ [e1.a]) (z3 + 1)
        else none
      else none
    else
      some z2

def m_spec_CellsOf (fuel : Nat) (x0 : List I2) : Option (List Int) :=
  (m_spec_Net fuel x0).bind fun y1 =>
  (m_spec_CellsOf_L0 fuel y1 fuel ([] : List Int) 0).bind fun z1 =>
  some z1

set_option maxRecDepth 100000 in
set_option maxHeartbeats 4000000 in
theorem w_spec_CellsOf (fuel : Nat) {x0 : List I2} {a_x0 : Option Addr} {n_x0 c_x0 : Nat} {r0 : List Int} {w0 : World} (h : m_spec_CellsOf fuel x0 = some r0) (hr_x0 : RdT (fun b => ¬ False) w0 (rowT x0) (.slice a_x0 n_x0 c_x0)) :
    Calls Try.prog 28 #[.slice a_x0 n_x0 c_x0] w0 fun e w => ∃ a_r0 n_r0 c_r0, e = .returned (.slice a_r0 n_r0 c_r0) ∧ St w0 (fun _ => False) w [Own 3 (rowT r0) (.slice a_r0 n_r0 c_r0)] := by
  obtain rfl := hr_x0.neq
  have HT : St w0 (fun _ => False) w0 [] := St.init0
  rw [m_spec_CellsOf] at h
  refine calls_fr (n := 24) [.slice a_x0 x0.length c_x0] Try.func28 rfl rfl rfl (fun a HF => ?_)
  have HT : St w0 (fun _ => False) w0 [] := HT
  refine wp_seq ?_
  refine wc_text ?_
  refine wc_assign HF nS rfl rfl rfl (fun a HF => ?_)
  refine wc_end ?_
  refine then_n ?_
  refine wp_seq ?_
  refine wc_text ?_
  refine wc_bslice (l := (([] : List Int) : List Int)) (cs := []) (A := []) HF HT bs35_0 rfl rfl (gives_flat rfl) rfl (by decide) rfl rfl (fun p1 w HT hb => ⟨nS, fun a HF => ?_⟩)
  refine wc_assign HF nS rfl rfl rfl (fun a HF => ?_)
  refine wc_end ?_
  refine then_n ?_
  refine wp_seq ?_
  refine wc_text ?_
  refine wc_move HF nS rfl rfl rfl (fun a HF => ?_)
  obtain ⟨y1, hx1, h⟩ := obs h
  refine wc_call HF cf20 rfl (w_spec_Net fuel hx1 (HT.ro hr_x0).any) rfl rfl ?_
  rintro e w ⟨a1, n1, c1, rfl, hE⟩
  have hb := hE.below
  have HT := HT.pure hE
  obtain rfl := (HT.rdAt 0 rfl).neq
  have HT : St w0 (fun _ => False) w [Own 44 (rowT y1) (.slice a1 y1.length c1), Own 3 (rowT ([] : List Int)) (.slice (some ⟨p1, 0, none⟩) 0 0)] := HT
  refine ⟨_, rfl, nS, fun a HF => ?_⟩
  refine wc_assign HF nS rfl rfl rfl (fun a HF => ?_)
  refine wc_end ?_
  refine then_n ?_
  obtain ⟨z1, hx2, h⟩ := obs h
  refine wp_cut (fun a w => ∃ a2 n2 c2, Fr a 24 [(3, .slice a2 n2 c2)] ∧ St w0 (fun _ => False) w [Own 3 (rowT z1) (.slice a2 n2 c2)]) ?_ ?_
  · have hk1 := h
    have h := hx2
    refine wp_seq ?_
    refine wc_text ?_
    refine wc_assign HF nS rfl rfl rfl (fun a HF => ?_)
    refine wc_end ?_
    refine then_n ?_
    refine wp_block ?_
    have HT : St w0 (fun _ => False) w [Own 3 (rowT ([] : List Int)) (.slice (some ⟨p1, 0, none⟩) 0 0), Own 44 (rowT y1) (.slice a1 y1.length c1)] := HT.pick 1
    refine wp_loopN (fun k1 a w => ∃ z2 z3 a3 n3 c3, m_spec_CellsOf_L0 fuel y1 k1 z2 z3 = some z1 ∧ Fr a 24 [(3, .slice a3 n3 c3), (4, .slice a1 y1.length c1), (5, .int .i64 z3)] ∧ St w0 (fun _ => False) w [Own 3 (rowT z2) (.slice a3 n3 c3), Own 44 (rowT y1) (.slice a1 y1.length c1)]) fuel ⟨([] : List Int), 0, (some ⟨p1, 0, none⟩), 0, 0, h, (HF.keep (HF.keep (HF.keep HF.nil rfl) rfl) rfl), HT⟩ ?_
    rintro k1 a w ⟨z2, z3, a3, n3, c3, h, HF, HT⟩
    cases k1 with
    | zero => cases h
    | succ k1 =>
      rw [m_spec_CellsOf_L0] at h
      obtain rfl := (HT.rdAt 0 rfl).neq
      refine ?_
      refine wp_seq ?_
      refine wp_seq ?_
      refine wc_text ?_
      refine wc_move HF nS rfl rfl rfl (fun a HF => ?_)
      refine wc_move HF nS rfl rfl rfl (fun a HF => ?_)
      refine wc_lenR HF nS Try.underlying25 rfl rfl rfl (fun a HF => ?_)
      refine wc_bin HF nS rfl rfl b_lt rfl rfl (fun a HF => ?_)
      refine wc_end ?_
      refine then_n ?_
      by_cases hb1 : z3 < (y1.length : Int)
      · have h := (if_pos hb1).symm.trans h
        refine wp_if (b' := true) HF rfl (decide_eq_true hb1) ?_
        refine wp_skip ?_
        refine then_n ?_
        refine wp_seq ?_
        refine wp_block ?_
        refine wc_text ?_
        refine wc_move HF nS rfl rfl rfl (fun a HF => ?_)
        refine wc_move HF nS rfl rfl rfl (fun a HF => ?_)
        refine wc_move HF nS rfl rfl rfl (fun a HF => ?_)
        obtain ⟨e1, hx3, h⟩ := obs h
        obtain ⟨b1, o1, ha1⟩ := (HT.rdAt 1 rfl).addr hx3
        refine wc_ixaddr HF nS el25 rfl ha1 ((HT.rdAt 1 rfl)).neq rfl hx3 rfl rfl (fun a HF => ?_)
        refine wc_faddr HF nS rfl fl44_0 rfl rfl (fun a HF => ?_)
        have hc1 := (HT.rdAt 1 rfl).flatAt ha1 hx3
        refine wc_load HF rfl sc3 (hc1.get 0 rfl) rfl rfl (fun a HF => ?_)
        refine wc_bslice (l := ([e1.a] : List Int)) (cs := [.int .i64 e1.a]) (A := []) HF HT bs35_1 rfl rfl (gives_flat rfl) rfl (by decide) rfl rfl (fun p2 w HT hb => ⟨nS, fun a HF => ?_⟩)
        obtain ⟨hg1, h⟩ := grd h
        have HT : St w0 (fun _ => False) w [Own 3 (rowT z2) (.slice a3 z2.length c3), Own 3 (rowT [e1.a]) (.slice (some ⟨p2, 0, none⟩) 1 1), Own 44 (rowT y1) (.slice a1 y1.length c1)] := HT.pick 1
        refine wc_append HF HT el35 rfl rfl (Nat.zero_lt_succ _) hg1 rfl rfl rfl (fun a4 c4 w HT => ⟨nS, fun a HF => ?_⟩)
        refine wc_assign HF nS rfl rfl rfl (fun a HF => ?_)
        refine wc_end ?_
        refine blk_n ?_
        refine then_n ?_
        refine wc_text ?_
        refine wc_move HF nS rfl rfl rfl (fun a HF => ?_)
        obtain ⟨hg2, h⟩ := grd h
        refine wc_bin HF nS rfl rfl (b_add hg2) rfl rfl (fun a HF => ?_)
        refine wc_assign HF nS rfl rfl rfl (fun a HF => ?_)
        refine wc_end ?_
        exact then_n ⟨k1, Nat.lt_succ_self k1, z2 ++ [e1.a], z3 + 1, a4, (z2 ++ [e1.a]).length, c4, h, (HF.keep (HF.keep (HF.keep HF.nil rfl) rfl) rfl), HT⟩
      · have h := (if_neg hb1).symm.trans h
        refine wp_if (b' := false) HF rfl (decide_eq_false hb1) ?_
        refine wp_exit ?_
        refine then_x (then_x (?_))
        refine blk_x ?_
        have HT : St w0 (fun _ => False) w [Own 3 (rowT z2) (.slice a3 z2.length c3)] := HT.take 1
        obtain rfl := Option.some.inj h
        exact then_n ⟨a3, z2.length, c3, (HF.keep HF.nil rfl), HT⟩
  · rintro a w ⟨a2, n2, c2, HF, HT⟩
    obtain rfl := (HT.rdAt 0 rfl).neq
    refine ?_
    refine wp_seq ?_
    refine wc_text ?_
    refine wc_move HF nS rfl rfl rfl (fun a HF => ?_)
    refine wc_assign HF nS rfl rfl rfl (fun a HF => ?_)
    refine wc_end ?_
    refine then_n ?_
    refine wp_ret ?_
    obtain rfl := Option.some.inj h
    refine bp_ret HF (res_one rfl HF rfl) ?_
    exact ⟨a2, z1.length, c2, rfl, HT⟩

def m_impl_CellsOf_L0 (fuel : Nat) (y1 : List I2) : Nat → (List Int) → Int → Option (List Int)
  | 0, _, _ => none
  | k1 + 1, z2, z3 =>
    if z3 < (y1.length : Int) then
      (at? y1 z3).bind fun e1 =>
      if z2.length + 1 ≤ 17179869184 then
        if in64 (z3 + 1) then
          m_impl_CellsOf_L0 fuel y1 k1 (z2 ++ [e1.a]) (z3 + 1)
        else none
      else none
    else
      some z2

def m_impl_CellsOf (fuel : Nat) (x0 : List I2) : Option (List Int) :=
  (
    (m_impl_Net fuel x0).bind fun y1 =>
    m_impl_CellsOf_L0 fuel y1 fuel ([] : List Int) 0).bind fun z1 =>
  some z1

set_option maxRecDepth 100000 in
set_option maxHeartbeats 4000000 in
theorem w_impl_CellsOf (fuel : Nat) {x0 : List I2} {a_x0 : Option Addr} {n_x0 c_x0 : Nat} {r0 : List Int} {w0 : World} (h : m_impl_CellsOf fuel x0 = some r0) (hr_x0 : RdT (fun b => ¬ False) w0 (rowT x0) (.slice a_x0 n_x0 c_x0)) :
    Calls Try.prog 29 #[.slice a_x0 n_x0 c_x0] w0 fun e w => ∃ a_r0 n_r0 c_r0, e = .returned (.slice a_r0 n_r0 c_r0) ∧ St w0 (fun _ => False) w [Own 3 (rowT r0) (.slice a_r0 n_r0 c_r0)] := by
  obtain rfl := hr_x0.neq
  have HT : St w0 (fun _ => False) w0 [] := St.init0
  rw [m_impl_CellsOf] at h
  refine calls_fr (n := 21) [.slice a_x0 x0.length c_x0] Try.func29 rfl rfl rfl (fun a HF => ?_)
  have HT : St w0 (fun _ => False) w0 [] := HT
  refine wp_seq ?_
  refine wc_text ?_
  refine wc_assign HF nS rfl rfl rfl (fun a HF => ?_)
  refine wc_end ?_
  refine then_n ?_
  refine wp_seq ?_
  refine wc_text ?_
  refine wc_bslice (l := (([] : List Int) : List Int)) (cs := []) (A := []) HF HT bs35_0 rfl rfl (gives_flat rfl) rfl (by decide) rfl rfl (fun p1 w HT hb => ⟨nS, fun a HF => ?_⟩)
  refine wc_assign HF nS rfl rfl rfl (fun a HF => ?_)
  refine wc_end ?_
  refine then_n ?_
  obtain ⟨z1, hx1, h⟩ := obs h
  refine wp_cut (fun a w => ∃ a1 n1 c1, Fr a 21 [(3, .slice a1 n1 c1)] ∧ St w0 (fun _ => False) w [Own 3 (rowT z1) (.slice a1 n1 c1)]) ?_ ?_
  · have hk1 := h
    have h := hx1
    refine wp_seq ?_
    refine wc_text ?_
    refine wc_move HF nS rfl rfl rfl (fun a HF => ?_)
    obtain ⟨y1, hx2, h⟩ := obs h
    refine wc_call HF cf21 rfl (w_impl_Net fuel hx2 (HT.ro hr_x0).any) rfl rfl ?_
    rintro e w ⟨a2, n2, c2, rfl, hE⟩
    have hb := hE.below
    have HT := HT.pure hE
    obtain rfl := (HT.rdAt 0 rfl).neq
    have HT : St w0 (fun _ => False) w [Own 44 (rowT y1) (.slice a2 y1.length c2), Own 3 (rowT ([] : List Int)) (.slice (some ⟨p1, 0, none⟩) 0 0)] := HT
    refine ⟨_, rfl, nS, fun a HF => ?_⟩
    refine wc_lenR HF nS Try.underlying25 rfl rfl rfl (fun a HF => ?_)
    refine wc_move HF nS rfl rfl rfl (fun a HF => ?_)
    refine wc_end ?_
    refine then_n ?_
    refine wp_block ?_
    have HT : St w0 (fun _ => False) w [Own 3 (rowT ([] : List Int)) (.slice (some ⟨p1, 0, none⟩) 0 0), Own 44 (rowT y1) (.slice a2 y1.length c2)] := HT.pick 1
    refine wp_loopN (fun k1 a w => ∃ z2 z3 a3 n3 c3, m_impl_CellsOf_L0 fuel y1 k1 z2 z3 = some z1 ∧ Fr a 21 [(3, .slice a3 n3 c3), (8, .slice a2 y1.length c2), (9, .int .i64 (y1.length : Int)), (10, .int .i64 z3)] ∧ St w0 (fun _ => False) w [Own 3 (rowT z2) (.slice a3 n3 c3), Own 44 (rowT y1) (.slice a2 y1.length c2)]) fuel ⟨([] : List Int), 0, (some ⟨p1, 0, none⟩), 0, 0, h, (HF.keep (HF.keep (HF.keep (HF.keep HF.nil rfl) rfl) rfl) rfl), HT⟩ ?_
    rintro k1 a w ⟨z2, z3, a3, n3, c3, h, HF, HT⟩
    cases k1 with
    | zero => cases h
    | succ k1 =>
      rw [m_impl_CellsOf_L0] at h
      obtain rfl := (HT.rdAt 0 rfl).neq
      refine ?_
      refine wp_seq ?_
      refine wc_text ?_
      refine wc_bin HF nS rfl rfl b_lt rfl rfl (fun a HF => ?_)
      refine wc_end ?_
      refine then_n ?_
      refine wp_seq ?_
      by_cases hb1 : z3 < (y1.length : Int)
      · have h := (if_pos hb1).symm.trans h
        refine wp_if (b' := true) HF rfl (decide_eq_true hb1) ?_
        refine wp_skip ?_
        refine then_n ?_
        refine wp_seq ?_
        refine wp_block ?_
        refine wp_seq ?_
        refine wc_text ?_
        obtain ⟨e1, hx3, h⟩ := obs h
        obtain ⟨b1, o1, ha1⟩ := (HT.rdAt 1 rfl).addr hx3
        refine wc_ixaddr HF nS el25 rfl ha1 ((HT.rdAt 1 rfl)).neq rfl hx3 rfl rfl (fun a HF => ?_)
        have hc1 := (HT.rdAt 1 rfl).flatAt ha1 hx3
        refine wc_loadA (vs := [.int .i64 e1.a, .int .i64 e1.b]) HF rfl ag44 rfl (hc1.part 0 2) rfl rfl (fun a HF => ?_)
        refine wc_alloc (cs := [.int .i64 0, .int .i64 0]) HF HT zr44 rfl rfl rfl (fun p2 w HT hb => ⟨nS, fun a HF => ?_⟩)
        refine wc_storeB (cs' := [.int .i64 e1.a, .int .i64 e1.b]) HF HT rfl rfl (fun w => (ag44 w).2) rfl rfl rfl rfl rfl (fun w HT => ⟨nS, ?_⟩)
        refine wc_end ?_
        refine then_n ?_
        refine wc_text ?_
        refine wc_move HF nS rfl rfl rfl (fun a HF => ?_)
        refine wc_faddr HF nS rfl fl44_0 rfl rfl (fun a HF => ?_)
        refine wc_load HF rfl sc3 ((HT.boxAt 0 rfl).get 0 rfl) rfl rfl (fun a HF => ?_)
        refine wc_bslice (l := ([e1.a] : List Int)) (cs := [.int .i64 e1.a]) (A := []) HF HT bs35_1 rfl rfl (gives_flat rfl) rfl (by decide) rfl rfl (fun p3 w HT hb => ⟨nS, fun a HF => ?_⟩)
        obtain ⟨hg1, h⟩ := grd h
        have HT : St w0 (fun _ => False) w [Own 3 (rowT z2) (.slice a3 z2.length c3), Own 3 (rowT [e1.a]) (.slice (some ⟨p3, 0, none⟩) 1 1), Box p2 [.int .i64 e1.a, .int .i64 e1.b], Own 44 (rowT y1) (.slice a2 y1.length c2)] := HT.pick 2
        refine wc_append HF HT el35 rfl rfl (Nat.zero_lt_succ _) hg1 rfl rfl rfl (fun a4 c4 w HT => ⟨nS, fun a HF => ?_⟩)
        refine wc_assign HF nS rfl rfl rfl (fun a HF => ?_)
        refine wc_end ?_
        refine blk_n ?_
        refine then_n ?_
        refine wc_text ?_
        obtain ⟨hg2, h⟩ := grd h
        refine wc_bin HF nS rfl rfl (b_add hg2) rfl rfl (fun a HF => ?_)
        refine wc_move HF nS rfl rfl rfl (fun a HF => ?_)
        refine wc_end ?_
        have HT : St w0 (fun _ => False) w [Own 44 (rowT y1) (.slice a2 y1.length c2), Own 3 (rowT (z2 ++ [e1.a])) (.slice a4 ((z2 ++ [e1.a]).length) c4), Box p2 [.int .i64 e1.a, .int .i64 e1.b]] := HT.pick 2
        have HT : St w0 (fun _ => False) w [Own 3 (rowT (z2 ++ [e1.a])) (.slice a4 ((z2 ++ [e1.a]).length) c4), Own 44 (rowT y1) (.slice a2 y1.length c2), Box p2 [.int .i64 e1.a, .int .i64 e1.b]] := HT.pick 1
        have HT : St w0 (fun _ => False) w [Own 3 (rowT (z2 ++ [e1.a])) (.slice a4 ((z2 ++ [e1.a]).length) c4), Own 44 (rowT y1) (.slice a2 y1.length c2)] := HT.take 2
        exact then_n ⟨k1, Nat.lt_succ_self k1, z2 ++ [e1.a], z3 + 1, a4, (z2 ++ [e1.a]).length, c4, h, (HF.keep (HF.keep (HF.keep (HF.keep HF.nil rfl) rfl) rfl) rfl), HT⟩
      · have h := (if_neg hb1).symm.trans h
        refine wp_if (b' := false) HF rfl (decide_eq_false hb1) ?_
        refine wp_exit ?_
        refine then_x (then_x (?_))
        refine blk_x ?_
        have HT : St w0 (fun _ => False) w [Own 3 (rowT z2) (.slice a3 z2.length c3)] := HT.take 1
        obtain rfl := Option.some.inj h
        exact then_n ⟨a3, z2.length, c3, (HF.keep HF.nil rfl), HT⟩
  · rintro a w ⟨a1, n1, c1, HF, HT⟩
    obtain rfl := (HT.rdAt 0 rfl).neq
    refine ?_
    refine wp_seq ?_
    refine wc_text ?_
    refine wc_move HF nS rfl rfl rfl (fun a HF => ?_)
    refine wc_assign HF nS rfl rfl rfl (fun a HF => ?_)
    refine wc_end ?_
    refine then_n ?_
    refine wp_ret ?_
    obtain rfl := Option.some.inj h
    refine bp_ret HF (res_one rfl HF rfl) ?_
    exact ⟨a1, z1.length, c1, rfl, HT⟩

def m_laws_FnExactCellsOf (fuel : Nat) (x0 : List I2) : Option Bool :=
  (m_laws_szRowS fuel x0 1048576).bind fun y1 =>
  if y1 < 0 then
    some true
  else
    (m_laws_toRowS fuel x0).bind fun y2 =>
    (m_spec_CellsOf fuel y2).bind fun y3 =>
    (m_laws_toRowS fuel x0).bind fun y4 =>
    (m_impl_CellsOf fuel y4).bind fun y5 =>
    (m_laws_eqIntS fuel y5 y3).bind fun y6 =>
    if y6 = true then
      (m_laws_toRowS fuel x0).bind fun y7 =>
      (m_laws_eqRowS fuel y4 y7).bind fun y8 =>
      if y8 = true then
        bind2 (m_laws_markRowS fuel y4 1) fun y9 y10 =>
        if y9 < 0 then
          some false
        else
          (m_laws_eqIntS fuel y5 y3).bind fun y11 =>
          if y11 = true then
            bind2 (m_laws_markIntS fuel y5 1) fun y12 y13 =>
            (m_laws_heldIntS fuel y13 1).bind fun y14 =>
            if y14 < 0 then
              some false
            else
              if y14 = y12 then
                (m_laws_toRowS fuel x0).bind fun y15 =>
                (m_impl_CellsOf fuel y15).bind fun y16 =>
                (m_laws_eqIntS fuel y16 y3).bind fun y17 =>
                if y17 = true then
                  (m_laws_heldIntS fuel y13 1).bind fun y18 =>
                  if y18 < 0 then
                    some false
                  else
                    if y18 = y12 then
                      some true
                    else
                      some false
                else
                  some false
              else
                some false
          else
            some false
      else
        some false
    else
      some false

set_option maxRecDepth 100000 in
set_option maxHeartbeats 4000000 in
theorem w_laws_FnExactCellsOf (fuel : Nat) {x0 : List I2} {a_x0 : Option Addr} {n_x0 c_x0 : Nat} {r0 : Bool} {w0 : World} (h : m_laws_FnExactCellsOf fuel x0 = some r0) (hr_x0 : RdT (fun b => ¬ False) w0 (rowT x0) (.slice a_x0 n_x0 c_x0)) :
    Calls Try.prog 8 #[.slice a_x0 n_x0 c_x0] w0 fun e w => e = .returned (.bool r0) ∧ St w0 (fun _ => False) w [] := by
  obtain rfl := hr_x0.neq
  have HT : St w0 (fun _ => False) w0 [] := St.init0
  rw [m_laws_FnExactCellsOf] at h
  refine calls_fr (n := 69) [.slice a_x0 x0.length c_x0] Try.func8 rfl rfl rfl (fun a HF => ?_)
  have HT : St w0 (fun _ => False) w0 [] := HT
  refine wp_seq ?_
  refine wc_text ?_
  refine wc_assign HF nS rfl rfl rfl (fun a HF => ?_)
  refine wc_end ?_
  refine then_n ?_
  refine wp_seq ?_
  refine wc_text ?_
  refine wc_assign HF nS rfl rfl rfl (fun a HF => ?_)
  refine wc_end ?_
  refine then_n ?_
  refine wp_seq ?_
  refine wc_text ?_
  refine wc_move HF nS rfl rfl rfl (fun a HF => ?_)
  refine wc_move HF nS rfl rfl rfl (fun a HF => ?_)
  obtain ⟨y1, hx1, h⟩ := obs h
  refine wc_call HF cf9 rfl (w_laws_szRowS fuel hx1 (HT.ro hr_x0).any) rfl rfl ?_
  rintro e w ⟨rfl, hE⟩
  have hb := hE.below
  have HT := HT.pure hE
  have HT : St w0 (fun _ => False) w [] := HT
  refine ⟨_, rfl, nS, fun a HF => ?_⟩
  refine wc_assign HF nS rfl rfl rfl (fun a HF => ?_)
  refine wc_end ?_
  refine then_n ?_
  refine wp_seq ?_
  refine wp_seq ?_
  refine wc_text ?_
  refine wc_move HF nS rfl rfl rfl (fun a HF => ?_)
  refine wc_bin HF nS rfl rfl b_lt rfl rfl (fun a HF => ?_)
  refine wc_end ?_
  refine then_n ?_
  by_cases hb1 : y1 < 0
  · have h := (if_pos hb1).symm.trans h
    refine wp_if (b' := true) HF rfl (decide_eq_true hb1) ?_
    refine wp_seq ?_
    refine wc_text ?_
    refine wc_assign HF nS rfl rfl rfl (fun a HF => ?_)
    refine wc_end ?_
    refine then_n ?_
    refine wp_ret ?_
    obtain rfl := Option.some.inj h
    refine then_r (?_)
    refine bp_ret HF (res_one rfl HF rfl) ?_
    exact ⟨rfl, HT⟩
  · have h := (if_neg hb1).symm.trans h
    refine wp_if (b' := false) HF rfl (decide_eq_false hb1) ?_
    refine wp_skip ?_
    refine then_n ?_
    refine wp_seq ?_
    refine wc_text ?_
    refine wc_move HF nS rfl rfl rfl (fun a HF => ?_)
    obtain ⟨y2, hx2, h⟩ := obs h
    refine wc_call HF cf11 rfl (w_laws_toRowS fuel hx2 (HT.ro hr_x0).any) rfl rfl ?_
    rintro e w ⟨a1, n1, c1, rfl, hE⟩
    have hb := hE.below
    have HT := HT.pure hE
    obtain rfl := (HT.rdAt 0 rfl).neq
    have HT : St w0 (fun _ => False) w [Own 44 (rowT y2) (.slice a1 y2.length c1)] := HT
    refine ⟨_, rfl, nS, fun a HF => ?_⟩
    obtain ⟨y3, hx3, h⟩ := obs h
    refine wc_call HF cf28 rfl (w_spec_CellsOf fuel hx3 (HT.rdAt 0 rfl)) rfl rfl ?_
    rintro e w ⟨a2, n2, c2, rfl, hE⟩
    have hb := hE.below
    have HT := HT.pure hE
    obtain rfl := (HT.rdAt 0 rfl).neq
    have HT : St w0 (fun _ => False) w [Own 3 (rowT y3) (.slice a2 y3.length c2), Own 44 (rowT y2) (.slice a1 y2.length c1)] := HT
    refine ⟨_, rfl, nS, fun a HF => ?_⟩
    refine wc_assign HF nS rfl rfl rfl (fun a HF => ?_)
    refine wc_end ?_
    refine then_n ?_
    refine wp_seq ?_
    refine wc_text ?_
    refine wc_move HF nS rfl rfl rfl (fun a HF => ?_)
    obtain ⟨y4, hx4, h⟩ := obs h
    refine wc_call HF cf11 rfl (w_laws_toRowS fuel hx4 (HT.ro hr_x0).any) rfl rfl ?_
    rintro e w ⟨a3, n3, c3, rfl, hE⟩
    have hb := hE.below
    have HT := HT.pure hE
    obtain rfl := (HT.rdAt 0 rfl).neq
    have HT : St w0 (fun _ => False) w [Own 44 (rowT y4) (.slice a3 y4.length c3), Own 3 (rowT y3) (.slice a2 y3.length c2), Own 44 (rowT y2) (.slice a1 y2.length c1)] := HT
    refine ⟨_, rfl, nS, fun a HF => ?_⟩
    refine wc_assign HF nS rfl rfl rfl (fun a HF => ?_)
    refine wc_end ?_
    refine then_n ?_
    refine wp_seq ?_
    refine wc_text ?_
    refine wc_move HF nS rfl rfl rfl (fun a HF => ?_)
    obtain ⟨y5, hx5, h⟩ := obs h
    refine wc_call HF cf29 rfl (w_impl_CellsOf fuel hx5 (HT.rdAt 0 rfl)) rfl rfl ?_
    rintro e w ⟨a4, n4, c4, rfl, hE⟩
    have hb := hE.below
    have HT := HT.pure hE
    obtain rfl := (HT.rdAt 0 rfl).neq
    have HT : St w0 (fun _ => False) w [Own 3 (rowT y5) (.slice a4 y5.length c4), Own 44 (rowT y4) (.slice a3 y4.length c3), Own 3 (rowT y3) (.slice a2 y3.length c2), Own 44 (rowT y2) (.slice a1 y2.length c1)] := HT
    refine ⟨_, rfl, nS, fun a HF => ?_⟩
    refine wc_assign HF nS rfl rfl rfl (fun a HF => ?_)
    refine wc_end ?_
    refine then_n ?_
    refine wp_seq ?_
    refine wp_seq ?_
    refine wc_text ?_
    refine wc_move HF nS rfl rfl rfl (fun a HF => ?_)
    refine wc_move HF nS rfl rfl rfl (fun a HF => ?_)
    obtain ⟨y6, hx6, h⟩ := obs h
    refine wc_call HF cf25 rfl (w_laws_eqIntS fuel hx6 (HT.rdAt 0 rfl) (HT.rdAt 2 rfl)) rfl rfl ?_
    rintro e w ⟨rfl, hE⟩
    have hb := hE.below
    have HT := HT.pure hE
    have HT : St w0 (fun _ => False) w [Own 3 (rowT y5) (.slice a4 y5.length c4), Own 44 (rowT y4) (.slice a3 y4.length c3), Own 3 (rowT y3) (.slice a2 y3.length c2), Own 44 (rowT y2) (.slice a1 y2.length c1)] := HT
    refine ⟨_, rfl, nS, fun a HF => ?_⟩
    refine wc_not HF nS rfl rfl rfl (fun a HF => ?_)
    refine wc_end ?_
    refine then_n ?_
    by_cases hb2 : y6 = true
    · have h := (if_pos hb2).symm.trans h
      refine wp_if (b' := false) HF rfl (notT hb2) ?_
      refine wp_skip ?_
      refine then_n ?_
      refine wp_seq ?_
      refine wp_seq ?_
      refine wc_text ?_
      refine wc_move HF nS rfl rfl rfl (fun a HF => ?_)
      refine wc_move HF nS rfl rfl rfl (fun a HF => ?_)
      obtain ⟨y7, hx7, h⟩ := obs h
      refine wc_call HF cf11 rfl (w_laws_toRowS fuel hx7 (HT.ro hr_x0).any) rfl rfl ?_
      rintro e w ⟨a5, n5, c5, rfl, hE⟩
      have hb := hE.below
      have HT := HT.pure hE
      obtain rfl := (HT.rdAt 0 rfl).neq
      have HT : St w0 (fun _ => False) w [Own 44 (rowT y7) (.slice a5 y7.length c5), Own 3 (rowT y5) (.slice a4 y5.length c4), Own 44 (rowT y4) (.slice a3 y4.length c3), Own 3 (rowT y3) (.slice a2 y3.length c2), Own 44 (rowT y2) (.slice a1 y2.length c1)] := HT
      refine ⟨_, rfl, nS, fun a HF => ?_⟩
      obtain ⟨y8, hx8, h⟩ := obs h
      refine wc_call HF cf13 rfl (w_laws_eqRowS fuel hx8 (HT.rdAt 2 rfl) (HT.rdAt 0 rfl)) rfl rfl ?_
      rintro e w ⟨rfl, hE⟩
      have hb := hE.below
      have HT := HT.pure hE
      have HT : St w0 (fun _ => False) w [Own 44 (rowT y7) (.slice a5 y7.length c5), Own 3 (rowT y5) (.slice a4 y5.length c4), Own 44 (rowT y4) (.slice a3 y4.length c3), Own 3 (rowT y3) (.slice a2 y3.length c2), Own 44 (rowT y2) (.slice a1 y2.length c1)] := HT
      refine ⟨_, rfl, nS, fun a HF => ?_⟩
      refine wc_not HF nS rfl rfl rfl (fun a HF => ?_)
      refine wc_end ?_
      refine then_n ?_
      by_cases hb3 : y8 = true
      · have h := (if_pos hb3).symm.trans h
        refine wp_if (b' := false) HF rfl (notT hb3) ?_
        refine wp_skip ?_
        refine then_n ?_
        refine wp_seq ?_
        refine wc_text ?_
        refine wc_assign HF nS rfl rfl rfl (fun a HF => ?_)
        refine wc_end ?_
        refine then_n ?_
        refine wp_seq ?_
        refine wc_text ?_
        refine wc_move HF nS rfl rfl rfl (fun a HF => ?_)
        refine wc_move HF nS rfl rfl rfl (fun a HF => ?_)
        obtain ⟨y9, y10, hx9, h⟩ := obs2 h
        have HT : St w0 (fun _ => False) w [Own 44 (rowT y4) (.slice a3 y4.length c3), Own 44 (rowT y7) (.slice a5 y7.length c5), Own 3 (rowT y5) (.slice a4 y5.length c4), Own 3 (rowT y3) (.slice a2 y3.length c2), Own 44 (rowT y2) (.slice a1 y2.length c1)] := HT.pick 2
        obtain ⟨F1, hAF1, hFF1, hbackF1, hroF1, hownF1⟩ := St.handR (A := [Own 44 (rowT y4) (.slice a3 y4.length c3)]) HT
        refine wc_call HF cf18 rfl (w_laws_markRowS fuel hx9 hAF1) rfl rfl ?_
        rintro e w ⟨rfl, hE⟩
        have HT := hbackF1 _ _ hE
        have HT : St w0 (fun _ => False) w [Own 44 (rowT y10) (.slice a3 y4.length c3), Own 44 (rowT y7) (.slice a5 y7.length c5), Own 3 (rowT y5) (.slice a4 y5.length c4), Own 3 (rowT y3) (.slice a2 y3.length c2), Own 44 (rowT y2) (.slice a1 y2.length c1)] := HT
        refine ⟨_, rfl, nS, fun a HF => ?_⟩
        refine wc_assign HF nS rfl rfl rfl (fun a HF => ?_)
        refine wc_end ?_
        refine then_n ?_
        refine wp_seq ?_
        refine wp_seq ?_
        refine wc_text ?_
        refine wc_move HF nS rfl rfl rfl (fun a HF => ?_)
        refine wc_bin HF nS rfl rfl b_lt rfl rfl (fun a HF => ?_)
        refine wc_move HF nS rfl rfl rfl (fun a HF => ?_)
        by_cases hb4 : y9 < 0
        · have h := (if_pos hb4).symm.trans h
          refine wc_skip HF nS (HF.wn rfl rfl rfl rfl (decide_eq_true hb4)) rfl (fun a HF => ?_)
          refine wc_skip HF nS (HF.wn rfl rfl rfl rfl (decide_eq_true hb4)) rfl (fun a HF => ?_)
          refine wc_skip HF nS (HF.wn rfl rfl rfl rfl (decide_eq_true hb4)) rfl (fun a HF => ?_)
          refine wc_skip HF nS (HF.wn rfl rfl rfl rfl (decide_eq_true hb4)) rfl (fun a HF => ?_)
          refine wc_pick (b := true) HF nS rfl (decide_eq_true hb4) rfl rfl rfl (fun a HF => ?_)
          refine wc_end ?_
          refine then_n ?_
          refine wp_if (b' := true) HF rfl rfl ?_
          refine wp_seq ?_
          refine wc_text ?_
          refine wc_assign HF nS rfl rfl rfl (fun a HF => ?_)
          refine wc_end ?_
          refine then_n ?_
          refine wp_ret ?_
          obtain rfl := Option.some.inj h
          refine then_r (?_)
          refine bp_ret HF (res_one rfl HF rfl) ?_
          have HT : St w0 (fun _ => False) w [] := HT.take 0
          exact ⟨rfl, HT⟩
        · have h := (if_neg hb4).symm.trans h
          refine wc_move HF nS rfl (HF.wy rfl rfl rfl rfl (decide_eq_false hb4)) rfl (fun a HF => ?_)
          refine wc_move HF nS rfl (HF.wy rfl rfl rfl rfl (decide_eq_false hb4)) rfl (fun a HF => ?_)
          obtain ⟨y11, hx10, h⟩ := obs h
          refine wc_call HF cf25 rfl (w_laws_eqIntS fuel hx10 (HT.rdAt 2 rfl) (HT.rdAt 3 rfl)) (HF.wy rfl rfl rfl rfl (decide_eq_false hb4)) rfl ?_
          rintro e w ⟨rfl, hE⟩
          have hb := hE.below
          have HT := HT.pure hE
          have HT : St w0 (fun _ => False) w [Own 44 (rowT y10) (.slice a3 y4.length c3), Own 44 (rowT y7) (.slice a5 y7.length c5), Own 3 (rowT y5) (.slice a4 y5.length c4), Own 3 (rowT y3) (.slice a2 y3.length c2), Own 44 (rowT y2) (.slice a1 y2.length c1)] := HT
          refine ⟨_, rfl, nS, fun a HF => ?_⟩
          refine wc_not HF nS rfl (HF.wy rfl rfl rfl rfl (decide_eq_false hb4)) rfl (fun a HF => ?_)
          refine wc_pick (b := false) HF nS rfl (decide_eq_false hb4) rfl rfl rfl (fun a HF => ?_)
          refine wc_end ?_
          refine then_n ?_
          by_cases hb5 : y11 = true
          · have h := (if_pos hb5).symm.trans h
            refine wp_if (b' := false) HF rfl (notT hb5) ?_
            refine wp_skip ?_
            refine then_n ?_
            refine wp_seq ?_
            refine wc_text ?_
            refine wc_assign HF nS rfl rfl rfl (fun a HF => ?_)
            refine wc_end ?_
            refine then_n ?_
            refine wp_seq ?_
            refine wc_text ?_
            refine wc_move HF nS rfl rfl rfl (fun a HF => ?_)
            refine wc_move HF nS rfl rfl rfl (fun a HF => ?_)
            obtain ⟨y12, y13, hx11, h⟩ := obs2 h
            have HT : St w0 (fun _ => False) w [Own 3 (rowT y5) (.slice a4 y5.length c4), Own 44 (rowT y10) (.slice a3 y4.length c3), Own 44 (rowT y7) (.slice a5 y7.length c5), Own 3 (rowT y3) (.slice a2 y3.length c2), Own 44 (rowT y2) (.slice a1 y2.length c1)] := HT.pick 2
            obtain ⟨F2, hAF2, hFF2, hbackF2, hroF2, hownF2⟩ := St.handR (A := [Own 3 (rowT y5) (.slice a4 y5.length c4)]) HT
            refine wc_call HF cf26 rfl (w_laws_markIntS fuel hx11 hAF2) rfl rfl ?_
            rintro e w ⟨rfl, hE⟩
            have HT := hbackF2 _ _ hE
            have HT : St w0 (fun _ => False) w [Own 3 (rowT y13) (.slice a4 y5.length c4), Own 44 (rowT y10) (.slice a3 y4.length c3), Own 44 (rowT y7) (.slice a5 y7.length c5), Own 3 (rowT y3) (.slice a2 y3.length c2), Own 44 (rowT y2) (.slice a1 y2.length c1)] := HT
            refine ⟨_, rfl, nS, fun a HF => ?_⟩
            refine wc_assign HF nS rfl rfl rfl (fun a HF => ?_)
            refine wc_end ?_
            refine then_n ?_
            refine wp_seq ?_
            refine wc_text ?_
            refine wc_assign HF nS rfl rfl rfl (fun a HF => ?_)
            refine wc_end ?_
            refine then_n ?_
            refine wp_seq ?_
            refine wc_text ?_
            refine wc_move HF nS rfl rfl rfl (fun a HF => ?_)
            refine wc_move HF nS rfl rfl rfl (fun a HF => ?_)
            obtain ⟨y14, hx12, h⟩ := obs h
            refine wc_call HF cf27 rfl (w_laws_heldIntS fuel hx12 (HT.rdAt 0 rfl)) rfl rfl ?_
            rintro e w ⟨rfl, hE⟩
            have hb := hE.below
            have HT := HT.pure hE
            have HT : St w0 (fun _ => False) w [Own 3 (rowT y13) (.slice a4 y5.length c4), Own 44 (rowT y10) (.slice a3 y4.length c3), Own 44 (rowT y7) (.slice a5 y7.length c5), Own 3 (rowT y3) (.slice a2 y3.length c2), Own 44 (rowT y2) (.slice a1 y2.length c1)] := HT
            refine ⟨_, rfl, nS, fun a HF => ?_⟩
            refine wc_assign HF nS rfl rfl rfl (fun a HF => ?_)
            refine wc_end ?_
            refine then_n ?_
            refine wp_seq ?_
            refine wp_seq ?_
            refine wc_text ?_
            refine wc_move HF nS rfl rfl rfl (fun a HF => ?_)
            refine wc_bin HF nS rfl rfl b_lt rfl rfl (fun a HF => ?_)
            refine wc_end ?_
            refine then_n ?_
            by_cases hb6 : y14 < 0
            · have h := (if_pos hb6).symm.trans h
              refine wp_if (b' := true) HF rfl (decide_eq_true hb6) ?_
              refine wp_seq ?_
              refine wc_text ?_
              refine wc_assign HF nS rfl rfl rfl (fun a HF => ?_)
              refine wc_end ?_
              refine then_n ?_
              refine wp_ret ?_
              obtain rfl := Option.some.inj h
              refine then_r (?_)
              refine bp_ret HF (res_one rfl HF rfl) ?_
              have HT : St w0 (fun _ => False) w [] := HT.take 0
              exact ⟨rfl, HT⟩
            · have h := (if_neg hb6).symm.trans h
              refine wp_if (b' := false) HF rfl (decide_eq_false hb6) ?_
              refine wp_skip ?_
              refine then_n ?_
              refine wp_seq ?_
              refine wp_seq ?_
              refine wc_text ?_
              refine wc_move HF nS rfl rfl rfl (fun a HF => ?_)
              refine wc_move HF nS rfl rfl rfl (fun a HF => ?_)
              refine wc_bin HF nS rfl rfl b_ne rfl rfl (fun a HF => ?_)
              refine wc_end ?_
              refine then_n ?_
              by_cases hb7 : y14 = y12
              · have h := (if_pos hb7).symm.trans h
                refine wp_if (b' := false) HF rfl (notT (decide_eq_true hb7)) ?_
                refine wp_skip ?_
                refine then_n ?_
                refine wp_seq ?_
                refine wc_text ?_
                refine wc_move HF nS rfl rfl rfl (fun a HF => ?_)
                obtain ⟨y15, hx13, h⟩ := obs h
                refine wc_call HF cf11 rfl (w_laws_toRowS fuel hx13 (HT.ro hr_x0).any) rfl rfl ?_
                rintro e w ⟨a6, n6, c6, rfl, hE⟩
                have hb := hE.below
                have HT := HT.pure hE
                obtain rfl := (HT.rdAt 0 rfl).neq
                have HT : St w0 (fun _ => False) w [Own 44 (rowT y15) (.slice a6 y15.length c6), Own 3 (rowT y13) (.slice a4 y5.length c4), Own 44 (rowT y10) (.slice a3 y4.length c3), Own 44 (rowT y7) (.slice a5 y7.length c5), Own 3 (rowT y3) (.slice a2 y3.length c2), Own 44 (rowT y2) (.slice a1 y2.length c1)] := HT
                refine ⟨_, rfl, nS, fun a HF => ?_⟩
                obtain ⟨y16, hx14, h⟩ := obs h
                refine wc_call HF cf29 rfl (w_impl_CellsOf fuel hx14 (HT.rdAt 0 rfl)) rfl rfl ?_
                rintro e w ⟨a7, n7, c7, rfl, hE⟩
                have hb := hE.below
                have HT := HT.pure hE
                obtain rfl := (HT.rdAt 0 rfl).neq
                have HT : St w0 (fun _ => False) w [Own 3 (rowT y16) (.slice a7 y16.length c7), Own 44 (rowT y15) (.slice a6 y15.length c6), Own 3 (rowT y13) (.slice a4 y5.length c4), Own 44 (rowT y10) (.slice a3 y4.length c3), Own 44 (rowT y7) (.slice a5 y7.length c5), Own 3 (rowT y3) (.slice a2 y3.length c2), Own 44 (rowT y2) (.slice a1 y2.length c1)] := HT
                refine ⟨_, rfl, nS, fun a HF => ?_⟩
                refine wc_assign HF nS rfl rfl rfl (fun a HF => ?_)
                refine wc_end ?_
                refine then_n ?_
                refine wp_seq ?_
                refine wp_seq ?_
                refine wc_text ?_
                refine wc_move HF nS rfl rfl rfl (fun a HF => ?_)
                refine wc_move HF nS rfl rfl rfl (fun a HF => ?_)
                obtain ⟨y17, hx15, h⟩ := obs h
                refine wc_call HF cf25 rfl (w_laws_eqIntS fuel hx15 (HT.rdAt 0 rfl) (HT.rdAt 5 rfl)) rfl rfl ?_
                rintro e w ⟨rfl, hE⟩
                have hb := hE.below
                have HT := HT.pure hE
                have HT : St w0 (fun _ => False) w [Own 3 (rowT y16) (.slice a7 y16.length c7), Own 44 (rowT y15) (.slice a6 y15.length c6), Own 3 (rowT y13) (.slice a4 y5.length c4), Own 44 (rowT y10) (.slice a3 y4.length c3), Own 44 (rowT y7) (.slice a5 y7.length c5), Own 3 (rowT y3) (.slice a2 y3.length c2), Own 44 (rowT y2) (.slice a1 y2.length c1)] := HT
                refine ⟨_, rfl, nS, fun a HF => ?_⟩
                refine wc_not HF nS rfl rfl rfl (fun a HF => ?_)
                refine wc_end ?_
                refine then_n ?_
                by_cases hb8 : y17 = true
                · have h := (if_pos hb8).symm.trans h
                  refine wp_if (b' := false) HF rfl (notT hb8) ?_
                  refine wp_skip ?_
                  refine then_n ?_
                  refine wp_seq ?_
                  refine wc_text ?_
                  refine wc_assign HF nS rfl rfl rfl (fun a HF => ?_)
                  refine wc_end ?_
                  refine then_n ?_
                  refine wp_seq ?_
                  refine wc_text ?_
                  refine wc_move HF nS rfl rfl rfl (fun a HF => ?_)
                  refine wc_move HF nS rfl rfl rfl (fun a HF => ?_)
                  obtain ⟨y18, hx16, h⟩ := obs h
                  refine wc_call HF cf27 rfl (w_laws_heldIntS fuel hx16 (HT.rdAt 2 rfl)) rfl rfl ?_
                  rintro e w ⟨rfl, hE⟩
                  have hb := hE.below
                  have HT := HT.pure hE
                  have HT : St w0 (fun _ => False) w [Own 3 (rowT y16) (.slice a7 y16.length c7), Own 44 (rowT y15) (.slice a6 y15.length c6), Own 3 (rowT y13) (.slice a4 y5.length c4), Own 44 (rowT y10) (.slice a3 y4.length c3), Own 44 (rowT y7) (.slice a5 y7.length c5), Own 3 (rowT y3) (.slice a2 y3.length c2), Own 44 (rowT y2) (.slice a1 y2.length c1)] := HT
                  refine ⟨_, rfl, nS, fun a HF => ?_⟩
                  refine wc_assign HF nS rfl rfl rfl (fun a HF => ?_)
                  refine wc_end ?_
                  refine then_n ?_
                  refine wp_seq ?_
                  refine wp_seq ?_
                  refine wc_text ?_
                  refine wc_move HF nS rfl rfl rfl (fun a HF => ?_)
                  refine wc_bin HF nS rfl rfl b_lt rfl rfl (fun a HF => ?_)
                  refine wc_end ?_
                  refine then_n ?_
                  by_cases hb9 : y18 < 0
                  · have h := (if_pos hb9).symm.trans h
                    refine wp_if (b' := true) HF rfl (decide_eq_true hb9) ?_
                    refine wp_seq ?_
                    refine wc_text ?_
                    refine wc_assign HF nS rfl rfl rfl (fun a HF => ?_)
                    refine wc_end ?_
                    refine then_n ?_
                    refine wp_ret ?_
                    obtain rfl := Option.some.inj h
                    refine then_r (?_)
                    refine bp_ret HF (res_one rfl HF rfl) ?_
                    have HT : St w0 (fun _ => False) w [] := HT.take 0
                    exact ⟨rfl, HT⟩
                  · have h := (if_neg hb9).symm.trans h
                    refine wp_if (b' := false) HF rfl (decide_eq_false hb9) ?_
                    refine wp_skip ?_
                    refine then_n ?_
                    refine wp_seq ?_
                    refine wp_seq ?_
                    refine wc_text ?_
                    refine wc_move HF nS rfl rfl rfl (fun a HF => ?_)
                    refine wc_move HF nS rfl rfl rfl (fun a HF => ?_)
                    refine wc_bin HF nS rfl rfl b_ne rfl rfl (fun a HF => ?_)
                    refine wc_end ?_
                    refine then_n ?_
                    by_cases hb10 : y18 = y12
                    · have h := (if_pos hb10).symm.trans h
                      refine wp_if (b' := false) HF rfl (notT (decide_eq_true hb10)) ?_
                      refine wp_skip ?_
                      refine then_n ?_
                      refine wp_seq ?_
                      refine wc_text ?_
                      refine wc_assign HF nS rfl rfl rfl (fun a HF => ?_)
                      refine wc_end ?_
                      refine then_n ?_
                      refine wp_ret ?_
                      obtain rfl := Option.some.inj h
                      refine bp_ret HF (res_one rfl HF rfl) ?_
                      have HT : St w0 (fun _ => False) w [] := HT.take 0
                      exact ⟨rfl, HT⟩
                    · have h := (if_neg hb10).symm.trans h
                      refine wp_if (b' := true) HF rfl (notF (decide_eq_false hb10)) ?_
                      refine wp_seq ?_
                      refine wc_text ?_
                      refine wc_assign HF nS rfl rfl rfl (fun a HF => ?_)
                      refine wc_end ?_
                      refine then_n ?_
                      refine wp_ret ?_
                      obtain rfl := Option.some.inj h
                      refine then_r (?_)
                      refine bp_ret HF (res_one rfl HF rfl) ?_
                      have HT : St w0 (fun _ => False) w [] := HT.take 0
                      exact ⟨rfl, HT⟩
                · have h := (if_neg hb8).symm.trans h
                  refine wp_if (b' := true) HF rfl (notF (Bool.eq_false_iff.2 hb8)) ?_
                  refine wp_seq ?_
                  refine wc_text ?_
                  refine wc_assign HF nS rfl rfl rfl (fun a HF => ?_)
                  refine wc_end ?_
                  refine then_n ?_
                  refine wp_ret ?_
                  obtain rfl := Option.some.inj h
                  refine then_r (?_)
                  refine bp_ret HF (res_one rfl HF rfl) ?_
                  have HT : St w0 (fun _ => False) w [] := HT.take 0
                  exact ⟨rfl, HT⟩
              · have h := (if_neg hb7).symm.trans h
                refine wp_if (b' := true) HF rfl (notF (decide_eq_false hb7)) ?_
                refine wp_seq ?_
                refine wc_text ?_
                refine wc_assign HF nS rfl rfl rfl (fun a HF => ?_)
                refine wc_end ?_
                refine then_n ?_
                refine wp_ret ?_
                obtain rfl := Option.some.inj h
                refine then_r (?_)
                refine bp_ret HF (res_one rfl HF rfl) ?_
                have HT : St w0 (fun _ => False) w [] := HT.take 0
                exact ⟨rfl, HT⟩
          · have h := (if_neg hb5).symm.trans h
            refine wp_if (b' := true) HF rfl (notF (Bool.eq_false_iff.2 hb5)) ?_
            refine wp_seq ?_
            refine wc_text ?_
            refine wc_assign HF nS rfl rfl rfl (fun a HF => ?_)
            refine wc_end ?_
            refine then_n ?_
            refine wp_ret ?_
            obtain rfl := Option.some.inj h
            refine then_r (?_)
            refine bp_ret HF (res_one rfl HF rfl) ?_
            have HT : St w0 (fun _ => False) w [] := HT.take 0
            exact ⟨rfl, HT⟩
      · have h := (if_neg hb3).symm.trans h
        refine wp_if (b' := true) HF rfl (notF (Bool.eq_false_iff.2 hb3)) ?_
        refine wp_seq ?_
        refine wc_text ?_
        refine wc_assign HF nS rfl rfl rfl (fun a HF => ?_)
        refine wc_end ?_
        refine then_n ?_
        refine wp_ret ?_
        obtain rfl := Option.some.inj h
        refine then_r (?_)
        refine bp_ret HF (res_one rfl HF rfl) ?_
        have HT : St w0 (fun _ => False) w [] := HT.take 0
        exact ⟨rfl, HT⟩
    · have h := (if_neg hb2).symm.trans h
      refine wp_if (b' := true) HF rfl (notF (Bool.eq_false_iff.2 hb2)) ?_
      refine wp_seq ?_
      refine wc_text ?_
      refine wc_assign HF nS rfl rfl rfl (fun a HF => ?_)
      refine wc_end ?_
      refine then_n ?_
      refine wp_ret ?_
      obtain rfl := Option.some.inj h
      refine then_r (?_)
      refine bp_ret HF (res_one rfl HF rfl) ?_
      have HT : St w0 (fun _ => False) w [] := HT.take 0
      exact ⟨rfl, HT⟩
end Go.Proofs.Ytaplpbafnnlojaa
