/- Walks of the laws on memories. -/
import Derived.Test.YtmhdjnmfioaciaaTy
import Derived.Test.YtmhdjnmfioaciaaG2
namespace Go.Proofs.Ytmhdjnmfioaciaa
open Go Go.RowKit
set_option linter.unusedVariables false
set_option linter.unusedSimpArgs false
def m_laws_FnExactMemNew (fuel : Nat) (x0 : List Int) : Option Bool :=
  if 1048576 < (x0.length : Int) then
    some true
  else
    (m_laws_toIntS fuel x0).bind fun y1 =>
    bind3 (m_spec_MemNew fuel y1) fun y2 y3 y4 =>
    (m_laws_toIntS fuel x0).bind fun y5 =>
    bind3 (m_impl_MemNew fuel y5) fun y6 y7 y8 =>
    (m_laws_eqMem fuel y6 y7 y2 y3).bind fun y9 =>
    if y9 = true then
      if (y8 == y4) = true then
        (m_laws_toIntS fuel x0).bind fun y10 =>
        (m_laws_eqIntS fuel y5 y10).bind fun y11 =>
        if y11 = true then
          bind2 (m_laws_markIntS fuel y5 1) fun y12 y13 =>
          if y12 < 0 then
            some false
          else
            (m_laws_eqMem fuel y6 y7 y2 y3).bind fun y14 =>
            if y14 = true then
              bind2 (m_laws_markMem fuel y6 y7 1) fun y15 y16 =>
              (m_laws_heldMem fuel y6 y16 1).bind fun y17 =>
              if y17 < 0 then
                some false
              else
                if y17 = y15 then
                  (m_laws_toIntS fuel x0).bind fun y18 =>
                  bind3 (m_impl_MemNew fuel y18) fun y19 y20 y21 =>
                  (m_laws_eqMem fuel y19 y20 y2 y3).bind fun y22 =>
                  if y22 = true then
                    if (y21 == y4) = true then
                      (m_laws_heldMem fuel y6 y16 1).bind fun y23 =>
                      if y23 < 0 then
                        some false
                      else
                        if y23 = y15 then
                          some true
                        else
                          some false
                    else
                      some false
                  else
                    some false
                else
                  some false
            else
              some false
        else
          some false
      else
        some false
    else
      some false

set_option maxRecDepth 100000 in
set_option maxHeartbeats 4000000 in
theorem w_laws_FnExactMemNew (fuel : Nat) {x0 : List Int} {a_x0 : Option Addr} {n_x0 c_x0 : Nat} {r0 : Bool} {w0 : World} (h : m_laws_FnExactMemNew fuel x0 = some r0) (hr_x0 : RdT (fun b => ¬ False) w0 (rowT x0) (.slice a_x0 n_x0 c_x0)) :
    Calls Try.prog 6 #[.slice a_x0 n_x0 c_x0] w0 fun e w => e = .returned (.bool r0) ∧ St w0 (fun _ => False) w [] := by
  obtain rfl := hr_x0.neq
  have HT : St w0 (fun _ => False) w0 [] := St.init0
  rw [m_laws_FnExactMemNew] at h
  refine calls_fr (n := 93) [.slice a_x0 x0.length c_x0] Try.func6 rfl rfl rfl (fun a HF => ?_)
  have HT : St w0 (fun _ => False) w0 [] := HT
  refine wp_seq ?_
  refine wc_text ?_
  refine wc_assign HF nS rfl rfl rfl (fun a HF => ?_)
  refine wc_end ?_
  refine then_n ?_
  refine wp_seq ?_
  refine wp_seq ?_
  refine wc_text ?_
  refine wc_move HF nS rfl rfl rfl (fun a HF => ?_)
  refine wc_lenR HF nS Try.underlying38 rfl rfl rfl (fun a HF => ?_)
  refine wc_bin HF nS rfl rfl b_gt rfl rfl (fun a HF => ?_)
  refine wc_end ?_
  refine then_n ?_
  by_cases hb1 : 1048576 < (x0.length : Int)
  · have h := (if_pos hb1).symm.trans h
    refine wp_if (b' := true) HF rfl (decide_eq_true hb1) ?_
    refine wp_seq ?_
    refine wc_text ?_
    refine wc_assign HF nS rfl rfl rfl (fun a HF => ?_)
    refine wc_end ?_
    refine then_n ?_
    refine wp_ret ?_
    obtain rfl := Option.some.inj h
    refine then_r (?_)
    refine bp_ret HF (res_one rfl HF rfl) ?_
    exact ⟨rfl, HT⟩
  · have h := (if_neg hb1).symm.trans h
    refine wp_if (b' := false) HF rfl (decide_eq_false hb1) ?_
    refine wp_skip ?_
    refine then_n ?_
    refine wp_seq ?_
    refine wc_text ?_
    refine wc_move HF nS rfl rfl rfl (fun a HF => ?_)
    obtain ⟨y1, hx1, h⟩ := obs h
    refine wc_call HF cf23 rfl (w_laws_toIntS fuel hx1 (HT.ro hr_x0).any) rfl rfl ?_
    rintro e w ⟨a1, n1, c1, rfl, hE⟩
    have hb := hE.below
    have HT := HT.pure hE
    obtain rfl := (HT.rdAt 0 rfl).neq
    have HT : St w0 (fun _ => False) w [Own 3 (rowT y1) (.slice a1 y1.length c1)] := HT
    refine ⟨_, rfl, nS, fun a HF => ?_⟩
    obtain ⟨y2, y3, y4, hx2, h⟩ := obs3 h
    refine wc_call HF cf22 rfl (w_spec_MemNew fuel hx2 (HT.rdAt 0 rfl)) rfl rfl ?_
    rintro e w ⟨a2, n2, c2, rfl, hE⟩
    have hb := hE.below
    have HT := HT.pure hE
    obtain rfl := (HT.rdAt 0 rfl).neq
    have HT : St w0 (fun _ => False) w [Own 61 (rowT y3) (.slice a2 y3.length c2), Own 3 (rowT y1) (.slice a1 y1.length c1)] := HT
    refine ⟨_, rfl, nS, fun a HF => ?_⟩
    refine wc_move HF nS rfl rfl rfl (fun a HF => ?_)
    refine wc_extract (v := .agg #[.int .i64 y2, .slice a2 y3.length c2]) HF nS rfl rfl rfl rfl (fun a HF => ?_)
    refine wc_extract (v := .bool y4) HF nS rfl rfl rfl rfl (fun a HF => ?_)
    refine wc_alloc (cs := [.int .i64 0, .slice none 0 0]) HF HT zr29 rfl rfl rfl (fun p1 w HT hb => ⟨nS, fun a HF => ?_⟩)
    refine wc_storeB (cs' := [.int .i64 y2, .slice a2 y3.length c2]) HF HT rfl rfl (fun w => (ag29 w).2) rfl rfl rfl rfl rfl (fun w HT => ⟨nS, ?_⟩)
    refine wc_assign HF nS rfl rfl rfl (fun a HF => ?_)
    refine wc_end ?_
    refine then_n ?_
    refine wp_seq ?_
    refine wc_text ?_
    refine wc_move HF nS rfl rfl rfl (fun a HF => ?_)
    obtain ⟨y5, hx3, h⟩ := obs h
    refine wc_call HF cf23 rfl (w_laws_toIntS fuel hx3 (HT.ro hr_x0).any) rfl rfl ?_
    rintro e w ⟨a3, n3, c3, rfl, hE⟩
    have hb := hE.below
    have HT := HT.pure hE
    obtain rfl := (HT.rdAt 0 rfl).neq
    have HT : St w0 (fun _ => False) w [Own 3 (rowT y5) (.slice a3 y5.length c3), Box p1 [.int .i64 y2, .slice a2 y3.length c2], Own 61 (rowT y3) (.slice a2 y3.length c2), Own 3 (rowT y1) (.slice a1 y1.length c1)] := HT
    refine ⟨_, rfl, nS, fun a HF => ?_⟩
    refine wc_assign HF nS rfl rfl rfl (fun a HF => ?_)
    refine wc_end ?_
    refine then_n ?_
    refine wp_seq ?_
    refine wc_text ?_
    refine wc_move HF nS rfl rfl rfl (fun a HF => ?_)
    obtain ⟨y6, y7, y8, hx4, h⟩ := obs3 h
    refine wc_call HF cf24 rfl (w_impl_MemNew fuel hx4 (HT.rdAt 0 rfl)) rfl rfl ?_
    rintro e w ⟨a4, n4, c4, rfl, hE⟩
    have hb := hE.below
    have HT := HT.pure hE
    obtain rfl := (HT.rdAt 0 rfl).neq
    have HT : St w0 (fun _ => False) w [Own 61 (rowT y7) (.slice a4 y7.length c4), Own 3 (rowT y5) (.slice a3 y5.length c3), Box p1 [.int .i64 y2, .slice a2 y3.length c2], Own 61 (rowT y3) (.slice a2 y3.length c2), Own 3 (rowT y1) (.slice a1 y1.length c1)] := HT
    refine ⟨_, rfl, nS, fun a HF => ?_⟩
    refine wc_move HF nS rfl rfl rfl (fun a HF => ?_)
    refine wc_extract (v := .agg #[.int .i64 y6, .slice a4 y7.length c4]) HF nS rfl rfl rfl rfl (fun a HF => ?_)
    refine wc_extract (v := .bool y8) HF nS rfl rfl rfl rfl (fun a HF => ?_)
    refine wc_alloc (cs := [.int .i64 0, .slice none 0 0]) HF HT zr29 rfl rfl rfl (fun p2 w HT hb => ⟨nS, fun a HF => ?_⟩)
    refine wc_storeB (cs' := [.int .i64 y6, .slice a4 y7.length c4]) HF HT rfl rfl (fun w => (ag29 w).2) rfl rfl rfl rfl rfl (fun w HT => ⟨nS, ?_⟩)
    refine wc_assign HF nS rfl rfl rfl (fun a HF => ?_)
    refine wc_end ?_
    refine then_n ?_
    refine wp_seq ?_
    refine wp_seq ?_
    refine wc_text ?_
    refine wc_loadA (vs := [.int .i64 y6, .slice a4 y7.length c4]) HF rfl ag29 rfl ((HT.boxAt 0 rfl).part 0 2) rfl rfl (fun a HF => ?_)
    refine wc_loadA (vs := [.int .i64 y2, .slice a2 y3.length c2]) HF rfl ag29 rfl ((HT.boxAt 3 rfl).part 0 2) rfl rfl (fun a HF => ?_)
    obtain ⟨y9, hx5, h⟩ := obs h
    refine wc_call HF cf17 rfl (w_laws_eqMem fuel hx5 (HT.rdAt 1 rfl) (HT.rdAt 4 rfl)) rfl rfl ?_
    rintro e w ⟨rfl, hE⟩
    have hb := hE.below
    have HT := HT.pure hE
    have HT : St w0 (fun _ => False) w [Box p2 [.int .i64 y6, .slice a4 y7.length c4], Own 61 (rowT y7) (.slice a4 y7.length c4), Own 3 (rowT y5) (.slice a3 y5.length c3), Box p1 [.int .i64 y2, .slice a2 y3.length c2], Own 61 (rowT y3) (.slice a2 y3.length c2), Own 3 (rowT y1) (.slice a1 y1.length c1)] := HT
    refine ⟨_, rfl, nS, fun a HF => ?_⟩
    refine wc_not HF nS rfl rfl rfl (fun a HF => ?_)
    refine wc_move HF nS rfl rfl rfl (fun a HF => ?_)
    by_cases hb2 : y9 = true
    · have h := (if_pos hb2).symm.trans h
      refine wc_move HF nS rfl (HF.wy rfl rfl rfl rfl (notT hb2)) rfl (fun a HF => ?_)
      refine wc_move HF nS rfl (HF.wy rfl rfl rfl rfl (notT hb2)) rfl (fun a HF => ?_)
      refine wc_bin HF nS rfl rfl (b_bne Try.underlying4) (HF.wy rfl rfl rfl rfl (notT hb2)) rfl (fun a HF => ?_)
      refine wc_pick (b := false) HF nS rfl (notT hb2) rfl rfl rfl (fun a HF => ?_)
      refine wc_end ?_
      refine then_n ?_
      by_cases hb3 : (y8 == y4) = true
      · have h := (if_pos hb3).symm.trans h
        refine wp_if (b' := false) HF rfl (notT hb3) ?_
        refine wp_skip ?_
        refine then_n ?_
        refine wp_seq ?_
        refine wp_seq ?_
        refine wc_text ?_
        refine wc_move HF nS rfl rfl rfl (fun a HF => ?_)
        refine wc_move HF nS rfl rfl rfl (fun a HF => ?_)
        obtain ⟨y10, hx6, h⟩ := obs h
        refine wc_call HF cf23 rfl (w_laws_toIntS fuel hx6 (HT.ro hr_x0).any) rfl rfl ?_
        rintro e w ⟨a5, n5, c5, rfl, hE⟩
        have hb := hE.below
        have HT := HT.pure hE
        obtain rfl := (HT.rdAt 0 rfl).neq
        have HT : St w0 (fun _ => False) w [Own 3 (rowT y10) (.slice a5 y10.length c5), Box p2 [.int .i64 y6, .slice a4 y7.length c4], Own 61 (rowT y7) (.slice a4 y7.length c4), Own 3 (rowT y5) (.slice a3 y5.length c3), Box p1 [.int .i64 y2, .slice a2 y3.length c2], Own 61 (rowT y3) (.slice a2 y3.length c2), Own 3 (rowT y1) (.slice a1 y1.length c1)] := HT
        refine ⟨_, rfl, nS, fun a HF => ?_⟩
        obtain ⟨y11, hx7, h⟩ := obs h
        refine wc_call HF cf25 rfl (w_laws_eqIntS fuel hx7 (HT.rdAt 3 rfl) (HT.rdAt 0 rfl)) rfl rfl ?_
        rintro e w ⟨rfl, hE⟩
        have hb := hE.below
        have HT := HT.pure hE
        have HT : St w0 (fun _ => False) w [Own 3 (rowT y10) (.slice a5 y10.length c5), Box p2 [.int .i64 y6, .slice a4 y7.length c4], Own 61 (rowT y7) (.slice a4 y7.length c4), Own 3 (rowT y5) (.slice a3 y5.length c3), Box p1 [.int .i64 y2, .slice a2 y3.length c2], Own 61 (rowT y3) (.slice a2 y3.length c2), Own 3 (rowT y1) (.slice a1 y1.length c1)] := HT
        refine ⟨_, rfl, nS, fun a HF => ?_⟩
        refine wc_not HF nS rfl rfl rfl (fun a HF => ?_)
        refine wc_end ?_
        refine then_n ?_
        by_cases hb4 : y11 = true
        · have h := (if_pos hb4).symm.trans h
          refine wp_if (b' := false) HF rfl (notT hb4) ?_
          refine wp_skip ?_
          refine then_n ?_
          refine wp_seq ?_
          refine wc_text ?_
          refine wc_assign HF nS rfl rfl rfl (fun a HF => ?_)
          refine wc_end ?_
          refine then_n ?_
          refine wp_seq ?_
          refine wc_text ?_
          refine wc_move HF nS rfl rfl rfl (fun a HF => ?_)
          refine wc_move HF nS rfl rfl rfl (fun a HF => ?_)
          obtain ⟨y12, y13, hx8, h⟩ := obs2 h
          have HT : St w0 (fun _ => False) w [Own 3 (rowT y5) (.slice a3 y5.length c3), Own 3 (rowT y10) (.slice a5 y10.length c5), Box p2 [.int .i64 y6, .slice a4 y7.length c4], Own 61 (rowT y7) (.slice a4 y7.length c4), Box p1 [.int .i64 y2, .slice a2 y3.length c2], Own 61 (rowT y3) (.slice a2 y3.length c2), Own 3 (rowT y1) (.slice a1 y1.length c1)] := HT.pick 3
          obtain ⟨F1, hAF1, hFF1, hbackF1, hroF1, hownF1⟩ := St.handR (A := [Own 3 (rowT y5) (.slice a3 y5.length c3)]) HT
          refine wc_call HF cf26 rfl (w_laws_markIntS fuel hx8 hAF1) rfl rfl ?_
          rintro e w ⟨rfl, hE⟩
          have HT := hbackF1 _ _ hE
          have HT : St w0 (fun _ => False) w [Own 3 (rowT y13) (.slice a3 y5.length c3), Own 3 (rowT y10) (.slice a5 y10.length c5), Box p2 [.int .i64 y6, .slice a4 y7.length c4], Own 61 (rowT y7) (.slice a4 y7.length c4), Box p1 [.int .i64 y2, .slice a2 y3.length c2], Own 61 (rowT y3) (.slice a2 y3.length c2), Own 3 (rowT y1) (.slice a1 y1.length c1)] := HT
          refine ⟨_, rfl, nS, fun a HF => ?_⟩
          refine wc_assign HF nS rfl rfl rfl (fun a HF => ?_)
          refine wc_end ?_
          refine then_n ?_
          refine wp_seq ?_
          refine wp_seq ?_
          refine wc_text ?_
          refine wc_move HF nS rfl rfl rfl (fun a HF => ?_)
          refine wc_bin HF nS rfl rfl b_lt rfl rfl (fun a HF => ?_)
          refine wc_move HF nS rfl rfl rfl (fun a HF => ?_)
          by_cases hb5 : y12 < 0
          · have h := (if_pos hb5).symm.trans h
            refine wc_skip HF nS (HF.wn rfl rfl rfl rfl (decide_eq_true hb5)) rfl (fun a HF => ?_)
            refine wc_skip HF nS (HF.wn rfl rfl rfl rfl (decide_eq_true hb5)) rfl (fun a HF => ?_)
            refine wc_skip HF nS (HF.wn rfl rfl rfl rfl (decide_eq_true hb5)) rfl (fun a HF => ?_)
            refine wc_skip HF nS (HF.wn rfl rfl rfl rfl (decide_eq_true hb5)) rfl (fun a HF => ?_)
            refine wc_pick (b := true) HF nS rfl (decide_eq_true hb5) rfl rfl rfl (fun a HF => ?_)
            refine wc_move HF nS rfl rfl rfl (fun a HF => ?_)
            refine wc_skip HF nS (HF.wn rfl rfl rfl rfl rfl) rfl (fun a HF => ?_)
            refine wc_skip HF nS (HF.wn rfl rfl rfl rfl rfl) rfl (fun a HF => ?_)
            refine wc_skip HF nS (HF.wn rfl rfl rfl rfl rfl) rfl (fun a HF => ?_)
            refine wc_pick (b := true) HF nS rfl rfl rfl rfl rfl (fun a HF => ?_)
            refine wc_end ?_
            refine then_n ?_
            refine wp_if (b' := true) HF rfl rfl ?_
            refine wp_seq ?_
            refine wc_text ?_
            refine wc_assign HF nS rfl rfl rfl (fun a HF => ?_)
            refine wc_end ?_
            refine then_n ?_
            refine wp_ret ?_
            obtain rfl := Option.some.inj h
            refine then_r (?_)
            refine bp_ret HF (res_one rfl HF rfl) ?_
            have HT : St w0 (fun _ => False) w [] := HT.take 0
            exact ⟨rfl, HT⟩
          · have h := (if_neg hb5).symm.trans h
            refine wc_loadA (vs := [.int .i64 y6, .slice a4 y7.length c4]) HF rfl ag29 rfl ((HT.boxAt 2 rfl).part 0 2) (HF.wy rfl rfl rfl rfl (decide_eq_false hb5)) rfl (fun a HF => ?_)
            refine wc_loadA (vs := [.int .i64 y2, .slice a2 y3.length c2]) HF rfl ag29 rfl ((HT.boxAt 4 rfl).part 0 2) (HF.wy rfl rfl rfl rfl (decide_eq_false hb5)) rfl (fun a HF => ?_)
            obtain ⟨y14, hx9, h⟩ := obs h
            refine wc_call HF cf17 rfl (w_laws_eqMem fuel hx9 (HT.rdAt 3 rfl) (HT.rdAt 5 rfl)) (HF.wy rfl rfl rfl rfl (decide_eq_false hb5)) rfl ?_
            rintro e w ⟨rfl, hE⟩
            have hb := hE.below
            have HT := HT.pure hE
            have HT : St w0 (fun _ => False) w [Own 3 (rowT y13) (.slice a3 y5.length c3), Own 3 (rowT y10) (.slice a5 y10.length c5), Box p2 [.int .i64 y6, .slice a4 y7.length c4], Own 61 (rowT y7) (.slice a4 y7.length c4), Box p1 [.int .i64 y2, .slice a2 y3.length c2], Own 61 (rowT y3) (.slice a2 y3.length c2), Own 3 (rowT y1) (.slice a1 y1.length c1)] := HT
            refine ⟨_, rfl, nS, fun a HF => ?_⟩
            refine wc_not HF nS rfl (HF.wy rfl rfl rfl rfl (decide_eq_false hb5)) rfl (fun a HF => ?_)
            refine wc_pick (b := false) HF nS rfl (decide_eq_false hb5) rfl rfl rfl (fun a HF => ?_)
            refine wc_move HF nS rfl rfl rfl (fun a HF => ?_)
            by_cases hb6 : y14 = true
            · have h := (if_pos hb6).symm.trans h
              refine wc_move HF nS rfl (HF.wy rfl rfl rfl rfl (notT hb6)) rfl (fun a HF => ?_)
              refine wc_move HF nS rfl (HF.wy rfl rfl rfl rfl (notT hb6)) rfl (fun a HF => ?_)
              refine wc_bin HF nS rfl rfl (b_bne Try.underlying4) (HF.wy rfl rfl rfl rfl (notT hb6)) rfl (fun a HF => ?_)
              refine wc_pick (b := false) HF nS rfl (notT hb6) rfl rfl rfl (fun a HF => ?_)
              refine wc_end ?_
              refine then_n ?_
              refine wp_if (b' := false) HF rfl (notT hb3) ?_
              refine wp_skip ?_
              refine then_n ?_
              refine wp_seq ?_
              refine wc_text ?_
              refine wc_assign HF nS rfl rfl rfl (fun a HF => ?_)
              refine wc_end ?_
              refine then_n ?_
              refine wp_seq ?_
              refine wc_text ?_
              refine wc_loadA (vs := [.int .i64 y6, .slice a4 y7.length c4]) HF rfl ag29 rfl ((HT.boxAt 2 rfl).part 0 2) rfl rfl (fun a HF => ?_)
              refine wc_move HF nS rfl rfl rfl (fun a HF => ?_)
              obtain ⟨y15, y16, hx10, h⟩ := obs2 h
              have HT : St w0 (fun _ => False) w [Own 61 (rowT y7) (.slice a4 y7.length c4), Own 3 (rowT y13) (.slice a3 y5.length c3), Own 3 (rowT y10) (.slice a5 y10.length c5), Box p2 [.int .i64 y6, .slice a4 y7.length c4], Box p1 [.int .i64 y2, .slice a2 y3.length c2], Own 61 (rowT y3) (.slice a2 y3.length c2), Own 3 (rowT y1) (.slice a1 y1.length c1)] := HT.pick 3
              obtain ⟨F2, hAF2, hFF2, hbackF2, hroF2, hownF2⟩ := St.handR (A := [Own 61 (rowT y7) (.slice a4 y7.length c4)]) HT
              refine wc_call HF cf27 rfl (w_laws_markMem fuel hx10 hAF2) rfl rfl ?_
              rintro e w ⟨rfl, hE⟩
              have HT := hbackF2 _ _ hE
              have HT : St w0 (fun _ => False) w [Own 61 (rowT y16) (.slice a4 y7.length c4), Own 3 (rowT y13) (.slice a3 y5.length c3), Own 3 (rowT y10) (.slice a5 y10.length c5), Box p2 [.int .i64 y6, .slice a4 y7.length c4], Box p1 [.int .i64 y2, .slice a2 y3.length c2], Own 61 (rowT y3) (.slice a2 y3.length c2), Own 3 (rowT y1) (.slice a1 y1.length c1)] := HT
              refine ⟨_, rfl, nS, fun a HF => ?_⟩
              refine wc_assign HF nS rfl rfl rfl (fun a HF => ?_)
              refine wc_end ?_
              refine then_n ?_
              refine wp_seq ?_
              refine wc_text ?_
              refine wc_assign HF nS rfl rfl rfl (fun a HF => ?_)
              refine wc_end ?_
              refine then_n ?_
              refine wp_seq ?_
              refine wc_text ?_
              refine wc_loadA (vs := [.int .i64 y6, .slice a4 y7.length c4]) HF rfl ag29 rfl ((HT.boxAt 3 rfl).part 0 2) rfl rfl (fun a HF => ?_)
              refine wc_move HF nS rfl rfl rfl (fun a HF => ?_)
              obtain ⟨y17, hx11, h⟩ := obs h
              refine wc_call HF cf28 rfl (w_laws_heldMem fuel hx11 (HT.rdAt 0 rfl)) rfl rfl ?_
              rintro e w ⟨rfl, hE⟩
              have hb := hE.below
              have HT := HT.pure hE
              have HT : St w0 (fun _ => False) w [Own 61 (rowT y16) (.slice a4 y7.length c4), Own 3 (rowT y13) (.slice a3 y5.length c3), Own 3 (rowT y10) (.slice a5 y10.length c5), Box p2 [.int .i64 y6, .slice a4 y7.length c4], Box p1 [.int .i64 y2, .slice a2 y3.length c2], Own 61 (rowT y3) (.slice a2 y3.length c2), Own 3 (rowT y1) (.slice a1 y1.length c1)] := HT
              refine ⟨_, rfl, nS, fun a HF => ?_⟩
              refine wc_assign HF nS rfl rfl rfl (fun a HF => ?_)
              refine wc_end ?_
              refine then_n ?_
              refine wp_seq ?_
              refine wp_seq ?_
              refine wc_text ?_
              refine wc_move HF nS rfl rfl rfl (fun a HF => ?_)
              refine wc_bin HF nS rfl rfl b_lt rfl rfl (fun a HF => ?_)
              refine wc_end ?_
              refine then_n ?_
              by_cases hb7 : y17 < 0
              · have h := (if_pos hb7).symm.trans h
                refine wp_if (b' := true) HF rfl (decide_eq_true hb7) ?_
                refine wp_seq ?_
                refine wc_text ?_
                refine wc_assign HF nS rfl rfl rfl (fun a HF => ?_)
                refine wc_end ?_
                refine then_n ?_
                refine wp_ret ?_
                obtain rfl := Option.some.inj h
                refine then_r (?_)
                refine bp_ret HF (res_one rfl HF rfl) ?_
                have HT : St w0 (fun _ => False) w [] := HT.take 0
                exact ⟨rfl, HT⟩
              · have h := (if_neg hb7).symm.trans h
                refine wp_if (b' := false) HF rfl (decide_eq_false hb7) ?_
                refine wp_skip ?_
                refine then_n ?_
                refine wp_seq ?_
                refine wp_seq ?_
                refine wc_text ?_
                refine wc_move HF nS rfl rfl rfl (fun a HF => ?_)
                refine wc_move HF nS rfl rfl rfl (fun a HF => ?_)
                refine wc_bin HF nS rfl rfl b_ne rfl rfl (fun a HF => ?_)
                refine wc_end ?_
                refine then_n ?_
                by_cases hb8 : y17 = y15
                · have h := (if_pos hb8).symm.trans h
                  refine wp_if (b' := false) HF rfl (notT (decide_eq_true hb8)) ?_
                  refine wp_skip ?_
                  refine then_n ?_
                  refine wp_seq ?_
                  refine wc_text ?_
                  refine wc_move HF nS rfl rfl rfl (fun a HF => ?_)
                  obtain ⟨y18, hx12, h⟩ := obs h
                  refine wc_call HF cf23 rfl (w_laws_toIntS fuel hx12 (HT.ro hr_x0).any) rfl rfl ?_
                  rintro e w ⟨a6, n6, c6, rfl, hE⟩
                  have hb := hE.below
                  have HT := HT.pure hE
                  obtain rfl := (HT.rdAt 0 rfl).neq
                  have HT : St w0 (fun _ => False) w [Own 3 (rowT y18) (.slice a6 y18.length c6), Own 61 (rowT y16) (.slice a4 y7.length c4), Own 3 (rowT y13) (.slice a3 y5.length c3), Own 3 (rowT y10) (.slice a5 y10.length c5), Box p2 [.int .i64 y6, .slice a4 y7.length c4], Box p1 [.int .i64 y2, .slice a2 y3.length c2], Own 61 (rowT y3) (.slice a2 y3.length c2), Own 3 (rowT y1) (.slice a1 y1.length c1)] := HT
                  refine ⟨_, rfl, nS, fun a HF => ?_⟩
                  obtain ⟨y19, y20, y21, hx13, h⟩ := obs3 h
                  refine wc_call HF cf24 rfl (w_impl_MemNew fuel hx13 (HT.rdAt 0 rfl)) rfl rfl ?_
                  rintro e w ⟨a7, n7, c7, rfl, hE⟩
                  have hb := hE.below
                  have HT := HT.pure hE
                  obtain rfl := (HT.rdAt 0 rfl).neq
                  have HT : St w0 (fun _ => False) w [Own 61 (rowT y20) (.slice a7 y20.length c7), Own 3 (rowT y18) (.slice a6 y18.length c6), Own 61 (rowT y16) (.slice a4 y7.length c4), Own 3 (rowT y13) (.slice a3 y5.length c3), Own 3 (rowT y10) (.slice a5 y10.length c5), Box p2 [.int .i64 y6, .slice a4 y7.length c4], Box p1 [.int .i64 y2, .slice a2 y3.length c2], Own 61 (rowT y3) (.slice a2 y3.length c2), Own 3 (rowT y1) (.slice a1 y1.length c1)] := HT
                  refine ⟨_, rfl, nS, fun a HF => ?_⟩
                  refine wc_move HF nS rfl rfl rfl (fun a HF => ?_)
                  refine wc_extract (v := .agg #[.int .i64 y19, .slice a7 y20.length c7]) HF nS rfl rfl rfl rfl (fun a HF => ?_)
                  refine wc_extract (v := .bool y21) HF nS rfl rfl rfl rfl (fun a HF => ?_)
                  refine wc_alloc (cs := [.int .i64 0, .slice none 0 0]) HF HT zr29 rfl rfl rfl (fun p3 w HT hb => ⟨nS, fun a HF => ?_⟩)
                  refine wc_storeB (cs' := [.int .i64 y19, .slice a7 y20.length c7]) HF HT rfl rfl (fun w => (ag29 w).2) rfl rfl rfl rfl rfl (fun w HT => ⟨nS, ?_⟩)
                  refine wc_assign HF nS rfl rfl rfl (fun a HF => ?_)
                  refine wc_end ?_
                  refine then_n ?_
                  refine wp_seq ?_
                  refine wp_seq ?_
                  refine wc_text ?_
                  refine wc_loadA (vs := [.int .i64 y19, .slice a7 y20.length c7]) HF rfl ag29 rfl ((HT.boxAt 0 rfl).part 0 2) rfl rfl (fun a HF => ?_)
                  refine wc_loadA (vs := [.int .i64 y2, .slice a2 y3.length c2]) HF rfl ag29 rfl ((HT.boxAt 7 rfl).part 0 2) rfl rfl (fun a HF => ?_)
                  obtain ⟨y22, hx14, h⟩ := obs h
                  refine wc_call HF cf17 rfl (w_laws_eqMem fuel hx14 (HT.rdAt 1 rfl) (HT.rdAt 8 rfl)) rfl rfl ?_
                  rintro e w ⟨rfl, hE⟩
                  have hb := hE.below
                  have HT := HT.pure hE
                  have HT : St w0 (fun _ => False) w [Box p3 [.int .i64 y19, .slice a7 y20.length c7], Own 61 (rowT y20) (.slice a7 y20.length c7), Own 3 (rowT y18) (.slice a6 y18.length c6), Own 61 (rowT y16) (.slice a4 y7.length c4), Own 3 (rowT y13) (.slice a3 y5.length c3), Own 3 (rowT y10) (.slice a5 y10.length c5), Box p2 [.int .i64 y6, .slice a4 y7.length c4], Box p1 [.int .i64 y2, .slice a2 y3.length c2], Own 61 (rowT y3) (.slice a2 y3.length c2), Own 3 (rowT y1) (.slice a1 y1.length c1)] := HT
                  refine ⟨_, rfl, nS, fun a HF => ?_⟩
                  refine wc_not HF nS rfl rfl rfl (fun a HF => ?_)
                  refine wc_move HF nS rfl rfl rfl (fun a HF => ?_)
                  by_cases hb9 : y22 = true
                  · have h := (if_pos hb9).symm.trans h
                    refine wc_move HF nS rfl (HF.wy rfl rfl rfl rfl (notT hb9)) rfl (fun a HF => ?_)
                    refine wc_move HF nS rfl (HF.wy rfl rfl rfl rfl (notT hb9)) rfl (fun a HF => ?_)
                    refine wc_bin HF nS rfl rfl (b_bne Try.underlying4) (HF.wy rfl rfl rfl rfl (notT hb9)) rfl (fun a HF => ?_)
                    refine wc_pick (b := false) HF nS rfl (notT hb9) rfl rfl rfl (fun a HF => ?_)
                    refine wc_end ?_
                    refine then_n ?_
                    by_cases hb10 : (y21 == y4) = true
                    · have h := (if_pos hb10).symm.trans h
                      refine wp_if (b' := false) HF rfl (notT hb10) ?_
                      refine wp_skip ?_
                      refine then_n ?_
                      refine wp_seq ?_
                      refine wc_text ?_
                      refine wc_assign HF nS rfl rfl rfl (fun a HF => ?_)
                      refine wc_end ?_
                      refine then_n ?_
                      refine wp_seq ?_
                      refine wc_text ?_
                      refine wc_loadA (vs := [.int .i64 y6, .slice a4 y7.length c4]) HF rfl ag29 rfl ((HT.boxAt 6 rfl).part 0 2) rfl rfl (fun a HF => ?_)
                      refine wc_move HF nS rfl rfl rfl (fun a HF => ?_)
                      obtain ⟨y23, hx15, h⟩ := obs h
                      refine wc_call HF cf28 rfl (w_laws_heldMem fuel hx15 (HT.rdAt 3 rfl)) rfl rfl ?_
                      rintro e w ⟨rfl, hE⟩
                      have hb := hE.below
                      have HT := HT.pure hE
                      have HT : St w0 (fun _ => False) w [Box p3 [.int .i64 y19, .slice a7 y20.length c7], Own 61 (rowT y20) (.slice a7 y20.length c7), Own 3 (rowT y18) (.slice a6 y18.length c6), Own 61 (rowT y16) (.slice a4 y7.length c4), Own 3 (rowT y13) (.slice a3 y5.length c3), Own 3 (rowT y10) (.slice a5 y10.length c5), Box p2 [.int .i64 y6, .slice a4 y7.length c4], Box p1 [.int .i64 y2, .slice a2 y3.length c2], Own 61 (rowT y3) (.slice a2 y3.length c2), Own 3 (rowT y1) (.slice a1 y1.length c1)] := HT
                      refine ⟨_, rfl, nS, fun a HF => ?_⟩
                      refine wc_assign HF nS rfl rfl rfl (fun a HF => ?_)
                      refine wc_end ?_
                      refine then_n ?_
                      refine wp_seq ?_
                      refine wp_seq ?_
                      refine wc_text ?_
                      refine wc_move HF nS rfl rfl rfl (fun a HF => ?_)
                      refine wc_bin HF nS rfl rfl b_lt rfl rfl (fun a HF => ?_)
                      refine wc_end ?_
                      refine then_n ?_
                      by_cases hb11 : y23 < 0
                      · have h := (if_pos hb11).symm.trans h
                        refine wp_if (b' := true) HF rfl (decide_eq_true hb11) ?_
                        refine wp_seq ?_
                        refine wc_text ?_
                        refine wc_assign HF nS rfl rfl rfl (fun a HF => ?_)
                        refine wc_end ?_
                        refine then_n ?_
                        refine wp_ret ?_
                        obtain rfl := Option.some.inj h
                        refine then_r (?_)
                        refine bp_ret HF (res_one rfl HF rfl) ?_
                        have HT : St w0 (fun _ => False) w [] := HT.take 0
                        exact ⟨rfl, HT⟩
                      · have h := (if_neg hb11).symm.trans h
                        refine wp_if (b' := false) HF rfl (decide_eq_false hb11) ?_
                        refine wp_skip ?_
                        refine then_n ?_
                        refine wp_seq ?_
                        refine wp_seq ?_
                        refine wc_text ?_
                        refine wc_move HF nS rfl rfl rfl (fun a HF => ?_)
                        refine wc_move HF nS rfl rfl rfl (fun a HF => ?_)
                        refine wc_bin HF nS rfl rfl b_ne rfl rfl (fun a HF => ?_)
                        refine wc_end ?_
                        refine then_n ?_
                        by_cases hb12 : y23 = y15
                        · have h := (if_pos hb12).symm.trans h
                          refine wp_if (b' := false) HF rfl (notT (decide_eq_true hb12)) ?_
                          refine wp_skip ?_
                          refine then_n ?_
                          refine wp_seq ?_
                          refine wc_text ?_
                          refine wc_assign HF nS rfl rfl rfl (fun a HF => ?_)
                          refine wc_end ?_
                          refine then_n ?_
                          refine wp_ret ?_
                          obtain rfl := Option.some.inj h
                          refine bp_ret HF (res_one rfl HF rfl) ?_
                          have HT : St w0 (fun _ => False) w [] := HT.take 0
                          exact ⟨rfl, HT⟩
                        · have h := (if_neg hb12).symm.trans h
                          refine wp_if (b' := true) HF rfl (notF (decide_eq_false hb12)) ?_
                          refine wp_seq ?_
                          refine wc_text ?_
                          refine wc_assign HF nS rfl rfl rfl (fun a HF => ?_)
                          refine wc_end ?_
                          refine then_n ?_
                          refine wp_ret ?_
                          obtain rfl := Option.some.inj h
                          refine then_r (?_)
                          refine bp_ret HF (res_one rfl HF rfl) ?_
                          have HT : St w0 (fun _ => False) w [] := HT.take 0
                          exact ⟨rfl, HT⟩
                    · have h := (if_neg hb10).symm.trans h
                      refine wp_if (b' := true) HF rfl (notF (Bool.eq_false_iff.2 hb10)) ?_
                      refine wp_seq ?_
                      refine wc_text ?_
                      refine wc_assign HF nS rfl rfl rfl (fun a HF => ?_)
                      refine wc_end ?_
                      refine then_n ?_
                      refine wp_ret ?_
                      obtain rfl := Option.some.inj h
                      refine then_r (?_)
                      refine bp_ret HF (res_one rfl HF rfl) ?_
                      have HT : St w0 (fun _ => False) w [] := HT.take 0
                      exact ⟨rfl, HT⟩
                  · have h := (if_neg hb9).symm.trans h
                    refine wc_skip HF nS (HF.wn rfl rfl rfl rfl (notF (Bool.eq_false_iff.2 hb9))) rfl (fun a HF => ?_)
                    refine wc_skip HF nS (HF.wn rfl rfl rfl rfl (notF (Bool.eq_false_iff.2 hb9))) rfl (fun a HF => ?_)
                    refine wc_skip HF nS (HF.wn rfl rfl rfl rfl (notF (Bool.eq_false_iff.2 hb9))) rfl (fun a HF => ?_)
                    refine wc_pick (b := true) HF nS rfl (notF (Bool.eq_false_iff.2 hb9)) rfl rfl rfl (fun a HF => ?_)
                    refine wc_end ?_
                    refine then_n ?_
                    refine wp_if (b' := true) HF rfl rfl ?_
                    refine wp_seq ?_
                    refine wc_text ?_
                    refine wc_assign HF nS rfl rfl rfl (fun a HF => ?_)
                    refine wc_end ?_
                    refine then_n ?_
                    refine wp_ret ?_
                    obtain rfl := Option.some.inj h
                    refine then_r (?_)
                    refine bp_ret HF (res_one rfl HF rfl) ?_
                    have HT : St w0 (fun _ => False) w [] := HT.take 0
                    exact ⟨rfl, HT⟩
                · have h := (if_neg hb8).symm.trans h
                  refine wp_if (b' := true) HF rfl (notF (decide_eq_false hb8)) ?_
                  refine wp_seq ?_
                  refine wc_text ?_
                  refine wc_assign HF nS rfl rfl rfl (fun a HF => ?_)
                  refine wc_end ?_
                  refine then_n ?_
                  refine wp_ret ?_
                  obtain rfl := Option.some.inj h
                  refine then_r (?_)
                  refine bp_ret HF (res_one rfl HF rfl) ?_
                  have HT : St w0 (fun _ => False) w [] := HT.take 0
                  exact ⟨rfl, HT⟩
            · have h := (if_neg hb6).symm.trans h
              refine wc_skip HF nS (HF.wn rfl rfl rfl rfl (notF (Bool.eq_false_iff.2 hb6))) rfl (fun a HF => ?_)
              refine wc_skip HF nS (HF.wn rfl rfl rfl rfl (notF (Bool.eq_false_iff.2 hb6))) rfl (fun a HF => ?_)
              refine wc_skip HF nS (HF.wn rfl rfl rfl rfl (notF (Bool.eq_false_iff.2 hb6))) rfl (fun a HF => ?_)
              refine wc_pick (b := true) HF nS rfl (notF (Bool.eq_false_iff.2 hb6)) rfl rfl rfl (fun a HF => ?_)
              refine wc_end ?_
              refine then_n ?_
              refine wp_if (b' := true) HF rfl rfl ?_
              refine wp_seq ?_
              refine wc_text ?_
              refine wc_assign HF nS rfl rfl rfl (fun a HF => ?_)
              refine wc_end ?_
              refine then_n ?_
              refine wp_ret ?_
              obtain rfl := Option.some.inj h
              refine then_r (?_)
              refine bp_ret HF (res_one rfl HF rfl) ?_
              have HT : St w0 (fun _ => False) w [] := HT.take 0
              exact ⟨rfl, HT⟩
        · have h := (if_neg hb4).symm.trans h
          refine wp_if (b' := true) HF rfl (notF (Bool.eq_false_iff.2 hb4)) ?_
          refine wp_seq ?_
          refine wc_text ?_
          refine wc_assign HF nS rfl rfl rfl (fun a HF => ?_)
          refine wc_end ?_
          refine then_n ?_
          refine wp_ret ?_
          obtain rfl := Option.some.inj h
          refine then_r (?_)
          refine bp_ret HF (res_one rfl HF rfl) ?_
          have HT : St w0 (fun _ => False) w [] := HT.take 0
          exact ⟨rfl, HT⟩
      · have h := (if_neg hb3).symm.trans h
        refine wp_if (b' := true) HF rfl (notF (Bool.eq_false_iff.2 hb3)) ?_
        refine wp_seq ?_
        refine wc_text ?_
        refine wc_assign HF nS rfl rfl rfl (fun a HF => ?_)
        refine wc_end ?_
        refine then_n ?_
        refine wp_ret ?_
        obtain rfl := Option.some.inj h
        refine then_r (?_)
        refine bp_ret HF (res_one rfl HF rfl) ?_
        have HT : St w0 (fun _ => False) w [] := HT.take 0
        exact ⟨rfl, HT⟩
    · have h := (if_neg hb2).symm.trans h
      refine wc_skip HF nS (HF.wn rfl rfl rfl rfl (notF (Bool.eq_false_iff.2 hb2))) rfl (fun a HF => ?_)
      refine wc_skip HF nS (HF.wn rfl rfl rfl rfl (notF (Bool.eq_false_iff.2 hb2))) rfl (fun a HF => ?_)
      refine wc_skip HF nS (HF.wn rfl rfl rfl rfl (notF (Bool.eq_false_iff.2 hb2))) rfl (fun a HF => ?_)
      refine wc_pick (b := true) HF nS rfl (notF (Bool.eq_false_iff.2 hb2)) rfl rfl rfl (fun a HF => ?_)
      refine wc_end ?_
      refine then_n ?_
      refine wp_if (b' := true) HF rfl rfl ?_
      refine wp_seq ?_
      refine wc_text ?_
      refine wc_assign HF nS rfl rfl rfl (fun a HF => ?_)
      refine wc_end ?_
      refine then_n ?_
      refine wp_ret ?_
      obtain rfl := Option.some.inj h
      refine then_r (?_)
      refine bp_ret HF (res_one rfl HF rfl) ?_
      have HT : St w0 (fun _ => False) w [] := HT.take 0
      exact ⟨rfl, HT⟩

def m_laws_FnExactTick (fuel : Nat) (x0_0 : Int) (x0_1 : List I3) : Option Bool :=
  (m_laws_szMem fuel x0_0 x0_1 1048576).bind fun y1 =>
  if y1 < 0 then
    some true
  else
    bind2 (m_laws_toMem fuel x0_0 x0_1) fun y2 y3 =>
    bind3 (m_spec_Tick fuel y2 y3) fun y4 y5 y6 =>
    bind2 (m_laws_toMem fuel x0_0 x0_1) fun y7 y8 =>
    bind3 (m_impl_Tick fuel y7 y8) fun y9 y10 y11 =>
    (m_laws_eqMem fuel y9 y10 y4 y5).bind fun y12 =>
    if y12 = true then
      if y11 = y6 then
        bind2 (m_laws_toMem fuel x0_0 x0_1) fun y13 y14 =>
        (m_laws_eqMem fuel y7 y8 y13 y14).bind fun y15 =>
        if y15 = true then
          bind2 (m_laws_markMem fuel y7 y8 1) fun y16 y17 =>
          if y16 < 0 then
            some false
          else
            (m_laws_eqMem fuel y9 y10 y4 y5).bind fun y18 =>
            if y18 = true then
              bind2 (m_laws_markMem fuel y9 y10 1) fun y19 y20 =>
              (m_laws_heldMem fuel y9 y20 1).bind fun y21 =>
              if y21 < 0 then
                some false
              else
                if y21 = y19 then
                  bind2 (m_laws_toMem fuel x0_0 x0_1) fun y22 y23 =>
                  bind3 (m_impl_Tick fuel y22 y23) fun y24 y25 y26 =>
                  (m_laws_eqMem fuel y24 y25 y4 y5).bind fun y27 =>
                  if y27 = true then
                    if y26 = y6 then
                      (m_laws_heldMem fuel y9 y20 1).bind fun y28 =>
                      if y28 < 0 then
                        some false
                      else
                        if y28 = y19 then
                          some true
                        else
                          some false
                    else
                      some false
                  else
                    some false
                else
                  some false
            else
              some false
        else
          some false
      else
        some false
    else
      some false

set_option maxRecDepth 100000 in
set_option maxHeartbeats 4000000 in
theorem w_laws_FnExactTick (fuel : Nat) {x0_0 : Int} {x0_1 : List I3} {a_x0_1 : Option Addr} {n_x0_1 c_x0_1 : Nat} {r0 : Bool} {w0 : World} (h : m_laws_FnExactTick fuel x0_0 x0_1 = some r0) (hr_x0_1 : RdT (fun b => ¬ False) w0 (rowT x0_1) (.slice a_x0_1 n_x0_1 c_x0_1)) :
    Calls Try.prog 7 #[.agg #[.int .i64 x0_0, .slice a_x0_1 n_x0_1 c_x0_1]] w0 fun e w => e = .returned (.bool r0) ∧ St w0 (fun _ => False) w [] := by
  obtain rfl := hr_x0_1.neq
  have HT : St w0 (fun _ => False) w0 [] := St.init0
  rw [m_laws_FnExactTick] at h
  refine calls_fr (n := 96) [.agg #[.int .i64 x0_0, .slice a_x0_1 x0_1.length c_x0_1]] Try.func7 rfl rfl rfl (fun a HF => ?_)
  have HT : St w0 (fun _ => False) w0 [] := HT
  refine wp_seq ?_
  refine wc_text ?_
  refine wc_box (cs := [.int .i64 x0_0, .slice a_x0_1 x0_1.length c_x0_1]) HF HT rfl rfl rfl rfl (fun p1 w HT hb => ⟨nS, fun a HF => ?_⟩)
  refine wc_assign HF nS rfl rfl rfl (fun a HF => ?_)
  refine wc_end ?_
  refine then_n ?_
  refine wp_seq ?_
  refine wc_text ?_
  refine wc_assign HF nS rfl rfl rfl (fun a HF => ?_)
  refine wc_end ?_
  refine then_n ?_
  refine wp_seq ?_
  refine wc_text ?_
  refine wc_loadA (vs := [.int .i64 x0_0, .slice a_x0_1 x0_1.length c_x0_1]) HF rfl ag24 rfl ((HT.boxAt 0 rfl).part 0 2) rfl rfl (fun a HF => ?_)
  refine wc_move HF nS rfl rfl rfl (fun a HF => ?_)
  obtain ⟨y1, hx1, h⟩ := obs h
  refine wc_call HF cf13 rfl (w_laws_szMem fuel hx1 (HT.ro hr_x0_1).any) rfl rfl ?_
  rintro e w ⟨rfl, hE⟩
  have hb := hE.below
  have HT := HT.pure hE
  have HT : St w0 (fun _ => False) w [Box p1 [.int .i64 x0_0, .slice a_x0_1 x0_1.length c_x0_1]] := HT
  refine ⟨_, rfl, nS, fun a HF => ?_⟩
  refine wc_assign HF nS rfl rfl rfl (fun a HF => ?_)
  refine wc_end ?_
  refine then_n ?_
  refine wp_seq ?_
  refine wp_seq ?_
  refine wc_text ?_
  refine wc_move HF nS rfl rfl rfl (fun a HF => ?_)
  refine wc_bin HF nS rfl rfl b_lt rfl rfl (fun a HF => ?_)
  refine wc_end ?_
  refine then_n ?_
  by_cases hb1 : y1 < 0
  · have h := (if_pos hb1).symm.trans h
    refine wp_if (b' := true) HF rfl (decide_eq_true hb1) ?_
    refine wp_seq ?_
    refine wc_text ?_
    refine wc_assign HF nS rfl rfl rfl (fun a HF => ?_)
    refine wc_end ?_
    refine then_n ?_
    refine wp_ret ?_
    obtain rfl := Option.some.inj h
    refine then_r (?_)
    refine bp_ret HF (res_one rfl HF rfl) ?_
    have HT : St w0 (fun _ => False) w [] := HT.take 0
    exact ⟨rfl, HT⟩
  · have h := (if_neg hb1).symm.trans h
    refine wp_if (b' := false) HF rfl (decide_eq_false hb1) ?_
    refine wp_skip ?_
    refine then_n ?_
    refine wp_seq ?_
    refine wc_text ?_
    refine wc_loadA (vs := [.int .i64 x0_0, .slice a_x0_1 x0_1.length c_x0_1]) HF rfl ag24 rfl ((HT.boxAt 0 rfl).part 0 2) rfl rfl (fun a HF => ?_)
    obtain ⟨y2, y3, hx2, h⟩ := obs2 h
    refine wc_call HF cf15 rfl (w_laws_toMem fuel hx2 (HT.ro hr_x0_1).any) rfl rfl ?_
    rintro e w ⟨a1, n1, c1, rfl, hE⟩
    have hb := hE.below
    have HT := HT.pure hE
    obtain rfl := (HT.rdAt 0 rfl).neq
    have HT : St w0 (fun _ => False) w [Own 61 (rowT y3) (.slice a1 y3.length c1), Box p1 [.int .i64 x0_0, .slice a_x0_1 x0_1.length c_x0_1]] := HT
    refine ⟨_, rfl, nS, fun a HF => ?_⟩
    obtain ⟨y4, y5, y6, hx3, h⟩ := obs3 h
    refine wc_call HF cf29 rfl (w_spec_Tick fuel hx3 (HT.rdAt 0 rfl)) rfl rfl ?_
    rintro e w ⟨a2, n2, c2, rfl, hE⟩
    have hb := hE.below
    have HT := HT.pure hE
    obtain rfl := (HT.rdAt 0 rfl).neq
    have HT : St w0 (fun _ => False) w [Own 61 (rowT y5) (.slice a2 y5.length c2), Own 61 (rowT y3) (.slice a1 y3.length c1), Box p1 [.int .i64 x0_0, .slice a_x0_1 x0_1.length c_x0_1]] := HT
    refine ⟨_, rfl, nS, fun a HF => ?_⟩
    refine wc_move HF nS rfl rfl rfl (fun a HF => ?_)
    refine wc_extract (v := .agg #[.int .i64 y4, .slice a2 y5.length c2]) HF nS rfl rfl rfl rfl (fun a HF => ?_)
    refine wc_extract (v := .int .i64 y6) HF nS rfl rfl rfl rfl (fun a HF => ?_)
    refine wc_alloc (cs := [.int .i64 0, .slice none 0 0]) HF HT zr29 rfl rfl rfl (fun p2 w HT hb => ⟨nS, fun a HF => ?_⟩)
    refine wc_storeB (cs' := [.int .i64 y4, .slice a2 y5.length c2]) HF HT rfl rfl (fun w => (ag29 w).2) rfl rfl rfl rfl rfl (fun w HT => ⟨nS, ?_⟩)
    refine wc_assign HF nS rfl rfl rfl (fun a HF => ?_)
    refine wc_end ?_
    refine then_n ?_
    refine wp_seq ?_
    refine wc_text ?_
    refine wc_loadA (vs := [.int .i64 x0_0, .slice a_x0_1 x0_1.length c_x0_1]) HF rfl ag24 rfl ((HT.boxAt 3 rfl).part 0 2) rfl rfl (fun a HF => ?_)
    obtain ⟨y7, y8, hx4, h⟩ := obs2 h
    refine wc_call HF cf15 rfl (w_laws_toMem fuel hx4 (HT.ro hr_x0_1).any) rfl rfl ?_
    rintro e w ⟨a3, n3, c3, rfl, hE⟩
    have hb := hE.below
    have HT := HT.pure hE
    obtain rfl := (HT.rdAt 0 rfl).neq
    have HT : St w0 (fun _ => False) w [Own 61 (rowT y8) (.slice a3 y8.length c3), Box p2 [.int .i64 y4, .slice a2 y5.length c2], Own 61 (rowT y5) (.slice a2 y5.length c2), Own 61 (rowT y3) (.slice a1 y3.length c1), Box p1 [.int .i64 x0_0, .slice a_x0_1 x0_1.length c_x0_1]] := HT
    refine ⟨_, rfl, nS, fun a HF => ?_⟩
    refine wc_alloc (cs := [.int .i64 0, .slice none 0 0]) HF HT zr29 rfl rfl rfl (fun p3 w HT hb => ⟨nS, fun a HF => ?_⟩)
    refine wc_storeB (cs' := [.int .i64 y7, .slice a3 y8.length c3]) HF HT rfl rfl (fun w => (ag29 w).2) rfl rfl rfl rfl rfl (fun w HT => ⟨nS, ?_⟩)
    refine wc_end ?_
    refine then_n ?_
    refine wp_seq ?_
    refine wc_text ?_
    refine wc_loadA (vs := [.int .i64 y7, .slice a3 y8.length c3]) HF rfl ag29 rfl ((HT.boxAt 0 rfl).part 0 2) rfl rfl (fun a HF => ?_)
    obtain ⟨y9, y10, y11, hx5, h⟩ := obs3 h
    refine wc_call HF cf30 rfl (w_impl_Tick fuel hx5 (HT.rdAt 1 rfl)) rfl rfl ?_
    rintro e w ⟨a4, n4, c4, rfl, hE⟩
    have hb := hE.below
    have HT := HT.pure hE
    obtain rfl := (HT.rdAt 0 rfl).neq
    have HT : St w0 (fun _ => False) w [Own 61 (rowT y10) (.slice a4 y10.length c4), Box p3 [.int .i64 y7, .slice a3 y8.length c3], Own 61 (rowT y8) (.slice a3 y8.length c3), Box p2 [.int .i64 y4, .slice a2 y5.length c2], Own 61 (rowT y5) (.slice a2 y5.length c2), Own 61 (rowT y3) (.slice a1 y3.length c1), Box p1 [.int .i64 x0_0, .slice a_x0_1 x0_1.length c_x0_1]] := HT
    refine ⟨_, rfl, nS, fun a HF => ?_⟩
    refine wc_move HF nS rfl rfl rfl (fun a HF => ?_)
    refine wc_extract (v := .agg #[.int .i64 y9, .slice a4 y10.length c4]) HF nS rfl rfl rfl rfl (fun a HF => ?_)
    refine wc_extract (v := .int .i64 y11) HF nS rfl rfl rfl rfl (fun a HF => ?_)
    refine wc_alloc (cs := [.int .i64 0, .slice none 0 0]) HF HT zr29 rfl rfl rfl (fun p4 w HT hb => ⟨nS, fun a HF => ?_⟩)
    refine wc_storeB (cs' := [.int .i64 y9, .slice a4 y10.length c4]) HF HT rfl rfl (fun w => (ag29 w).2) rfl rfl rfl rfl rfl (fun w HT => ⟨nS, ?_⟩)
    refine wc_assign HF nS rfl rfl rfl (fun a HF => ?_)
    refine wc_end ?_
    refine then_n ?_
    refine wp_seq ?_
    refine wp_seq ?_
    refine wc_text ?_
    refine wc_loadA (vs := [.int .i64 y9, .slice a4 y10.length c4]) HF rfl ag29 rfl ((HT.boxAt 0 rfl).part 0 2) rfl rfl (fun a HF => ?_)
    refine wc_loadA (vs := [.int .i64 y4, .slice a2 y5.length c2]) HF rfl ag29 rfl ((HT.boxAt 4 rfl).part 0 2) rfl rfl (fun a HF => ?_)
    obtain ⟨y12, hx6, h⟩ := obs h
    refine wc_call HF cf17 rfl (w_laws_eqMem fuel hx6 (HT.rdAt 1 rfl) (HT.rdAt 5 rfl)) rfl rfl ?_
    rintro e w ⟨rfl, hE⟩
    have hb := hE.below
    have HT := HT.pure hE
    have HT : St w0 (fun _ => False) w [Box p4 [.int .i64 y9, .slice a4 y10.length c4], Own 61 (rowT y10) (.slice a4 y10.length c4), Box p3 [.int .i64 y7, .slice a3 y8.length c3], Own 61 (rowT y8) (.slice a3 y8.length c3), Box p2 [.int .i64 y4, .slice a2 y5.length c2], Own 61 (rowT y5) (.slice a2 y5.length c2), Own 61 (rowT y3) (.slice a1 y3.length c1), Box p1 [.int .i64 x0_0, .slice a_x0_1 x0_1.length c_x0_1]] := HT
    refine ⟨_, rfl, nS, fun a HF => ?_⟩
    refine wc_not HF nS rfl rfl rfl (fun a HF => ?_)
    refine wc_move HF nS rfl rfl rfl (fun a HF => ?_)
    by_cases hb2 : y12 = true
    · have h := (if_pos hb2).symm.trans h
      refine wc_move HF nS rfl (HF.wy rfl rfl rfl rfl (notT hb2)) rfl (fun a HF => ?_)
      refine wc_move HF nS rfl (HF.wy rfl rfl rfl rfl (notT hb2)) rfl (fun a HF => ?_)
      refine wc_bin HF nS rfl rfl b_ne (HF.wy rfl rfl rfl rfl (notT hb2)) rfl (fun a HF => ?_)
      refine wc_pick (b := false) HF nS rfl (notT hb2) rfl rfl rfl (fun a HF => ?_)
      refine wc_end ?_
      refine then_n ?_
      by_cases hb3 : y11 = y6
      · have h := (if_pos hb3).symm.trans h
        refine wp_if (b' := false) HF rfl (notT (decide_eq_true hb3)) ?_
        refine wp_skip ?_
        refine then_n ?_
        refine wp_seq ?_
        refine wp_seq ?_
        refine wp_region_can [(0, false), (1, true), (2, false), (3, true), (4, true)] (fun w' => LdC w' p3 0 [.int .i64 y7, .slice a3 y8.length c3] ∧ True) (by kernel_rfl) (by kernel_rfl) ?_
        have HT : St w0 (fun _ => False) w.drew [Box p4 [.int .i64 y9, .slice a4 y10.length c4], Own 61 (rowT y10) (.slice a4 y10.length c4), Box p3 [.int .i64 y7, .slice a3 y8.length c3], Own 61 (rowT y8) (.slice a3 y8.length c3), Box p2 [.int .i64 y4, .slice a2 y5.length c2], Own 61 (rowT y5) (.slice a2 y5.length c2), Own 61 (rowT y3) (.slice a1 y3.length c1), Box p1 [.int .i64 x0_0, .slice a_x0_1 x0_1.length c_x0_1]] := HT.drew
        refine wc_loadAS (vs := [.int .i64 y7, .slice a3 y8.length c3]) HF ⟨(HT.boxAt 2 rfl).part 0 2, trivial⟩ rfl ag29 rfl (fun w hS => hS.1) rfl rfl (fun a HF => ?_)
        refine wc_loadA (vs := [.int .i64 x0_0, .slice a_x0_1 x0_1.length c_x0_1]) HF rfl ag24 rfl ((HT.boxAt 7 rfl).part 0 2) rfl rfl (fun a HF => ?_)
        obtain ⟨y13, y14, hx7, h⟩ := obs2 h
        refine wc_call HF cf15 rfl (w_laws_toMem fuel hx7 (HT.ro hr_x0_1).any) rfl rfl ?_
        rintro e w ⟨a5, n5, c5, rfl, hE⟩
        have hb := hE.below
        have HT := HT.pure hE
        obtain rfl := (HT.rdAt 0 rfl).neq
        have HT : St w0 (fun _ => False) w [Own 61 (rowT y14) (.slice a5 y14.length c5), Box p4 [.int .i64 y9, .slice a4 y10.length c4], Own 61 (rowT y10) (.slice a4 y10.length c4), Box p3 [.int .i64 y7, .slice a3 y8.length c3], Own 61 (rowT y8) (.slice a3 y8.length c3), Box p2 [.int .i64 y4, .slice a2 y5.length c2], Own 61 (rowT y5) (.slice a2 y5.length c2), Own 61 (rowT y3) (.slice a1 y3.length c1), Box p1 [.int .i64 x0_0, .slice a_x0_1 x0_1.length c_x0_1]] := HT
        refine ⟨_, rfl, (fun _ => ⟨(HT.boxAt 3 rfl).part 0 2, trivial⟩), fun a HF => ?_⟩
        obtain ⟨y15, hx8, h⟩ := obs h
        refine wc_call HF cf17 rfl (w_laws_eqMem fuel hx8 (HT.rdAt 4 rfl) (HT.rdAt 0 rfl)) rfl rfl ?_
        rintro e w ⟨rfl, hE⟩
        have hb := hE.below
        have HT := HT.pure hE
        have HT : St w0 (fun _ => False) w [Own 61 (rowT y14) (.slice a5 y14.length c5), Box p4 [.int .i64 y9, .slice a4 y10.length c4], Own 61 (rowT y10) (.slice a4 y10.length c4), Box p3 [.int .i64 y7, .slice a3 y8.length c3], Own 61 (rowT y8) (.slice a3 y8.length c3), Box p2 [.int .i64 y4, .slice a2 y5.length c2], Own 61 (rowT y5) (.slice a2 y5.length c2), Own 61 (rowT y3) (.slice a1 y3.length c1), Box p1 [.int .i64 x0_0, .slice a_x0_1 x0_1.length c_x0_1]] := HT
        refine ⟨_, rfl, nS, fun a HF => ?_⟩
        refine wc_not HF nS rfl rfl rfl (fun a HF => ?_)
        refine wc_endN ?_
        refine then_n ?_
        by_cases hb4 : y15 = true
        · have h := (if_pos hb4).symm.trans h
          refine wp_if (b' := false) HF rfl (notT hb4) ?_
          refine wp_skip ?_
          refine then_n ?_
          refine wp_seq ?_
          refine wc_text ?_
          refine wc_assign HF nS rfl rfl rfl (fun a HF => ?_)
          refine wc_end ?_
          refine then_n ?_
          refine wp_seq ?_
          refine wc_text ?_
          refine wc_loadA (vs := [.int .i64 y7, .slice a3 y8.length c3]) HF rfl ag29 rfl ((HT.boxAt 3 rfl).part 0 2) rfl rfl (fun a HF => ?_)
          refine wc_move HF nS rfl rfl rfl (fun a HF => ?_)
          obtain ⟨y16, y17, hx9, h⟩ := obs2 h
          have HT : St w0 (fun _ => False) w [Own 61 (rowT y8) (.slice a3 y8.length c3), Own 61 (rowT y14) (.slice a5 y14.length c5), Box p4 [.int .i64 y9, .slice a4 y10.length c4], Own 61 (rowT y10) (.slice a4 y10.length c4), Box p3 [.int .i64 y7, .slice a3 y8.length c3], Box p2 [.int .i64 y4, .slice a2 y5.length c2], Own 61 (rowT y5) (.slice a2 y5.length c2), Own 61 (rowT y3) (.slice a1 y3.length c1), Box p1 [.int .i64 x0_0, .slice a_x0_1 x0_1.length c_x0_1]] := HT.pick 4
          obtain ⟨F1, hAF1, hFF1, hbackF1, hroF1, hownF1⟩ := St.handR (A := [Own 61 (rowT y8) (.slice a3 y8.length c3)]) HT
          refine wc_call HF cf27 rfl (w_laws_markMem fuel hx9 hAF1) rfl rfl ?_
          rintro e w ⟨rfl, hE⟩
          have HT := hbackF1 _ _ hE
          have HT : St w0 (fun _ => False) w [Own 61 (rowT y17) (.slice a3 y8.length c3), Own 61 (rowT y14) (.slice a5 y14.length c5), Box p4 [.int .i64 y9, .slice a4 y10.length c4], Own 61 (rowT y10) (.slice a4 y10.length c4), Box p3 [.int .i64 y7, .slice a3 y8.length c3], Box p2 [.int .i64 y4, .slice a2 y5.length c2], Own 61 (rowT y5) (.slice a2 y5.length c2), Own 61 (rowT y3) (.slice a1 y3.length c1), Box p1 [.int .i64 x0_0, .slice a_x0_1 x0_1.length c_x0_1]] := HT
          refine ⟨_, rfl, nS, fun a HF => ?_⟩
          refine wc_assign HF nS rfl rfl rfl (fun a HF => ?_)
          refine wc_end ?_
          refine then_n ?_
          refine wp_seq ?_
          refine wp_seq ?_
          refine wc_text ?_
          refine wc_move HF nS rfl rfl rfl (fun a HF => ?_)
          refine wc_bin HF nS rfl rfl b_lt rfl rfl (fun a HF => ?_)
          refine wc_move HF nS rfl rfl rfl (fun a HF => ?_)
          by_cases hb5 : y16 < 0
          · have h := (if_pos hb5).symm.trans h
            refine wc_skip HF nS (HF.wn rfl rfl rfl rfl (decide_eq_true hb5)) rfl (fun a HF => ?_)
            refine wc_skip HF nS (HF.wn rfl rfl rfl rfl (decide_eq_true hb5)) rfl (fun a HF => ?_)
            refine wc_skip HF nS (HF.wn rfl rfl rfl rfl (decide_eq_true hb5)) rfl (fun a HF => ?_)
            refine wc_skip HF nS (HF.wn rfl rfl rfl rfl (decide_eq_true hb5)) rfl (fun a HF => ?_)
            refine wc_pick (b := true) HF nS rfl (decide_eq_true hb5) rfl rfl rfl (fun a HF => ?_)
            refine wc_move HF nS rfl rfl rfl (fun a HF => ?_)
            refine wc_skip HF nS (HF.wn rfl rfl rfl rfl rfl) rfl (fun a HF => ?_)
            refine wc_skip HF nS (HF.wn rfl rfl rfl rfl rfl) rfl (fun a HF => ?_)
            refine wc_skip HF nS (HF.wn rfl rfl rfl rfl rfl) rfl (fun a HF => ?_)
            refine wc_pick (b := true) HF nS rfl rfl rfl rfl rfl (fun a HF => ?_)
            refine wc_end ?_
            refine then_n ?_
            refine wp_if (b' := true) HF rfl rfl ?_
            refine wp_seq ?_
            refine wc_text ?_
            refine wc_assign HF nS rfl rfl rfl (fun a HF => ?_)
            refine wc_end ?_
            refine then_n ?_
            refine wp_ret ?_
            obtain rfl := Option.some.inj h
            refine then_r (?_)
            refine bp_ret HF (res_one rfl HF rfl) ?_
            have HT : St w0 (fun _ => False) w [] := HT.take 0
            exact ⟨rfl, HT⟩
          · have h := (if_neg hb5).symm.trans h
            refine wc_loadA (vs := [.int .i64 y9, .slice a4 y10.length c4]) HF rfl ag29 rfl ((HT.boxAt 2 rfl).part 0 2) (HF.wy rfl rfl rfl rfl (decide_eq_false hb5)) rfl (fun a HF => ?_)
            refine wc_loadA (vs := [.int .i64 y4, .slice a2 y5.length c2]) HF rfl ag29 rfl ((HT.boxAt 5 rfl).part 0 2) (HF.wy rfl rfl rfl rfl (decide_eq_false hb5)) rfl (fun a HF => ?_)
            obtain ⟨y18, hx10, h⟩ := obs h
            refine wc_call HF cf17 rfl (w_laws_eqMem fuel hx10 (HT.rdAt 3 rfl) (HT.rdAt 6 rfl)) (HF.wy rfl rfl rfl rfl (decide_eq_false hb5)) rfl ?_
            rintro e w ⟨rfl, hE⟩
            have hb := hE.below
            have HT := HT.pure hE
            have HT : St w0 (fun _ => False) w [Own 61 (rowT y17) (.slice a3 y8.length c3), Own 61 (rowT y14) (.slice a5 y14.length c5), Box p4 [.int .i64 y9, .slice a4 y10.length c4], Own 61 (rowT y10) (.slice a4 y10.length c4), Box p3 [.int .i64 y7, .slice a3 y8.length c3], Box p2 [.int .i64 y4, .slice a2 y5.length c2], Own 61 (rowT y5) (.slice a2 y5.length c2), Own 61 (rowT y3) (.slice a1 y3.length c1), Box p1 [.int .i64 x0_0, .slice a_x0_1 x0_1.length c_x0_1]] := HT
            refine ⟨_, rfl, nS, fun a HF => ?_⟩
            refine wc_not HF nS rfl (HF.wy rfl rfl rfl rfl (decide_eq_false hb5)) rfl (fun a HF => ?_)
            refine wc_pick (b := false) HF nS rfl (decide_eq_false hb5) rfl rfl rfl (fun a HF => ?_)
            refine wc_move HF nS rfl rfl rfl (fun a HF => ?_)
            by_cases hb6 : y18 = true
            · have h := (if_pos hb6).symm.trans h
              refine wc_move HF nS rfl (HF.wy rfl rfl rfl rfl (notT hb6)) rfl (fun a HF => ?_)
              refine wc_move HF nS rfl (HF.wy rfl rfl rfl rfl (notT hb6)) rfl (fun a HF => ?_)
              refine wc_bin HF nS rfl rfl b_ne (HF.wy rfl rfl rfl rfl (notT hb6)) rfl (fun a HF => ?_)
              refine wc_pick (b := false) HF nS rfl (notT hb6) rfl rfl rfl (fun a HF => ?_)
              refine wc_end ?_
              refine then_n ?_
              refine wp_if (b' := false) HF rfl (notT (decide_eq_true hb3)) ?_
              refine wp_skip ?_
              refine then_n ?_
              refine wp_seq ?_
              refine wc_text ?_
              refine wc_assign HF nS rfl rfl rfl (fun a HF => ?_)
              refine wc_end ?_
              refine then_n ?_
              refine wp_seq ?_
              refine wc_text ?_
              refine wc_loadA (vs := [.int .i64 y9, .slice a4 y10.length c4]) HF rfl ag29 rfl ((HT.boxAt 2 rfl).part 0 2) rfl rfl (fun a HF => ?_)
              refine wc_move HF nS rfl rfl rfl (fun a HF => ?_)
              obtain ⟨y19, y20, hx11, h⟩ := obs2 h
              have HT : St w0 (fun _ => False) w [Own 61 (rowT y10) (.slice a4 y10.length c4), Own 61 (rowT y17) (.slice a3 y8.length c3), Own 61 (rowT y14) (.slice a5 y14.length c5), Box p4 [.int .i64 y9, .slice a4 y10.length c4], Box p3 [.int .i64 y7, .slice a3 y8.length c3], Box p2 [.int .i64 y4, .slice a2 y5.length c2], Own 61 (rowT y5) (.slice a2 y5.length c2), Own 61 (rowT y3) (.slice a1 y3.length c1), Box p1 [.int .i64 x0_0, .slice a_x0_1 x0_1.length c_x0_1]] := HT.pick 3
              obtain ⟨F2, hAF2, hFF2, hbackF2, hroF2, hownF2⟩ := St.handR (A := [Own 61 (rowT y10) (.slice a4 y10.length c4)]) HT
              refine wc_call HF cf27 rfl (w_laws_markMem fuel hx11 hAF2) rfl rfl ?_
              rintro e w ⟨rfl, hE⟩
              have HT := hbackF2 _ _ hE
              have HT : St w0 (fun _ => False) w [Own 61 (rowT y20) (.slice a4 y10.length c4), Own 61 (rowT y17) (.slice a3 y8.length c3), Own 61 (rowT y14) (.slice a5 y14.length c5), Box p4 [.int .i64 y9, .slice a4 y10.length c4], Box p3 [.int .i64 y7, .slice a3 y8.length c3], Box p2 [.int .i64 y4, .slice a2 y5.length c2], Own 61 (rowT y5) (.slice a2 y5.length c2), Own 61 (rowT y3) (.slice a1 y3.length c1), Box p1 [.int .i64 x0_0, .slice a_x0_1 x0_1.length c_x0_1]] := HT
              refine ⟨_, rfl, nS, fun a HF => ?_⟩
              refine wc_assign HF nS rfl rfl rfl (fun a HF => ?_)
              refine wc_end ?_
              refine then_n ?_
              refine wp_seq ?_
              refine wc_text ?_
              refine wc_assign HF nS rfl rfl rfl (fun a HF => ?_)
              refine wc_end ?_
              refine then_n ?_
              refine wp_seq ?_
              refine wc_text ?_
              refine wc_loadA (vs := [.int .i64 y9, .slice a4 y10.length c4]) HF rfl ag29 rfl ((HT.boxAt 3 rfl).part 0 2) rfl rfl (fun a HF => ?_)
              refine wc_move HF nS rfl rfl rfl (fun a HF => ?_)
              obtain ⟨y21, hx12, h⟩ := obs h
              refine wc_call HF cf28 rfl (w_laws_heldMem fuel hx12 (HT.rdAt 0 rfl)) rfl rfl ?_
              rintro e w ⟨rfl, hE⟩
              have hb := hE.below
              have HT := HT.pure hE
              have HT : St w0 (fun _ => False) w [Own 61 (rowT y20) (.slice a4 y10.length c4), Own 61 (rowT y17) (.slice a3 y8.length c3), Own 61 (rowT y14) (.slice a5 y14.length c5), Box p4 [.int .i64 y9, .slice a4 y10.length c4], Box p3 [.int .i64 y7, .slice a3 y8.length c3], Box p2 [.int .i64 y4, .slice a2 y5.length c2], Own 61 (rowT y5) (.slice a2 y5.length c2), Own 61 (rowT y3) (.slice a1 y3.length c1), Box p1 [.int .i64 x0_0, .slice a_x0_1 x0_1.length c_x0_1]] := HT
              refine ⟨_, rfl, nS, fun a HF => ?_⟩
              refine wc_assign HF nS rfl rfl rfl (fun a HF => ?_)
              refine wc_end ?_
              refine then_n ?_
              refine wp_seq ?_
              refine wp_seq ?_
              refine wc_text ?_
              refine wc_move HF nS rfl rfl rfl (fun a HF => ?_)
              refine wc_bin HF nS rfl rfl b_lt rfl rfl (fun a HF => ?_)
              refine wc_end ?_
              refine then_n ?_
              by_cases hb7 : y21 < 0
              · have h := (if_pos hb7).symm.trans h
                refine wp_if (b' := true) HF rfl (decide_eq_true hb7) ?_
                refine wp_seq ?_
                refine wc_text ?_
                refine wc_assign HF nS rfl rfl rfl (fun a HF => ?_)
                refine wc_end ?_
                refine then_n ?_
                refine wp_ret ?_
                obtain rfl := Option.some.inj h
                refine then_r (?_)
                refine bp_ret HF (res_one rfl HF rfl) ?_
                have HT : St w0 (fun _ => False) w [] := HT.take 0
                exact ⟨rfl, HT⟩
              · have h := (if_neg hb7).symm.trans h
                refine wp_if (b' := false) HF rfl (decide_eq_false hb7) ?_
                refine wp_skip ?_
                refine then_n ?_
                refine wp_seq ?_
                refine wp_seq ?_
                refine wc_text ?_
                refine wc_move HF nS rfl rfl rfl (fun a HF => ?_)
                refine wc_move HF nS rfl rfl rfl (fun a HF => ?_)
                refine wc_bin HF nS rfl rfl b_ne rfl rfl (fun a HF => ?_)
                refine wc_end ?_
                refine then_n ?_
                by_cases hb8 : y21 = y19
                · have h := (if_pos hb8).symm.trans h
                  refine wp_if (b' := false) HF rfl (notT (decide_eq_true hb8)) ?_
                  refine wp_skip ?_
                  refine then_n ?_
                  refine wp_seq ?_
                  refine wc_text ?_
                  refine wc_loadA (vs := [.int .i64 x0_0, .slice a_x0_1 x0_1.length c_x0_1]) HF rfl ag24 rfl ((HT.boxAt 8 rfl).part 0 2) rfl rfl (fun a HF => ?_)
                  obtain ⟨y22, y23, hx13, h⟩ := obs2 h
                  refine wc_call HF cf15 rfl (w_laws_toMem fuel hx13 (HT.ro hr_x0_1).any) rfl rfl ?_
                  rintro e w ⟨a6, n6, c6, rfl, hE⟩
                  have hb := hE.below
                  have HT := HT.pure hE
                  obtain rfl := (HT.rdAt 0 rfl).neq
                  have HT : St w0 (fun _ => False) w [Own 61 (rowT y23) (.slice a6 y23.length c6), Own 61 (rowT y20) (.slice a4 y10.length c4), Own 61 (rowT y17) (.slice a3 y8.length c3), Own 61 (rowT y14) (.slice a5 y14.length c5), Box p4 [.int .i64 y9, .slice a4 y10.length c4], Box p3 [.int .i64 y7, .slice a3 y8.length c3], Box p2 [.int .i64 y4, .slice a2 y5.length c2], Own 61 (rowT y5) (.slice a2 y5.length c2), Own 61 (rowT y3) (.slice a1 y3.length c1), Box p1 [.int .i64 x0_0, .slice a_x0_1 x0_1.length c_x0_1]] := HT
                  refine ⟨_, rfl, nS, fun a HF => ?_⟩
                  obtain ⟨y24, y25, y26, hx14, h⟩ := obs3 h
                  refine wc_call HF cf30 rfl (w_impl_Tick fuel hx14 (HT.rdAt 0 rfl)) rfl rfl ?_
                  rintro e w ⟨a7, n7, c7, rfl, hE⟩
                  have hb := hE.below
                  have HT := HT.pure hE
                  obtain rfl := (HT.rdAt 0 rfl).neq
                  have HT : St w0 (fun _ => False) w [Own 61 (rowT y25) (.slice a7 y25.length c7), Own 61 (rowT y23) (.slice a6 y23.length c6), Own 61 (rowT y20) (.slice a4 y10.length c4), Own 61 (rowT y17) (.slice a3 y8.length c3), Own 61 (rowT y14) (.slice a5 y14.length c5), Box p4 [.int .i64 y9, .slice a4 y10.length c4], Box p3 [.int .i64 y7, .slice a3 y8.length c3], Box p2 [.int .i64 y4, .slice a2 y5.length c2], Own 61 (rowT y5) (.slice a2 y5.length c2), Own 61 (rowT y3) (.slice a1 y3.length c1), Box p1 [.int .i64 x0_0, .slice a_x0_1 x0_1.length c_x0_1]] := HT
                  refine ⟨_, rfl, nS, fun a HF => ?_⟩
                  refine wc_move HF nS rfl rfl rfl (fun a HF => ?_)
                  refine wc_extract (v := .agg #[.int .i64 y24, .slice a7 y25.length c7]) HF nS rfl rfl rfl rfl (fun a HF => ?_)
                  refine wc_extract (v := .int .i64 y26) HF nS rfl rfl rfl rfl (fun a HF => ?_)
                  refine wc_alloc (cs := [.int .i64 0, .slice none 0 0]) HF HT zr29 rfl rfl rfl (fun p5 w HT hb => ⟨nS, fun a HF => ?_⟩)
                  refine wc_storeB (cs' := [.int .i64 y24, .slice a7 y25.length c7]) HF HT rfl rfl (fun w => (ag29 w).2) rfl rfl rfl rfl rfl (fun w HT => ⟨nS, ?_⟩)
                  refine wc_assign HF nS rfl rfl rfl (fun a HF => ?_)
                  refine wc_end ?_
                  refine then_n ?_
                  refine wp_seq ?_
                  refine wp_seq ?_
                  refine wc_text ?_
                  refine wc_loadA (vs := [.int .i64 y24, .slice a7 y25.length c7]) HF rfl ag29 rfl ((HT.boxAt 0 rfl).part 0 2) rfl rfl (fun a HF => ?_)
                  refine wc_loadA (vs := [.int .i64 y4, .slice a2 y5.length c2]) HF rfl ag29 rfl ((HT.boxAt 8 rfl).part 0 2) rfl rfl (fun a HF => ?_)
                  obtain ⟨y27, hx15, h⟩ := obs h
                  refine wc_call HF cf17 rfl (w_laws_eqMem fuel hx15 (HT.rdAt 1 rfl) (HT.rdAt 9 rfl)) rfl rfl ?_
                  rintro e w ⟨rfl, hE⟩
                  have hb := hE.below
                  have HT := HT.pure hE
                  have HT : St w0 (fun _ => False) w [Box p5 [.int .i64 y24, .slice a7 y25.length c7], Own 61 (rowT y25) (.slice a7 y25.length c7), Own 61 (rowT y23) (.slice a6 y23.length c6), Own 61 (rowT y20) (.slice a4 y10.length c4), Own 61 (rowT y17) (.slice a3 y8.length c3), Own 61 (rowT y14) (.slice a5 y14.length c5), Box p4 [.int .i64 y9, .slice a4 y10.length c4], Box p3 [.int .i64 y7, .slice a3 y8.length c3], Box p2 [.int .i64 y4, .slice a2 y5.length c2], Own 61 (rowT y5) (.slice a2 y5.length c2), Own 61 (rowT y3) (.slice a1 y3.length c1), Box p1 [.int .i64 x0_0, .slice a_x0_1 x0_1.length c_x0_1]] := HT
                  refine ⟨_, rfl, nS, fun a HF => ?_⟩
                  refine wc_not HF nS rfl rfl rfl (fun a HF => ?_)
                  refine wc_move HF nS rfl rfl rfl (fun a HF => ?_)
                  by_cases hb9 : y27 = true
                  · have h := (if_pos hb9).symm.trans h
                    refine wc_move HF nS rfl (HF.wy rfl rfl rfl rfl (notT hb9)) rfl (fun a HF => ?_)
                    refine wc_move HF nS rfl (HF.wy rfl rfl rfl rfl (notT hb9)) rfl (fun a HF => ?_)
                    refine wc_bin HF nS rfl rfl b_ne (HF.wy rfl rfl rfl rfl (notT hb9)) rfl (fun a HF => ?_)
                    refine wc_pick (b := false) HF nS rfl (notT hb9) rfl rfl rfl (fun a HF => ?_)
                    refine wc_end ?_
                    refine then_n ?_
                    by_cases hb10 : y26 = y6
                    · have h := (if_pos hb10).symm.trans h
                      refine wp_if (b' := false) HF rfl (notT (decide_eq_true hb10)) ?_
                      refine wp_skip ?_
                      refine then_n ?_
                      refine wp_seq ?_
                      refine wc_text ?_
                      refine wc_assign HF nS rfl rfl rfl (fun a HF => ?_)
                      refine wc_end ?_
                      refine then_n ?_
                      refine wp_seq ?_
                      refine wc_text ?_
                      refine wc_loadA (vs := [.int .i64 y9, .slice a4 y10.length c4]) HF rfl ag29 rfl ((HT.boxAt 6 rfl).part 0 2) rfl rfl (fun a HF => ?_)
                      refine wc_move HF nS rfl rfl rfl (fun a HF => ?_)
                      obtain ⟨y28, hx16, h⟩ := obs h
                      refine wc_call HF cf28 rfl (w_laws_heldMem fuel hx16 (HT.rdAt 3 rfl)) rfl rfl ?_
                      rintro e w ⟨rfl, hE⟩
                      have hb := hE.below
                      have HT := HT.pure hE
                      have HT : St w0 (fun _ => False) w [Box p5 [.int .i64 y24, .slice a7 y25.length c7], Own 61 (rowT y25) (.slice a7 y25.length c7), Own 61 (rowT y23) (.slice a6 y23.length c6), Own 61 (rowT y20) (.slice a4 y10.length c4), Own 61 (rowT y17) (.slice a3 y8.length c3), Own 61 (rowT y14) (.slice a5 y14.length c5), Box p4 [.int .i64 y9, .slice a4 y10.length c4], Box p3 [.int .i64 y7, .slice a3 y8.length c3], Box p2 [.int .i64 y4, .slice a2 y5.length c2], Own 61 (rowT y5) (.slice a2 y5.length c2), Own 61 (rowT y3) (.slice a1 y3.length c1), Box p1 [.int .i64 x0_0, .slice a_x0_1 x0_1.length c_x0_1]] := HT
                      refine ⟨_, rfl, nS, fun a HF => ?_⟩
                      refine wc_assign HF nS rfl rfl rfl (fun a HF => ?_)
                      refine wc_end ?_
                      refine then_n ?_
                      refine wp_seq ?_
                      refine wp_seq ?_
                      refine wc_text ?_
                      refine wc_move HF nS rfl rfl rfl (fun a HF => ?_)
                      refine wc_bin HF nS rfl rfl b_lt rfl rfl (fun a HF => ?_)
                      refine wc_end ?_
                      refine then_n ?_
                      by_cases hb11 : y28 < 0
                      · have h := (if_pos hb11).symm.trans h
                        refine wp_if (b' := true) HF rfl (decide_eq_true hb11) ?_
                        refine wp_seq ?_
                        refine wc_text ?_
                        refine wc_assign HF nS rfl rfl rfl (fun a HF => ?_)
                        refine wc_end ?_
                        refine then_n ?_
                        refine wp_ret ?_
                        obtain rfl := Option.some.inj h
                        refine then_r (?_)
                        refine bp_ret HF (res_one rfl HF rfl) ?_
                        have HT : St w0 (fun _ => False) w [] := HT.take 0
                        exact ⟨rfl, HT⟩
                      · have h := (if_neg hb11).symm.trans h
                        refine wp_if (b' := false) HF rfl (decide_eq_false hb11) ?_
                        refine wp_skip ?_
                        refine then_n ?_
                        refine wp_seq ?_
                        refine wp_seq ?_
                        refine wc_text ?_
                        refine wc_move HF nS rfl rfl rfl (fun a HF => ?_)
                        refine wc_move HF nS rfl rfl rfl (fun a HF => ?_)
                        refine wc_bin HF nS rfl rfl b_ne rfl rfl (fun a HF => ?_)
                        refine wc_end ?_
                        refine then_n ?_
                        by_cases hb12 : y28 = y19
                        · have h := (if_pos hb12).symm.trans h
                          refine wp_if (b' := false) HF rfl (notT (decide_eq_true hb12)) ?_
                          refine wp_skip ?_
                          refine then_n ?_
                          refine wp_seq ?_
                          refine wc_text ?_
                          refine wc_assign HF nS rfl rfl rfl (fun a HF => ?_)
                          refine wc_end ?_
                          refine then_n ?_
                          refine wp_ret ?_
                          obtain rfl := Option.some.inj h
                          refine bp_ret HF (res_one rfl HF rfl) ?_
                          have HT : St w0 (fun _ => False) w [] := HT.take 0
                          exact ⟨rfl, HT⟩
                        · have h := (if_neg hb12).symm.trans h
                          refine wp_if (b' := true) HF rfl (notF (decide_eq_false hb12)) ?_
                          refine wp_seq ?_
                          refine wc_text ?_
                          refine wc_assign HF nS rfl rfl rfl (fun a HF => ?_)
                          refine wc_end ?_
                          refine then_n ?_
                          refine wp_ret ?_
                          obtain rfl := Option.some.inj h
                          refine then_r (?_)
                          refine bp_ret HF (res_one rfl HF rfl) ?_
                          have HT : St w0 (fun _ => False) w [] := HT.take 0
                          exact ⟨rfl, HT⟩
                    · have h := (if_neg hb10).symm.trans h
                      refine wp_if (b' := true) HF rfl (notF (decide_eq_false hb10)) ?_
                      refine wp_seq ?_
                      refine wc_text ?_
                      refine wc_assign HF nS rfl rfl rfl (fun a HF => ?_)
                      refine wc_end ?_
                      refine then_n ?_
                      refine wp_ret ?_
                      obtain rfl := Option.some.inj h
                      refine then_r (?_)
                      refine bp_ret HF (res_one rfl HF rfl) ?_
                      have HT : St w0 (fun _ => False) w [] := HT.take 0
                      exact ⟨rfl, HT⟩
                  · have h := (if_neg hb9).symm.trans h
                    refine wc_skip HF nS (HF.wn rfl rfl rfl rfl (notF (Bool.eq_false_iff.2 hb9))) rfl (fun a HF => ?_)
                    refine wc_skip HF nS (HF.wn rfl rfl rfl rfl (notF (Bool.eq_false_iff.2 hb9))) rfl (fun a HF => ?_)
                    refine wc_skip HF nS (HF.wn rfl rfl rfl rfl (notF (Bool.eq_false_iff.2 hb9))) rfl (fun a HF => ?_)
                    refine wc_pick (b := true) HF nS rfl (notF (Bool.eq_false_iff.2 hb9)) rfl rfl rfl (fun a HF => ?_)
                    refine wc_end ?_
                    refine then_n ?_
                    refine wp_if (b' := true) HF rfl rfl ?_
                    refine wp_seq ?_
                    refine wc_text ?_
                    refine wc_assign HF nS rfl rfl rfl (fun a HF => ?_)
                    refine wc_end ?_
                    refine then_n ?_
                    refine wp_ret ?_
                    obtain rfl := Option.some.inj h
                    refine then_r (?_)
                    refine bp_ret HF (res_one rfl HF rfl) ?_
                    have HT : St w0 (fun _ => False) w [] := HT.take 0
                    exact ⟨rfl, HT⟩
                · have h := (if_neg hb8).symm.trans h
                  refine wp_if (b' := true) HF rfl (notF (decide_eq_false hb8)) ?_
                  refine wp_seq ?_
                  refine wc_text ?_
                  refine wc_assign HF nS rfl rfl rfl (fun a HF => ?_)
                  refine wc_end ?_
                  refine then_n ?_
                  refine wp_ret ?_
                  obtain rfl := Option.some.inj h
                  refine then_r (?_)
                  refine bp_ret HF (res_one rfl HF rfl) ?_
                  have HT : St w0 (fun _ => False) w [] := HT.take 0
                  exact ⟨rfl, HT⟩
            · have h := (if_neg hb6).symm.trans h
              refine wc_skip HF nS (HF.wn rfl rfl rfl rfl (notF (Bool.eq_false_iff.2 hb6))) rfl (fun a HF => ?_)
              refine wc_skip HF nS (HF.wn rfl rfl rfl rfl (notF (Bool.eq_false_iff.2 hb6))) rfl (fun a HF => ?_)
              refine wc_skip HF nS (HF.wn rfl rfl rfl rfl (notF (Bool.eq_false_iff.2 hb6))) rfl (fun a HF => ?_)
              refine wc_pick (b := true) HF nS rfl (notF (Bool.eq_false_iff.2 hb6)) rfl rfl rfl (fun a HF => ?_)
              refine wc_end ?_
              refine then_n ?_
              refine wp_if (b' := true) HF rfl rfl ?_
              refine wp_seq ?_
              refine wc_text ?_
              refine wc_assign HF nS rfl rfl rfl (fun a HF => ?_)
              refine wc_end ?_
              refine then_n ?_
              refine wp_ret ?_
              obtain rfl := Option.some.inj h
              refine then_r (?_)
              refine bp_ret HF (res_one rfl HF rfl) ?_
              have HT : St w0 (fun _ => False) w [] := HT.take 0
              exact ⟨rfl, HT⟩
        · have h := (if_neg hb4).symm.trans h
          refine wp_if (b' := true) HF rfl (notF (Bool.eq_false_iff.2 hb4)) ?_
          refine wp_seq ?_
          refine wc_text ?_
          refine wc_assign HF nS rfl rfl rfl (fun a HF => ?_)
          refine wc_end ?_
          refine then_n ?_
          refine wp_ret ?_
          obtain rfl := Option.some.inj h
          refine then_r (?_)
          refine bp_ret HF (res_one rfl HF rfl) ?_
          have HT : St w0 (fun _ => False) w [] := HT.take 0
          exact ⟨rfl, HT⟩
      · have h := (if_neg hb3).symm.trans h
        refine wp_if (b' := true) HF rfl (notF (decide_eq_false hb3)) ?_
        refine wp_seq ?_
        refine wc_text ?_
        refine wc_assign HF nS rfl rfl rfl (fun a HF => ?_)
        refine wc_end ?_
        refine then_n ?_
        refine wp_ret ?_
        obtain rfl := Option.some.inj h
        refine then_r (?_)
        refine bp_ret HF (res_one rfl HF rfl) ?_
        have HT : St w0 (fun _ => False) w [] := HT.take 0
        exact ⟨rfl, HT⟩
    · have h := (if_neg hb2).symm.trans h
      refine wc_skip HF nS (HF.wn rfl rfl rfl rfl (notF (Bool.eq_false_iff.2 hb2))) rfl (fun a HF => ?_)
      refine wc_skip HF nS (HF.wn rfl rfl rfl rfl (notF (Bool.eq_false_iff.2 hb2))) rfl (fun a HF => ?_)
      refine wc_skip HF nS (HF.wn rfl rfl rfl rfl (notF (Bool.eq_false_iff.2 hb2))) rfl (fun a HF => ?_)
      refine wc_pick (b := true) HF nS rfl (notF (Bool.eq_false_iff.2 hb2)) rfl rfl rfl (fun a HF => ?_)
      refine wc_end ?_
      refine then_n ?_
      refine wp_if (b' := true) HF rfl rfl ?_
      refine wp_seq ?_
      refine wc_text ?_
      refine wc_assign HF nS rfl rfl rfl (fun a HF => ?_)
      refine wc_end ?_
      refine then_n ?_
      refine wp_ret ?_
      obtain rfl := Option.some.inj h
      refine then_r (?_)
      refine bp_ret HF (res_one rfl HF rfl) ?_
      have HT : St w0 (fun _ => False) w [] := HT.take 0
      exact ⟨rfl, HT⟩

def m_laws_FnExactValues (fuel : Nat) (x0_0 : Int) (x0_1 : List I3) : Option Bool :=
  (m_laws_szMem fuel x0_0 x0_1 1048576).bind fun y1 =>
  if y1 < 0 then
    some true
  else
    bind2 (m_laws_toMem fuel x0_0 x0_1) fun y2 y3 =>
    (m_spec_Values fuel y2 y3).bind fun y4 =>
    bind2 (m_laws_toMem fuel x0_0 x0_1) fun y5 y6 =>
    (m_impl_Values fuel y5 y6).bind fun y7 =>
    (m_laws_eqIntS fuel y7 y4).bind fun y8 =>
    if y8 = true then
      bind2 (m_laws_toMem fuel x0_0 x0_1) fun y9 y10 =>
      (m_laws_eqMem fuel y5 y6 y9 y10).bind fun y11 =>
      if y11 = true then
        bind2 (m_laws_markMem fuel y5 y6 1) fun y12 y13 =>
        if y12 < 0 then
          some false
        else
          (m_laws_eqIntS fuel y7 y4).bind fun y14 =>
          if y14 = true then
            bind2 (m_laws_markIntS fuel y7 1) fun y15 y16 =>
            (m_laws_heldIntS fuel y16 1).bind fun y17 =>
            if y17 < 0 then
              some false
            else
              if y17 = y15 then
                bind2 (m_laws_toMem fuel x0_0 x0_1) fun y18 y19 =>
                (m_impl_Values fuel y18 y19).bind fun y20 =>
                (m_laws_eqIntS fuel y20 y4).bind fun y21 =>
                if y21 = true then
                  (m_laws_heldIntS fuel y16 1).bind fun y22 =>
                  if y22 < 0 then
                    some false
                  else
                    if y22 = y15 then
                      some true
                    else
                      some false
                else
                  some false
              else
                some false
          else
            some false
      else
        some false
    else
      some false

set_option maxRecDepth 100000 in
set_option maxHeartbeats 4000000 in
theorem w_laws_FnExactValues (fuel : Nat) {x0_0 : Int} {x0_1 : List I3} {a_x0_1 : Option Addr} {n_x0_1 c_x0_1 : Nat} {r0 : Bool} {w0 : World} (h : m_laws_FnExactValues fuel x0_0 x0_1 = some r0) (hr_x0_1 : RdT (fun b => ¬ False) w0 (rowT x0_1) (.slice a_x0_1 n_x0_1 c_x0_1)) :
    Calls Try.prog 8 #[.agg #[.int .i64 x0_0, .slice a_x0_1 n_x0_1 c_x0_1]] w0 fun e w => e = .returned (.bool r0) ∧ St w0 (fun _ => False) w [] := by
  obtain rfl := hr_x0_1.neq
  have HT : St w0 (fun _ => False) w0 [] := St.init0
  rw [m_laws_FnExactValues] at h
  refine calls_fr (n := 69) [.agg #[.int .i64 x0_0, .slice a_x0_1 x0_1.length c_x0_1]] Try.func8 rfl rfl rfl (fun a HF => ?_)
  have HT : St w0 (fun _ => False) w0 [] := HT
  refine wp_seq ?_
  refine wc_text ?_
  refine wc_box (cs := [.int .i64 x0_0, .slice a_x0_1 x0_1.length c_x0_1]) HF HT rfl rfl rfl rfl (fun p1 w HT hb => ⟨nS, fun a HF => ?_⟩)
  refine wc_assign HF nS rfl rfl rfl (fun a HF => ?_)
  refine wc_end ?_
  refine then_n ?_
  refine wp_seq ?_
  refine wc_text ?_
  refine wc_assign HF nS rfl rfl rfl (fun a HF => ?_)
  refine wc_end ?_
  refine then_n ?_
  refine wp_seq ?_
  refine wc_text ?_
  refine wc_loadA (vs := [.int .i64 x0_0, .slice a_x0_1 x0_1.length c_x0_1]) HF rfl ag24 rfl ((HT.boxAt 0 rfl).part 0 2) rfl rfl (fun a HF => ?_)
  refine wc_move HF nS rfl rfl rfl (fun a HF => ?_)
  obtain ⟨y1, hx1, h⟩ := obs h
  refine wc_call HF cf13 rfl (w_laws_szMem fuel hx1 (HT.ro hr_x0_1).any) rfl rfl ?_
  rintro e w ⟨rfl, hE⟩
  have hb := hE.below
  have HT := HT.pure hE
  have HT : St w0 (fun _ => False) w [Box p1 [.int .i64 x0_0, .slice a_x0_1 x0_1.length c_x0_1]] := HT
  refine ⟨_, rfl, nS, fun a HF => ?_⟩
  refine wc_assign HF nS rfl rfl rfl (fun a HF => ?_)
  refine wc_end ?_
  refine then_n ?_
  refine wp_seq ?_
  refine wp_seq ?_
  refine wc_text ?_
  refine wc_move HF nS rfl rfl rfl (fun a HF => ?_)
  refine wc_bin HF nS rfl rfl b_lt rfl rfl (fun a HF => ?_)
  refine wc_end ?_
  refine then_n ?_
  by_cases hb1 : y1 < 0
  · have h := (if_pos hb1).symm.trans h
    refine wp_if (b' := true) HF rfl (decide_eq_true hb1) ?_
    refine wp_seq ?_
    refine wc_text ?_
    refine wc_assign HF nS rfl rfl rfl (fun a HF => ?_)
    refine wc_end ?_
    refine then_n ?_
    refine wp_ret ?_
    obtain rfl := Option.some.inj h
    refine then_r (?_)
    refine bp_ret HF (res_one rfl HF rfl) ?_
    have HT : St w0 (fun _ => False) w [] := HT.take 0
    exact ⟨rfl, HT⟩
  · have h := (if_neg hb1).symm.trans h
    refine wp_if (b' := false) HF rfl (decide_eq_false hb1) ?_
    refine wp_skip ?_
    refine then_n ?_
    refine wp_seq ?_
    refine wc_text ?_
    refine wc_loadA (vs := [.int .i64 x0_0, .slice a_x0_1 x0_1.length c_x0_1]) HF rfl ag24 rfl ((HT.boxAt 0 rfl).part 0 2) rfl rfl (fun a HF => ?_)
    obtain ⟨y2, y3, hx2, h⟩ := obs2 h
    refine wc_call HF cf15 rfl (w_laws_toMem fuel hx2 (HT.ro hr_x0_1).any) rfl rfl ?_
    rintro e w ⟨a1, n1, c1, rfl, hE⟩
    have hb := hE.below
    have HT := HT.pure hE
    obtain rfl := (HT.rdAt 0 rfl).neq
    have HT : St w0 (fun _ => False) w [Own 61 (rowT y3) (.slice a1 y3.length c1), Box p1 [.int .i64 x0_0, .slice a_x0_1 x0_1.length c_x0_1]] := HT
    refine ⟨_, rfl, nS, fun a HF => ?_⟩
    obtain ⟨y4, hx3, h⟩ := obs h
    refine wc_call HF cf31 rfl (w_spec_Values fuel hx3 (HT.rdAt 0 rfl)) rfl rfl ?_
    rintro e w ⟨a2, n2, c2, rfl, hE⟩
    have hb := hE.below
    have HT := HT.pure hE
    obtain rfl := (HT.rdAt 0 rfl).neq
    have HT : St w0 (fun _ => False) w [Own 3 (rowT y4) (.slice a2 y4.length c2), Own 61 (rowT y3) (.slice a1 y3.length c1), Box p1 [.int .i64 x0_0, .slice a_x0_1 x0_1.length c_x0_1]] := HT
    refine ⟨_, rfl, nS, fun a HF => ?_⟩
    refine wc_assign HF nS rfl rfl rfl (fun a HF => ?_)
    refine wc_end ?_
    refine then_n ?_
    refine wp_seq ?_
    refine wc_text ?_
    refine wc_loadA (vs := [.int .i64 x0_0, .slice a_x0_1 x0_1.length c_x0_1]) HF rfl ag24 rfl ((HT.boxAt 2 rfl).part 0 2) rfl rfl (fun a HF => ?_)
    obtain ⟨y5, y6, hx4, h⟩ := obs2 h
    refine wc_call HF cf15 rfl (w_laws_toMem fuel hx4 (HT.ro hr_x0_1).any) rfl rfl ?_
    rintro e w ⟨a3, n3, c3, rfl, hE⟩
    have hb := hE.below
    have HT := HT.pure hE
    obtain rfl := (HT.rdAt 0 rfl).neq
    have HT : St w0 (fun _ => False) w [Own 61 (rowT y6) (.slice a3 y6.length c3), Own 3 (rowT y4) (.slice a2 y4.length c2), Own 61 (rowT y3) (.slice a1 y3.length c1), Box p1 [.int .i64 x0_0, .slice a_x0_1 x0_1.length c_x0_1]] := HT
    refine ⟨_, rfl, nS, fun a HF => ?_⟩
    refine wc_alloc (cs := [.int .i64 0, .slice none 0 0]) HF HT zr29 rfl rfl rfl (fun p2 w HT hb => ⟨nS, fun a HF => ?_⟩)
    refine wc_storeB (cs' := [.int .i64 y5, .slice a3 y6.length c3]) HF HT rfl rfl (fun w => (ag29 w).2) rfl rfl rfl rfl rfl (fun w HT => ⟨nS, ?_⟩)
    refine wc_end ?_
    refine then_n ?_
    refine wp_seq ?_
    refine wc_text ?_
    refine wc_loadA (vs := [.int .i64 y5, .slice a3 y6.length c3]) HF rfl ag29 rfl ((HT.boxAt 0 rfl).part 0 2) rfl rfl (fun a HF => ?_)
    obtain ⟨y7, hx5, h⟩ := obs h
    refine wc_call HF cf32 rfl (w_impl_Values fuel hx5 (HT.rdAt 1 rfl)) rfl rfl ?_
    rintro e w ⟨a4, n4, c4, rfl, hE⟩
    have hb := hE.below
    have HT := HT.pure hE
    obtain rfl := (HT.rdAt 0 rfl).neq
    have HT : St w0 (fun _ => False) w [Own 3 (rowT y7) (.slice a4 y7.length c4), Box p2 [.int .i64 y5, .slice a3 y6.length c3], Own 61 (rowT y6) (.slice a3 y6.length c3), Own 3 (rowT y4) (.slice a2 y4.length c2), Own 61 (rowT y3) (.slice a1 y3.length c1), Box p1 [.int .i64 x0_0, .slice a_x0_1 x0_1.length c_x0_1]] := HT
    refine ⟨_, rfl, nS, fun a HF => ?_⟩
    refine wc_assign HF nS rfl rfl rfl (fun a HF => ?_)
    refine wc_end ?_
    refine then_n ?_
    refine wp_seq ?_
    refine wp_seq ?_
    refine wc_text ?_
    refine wc_move HF nS rfl rfl rfl (fun a HF => ?_)
    refine wc_move HF nS rfl rfl rfl (fun a HF => ?_)
    obtain ⟨y8, hx6, h⟩ := obs h
    refine wc_call HF cf25 rfl (w_laws_eqIntS fuel hx6 (HT.rdAt 0 rfl) (HT.rdAt 3 rfl)) rfl rfl ?_
    rintro e w ⟨rfl, hE⟩
    have hb := hE.below
    have HT := HT.pure hE
    have HT : St w0 (fun _ => False) w [Own 3 (rowT y7) (.slice a4 y7.length c4), Box p2 [.int .i64 y5, .slice a3 y6.length c3], Own 61 (rowT y6) (.slice a3 y6.length c3), Own 3 (rowT y4) (.slice a2 y4.length c2), Own 61 (rowT y3) (.slice a1 y3.length c1), Box p1 [.int .i64 x0_0, .slice a_x0_1 x0_1.length c_x0_1]] := HT
    refine ⟨_, rfl, nS, fun a HF => ?_⟩
    refine wc_not HF nS rfl rfl rfl (fun a HF => ?_)
    refine wc_end ?_
    refine then_n ?_
    by_cases hb2 : y8 = true
    · have h := (if_pos hb2).symm.trans h
      refine wp_if (b' := false) HF rfl (notT hb2) ?_
      refine wp_skip ?_
      refine then_n ?_
      refine wp_seq ?_
      refine wp_seq ?_
      refine wp_region_can [(0, false), (1, true), (2, false), (3, true), (4, true)] (fun w' => LdC w' p2 0 [.int .i64 y5, .slice a3 y6.length c3] ∧ True) (by kernel_rfl) (by kernel_rfl) ?_
      have HT : St w0 (fun _ => False) w.drew [Own 3 (rowT y7) (.slice a4 y7.length c4), Box p2 [.int .i64 y5, .slice a3 y6.length c3], Own 61 (rowT y6) (.slice a3 y6.length c3), Own 3 (rowT y4) (.slice a2 y4.length c2), Own 61 (rowT y3) (.slice a1 y3.length c1), Box p1 [.int .i64 x0_0, .slice a_x0_1 x0_1.length c_x0_1]] := HT.drew
      refine wc_loadAS (vs := [.int .i64 y5, .slice a3 y6.length c3]) HF ⟨(HT.boxAt 1 rfl).part 0 2, trivial⟩ rfl ag29 rfl (fun w hS => hS.1) rfl rfl (fun a HF => ?_)
      refine wc_loadA (vs := [.int .i64 x0_0, .slice a_x0_1 x0_1.length c_x0_1]) HF rfl ag24 rfl ((HT.boxAt 5 rfl).part 0 2) rfl rfl (fun a HF => ?_)
      obtain ⟨y9, y10, hx7, h⟩ := obs2 h
      refine wc_call HF cf15 rfl (w_laws_toMem fuel hx7 (HT.ro hr_x0_1).any) rfl rfl ?_
      rintro e w ⟨a5, n5, c5, rfl, hE⟩
      have hb := hE.below
      have HT := HT.pure hE
      obtain rfl := (HT.rdAt 0 rfl).neq
      have HT : St w0 (fun _ => False) w [Own 61 (rowT y10) (.slice a5 y10.length c5), Own 3 (rowT y7) (.slice a4 y7.length c4), Box p2 [.int .i64 y5, .slice a3 y6.length c3], Own 61 (rowT y6) (.slice a3 y6.length c3), Own 3 (rowT y4) (.slice a2 y4.length c2), Own 61 (rowT y3) (.slice a1 y3.length c1), Box p1 [.int .i64 x0_0, .slice a_x0_1 x0_1.length c_x0_1]] := HT
      refine ⟨_, rfl, (fun _ => ⟨(HT.boxAt 2 rfl).part 0 2, trivial⟩), fun a HF => ?_⟩
      obtain ⟨y11, hx8, h⟩ := obs h
      refine wc_call HF cf17 rfl (w_laws_eqMem fuel hx8 (HT.rdAt 3 rfl) (HT.rdAt 0 rfl)) rfl rfl ?_
      rintro e w ⟨rfl, hE⟩
      have hb := hE.below
      have HT := HT.pure hE
      have HT : St w0 (fun _ => False) w [Own 61 (rowT y10) (.slice a5 y10.length c5), Own 3 (rowT y7) (.slice a4 y7.length c4), Box p2 [.int .i64 y5, .slice a3 y6.length c3], Own 61 (rowT y6) (.slice a3 y6.length c3), Own 3 (rowT y4) (.slice a2 y4.length c2), Own 61 (rowT y3) (.slice a1 y3.length c1), Box p1 [.int .i64 x0_0, .slice a_x0_1 x0_1.length c_x0_1]] := HT
      refine ⟨_, rfl, nS, fun a HF => ?_⟩
      refine wc_not HF nS rfl rfl rfl (fun a HF => ?_)
      refine wc_endN ?_
      refine then_n ?_
      by_cases hb3 : y11 = true
      · have h := (if_pos hb3).symm.trans h
        refine wp_if (b' := false) HF rfl (notT hb3) ?_
        refine wp_skip ?_
        refine then_n ?_
        refine wp_seq ?_
        refine wc_text ?_
        refine wc_assign HF nS rfl rfl rfl (fun a HF => ?_)
        refine wc_end ?_
        refine then_n ?_
        refine wp_seq ?_
        refine wc_text ?_
        refine wc_loadA (vs := [.int .i64 y5, .slice a3 y6.length c3]) HF rfl ag29 rfl ((HT.boxAt 2 rfl).part 0 2) rfl rfl (fun a HF => ?_)
        refine wc_move HF nS rfl rfl rfl (fun a HF => ?_)
        obtain ⟨y12, y13, hx9, h⟩ := obs2 h
        have HT : St w0 (fun _ => False) w [Own 61 (rowT y6) (.slice a3 y6.length c3), Own 61 (rowT y10) (.slice a5 y10.length c5), Own 3 (rowT y7) (.slice a4 y7.length c4), Box p2 [.int .i64 y5, .slice a3 y6.length c3], Own 3 (rowT y4) (.slice a2 y4.length c2), Own 61 (rowT y3) (.slice a1 y3.length c1), Box p1 [.int .i64 x0_0, .slice a_x0_1 x0_1.length c_x0_1]] := HT.pick 3
        obtain ⟨F1, hAF1, hFF1, hbackF1, hroF1, hownF1⟩ := St.handR (A := [Own 61 (rowT y6) (.slice a3 y6.length c3)]) HT
        refine wc_call HF cf27 rfl (w_laws_markMem fuel hx9 hAF1) rfl rfl ?_
        rintro e w ⟨rfl, hE⟩
        have HT := hbackF1 _ _ hE
        have HT : St w0 (fun _ => False) w [Own 61 (rowT y13) (.slice a3 y6.length c3), Own 61 (rowT y10) (.slice a5 y10.length c5), Own 3 (rowT y7) (.slice a4 y7.length c4), Box p2 [.int .i64 y5, .slice a3 y6.length c3], Own 3 (rowT y4) (.slice a2 y4.length c2), Own 61 (rowT y3) (.slice a1 y3.length c1), Box p1 [.int .i64 x0_0, .slice a_x0_1 x0_1.length c_x0_1]] := HT
        refine ⟨_, rfl, nS, fun a HF => ?_⟩
        refine wc_assign HF nS rfl rfl rfl (fun a HF => ?_)
        refine wc_end ?_
        refine then_n ?_
        refine wp_seq ?_
        refine wp_seq ?_
        refine wc_text ?_
        refine wc_move HF nS rfl rfl rfl (fun a HF => ?_)
        refine wc_bin HF nS rfl rfl b_lt rfl rfl (fun a HF => ?_)
        refine wc_move HF nS rfl rfl rfl (fun a HF => ?_)
        by_cases hb4 : y12 < 0
        · have h := (if_pos hb4).symm.trans h
          refine wc_skip HF nS (HF.wn rfl rfl rfl rfl (decide_eq_true hb4)) rfl (fun a HF => ?_)
          refine wc_skip HF nS (HF.wn rfl rfl rfl rfl (decide_eq_true hb4)) rfl (fun a HF => ?_)
          refine wc_skip HF nS (HF.wn rfl rfl rfl rfl (decide_eq_true hb4)) rfl (fun a HF => ?_)
          refine wc_skip HF nS (HF.wn rfl rfl rfl rfl (decide_eq_true hb4)) rfl (fun a HF => ?_)
          refine wc_pick (b := true) HF nS rfl (decide_eq_true hb4) rfl rfl rfl (fun a HF => ?_)
          refine wc_end ?_
          refine then_n ?_
          refine wp_if (b' := true) HF rfl rfl ?_
          refine wp_seq ?_
          refine wc_text ?_
          refine wc_assign HF nS rfl rfl rfl (fun a HF => ?_)
          refine wc_end ?_
          refine then_n ?_
          refine wp_ret ?_
          obtain rfl := Option.some.inj h
          refine then_r (?_)
          refine bp_ret HF (res_one rfl HF rfl) ?_
          have HT : St w0 (fun _ => False) w [] := HT.take 0
          exact ⟨rfl, HT⟩
        · have h := (if_neg hb4).symm.trans h
          refine wc_move HF nS rfl (HF.wy rfl rfl rfl rfl (decide_eq_false hb4)) rfl (fun a HF => ?_)
          refine wc_move HF nS rfl (HF.wy rfl rfl rfl rfl (decide_eq_false hb4)) rfl (fun a HF => ?_)
          obtain ⟨y14, hx10, h⟩ := obs h
          refine wc_call HF cf25 rfl (w_laws_eqIntS fuel hx10 (HT.rdAt 2 rfl) (HT.rdAt 4 rfl)) (HF.wy rfl rfl rfl rfl (decide_eq_false hb4)) rfl ?_
          rintro e w ⟨rfl, hE⟩
          have hb := hE.below
          have HT := HT.pure hE
          have HT : St w0 (fun _ => False) w [Own 61 (rowT y13) (.slice a3 y6.length c3), Own 61 (rowT y10) (.slice a5 y10.length c5), Own 3 (rowT y7) (.slice a4 y7.length c4), Box p2 [.int .i64 y5, .slice a3 y6.length c3], Own 3 (rowT y4) (.slice a2 y4.length c2), Own 61 (rowT y3) (.slice a1 y3.length c1), Box p1 [.int .i64 x0_0, .slice a_x0_1 x0_1.length c_x0_1]] := HT
          refine ⟨_, rfl, nS, fun a HF => ?_⟩
          refine wc_not HF nS rfl (HF.wy rfl rfl rfl rfl (decide_eq_false hb4)) rfl (fun a HF => ?_)
          refine wc_pick (b := false) HF nS rfl (decide_eq_false hb4) rfl rfl rfl (fun a HF => ?_)
          refine wc_end ?_
          refine then_n ?_
          by_cases hb5 : y14 = true
          · have h := (if_pos hb5).symm.trans h
            refine wp_if (b' := false) HF rfl (notT hb5) ?_
            refine wp_skip ?_
            refine then_n ?_
            refine wp_seq ?_
            refine wc_text ?_
            refine wc_assign HF nS rfl rfl rfl (fun a HF => ?_)
            refine wc_end ?_
            refine then_n ?_
            refine wp_seq ?_
            refine wc_text ?_
            refine wc_move HF nS rfl rfl rfl (fun a HF => ?_)
            refine wc_move HF nS rfl rfl rfl (fun a HF => ?_)
            obtain ⟨y15, y16, hx11, h⟩ := obs2 h
            have HT : St w0 (fun _ => False) w [Own 3 (rowT y7) (.slice a4 y7.length c4), Own 61 (rowT y13) (.slice a3 y6.length c3), Own 61 (rowT y10) (.slice a5 y10.length c5), Box p2 [.int .i64 y5, .slice a3 y6.length c3], Own 3 (rowT y4) (.slice a2 y4.length c2), Own 61 (rowT y3) (.slice a1 y3.length c1), Box p1 [.int .i64 x0_0, .slice a_x0_1 x0_1.length c_x0_1]] := HT.pick 2
            obtain ⟨F2, hAF2, hFF2, hbackF2, hroF2, hownF2⟩ := St.handR (A := [Own 3 (rowT y7) (.slice a4 y7.length c4)]) HT
            refine wc_call HF cf26 rfl (w_laws_markIntS fuel hx11 hAF2) rfl rfl ?_
            rintro e w ⟨rfl, hE⟩
            have HT := hbackF2 _ _ hE
            have HT : St w0 (fun _ => False) w [Own 3 (rowT y16) (.slice a4 y7.length c4), Own 61 (rowT y13) (.slice a3 y6.length c3), Own 61 (rowT y10) (.slice a5 y10.length c5), Box p2 [.int .i64 y5, .slice a3 y6.length c3], Own 3 (rowT y4) (.slice a2 y4.length c2), Own 61 (rowT y3) (.slice a1 y3.length c1), Box p1 [.int .i64 x0_0, .slice a_x0_1 x0_1.length c_x0_1]] := HT
            refine ⟨_, rfl, nS, fun a HF => ?_⟩
            refine wc_assign HF nS rfl rfl rfl (fun a HF => ?_)
            refine wc_end ?_
            refine then_n ?_
            refine wp_seq ?_
            refine wc_text ?_
            refine wc_assign HF nS rfl rfl rfl (fun a HF => ?_)
            refine wc_end ?_
            refine then_n ?_
            refine wp_seq ?_
            refine wc_text ?_
            refine wc_move HF nS rfl rfl rfl (fun a HF => ?_)
            refine wc_move HF nS rfl rfl rfl (fun a HF => ?_)
            obtain ⟨y17, hx12, h⟩ := obs h
            refine wc_call HF cf33 rfl (w_laws_heldIntS fuel hx12 (HT.rdAt 0 rfl)) rfl rfl ?_
            rintro e w ⟨rfl, hE⟩
            have hb := hE.below
            have HT := HT.pure hE
            have HT : St w0 (fun _ => False) w [Own 3 (rowT y16) (.slice a4 y7.length c4), Own 61 (rowT y13) (.slice a3 y6.length c3), Own 61 (rowT y10) (.slice a5 y10.length c5), Box p2 [.int .i64 y5, .slice a3 y6.length c3], Own 3 (rowT y4) (.slice a2 y4.length c2), Own 61 (rowT y3) (.slice a1 y3.length c1), Box p1 [.int .i64 x0_0, .slice a_x0_1 x0_1.length c_x0_1]] := HT
            refine ⟨_, rfl, nS, fun a HF => ?_⟩
            refine wc_assign HF nS rfl rfl rfl (fun a HF => ?_)
            refine wc_end ?_
            refine then_n ?_
            refine wp_seq ?_
            refine wp_seq ?_
            refine wc_text ?_
            refine wc_move HF nS rfl rfl rfl (fun a HF => ?_)
            refine wc_bin HF nS rfl rfl b_lt rfl rfl (fun a HF => ?_)
            refine wc_end ?_
            refine then_n ?_
            by_cases hb6 : y17 < 0
            · have h := (if_pos hb6).symm.trans h
              refine wp_if (b' := true) HF rfl (decide_eq_true hb6) ?_
              refine wp_seq ?_
              refine wc_text ?_
              refine wc_assign HF nS rfl rfl rfl (fun a HF => ?_)
              refine wc_end ?_
              refine then_n ?_
              refine wp_ret ?_
              obtain rfl := Option.some.inj h
              refine then_r (?_)
              refine bp_ret HF (res_one rfl HF rfl) ?_
              have HT : St w0 (fun _ => False) w [] := HT.take 0
              exact ⟨rfl, HT⟩
            · have h := (if_neg hb6).symm.trans h
              refine wp_if (b' := false) HF rfl (decide_eq_false hb6) ?_
              refine wp_skip ?_
              refine then_n ?_
              refine wp_seq ?_
              refine wp_seq ?_
              refine wc_text ?_
              refine wc_move HF nS rfl rfl rfl (fun a HF => ?_)
              refine wc_move HF nS rfl rfl rfl (fun a HF => ?_)
              refine wc_bin HF nS rfl rfl b_ne rfl rfl (fun a HF => ?_)
              refine wc_end ?_
              refine then_n ?_
              by_cases hb7 : y17 = y15
              · have h := (if_pos hb7).symm.trans h
                refine wp_if (b' := false) HF rfl (notT (decide_eq_true hb7)) ?_
                refine wp_skip ?_
                refine then_n ?_
                refine wp_seq ?_
                refine wc_text ?_
                refine wc_loadA (vs := [.int .i64 x0_0, .slice a_x0_1 x0_1.length c_x0_1]) HF rfl ag24 rfl ((HT.boxAt 6 rfl).part 0 2) rfl rfl (fun a HF => ?_)
                obtain ⟨y18, y19, hx13, h⟩ := obs2 h
                refine wc_call HF cf15 rfl (w_laws_toMem fuel hx13 (HT.ro hr_x0_1).any) rfl rfl ?_
                rintro e w ⟨a6, n6, c6, rfl, hE⟩
                have hb := hE.below
                have HT := HT.pure hE
                obtain rfl := (HT.rdAt 0 rfl).neq
                have HT : St w0 (fun _ => False) w [Own 61 (rowT y19) (.slice a6 y19.length c6), Own 3 (rowT y16) (.slice a4 y7.length c4), Own 61 (rowT y13) (.slice a3 y6.length c3), Own 61 (rowT y10) (.slice a5 y10.length c5), Box p2 [.int .i64 y5, .slice a3 y6.length c3], Own 3 (rowT y4) (.slice a2 y4.length c2), Own 61 (rowT y3) (.slice a1 y3.length c1), Box p1 [.int .i64 x0_0, .slice a_x0_1 x0_1.length c_x0_1]] := HT
                refine ⟨_, rfl, nS, fun a HF => ?_⟩
                obtain ⟨y20, hx14, h⟩ := obs h
                refine wc_call HF cf32 rfl (w_impl_Values fuel hx14 (HT.rdAt 0 rfl)) rfl rfl ?_
                rintro e w ⟨a7, n7, c7, rfl, hE⟩
                have hb := hE.below
                have HT := HT.pure hE
                obtain rfl := (HT.rdAt 0 rfl).neq
                have HT : St w0 (fun _ => False) w [Own 3 (rowT y20) (.slice a7 y20.length c7), Own 61 (rowT y19) (.slice a6 y19.length c6), Own 3 (rowT y16) (.slice a4 y7.length c4), Own 61 (rowT y13) (.slice a3 y6.length c3), Own 61 (rowT y10) (.slice a5 y10.length c5), Box p2 [.int .i64 y5, .slice a3 y6.length c3], Own 3 (rowT y4) (.slice a2 y4.length c2), Own 61 (rowT y3) (.slice a1 y3.length c1), Box p1 [.int .i64 x0_0, .slice a_x0_1 x0_1.length c_x0_1]] := HT
                refine ⟨_, rfl, nS, fun a HF => ?_⟩
                refine wc_assign HF nS rfl rfl rfl (fun a HF => ?_)
                refine wc_end ?_
                refine then_n ?_
                refine wp_seq ?_
                refine wp_seq ?_
                refine wc_text ?_
                refine wc_move HF nS rfl rfl rfl (fun a HF => ?_)
                refine wc_move HF nS rfl rfl rfl (fun a HF => ?_)
                obtain ⟨y21, hx15, h⟩ := obs h
                refine wc_call HF cf25 rfl (w_laws_eqIntS fuel hx15 (HT.rdAt 0 rfl) (HT.rdAt 6 rfl)) rfl rfl ?_
                rintro e w ⟨rfl, hE⟩
                have hb := hE.below
                have HT := HT.pure hE
                have HT : St w0 (fun _ => False) w [Own 3 (rowT y20) (.slice a7 y20.length c7), Own 61 (rowT y19) (.slice a6 y19.length c6), Own 3 (rowT y16) (.slice a4 y7.length c4), Own 61 (rowT y13) (.slice a3 y6.length c3), Own 61 (rowT y10) (.slice a5 y10.length c5), Box p2 [.int .i64 y5, .slice a3 y6.length c3], Own 3 (rowT y4) (.slice a2 y4.length c2), Own 61 (rowT y3) (.slice a1 y3.length c1), Box p1 [.int .i64 x0_0, .slice a_x0_1 x0_1.length c_x0_1]] := HT
                refine ⟨_, rfl, nS, fun a HF => ?_⟩
                refine wc_not HF nS rfl rfl rfl (fun a HF => ?_)
                refine wc_end ?_
                refine then_n ?_
                by_cases hb8 : y21 = true
                · have h := (if_pos hb8).symm.trans h
                  refine wp_if (b' := false) HF rfl (notT hb8) ?_
                  refine wp_skip ?_
                  refine then_n ?_
                  refine wp_seq ?_
                  refine wc_text ?_
                  refine wc_assign HF nS rfl rfl rfl (fun a HF => ?_)
                  refine wc_end ?_
                  refine then_n ?_
                  refine wp_seq ?_
                  refine wc_text ?_
                  refine wc_move HF nS rfl rfl rfl (fun a HF => ?_)
                  refine wc_move HF nS rfl rfl rfl (fun a HF => ?_)
                  obtain ⟨y22, hx16, h⟩ := obs h
                  refine wc_call HF cf33 rfl (w_laws_heldIntS fuel hx16 (HT.rdAt 2 rfl)) rfl rfl ?_
                  rintro e w ⟨rfl, hE⟩
                  have hb := hE.below
                  have HT := HT.pure hE
                  have HT : St w0 (fun _ => False) w [Own 3 (rowT y20) (.slice a7 y20.length c7), Own 61 (rowT y19) (.slice a6 y19.length c6), Own 3 (rowT y16) (.slice a4 y7.length c4), Own 61 (rowT y13) (.slice a3 y6.length c3), Own 61 (rowT y10) (.slice a5 y10.length c5), Box p2 [.int .i64 y5, .slice a3 y6.length c3], Own 3 (rowT y4) (.slice a2 y4.length c2), Own 61 (rowT y3) (.slice a1 y3.length c1), Box p1 [.int .i64 x0_0, .slice a_x0_1 x0_1.length c_x0_1]] := HT
                  refine ⟨_, rfl, nS, fun a HF => ?_⟩
                  refine wc_assign HF nS rfl rfl rfl (fun a HF => ?_)
                  refine wc_end ?_
                  refine then_n ?_
                  refine wp_seq ?_
                  refine wp_seq ?_
                  refine wc_text ?_
                  refine wc_move HF nS rfl rfl rfl (fun a HF => ?_)
                  refine wc_bin HF nS rfl rfl b_lt rfl rfl (fun a HF => ?_)
                  refine wc_end ?_
                  refine then_n ?_
                  by_cases hb9 : y22 < 0
                  · have h := (if_pos hb9).symm.trans h
                    refine wp_if (b' := true) HF rfl (decide_eq_true hb9) ?_
                    refine wp_seq ?_
                    refine wc_text ?_
                    refine wc_assign HF nS rfl rfl rfl (fun a HF => ?_)
                    refine wc_end ?_
                    refine then_n ?_
                    refine wp_ret ?_
                    obtain rfl := Option.some.inj h
                    refine then_r (?_)
                    refine bp_ret HF (res_one rfl HF rfl) ?_
                    have HT : St w0 (fun _ => False) w [] := HT.take 0
                    exact ⟨rfl, HT⟩
                  · have h := (if_neg hb9).symm.trans h
                    refine wp_if (b' := false) HF rfl (decide_eq_false hb9) ?_
                    refine wp_skip ?_
                    refine then_n ?_
                    refine wp_seq ?_
                    refine wp_seq ?_
                    refine wc_text ?_
                    refine wc_move HF nS rfl rfl rfl (fun a HF => ?_)
                    refine wc_move HF nS rfl rfl rfl (fun a HF => ?_)
                    refine wc_bin HF nS rfl rfl b_ne rfl rfl (fun a HF => ?_)
                    refine wc_end ?_
                    refine then_n ?_
                    by_cases hb10 : y22 = y15
                    · have h := (if_pos hb10).symm.trans h
                      refine wp_if (b' := false) HF rfl (notT (decide_eq_true hb10)) ?_
                      refine wp_skip ?_
                      refine then_n ?_
                      refine wp_seq ?_
                      refine wc_text ?_
                      refine wc_assign HF nS rfl rfl rfl (fun a HF => ?_)
                      refine wc_end ?_
                      refine then_n ?_
                      refine wp_ret ?_
                      obtain rfl := Option.some.inj h
                      refine bp_ret HF (res_one rfl HF rfl) ?_
                      have HT : St w0 (fun _ => False) w [] := HT.take 0
                      exact ⟨rfl, HT⟩
                    · have h := (if_neg hb10).symm.trans h
                      refine wp_if (b' := true) HF rfl (notF (decide_eq_false hb10)) ?_
                      refine wp_seq ?_
                      refine wc_text ?_
                      refine wc_assign HF nS rfl rfl rfl (fun a HF => ?_)
                      refine wc_end ?_
                      refine then_n ?_
                      refine wp_ret ?_
                      obtain rfl := Option.some.inj h
                      refine then_r (?_)
                      refine bp_ret HF (res_one rfl HF rfl) ?_
                      have HT : St w0 (fun _ => False) w [] := HT.take 0
                      exact ⟨rfl, HT⟩
                · have h := (if_neg hb8).symm.trans h
                  refine wp_if (b' := true) HF rfl (notF (Bool.eq_false_iff.2 hb8)) ?_
                  refine wp_seq ?_
                  refine wc_text ?_
                  refine wc_assign HF nS rfl rfl rfl (fun a HF => ?_)
                  refine wc_end ?_
                  refine then_n ?_
                  refine wp_ret ?_
                  obtain rfl := Option.some.inj h
                  refine then_r (?_)
                  refine bp_ret HF (res_one rfl HF rfl) ?_
                  have HT : St w0 (fun _ => False) w [] := HT.take 0
                  exact ⟨rfl, HT⟩
              · have h := (if_neg hb7).symm.trans h
                refine wp_if (b' := true) HF rfl (notF (decide_eq_false hb7)) ?_
                refine wp_seq ?_
                refine wc_text ?_
                refine wc_assign HF nS rfl rfl rfl (fun a HF => ?_)
                refine wc_end ?_
                refine then_n ?_
                refine wp_ret ?_
                obtain rfl := Option.some.inj h
                refine then_r (?_)
                refine bp_ret HF (res_one rfl HF rfl) ?_
                have HT : St w0 (fun _ => False) w [] := HT.take 0
                exact ⟨rfl, HT⟩
          · have h := (if_neg hb5).symm.trans h
            refine wp_if (b' := true) HF rfl (notF (Bool.eq_false_iff.2 hb5)) ?_
            refine wp_seq ?_
            refine wc_text ?_
            refine wc_assign HF nS rfl rfl rfl (fun a HF => ?_)
            refine wc_end ?_
            refine then_n ?_
            refine wp_ret ?_
            obtain rfl := Option.some.inj h
            refine then_r (?_)
            refine bp_ret HF (res_one rfl HF rfl) ?_
            have HT : St w0 (fun _ => False) w [] := HT.take 0
            exact ⟨rfl, HT⟩
      · have h := (if_neg hb3).symm.trans h
        refine wp_if (b' := true) HF rfl (notF (Bool.eq_false_iff.2 hb3)) ?_
        refine wp_seq ?_
        refine wc_text ?_
        refine wc_assign HF nS rfl rfl rfl (fun a HF => ?_)
        refine wc_end ?_
        refine then_n ?_
        refine wp_ret ?_
        obtain rfl := Option.some.inj h
        refine then_r (?_)
        refine bp_ret HF (res_one rfl HF rfl) ?_
        have HT : St w0 (fun _ => False) w [] := HT.take 0
        exact ⟨rfl, HT⟩
    · have h := (if_neg hb2).symm.trans h
      refine wp_if (b' := true) HF rfl (notF (Bool.eq_false_iff.2 hb2)) ?_
      refine wp_seq ?_
      refine wc_text ?_
      refine wc_assign HF nS rfl rfl rfl (fun a HF => ?_)
      refine wc_end ?_
      refine then_n ?_
      refine wp_ret ?_
      obtain rfl := Option.some.inj h
      refine then_r (?_)
      refine bp_ret HF (res_one rfl HF rfl) ?_
      have HT : St w0 (fun _ => False) w [] := HT.take 0
      exact ⟨rfl, HT⟩

def m_laws_FnExactLock (fuel : Nat) (x0_0 : Int) (x0_1 : List I3) (x1 : Int) (x2 : Int) : Option Bool :=
  (m_laws_szMem fuel x0_0 x0_1 1048576).bind fun y1 =>
  if y1 < 0 then
    some true
  else
    bind2 (m_laws_toMem fuel x0_0 x0_1) fun y2 y3 =>
    bind3 (m_spec_Lock fuel y2 y3 x1 x2) fun y4 y5 y6 =>
    bind2 (m_laws_toMem fuel x0_0 x0_1) fun y7 y8 =>
    bind3 (m_impl_Lock fuel y7 y8 x1 x2) fun y9 y10 y11 =>
    (m_laws_eqMem fuel y9 y10 y4 y5).bind fun y12 =>
    if y12 = true then
      if (y11 == y6) = true then
        bind2 (m_laws_toMem fuel x0_0 x0_1) fun y13 y14 =>
        (m_laws_eqMem fuel y7 y8 y13 y14).bind fun y15 =>
        if y15 = true then
          bind2 (m_laws_markMem fuel y7 y8 1) fun y16 y17 =>
          if y16 < 0 then
            some false
          else
            (m_laws_eqMem fuel y9 y10 y4 y5).bind fun y18 =>
            if y18 = true then
              bind2 (m_laws_markMem fuel y9 y10 1) fun y19 y20 =>
              (m_laws_heldMem fuel y9 y20 1).bind fun y21 =>
              if y21 < 0 then
                some false
              else
                if y21 = y19 then
                  bind2 (m_laws_toMem fuel x0_0 x0_1) fun y22 y23 =>
                  bind3 (m_impl_Lock fuel y22 y23 x1 x2) fun y24 y25 y26 =>
                  (m_laws_eqMem fuel y24 y25 y4 y5).bind fun y27 =>
                  if y27 = true then
                    if (y26 == y6) = true then
                      (m_laws_heldMem fuel y9 y20 1).bind fun y28 =>
                      if y28 < 0 then
                        some false
                      else
                        if y28 = y19 then
                          some true
                        else
                          some false
                    else
                      some false
                  else
                    some false
                else
                  some false
            else
              some false
        else
          some false
      else
        some false
    else
      some false

set_option maxRecDepth 100000 in
set_option maxHeartbeats 4000000 in
theorem w_laws_FnExactLock (fuel : Nat) {x0_0 : Int} {x0_1 : List I3} {x1 : Int} {x2 : Int} {a_x0_1 : Option Addr} {n_x0_1 c_x0_1 : Nat} {r0 : Bool} {w0 : World} (h : m_laws_FnExactLock fuel x0_0 x0_1 x1 x2 = some r0) (hr_x0_1 : RdT (fun b => ¬ False) w0 (rowT x0_1) (.slice a_x0_1 n_x0_1 c_x0_1)) :
    Calls Try.prog 9 #[.agg #[.int .i64 x0_0, .slice a_x0_1 n_x0_1 c_x0_1], .int .i64 x1, .int .i64 x2] w0 fun e w => e = .returned (.bool r0) ∧ St w0 (fun _ => False) w [] := by
  obtain rfl := hr_x0_1.neq
  have HT : St w0 (fun _ => False) w0 [] := St.init0
  rw [m_laws_FnExactLock] at h
  refine calls_fr (n := 106) [.agg #[.int .i64 x0_0, .slice a_x0_1 x0_1.length c_x0_1], .int .i64 x1, .int .i64 x2] Try.func9 rfl rfl rfl (fun a HF => ?_)
  have HT : St w0 (fun _ => False) w0 [] := HT
  refine wp_seq ?_
  refine wc_text ?_
  refine wc_box (cs := [.int .i64 x0_0, .slice a_x0_1 x0_1.length c_x0_1]) HF HT rfl rfl rfl rfl (fun p1 w HT hb => ⟨nS, fun a HF => ?_⟩)
  refine wc_assign HF nS rfl rfl rfl (fun a HF => ?_)
  refine wc_end ?_
  refine then_n ?_
  refine wp_seq ?_
  refine wc_text ?_
  refine wc_assign HF nS rfl rfl rfl (fun a HF => ?_)
  refine wc_end ?_
  refine then_n ?_
  refine wp_seq ?_
  refine wc_text ?_
  refine wc_loadA (vs := [.int .i64 x0_0, .slice a_x0_1 x0_1.length c_x0_1]) HF rfl ag24 rfl ((HT.boxAt 0 rfl).part 0 2) rfl rfl (fun a HF => ?_)
  refine wc_move HF nS rfl rfl rfl (fun a HF => ?_)
  obtain ⟨y1, hx1, h⟩ := obs h
  refine wc_call HF cf13 rfl (w_laws_szMem fuel hx1 (HT.ro hr_x0_1).any) rfl rfl ?_
  rintro e w ⟨rfl, hE⟩
  have hb := hE.below
  have HT := HT.pure hE
  have HT : St w0 (fun _ => False) w [Box p1 [.int .i64 x0_0, .slice a_x0_1 x0_1.length c_x0_1]] := HT
  refine ⟨_, rfl, nS, fun a HF => ?_⟩
  refine wc_assign HF nS rfl rfl rfl (fun a HF => ?_)
  refine wc_end ?_
  refine then_n ?_
  refine wp_seq ?_
  refine wp_seq ?_
  refine wc_text ?_
  refine wc_move HF nS rfl rfl rfl (fun a HF => ?_)
  refine wc_bin HF nS rfl rfl b_lt rfl rfl (fun a HF => ?_)
  refine wc_end ?_
  refine then_n ?_
  by_cases hb1 : y1 < 0
  · have h := (if_pos hb1).symm.trans h
    refine wp_if (b' := true) HF rfl (decide_eq_true hb1) ?_
    refine wp_seq ?_
    refine wc_text ?_
    refine wc_assign HF nS rfl rfl rfl (fun a HF => ?_)
    refine wc_end ?_
    refine then_n ?_
    refine wp_ret ?_
    obtain rfl := Option.some.inj h
    refine then_r (?_)
    refine bp_ret HF (res_one rfl HF rfl) ?_
    have HT : St w0 (fun _ => False) w [] := HT.take 0
    exact ⟨rfl, HT⟩
  · have h := (if_neg hb1).symm.trans h
    refine wp_if (b' := false) HF rfl (decide_eq_false hb1) ?_
    refine wp_skip ?_
    refine then_n ?_
    refine wp_seq ?_
    refine wc_text ?_
    refine wc_loadA (vs := [.int .i64 x0_0, .slice a_x0_1 x0_1.length c_x0_1]) HF rfl ag24 rfl ((HT.boxAt 0 rfl).part 0 2) rfl rfl (fun a HF => ?_)
    obtain ⟨y2, y3, hx2, h⟩ := obs2 h
    refine wc_call HF cf15 rfl (w_laws_toMem fuel hx2 (HT.ro hr_x0_1).any) rfl rfl ?_
    rintro e w ⟨a1, n1, c1, rfl, hE⟩
    have hb := hE.below
    have HT := HT.pure hE
    obtain rfl := (HT.rdAt 0 rfl).neq
    have HT : St w0 (fun _ => False) w [Own 61 (rowT y3) (.slice a1 y3.length c1), Box p1 [.int .i64 x0_0, .slice a_x0_1 x0_1.length c_x0_1]] := HT
    refine ⟨_, rfl, nS, fun a HF => ?_⟩
    refine wc_move HF nS rfl rfl rfl (fun a HF => ?_)
    refine wc_move HF nS rfl rfl rfl (fun a HF => ?_)
    obtain ⟨y4, y5, y6, hx3, h⟩ := obs3 h
    refine wc_call HF cf34 rfl (w_spec_Lock fuel hx3 (HT.rdAt 0 rfl)) rfl rfl ?_
    rintro e w ⟨a2, n2, c2, rfl, hE⟩
    have hb := hE.below
    have HT := HT.pure hE
    obtain rfl := (HT.rdAt 0 rfl).neq
    have HT : St w0 (fun _ => False) w [Own 61 (rowT y5) (.slice a2 y5.length c2), Own 61 (rowT y3) (.slice a1 y3.length c1), Box p1 [.int .i64 x0_0, .slice a_x0_1 x0_1.length c_x0_1]] := HT
    refine ⟨_, rfl, nS, fun a HF => ?_⟩
    refine wc_move HF nS rfl rfl rfl (fun a HF => ?_)
    refine wc_extract (v := .agg #[.int .i64 y4, .slice a2 y5.length c2]) HF nS rfl rfl rfl rfl (fun a HF => ?_)
    refine wc_extract (v := .bool y6) HF nS rfl rfl rfl rfl (fun a HF => ?_)
    refine wc_alloc (cs := [.int .i64 0, .slice none 0 0]) HF HT zr29 rfl rfl rfl (fun p2 w HT hb => ⟨nS, fun a HF => ?_⟩)
    refine wc_storeB (cs' := [.int .i64 y4, .slice a2 y5.length c2]) HF HT rfl rfl (fun w => (ag29 w).2) rfl rfl rfl rfl rfl (fun w HT => ⟨nS, ?_⟩)
    refine wc_assign HF nS rfl rfl rfl (fun a HF => ?_)
    refine wc_end ?_
    refine then_n ?_
    refine wp_seq ?_
    refine wc_text ?_
    refine wc_loadA (vs := [.int .i64 x0_0, .slice a_x0_1 x0_1.length c_x0_1]) HF rfl ag24 rfl ((HT.boxAt 3 rfl).part 0 2) rfl rfl (fun a HF => ?_)
    obtain ⟨y7, y8, hx4, h⟩ := obs2 h
    refine wc_call HF cf15 rfl (w_laws_toMem fuel hx4 (HT.ro hr_x0_1).any) rfl rfl ?_
    rintro e w ⟨a3, n3, c3, rfl, hE⟩
    have hb := hE.below
    have HT := HT.pure hE
    obtain rfl := (HT.rdAt 0 rfl).neq
    have HT : St w0 (fun _ => False) w [Own 61 (rowT y8) (.slice a3 y8.length c3), Box p2 [.int .i64 y4, .slice a2 y5.length c2], Own 61 (rowT y5) (.slice a2 y5.length c2), Own 61 (rowT y3) (.slice a1 y3.length c1), Box p1 [.int .i64 x0_0, .slice a_x0_1 x0_1.length c_x0_1]] := HT
    refine ⟨_, rfl, nS, fun a HF => ?_⟩
    refine wc_alloc (cs := [.int .i64 0, .slice none 0 0]) HF HT zr29 rfl rfl rfl (fun p3 w HT hb => ⟨nS, fun a HF => ?_⟩)
    refine wc_storeB (cs' := [.int .i64 y7, .slice a3 y8.length c3]) HF HT rfl rfl (fun w => (ag29 w).2) rfl rfl rfl rfl rfl (fun w HT => ⟨nS, ?_⟩)
    refine wc_end ?_
    refine then_n ?_
    refine wp_seq ?_
    refine wc_text ?_
    refine wc_loadA (vs := [.int .i64 y7, .slice a3 y8.length c3]) HF rfl ag29 rfl ((HT.boxAt 0 rfl).part 0 2) rfl rfl (fun a HF => ?_)
    refine wc_move HF nS rfl rfl rfl (fun a HF => ?_)
    refine wc_move HF nS rfl rfl rfl (fun a HF => ?_)
    obtain ⟨y9, y10, y11, hx5, h⟩ := obs3 h
    refine wc_call HF cf35 rfl (w_impl_Lock fuel hx5 (HT.rdAt 1 rfl)) rfl rfl ?_
    rintro e w ⟨a4, n4, c4, rfl, hE⟩
    have hb := hE.below
    have HT := HT.pure hE
    obtain rfl := (HT.rdAt 0 rfl).neq
    have HT : St w0 (fun _ => False) w [Own 61 (rowT y10) (.slice a4 y10.length c4), Box p3 [.int .i64 y7, .slice a3 y8.length c3], Own 61 (rowT y8) (.slice a3 y8.length c3), Box p2 [.int .i64 y4, .slice a2 y5.length c2], Own 61 (rowT y5) (.slice a2 y5.length c2), Own 61 (rowT y3) (.slice a1 y3.length c1), Box p1 [.int .i64 x0_0, .slice a_x0_1 x0_1.length c_x0_1]] := HT
    refine ⟨_, rfl, nS, fun a HF => ?_⟩
    refine wc_move HF nS rfl rfl rfl (fun a HF => ?_)
    refine wc_extract (v := .agg #[.int .i64 y9, .slice a4 y10.length c4]) HF nS rfl rfl rfl rfl (fun a HF => ?_)
    refine wc_extract (v := .bool y11) HF nS rfl rfl rfl rfl (fun a HF => ?_)
    refine wc_alloc (cs := [.int .i64 0, .slice none 0 0]) HF HT zr29 rfl rfl rfl (fun p4 w HT hb => ⟨nS, fun a HF => ?_⟩)
    refine wc_storeB (cs' := [.int .i64 y9, .slice a4 y10.length c4]) HF HT rfl rfl (fun w => (ag29 w).2) rfl rfl rfl rfl rfl (fun w HT => ⟨nS, ?_⟩)
    refine wc_assign HF nS rfl rfl rfl (fun a HF => ?_)
    refine wc_end ?_
    refine then_n ?_
    refine wp_seq ?_
    refine wp_seq ?_
    refine wc_text ?_
    refine wc_loadA (vs := [.int .i64 y9, .slice a4 y10.length c4]) HF rfl ag29 rfl ((HT.boxAt 0 rfl).part 0 2) rfl rfl (fun a HF => ?_)
    refine wc_loadA (vs := [.int .i64 y4, .slice a2 y5.length c2]) HF rfl ag29 rfl ((HT.boxAt 4 rfl).part 0 2) rfl rfl (fun a HF => ?_)
    obtain ⟨y12, hx6, h⟩ := obs h
    refine wc_call HF cf17 rfl (w_laws_eqMem fuel hx6 (HT.rdAt 1 rfl) (HT.rdAt 5 rfl)) rfl rfl ?_
    rintro e w ⟨rfl, hE⟩
    have hb := hE.below
    have HT := HT.pure hE
    have HT : St w0 (fun _ => False) w [Box p4 [.int .i64 y9, .slice a4 y10.length c4], Own 61 (rowT y10) (.slice a4 y10.length c4), Box p3 [.int .i64 y7, .slice a3 y8.length c3], Own 61 (rowT y8) (.slice a3 y8.length c3), Box p2 [.int .i64 y4, .slice a2 y5.length c2], Own 61 (rowT y5) (.slice a2 y5.length c2), Own 61 (rowT y3) (.slice a1 y3.length c1), Box p1 [.int .i64 x0_0, .slice a_x0_1 x0_1.length c_x0_1]] := HT
    refine ⟨_, rfl, nS, fun a HF => ?_⟩
    refine wc_not HF nS rfl rfl rfl (fun a HF => ?_)
    refine wc_move HF nS rfl rfl rfl (fun a HF => ?_)
    by_cases hb2 : y12 = true
    · have h := (if_pos hb2).symm.trans h
      refine wc_move HF nS rfl (HF.wy rfl rfl rfl rfl (notT hb2)) rfl (fun a HF => ?_)
      refine wc_move HF nS rfl (HF.wy rfl rfl rfl rfl (notT hb2)) rfl (fun a HF => ?_)
      refine wc_bin HF nS rfl rfl (b_bne Try.underlying4) (HF.wy rfl rfl rfl rfl (notT hb2)) rfl (fun a HF => ?_)
      refine wc_pick (b := false) HF nS rfl (notT hb2) rfl rfl rfl (fun a HF => ?_)
      refine wc_end ?_
      refine then_n ?_
      by_cases hb3 : (y11 == y6) = true
      · have h := (if_pos hb3).symm.trans h
        refine wp_if (b' := false) HF rfl (notT hb3) ?_
        refine wp_skip ?_
        refine then_n ?_
        refine wp_seq ?_
        refine wp_seq ?_
        refine wp_region_can [(0, false), (1, true), (2, false), (3, true), (4, true)] (fun w' => LdC w' p3 0 [.int .i64 y7, .slice a3 y8.length c3] ∧ True) (by kernel_rfl) (by kernel_rfl) ?_
        have HT : St w0 (fun _ => False) w.drew [Box p4 [.int .i64 y9, .slice a4 y10.length c4], Own 61 (rowT y10) (.slice a4 y10.length c4), Box p3 [.int .i64 y7, .slice a3 y8.length c3], Own 61 (rowT y8) (.slice a3 y8.length c3), Box p2 [.int .i64 y4, .slice a2 y5.length c2], Own 61 (rowT y5) (.slice a2 y5.length c2), Own 61 (rowT y3) (.slice a1 y3.length c1), Box p1 [.int .i64 x0_0, .slice a_x0_1 x0_1.length c_x0_1]] := HT.drew
        refine wc_loadAS (vs := [.int .i64 y7, .slice a3 y8.length c3]) HF ⟨(HT.boxAt 2 rfl).part 0 2, trivial⟩ rfl ag29 rfl (fun w hS => hS.1) rfl rfl (fun a HF => ?_)
        refine wc_loadA (vs := [.int .i64 x0_0, .slice a_x0_1 x0_1.length c_x0_1]) HF rfl ag24 rfl ((HT.boxAt 7 rfl).part 0 2) rfl rfl (fun a HF => ?_)
        obtain ⟨y13, y14, hx7, h⟩ := obs2 h
        refine wc_call HF cf15 rfl (w_laws_toMem fuel hx7 (HT.ro hr_x0_1).any) rfl rfl ?_
        rintro e w ⟨a5, n5, c5, rfl, hE⟩
        have hb := hE.below
        have HT := HT.pure hE
        obtain rfl := (HT.rdAt 0 rfl).neq
        have HT : St w0 (fun _ => False) w [Own 61 (rowT y14) (.slice a5 y14.length c5), Box p4 [.int .i64 y9, .slice a4 y10.length c4], Own 61 (rowT y10) (.slice a4 y10.length c4), Box p3 [.int .i64 y7, .slice a3 y8.length c3], Own 61 (rowT y8) (.slice a3 y8.length c3), Box p2 [.int .i64 y4, .slice a2 y5.length c2], Own 61 (rowT y5) (.slice a2 y5.length c2), Own 61 (rowT y3) (.slice a1 y3.length c1), Box p1 [.int .i64 x0_0, .slice a_x0_1 x0_1.length c_x0_1]] := HT
        refine ⟨_, rfl, (fun _ => ⟨(HT.boxAt 3 rfl).part 0 2, trivial⟩), fun a HF => ?_⟩
        obtain ⟨y15, hx8, h⟩ := obs h
        refine wc_call HF cf17 rfl (w_laws_eqMem fuel hx8 (HT.rdAt 4 rfl) (HT.rdAt 0 rfl)) rfl rfl ?_
        rintro e w ⟨rfl, hE⟩
        have hb := hE.below
        have HT := HT.pure hE
        have HT : St w0 (fun _ => False) w [Own 61 (rowT y14) (.slice a5 y14.length c5), Box p4 [.int .i64 y9, .slice a4 y10.length c4], Own 61 (rowT y10) (.slice a4 y10.length c4), Box p3 [.int .i64 y7, .slice a3 y8.length c3], Own 61 (rowT y8) (.slice a3 y8.length c3), Box p2 [.int .i64 y4, .slice a2 y5.length c2], Own 61 (rowT y5) (.slice a2 y5.length c2), Own 61 (rowT y3) (.slice a1 y3.length c1), Box p1 [.int .i64 x0_0, .slice a_x0_1 x0_1.length c_x0_1]] := HT
        refine ⟨_, rfl, nS, fun a HF => ?_⟩
        refine wc_not HF nS rfl rfl rfl (fun a HF => ?_)
        refine wc_endN ?_
        refine then_n ?_
        by_cases hb4 : y15 = true
        · have h := (if_pos hb4).symm.trans h
          refine wp_if (b' := false) HF rfl (notT hb4) ?_
          refine wp_skip ?_
          refine then_n ?_
          refine wp_seq ?_
          refine wc_text ?_
          refine wc_assign HF nS rfl rfl rfl (fun a HF => ?_)
          refine wc_end ?_
          refine then_n ?_
          refine wp_seq ?_
          refine wc_text ?_
          refine wc_loadA (vs := [.int .i64 y7, .slice a3 y8.length c3]) HF rfl ag29 rfl ((HT.boxAt 3 rfl).part 0 2) rfl rfl (fun a HF => ?_)
          refine wc_move HF nS rfl rfl rfl (fun a HF => ?_)
          obtain ⟨y16, y17, hx9, h⟩ := obs2 h
          have HT : St w0 (fun _ => False) w [Own 61 (rowT y8) (.slice a3 y8.length c3), Own 61 (rowT y14) (.slice a5 y14.length c5), Box p4 [.int .i64 y9, .slice a4 y10.length c4], Own 61 (rowT y10) (.slice a4 y10.length c4), Box p3 [.int .i64 y7, .slice a3 y8.length c3], Box p2 [.int .i64 y4, .slice a2 y5.length c2], Own 61 (rowT y5) (.slice a2 y5.length c2), Own 61 (rowT y3) (.slice a1 y3.length c1), Box p1 [.int .i64 x0_0, .slice a_x0_1 x0_1.length c_x0_1]] := HT.pick 4
          obtain ⟨F1, hAF1, hFF1, hbackF1, hroF1, hownF1⟩ := St.handR (A := [Own 61 (rowT y8) (.slice a3 y8.length c3)]) HT
          refine wc_call HF cf27 rfl (w_laws_markMem fuel hx9 hAF1) rfl rfl ?_
          rintro e w ⟨rfl, hE⟩
          have HT := hbackF1 _ _ hE
          have HT : St w0 (fun _ => False) w [Own 61 (rowT y17) (.slice a3 y8.length c3), Own 61 (rowT y14) (.slice a5 y14.length c5), Box p4 [.int .i64 y9, .slice a4 y10.length c4], Own 61 (rowT y10) (.slice a4 y10.length c4), Box p3 [.int .i64 y7, .slice a3 y8.length c3], Box p2 [.int .i64 y4, .slice a2 y5.length c2], Own 61 (rowT y5) (.slice a2 y5.length c2), Own 61 (rowT y3) (.slice a1 y3.length c1), Box p1 [.int .i64 x0_0, .slice a_x0_1 x0_1.length c_x0_1]] := HT
          refine ⟨_, rfl, nS, fun a HF => ?_⟩
          refine wc_assign HF nS rfl rfl rfl (fun a HF => ?_)
          refine wc_end ?_
          refine then_n ?_
          refine wp_seq ?_
          refine wp_seq ?_
          refine wc_text ?_
          refine wc_move HF nS rfl rfl rfl (fun a HF => ?_)
          refine wc_bin HF nS rfl rfl b_lt rfl rfl (fun a HF => ?_)
          refine wc_move HF nS rfl rfl rfl (fun a HF => ?_)
          by_cases hb5 : y16 < 0
          · have h := (if_pos hb5).symm.trans h
            refine wc_skip HF nS (HF.wn rfl rfl rfl rfl (decide_eq_true hb5)) rfl (fun a HF => ?_)
            refine wc_skip HF nS (HF.wn rfl rfl rfl rfl (decide_eq_true hb5)) rfl (fun a HF => ?_)
            refine wc_skip HF nS (HF.wn rfl rfl rfl rfl (decide_eq_true hb5)) rfl (fun a HF => ?_)
            refine wc_skip HF nS (HF.wn rfl rfl rfl rfl (decide_eq_true hb5)) rfl (fun a HF => ?_)
            refine wc_pick (b := true) HF nS rfl (decide_eq_true hb5) rfl rfl rfl (fun a HF => ?_)
            refine wc_move HF nS rfl rfl rfl (fun a HF => ?_)
            refine wc_skip HF nS (HF.wn rfl rfl rfl rfl rfl) rfl (fun a HF => ?_)
            refine wc_skip HF nS (HF.wn rfl rfl rfl rfl rfl) rfl (fun a HF => ?_)
            refine wc_skip HF nS (HF.wn rfl rfl rfl rfl rfl) rfl (fun a HF => ?_)
            refine wc_pick (b := true) HF nS rfl rfl rfl rfl rfl (fun a HF => ?_)
            refine wc_end ?_
            refine then_n ?_
            refine wp_if (b' := true) HF rfl rfl ?_
            refine wp_seq ?_
            refine wc_text ?_
            refine wc_assign HF nS rfl rfl rfl (fun a HF => ?_)
            refine wc_end ?_
            refine then_n ?_
            refine wp_ret ?_
            obtain rfl := Option.some.inj h
            refine then_r (?_)
            refine bp_ret HF (res_one rfl HF rfl) ?_
            have HT : St w0 (fun _ => False) w [] := HT.take 0
            exact ⟨rfl, HT⟩
          · have h := (if_neg hb5).symm.trans h
            refine wc_loadA (vs := [.int .i64 y9, .slice a4 y10.length c4]) HF rfl ag29 rfl ((HT.boxAt 2 rfl).part 0 2) (HF.wy rfl rfl rfl rfl (decide_eq_false hb5)) rfl (fun a HF => ?_)
            refine wc_loadA (vs := [.int .i64 y4, .slice a2 y5.length c2]) HF rfl ag29 rfl ((HT.boxAt 5 rfl).part 0 2) (HF.wy rfl rfl rfl rfl (decide_eq_false hb5)) rfl (fun a HF => ?_)
            obtain ⟨y18, hx10, h⟩ := obs h
            refine wc_call HF cf17 rfl (w_laws_eqMem fuel hx10 (HT.rdAt 3 rfl) (HT.rdAt 6 rfl)) (HF.wy rfl rfl rfl rfl (decide_eq_false hb5)) rfl ?_
            rintro e w ⟨rfl, hE⟩
            have hb := hE.below
            have HT := HT.pure hE
            have HT : St w0 (fun _ => False) w [Own 61 (rowT y17) (.slice a3 y8.length c3), Own 61 (rowT y14) (.slice a5 y14.length c5), Box p4 [.int .i64 y9, .slice a4 y10.length c4], Own 61 (rowT y10) (.slice a4 y10.length c4), Box p3 [.int .i64 y7, .slice a3 y8.length c3], Box p2 [.int .i64 y4, .slice a2 y5.length c2], Own 61 (rowT y5) (.slice a2 y5.length c2), Own 61 (rowT y3) (.slice a1 y3.length c1), Box p1 [.int .i64 x0_0, .slice a_x0_1 x0_1.length c_x0_1]] := HT
            refine ⟨_, rfl, nS, fun a HF => ?_⟩
            refine wc_not HF nS rfl (HF.wy rfl rfl rfl rfl (decide_eq_false hb5)) rfl (fun a HF => ?_)
            refine wc_pick (b := false) HF nS rfl (decide_eq_false hb5) rfl rfl rfl (fun a HF => ?_)
            refine wc_move HF nS rfl rfl rfl (fun a HF => ?_)
            by_cases hb6 : y18 = true
            · have h := (if_pos hb6).symm.trans h
              refine wc_move HF nS rfl (HF.wy rfl rfl rfl rfl (notT hb6)) rfl (fun a HF => ?_)
              refine wc_move HF nS rfl (HF.wy rfl rfl rfl rfl (notT hb6)) rfl (fun a HF => ?_)
              refine wc_bin HF nS rfl rfl (b_bne Try.underlying4) (HF.wy rfl rfl rfl rfl (notT hb6)) rfl (fun a HF => ?_)
              refine wc_pick (b := false) HF nS rfl (notT hb6) rfl rfl rfl (fun a HF => ?_)
              refine wc_end ?_
              refine then_n ?_
              refine wp_if (b' := false) HF rfl (notT hb3) ?_
              refine wp_skip ?_
              refine then_n ?_
              refine wp_seq ?_
              refine wc_text ?_
              refine wc_assign HF nS rfl rfl rfl (fun a HF => ?_)
              refine wc_end ?_
              refine then_n ?_
              refine wp_seq ?_
              refine wc_text ?_
              refine wc_loadA (vs := [.int .i64 y9, .slice a4 y10.length c4]) HF rfl ag29 rfl ((HT.boxAt 2 rfl).part 0 2) rfl rfl (fun a HF => ?_)
              refine wc_move HF nS rfl rfl rfl (fun a HF => ?_)
              obtain ⟨y19, y20, hx11, h⟩ := obs2 h
              have HT : St w0 (fun _ => False) w [Own 61 (rowT y10) (.slice a4 y10.length c4), Own 61 (rowT y17) (.slice a3 y8.length c3), Own 61 (rowT y14) (.slice a5 y14.length c5), Box p4 [.int .i64 y9, .slice a4 y10.length c4], Box p3 [.int .i64 y7, .slice a3 y8.length c3], Box p2 [.int .i64 y4, .slice a2 y5.length c2], Own 61 (rowT y5) (.slice a2 y5.length c2), Own 61 (rowT y3) (.slice a1 y3.length c1), Box p1 [.int .i64 x0_0, .slice a_x0_1 x0_1.length c_x0_1]] := HT.pick 3
              obtain ⟨F2, hAF2, hFF2, hbackF2, hroF2, hownF2⟩ := St.handR (A := [Own 61 (rowT y10) (.slice a4 y10.length c4)]) HT
              refine wc_call HF cf27 rfl (w_laws_markMem fuel hx11 hAF2) rfl rfl ?_
              rintro e w ⟨rfl, hE⟩
              have HT := hbackF2 _ _ hE
              have HT : St w0 (fun _ => False) w [Own 61 (rowT y20) (.slice a4 y10.length c4), Own 61 (rowT y17) (.slice a3 y8.length c3), Own 61 (rowT y14) (.slice a5 y14.length c5), Box p4 [.int .i64 y9, .slice a4 y10.length c4], Box p3 [.int .i64 y7, .slice a3 y8.length c3], Box p2 [.int .i64 y4, .slice a2 y5.length c2], Own 61 (rowT y5) (.slice a2 y5.length c2), Own 61 (rowT y3) (.slice a1 y3.length c1), Box p1 [.int .i64 x0_0, .slice a_x0_1 x0_1.length c_x0_1]] := HT
              refine ⟨_, rfl, nS, fun a HF => ?_⟩
              refine wc_assign HF nS rfl rfl rfl (fun a HF => ?_)
              refine wc_end ?_
              refine then_n ?_
              refine wp_seq ?_
              refine wc_text ?_
              refine wc_assign HF nS rfl rfl rfl (fun a HF => ?_)
              refine wc_end ?_
              refine then_n ?_
              refine wp_seq ?_
              refine wc_text ?_
              refine wc_loadA (vs := [.int .i64 y9, .slice a4 y10.length c4]) HF rfl ag29 rfl ((HT.boxAt 3 rfl).part 0 2) rfl rfl (fun a HF => ?_)
              refine wc_move HF nS rfl rfl rfl (fun a HF => ?_)
              obtain ⟨y21, hx12, h⟩ := obs h
              refine wc_call HF cf28 rfl (w_laws_heldMem fuel hx12 (HT.rdAt 0 rfl)) rfl rfl ?_
              rintro e w ⟨rfl, hE⟩
              have hb := hE.below
              have HT := HT.pure hE
              have HT : St w0 (fun _ => False) w [Own 61 (rowT y20) (.slice a4 y10.length c4), Own 61 (rowT y17) (.slice a3 y8.length c3), Own 61 (rowT y14) (.slice a5 y14.length c5), Box p4 [.int .i64 y9, .slice a4 y10.length c4], Box p3 [.int .i64 y7, .slice a3 y8.length c3], Box p2 [.int .i64 y4, .slice a2 y5.length c2], Own 61 (rowT y5) (.slice a2 y5.length c2), Own 61 (rowT y3) (.slice a1 y3.length c1), Box p1 [.int .i64 x0_0, .slice a_x0_1 x0_1.length c_x0_1]] := HT
              refine ⟨_, rfl, nS, fun a HF => ?_⟩
              refine wc_assign HF nS rfl rfl rfl (fun a HF => ?_)
              refine wc_end ?_
              refine then_n ?_
              refine wp_seq ?_
              refine wp_seq ?_
              refine wc_text ?_
              refine wc_move HF nS rfl rfl rfl (fun a HF => ?_)
              refine wc_bin HF nS rfl rfl b_lt rfl rfl (fun a HF => ?_)
              refine wc_end ?_
              refine then_n ?_
              by_cases hb7 : y21 < 0
              · have h := (if_pos hb7).symm.trans h
                refine wp_if (b' := true) HF rfl (decide_eq_true hb7) ?_
                refine wp_seq ?_
                refine wc_text ?_
                refine wc_assign HF nS rfl rfl rfl (fun a HF => ?_)
                refine wc_end ?_
                refine then_n ?_
                refine wp_ret ?_
                obtain rfl := Option.some.inj h
                refine then_r (?_)
                refine bp_ret HF (res_one rfl HF rfl) ?_
                have HT : St w0 (fun _ => False) w [] := HT.take 0
                exact ⟨rfl, HT⟩
              · have h := (if_neg hb7).symm.trans h
                refine wp_if (b' := false) HF rfl (decide_eq_false hb7) ?_
                refine wp_skip ?_
                refine then_n ?_
                refine wp_seq ?_
                refine wp_seq ?_
                refine wc_text ?_
                refine wc_move HF nS rfl rfl rfl (fun a HF => ?_)
                refine wc_move HF nS rfl rfl rfl (fun a HF => ?_)
                refine wc_bin HF nS rfl rfl b_ne rfl rfl (fun a HF => ?_)
                refine wc_end ?_
                refine then_n ?_
                by_cases hb8 : y21 = y19
                · have h := (if_pos hb8).symm.trans h
                  refine wp_if (b' := false) HF rfl (notT (decide_eq_true hb8)) ?_
                  refine wp_skip ?_
                  refine then_n ?_
                  refine wp_seq ?_
                  refine wc_text ?_
                  refine wc_loadA (vs := [.int .i64 x0_0, .slice a_x0_1 x0_1.length c_x0_1]) HF rfl ag24 rfl ((HT.boxAt 8 rfl).part 0 2) rfl rfl (fun a HF => ?_)
                  obtain ⟨y22, y23, hx13, h⟩ := obs2 h
                  refine wc_call HF cf15 rfl (w_laws_toMem fuel hx13 (HT.ro hr_x0_1).any) rfl rfl ?_
                  rintro e w ⟨a6, n6, c6, rfl, hE⟩
                  have hb := hE.below
                  have HT := HT.pure hE
                  obtain rfl := (HT.rdAt 0 rfl).neq
                  have HT : St w0 (fun _ => False) w [Own 61 (rowT y23) (.slice a6 y23.length c6), Own 61 (rowT y20) (.slice a4 y10.length c4), Own 61 (rowT y17) (.slice a3 y8.length c3), Own 61 (rowT y14) (.slice a5 y14.length c5), Box p4 [.int .i64 y9, .slice a4 y10.length c4], Box p3 [.int .i64 y7, .slice a3 y8.length c3], Box p2 [.int .i64 y4, .slice a2 y5.length c2], Own 61 (rowT y5) (.slice a2 y5.length c2), Own 61 (rowT y3) (.slice a1 y3.length c1), Box p1 [.int .i64 x0_0, .slice a_x0_1 x0_1.length c_x0_1]] := HT
                  refine ⟨_, rfl, nS, fun a HF => ?_⟩
                  refine wc_move HF nS rfl rfl rfl (fun a HF => ?_)
                  refine wc_move HF nS rfl rfl rfl (fun a HF => ?_)
                  obtain ⟨y24, y25, y26, hx14, h⟩ := obs3 h
                  refine wc_call HF cf35 rfl (w_impl_Lock fuel hx14 (HT.rdAt 0 rfl)) rfl rfl ?_
                  rintro e w ⟨a7, n7, c7, rfl, hE⟩
                  have hb := hE.below
                  have HT := HT.pure hE
                  obtain rfl := (HT.rdAt 0 rfl).neq
                  have HT : St w0 (fun _ => False) w [Own 61 (rowT y25) (.slice a7 y25.length c7), Own 61 (rowT y23) (.slice a6 y23.length c6), Own 61 (rowT y20) (.slice a4 y10.length c4), Own 61 (rowT y17) (.slice a3 y8.length c3), Own 61 (rowT y14) (.slice a5 y14.length c5), Box p4 [.int .i64 y9, .slice a4 y10.length c4], Box p3 [.int .i64 y7, .slice a3 y8.length c3], Box p2 [.int .i64 y4, .slice a2 y5.length c2], Own 61 (rowT y5) (.slice a2 y5.length c2), Own 61 (rowT y3) (.slice a1 y3.length c1), Box p1 [.int .i64 x0_0, .slice a_x0_1 x0_1.length c_x0_1]] := HT
                  refine ⟨_, rfl, nS, fun a HF => ?_⟩
                  refine wc_move HF nS rfl rfl rfl (fun a HF => ?_)
                  refine wc_extract (v := .agg #[.int .i64 y24, .slice a7 y25.length c7]) HF nS rfl rfl rfl rfl (fun a HF => ?_)
                  refine wc_extract (v := .bool y26) HF nS rfl rfl rfl rfl (fun a HF => ?_)
                  refine wc_alloc (cs := [.int .i64 0, .slice none 0 0]) HF HT zr29 rfl rfl rfl (fun p5 w HT hb => ⟨nS, fun a HF => ?_⟩)
                  refine wc_storeB (cs' := [.int .i64 y24, .slice a7 y25.length c7]) HF HT rfl rfl (fun w => (ag29 w).2) rfl rfl rfl rfl rfl (fun w HT => ⟨nS, ?_⟩)
                  refine wc_assign HF nS rfl rfl rfl (fun a HF => ?_)
                  refine wc_end ?_
                  refine then_n ?_
                  refine wp_seq ?_
                  refine wp_seq ?_
                  refine wc_text ?_
                  refine wc_loadA (vs := [.int .i64 y24, .slice a7 y25.length c7]) HF rfl ag29 rfl ((HT.boxAt 0 rfl).part 0 2) rfl rfl (fun a HF => ?_)
                  refine wc_loadA (vs := [.int .i64 y4, .slice a2 y5.length c2]) HF rfl ag29 rfl ((HT.boxAt 8 rfl).part 0 2) rfl rfl (fun a HF => ?_)
                  obtain ⟨y27, hx15, h⟩ := obs h
                  refine wc_call HF cf17 rfl (w_laws_eqMem fuel hx15 (HT.rdAt 1 rfl) (HT.rdAt 9 rfl)) rfl rfl ?_
                  rintro e w ⟨rfl, hE⟩
                  have hb := hE.below
                  have HT := HT.pure hE
                  have HT : St w0 (fun _ => False) w [Box p5 [.int .i64 y24, .slice a7 y25.length c7], Own 61 (rowT y25) (.slice a7 y25.length c7), Own 61 (rowT y23) (.slice a6 y23.length c6), Own 61 (rowT y20) (.slice a4 y10.length c4), Own 61 (rowT y17) (.slice a3 y8.length c3), Own 61 (rowT y14) (.slice a5 y14.length c5), Box p4 [.int .i64 y9, .slice a4 y10.length c4], Box p3 [.int .i64 y7, .slice a3 y8.length c3], Box p2 [.int .i64 y4, .slice a2 y5.length c2], Own 61 (rowT y5) (.slice a2 y5.length c2), Own 61 (rowT y3) (.slice a1 y3.length c1), Box p1 [.int .i64 x0_0, .slice a_x0_1 x0_1.length c_x0_1]] := HT
                  refine ⟨_, rfl, nS, fun a HF => ?_⟩
                  refine wc_not HF nS rfl rfl rfl (fun a HF => ?_)
                  refine wc_move HF nS rfl rfl rfl (fun a HF => ?_)
                  by_cases hb9 : y27 = true
                  · have h := (if_pos hb9).symm.trans h
                    refine wc_move HF nS rfl (HF.wy rfl rfl rfl rfl (notT hb9)) rfl (fun a HF => ?_)
                    refine wc_move HF nS rfl (HF.wy rfl rfl rfl rfl (notT hb9)) rfl (fun a HF => ?_)
                    refine wc_bin HF nS rfl rfl (b_bne Try.underlying4) (HF.wy rfl rfl rfl rfl (notT hb9)) rfl (fun a HF => ?_)
                    refine wc_pick (b := false) HF nS rfl (notT hb9) rfl rfl rfl (fun a HF => ?_)
                    refine wc_end ?_
                    refine then_n ?_
                    by_cases hb10 : (y26 == y6) = true
                    · have h := (if_pos hb10).symm.trans h
                      refine wp_if (b' := false) HF rfl (notT hb10) ?_
                      refine wp_skip ?_
                      refine then_n ?_
                      refine wp_seq ?_
                      refine wc_text ?_
                      refine wc_assign HF nS rfl rfl rfl (fun a HF => ?_)
                      refine wc_end ?_
                      refine then_n ?_
                      refine wp_seq ?_
                      refine wc_text ?_
                      refine wc_loadA (vs := [.int .i64 y9, .slice a4 y10.length c4]) HF rfl ag29 rfl ((HT.boxAt 6 rfl).part 0 2) rfl rfl (fun a HF => ?_)
                      refine wc_move HF nS rfl rfl rfl (fun a HF => ?_)
                      obtain ⟨y28, hx16, h⟩ := obs h
                      refine wc_call HF cf28 rfl (w_laws_heldMem fuel hx16 (HT.rdAt 3 rfl)) rfl rfl ?_
                      rintro e w ⟨rfl, hE⟩
                      have hb := hE.below
                      have HT := HT.pure hE
                      have HT : St w0 (fun _ => False) w [Box p5 [.int .i64 y24, .slice a7 y25.length c7], Own 61 (rowT y25) (.slice a7 y25.length c7), Own 61 (rowT y23) (.slice a6 y23.length c6), Own 61 (rowT y20) (.slice a4 y10.length c4), Own 61 (rowT y17) (.slice a3 y8.length c3), Own 61 (rowT y14) (.slice a5 y14.length c5), Box p4 [.int .i64 y9, .slice a4 y10.length c4], Box p3 [.int .i64 y7, .slice a3 y8.length c3], Box p2 [.int .i64 y4, .slice a2 y5.length c2], Own 61 (rowT y5) (.slice a2 y5.length c2), Own 61 (rowT y3) (.slice a1 y3.length c1), Box p1 [.int .i64 x0_0, .slice a_x0_1 x0_1.length c_x0_1]] := HT
                      refine ⟨_, rfl, nS, fun a HF => ?_⟩
                      refine wc_assign HF nS rfl rfl rfl (fun a HF => ?_)
                      refine wc_end ?_
                      refine then_n ?_
                      refine wp_seq ?_
                      refine wp_seq ?_
                      refine wc_text ?_
                      refine wc_move HF nS rfl rfl rfl (fun a HF => ?_)
                      refine wc_bin HF nS rfl rfl b_lt rfl rfl (fun a HF => ?_)
                      refine wc_end ?_
                      refine then_n ?_
                      by_cases hb11 : y28 < 0
                      · have h := (if_pos hb11).symm.trans h
                        refine wp_if (b' := true) HF rfl (decide_eq_true hb11) ?_
                        refine wp_seq ?_
                        refine wc_text ?_
                        refine wc_assign HF nS rfl rfl rfl (fun a HF => ?_)
                        refine wc_end ?_
                        refine then_n ?_
                        refine wp_ret ?_
                        obtain rfl := Option.some.inj h
                        refine then_r (?_)
                        refine bp_ret HF (res_one rfl HF rfl) ?_
                        have HT : St w0 (fun _ => False) w [] := HT.take 0
                        exact ⟨rfl, HT⟩
                      · have h := (if_neg hb11).symm.trans h
                        refine wp_if (b' := false) HF rfl (decide_eq_false hb11) ?_
                        refine wp_skip ?_
                        refine then_n ?_
                        refine wp_seq ?_
                        refine wp_seq ?_
                        refine wc_text ?_
                        refine wc_move HF nS rfl rfl rfl (fun a HF => ?_)
                        refine wc_move HF nS rfl rfl rfl (fun a HF => ?_)
                        refine wc_bin HF nS rfl rfl b_ne rfl rfl (fun a HF => ?_)
                        refine wc_end ?_
                        refine then_n ?_
                        by_cases hb12 : y28 = y19
                        · have h := (if_pos hb12).symm.trans h
                          refine wp_if (b' := false) HF rfl (notT (decide_eq_true hb12)) ?_
                          refine wp_skip ?_
                          refine then_n ?_
                          refine wp_seq ?_
                          refine wc_text ?_
                          refine wc_assign HF nS rfl rfl rfl (fun a HF => ?_)
                          refine wc_end ?_
                          refine then_n ?_
                          refine wp_ret ?_
                          obtain rfl := Option.some.inj h
                          refine bp_ret HF (res_one rfl HF rfl) ?_
                          have HT : St w0 (fun _ => False) w [] := HT.take 0
                          exact ⟨rfl, HT⟩
                        · have h := (if_neg hb12).symm.trans h
                          refine wp_if (b' := true) HF rfl (notF (decide_eq_false hb12)) ?_
                          refine wp_seq ?_
                          refine wc_text ?_
                          refine wc_assign HF nS rfl rfl rfl (fun a HF => ?_)
                          refine wc_end ?_
                          refine then_n ?_
                          refine wp_ret ?_
                          obtain rfl := Option.some.inj h
                          refine then_r (?_)
                          refine bp_ret HF (res_one rfl HF rfl) ?_
                          have HT : St w0 (fun _ => False) w [] := HT.take 0
                          exact ⟨rfl, HT⟩
                    · have h := (if_neg hb10).symm.trans h
                      refine wp_if (b' := true) HF rfl (notF (Bool.eq_false_iff.2 hb10)) ?_
                      refine wp_seq ?_
                      refine wc_text ?_
                      refine wc_assign HF nS rfl rfl rfl (fun a HF => ?_)
                      refine wc_end ?_
                      refine then_n ?_
                      refine wp_ret ?_
                      obtain rfl := Option.some.inj h
                      refine then_r (?_)
                      refine bp_ret HF (res_one rfl HF rfl) ?_
                      have HT : St w0 (fun _ => False) w [] := HT.take 0
                      exact ⟨rfl, HT⟩
                  · have h := (if_neg hb9).symm.trans h
                    refine wc_skip HF nS (HF.wn rfl rfl rfl rfl (notF (Bool.eq_false_iff.2 hb9))) rfl (fun a HF => ?_)
                    refine wc_skip HF nS (HF.wn rfl rfl rfl rfl (notF (Bool.eq_false_iff.2 hb9))) rfl (fun a HF => ?_)
                    refine wc_skip HF nS (HF.wn rfl rfl rfl rfl (notF (Bool.eq_false_iff.2 hb9))) rfl (fun a HF => ?_)
                    refine wc_pick (b := true) HF nS rfl (notF (Bool.eq_false_iff.2 hb9)) rfl rfl rfl (fun a HF => ?_)
                    refine wc_end ?_
                    refine then_n ?_
                    refine wp_if (b' := true) HF rfl rfl ?_
                    refine wp_seq ?_
                    refine wc_text ?_
                    refine wc_assign HF nS rfl rfl rfl (fun a HF => ?_)
                    refine wc_end ?_
                    refine then_n ?_
                    refine wp_ret ?_
                    obtain rfl := Option.some.inj h
                    refine then_r (?_)
                    refine bp_ret HF (res_one rfl HF rfl) ?_
                    have HT : St w0 (fun _ => False) w [] := HT.take 0
                    exact ⟨rfl, HT⟩
                · have h := (if_neg hb8).symm.trans h
                  refine wp_if (b' := true) HF rfl (notF (decide_eq_false hb8)) ?_
                  refine wp_seq ?_
                  refine wc_text ?_
                  refine wc_assign HF nS rfl rfl rfl (fun a HF => ?_)
                  refine wc_end ?_
                  refine then_n ?_
                  refine wp_ret ?_
                  obtain rfl := Option.some.inj h
                  refine then_r (?_)
                  refine bp_ret HF (res_one rfl HF rfl) ?_
                  have HT : St w0 (fun _ => False) w [] := HT.take 0
                  exact ⟨rfl, HT⟩
            · have h := (if_neg hb6).symm.trans h
              refine wc_skip HF nS (HF.wn rfl rfl rfl rfl (notF (Bool.eq_false_iff.2 hb6))) rfl (fun a HF => ?_)
              refine wc_skip HF nS (HF.wn rfl rfl rfl rfl (notF (Bool.eq_false_iff.2 hb6))) rfl (fun a HF => ?_)
              refine wc_skip HF nS (HF.wn rfl rfl rfl rfl (notF (Bool.eq_false_iff.2 hb6))) rfl (fun a HF => ?_)
              refine wc_pick (b := true) HF nS rfl (notF (Bool.eq_false_iff.2 hb6)) rfl rfl rfl (fun a HF => ?_)
              refine wc_end ?_
              refine then_n ?_
              refine wp_if (b' := true) HF rfl rfl ?_
              refine wp_seq ?_
              refine wc_text ?_
              refine wc_assign HF nS rfl rfl rfl (fun a HF => ?_)
              refine wc_end ?_
              refine then_n ?_
              refine wp_ret ?_
              obtain rfl := Option.some.inj h
              refine then_r (?_)
              refine bp_ret HF (res_one rfl HF rfl) ?_
              have HT : St w0 (fun _ => False) w [] := HT.take 0
              exact ⟨rfl, HT⟩
        · have h := (if_neg hb4).symm.trans h
          refine wp_if (b' := true) HF rfl (notF (Bool.eq_false_iff.2 hb4)) ?_
          refine wp_seq ?_
          refine wc_text ?_
          refine wc_assign HF nS rfl rfl rfl (fun a HF => ?_)
          refine wc_end ?_
          refine then_n ?_
          refine wp_ret ?_
          obtain rfl := Option.some.inj h
          refine then_r (?_)
          refine bp_ret HF (res_one rfl HF rfl) ?_
          have HT : St w0 (fun _ => False) w [] := HT.take 0
          exact ⟨rfl, HT⟩
      · have h := (if_neg hb3).symm.trans h
        refine wp_if (b' := true) HF rfl (notF (Bool.eq_false_iff.2 hb3)) ?_
        refine wp_seq ?_
        refine wc_text ?_
        refine wc_assign HF nS rfl rfl rfl (fun a HF => ?_)
        refine wc_end ?_
        refine then_n ?_
        refine wp_ret ?_
        obtain rfl := Option.some.inj h
        refine then_r (?_)
        refine bp_ret HF (res_one rfl HF rfl) ?_
        have HT : St w0 (fun _ => False) w [] := HT.take 0
        exact ⟨rfl, HT⟩
    · have h := (if_neg hb2).symm.trans h
      refine wc_skip HF nS (HF.wn rfl rfl rfl rfl (notF (Bool.eq_false_iff.2 hb2))) rfl (fun a HF => ?_)
      refine wc_skip HF nS (HF.wn rfl rfl rfl rfl (notF (Bool.eq_false_iff.2 hb2))) rfl (fun a HF => ?_)
      refine wc_skip HF nS (HF.wn rfl rfl rfl rfl (notF (Bool.eq_false_iff.2 hb2))) rfl (fun a HF => ?_)
      refine wc_pick (b := true) HF nS rfl (notF (Bool.eq_false_iff.2 hb2)) rfl rfl rfl (fun a HF => ?_)
      refine wc_end ?_
      refine then_n ?_
      refine wp_if (b' := true) HF rfl rfl ?_
      refine wp_seq ?_
      refine wc_text ?_
      refine wc_assign HF nS rfl rfl rfl (fun a HF => ?_)
      refine wc_end ?_
      refine then_n ?_
      refine wp_ret ?_
      obtain rfl := Option.some.inj h
      refine then_r (?_)
      refine bp_ret HF (res_one rfl HF rfl) ?_
      have HT : St w0 (fun _ => False) w [] := HT.take 0
      exact ⟨rfl, HT⟩

def m_laws_FnExactStore (fuel : Nat) (x0_0 : Int) (x0_1 : List I3) (x1 : Int) (x2 : Int) (x3 : Int) : Option Bool :=
  (m_laws_szMem fuel x0_0 x0_1 1048576).bind fun y1 =>
  if y1 < 0 then
    some true
  else
    bind2 (m_laws_toMem fuel x0_0 x0_1) fun y2 y3 =>
    bind3 (m_spec_Store fuel y2 y3 x1 x2 x3) fun y4 y5 y6 =>
    bind2 (m_laws_toMem fuel x0_0 x0_1) fun y7 y8 =>
    bind3 (m_impl_Store fuel y7 y8 x1 x2 x3) fun y9 y10 y11 =>
    (m_laws_eqMem fuel y9 y10 y4 y5).bind fun y12 =>
    if y12 = true then
      if (y11 == y6) = true then
        bind2 (m_laws_toMem fuel x0_0 x0_1) fun y13 y14 =>
        (m_laws_eqMem fuel y7 y8 y13 y14).bind fun y15 =>
        if y15 = true then
          bind2 (m_laws_markMem fuel y7 y8 1) fun y16 y17 =>
          if y16 < 0 then
            some false
          else
            (m_laws_eqMem fuel y9 y10 y4 y5).bind fun y18 =>
            if y18 = true then
              bind2 (m_laws_markMem fuel y9 y10 1) fun y19 y20 =>
              (m_laws_heldMem fuel y9 y20 1).bind fun y21 =>
              if y21 < 0 then
                some false
              else
                if y21 = y19 then
                  bind2 (m_laws_toMem fuel x0_0 x0_1) fun y22 y23 =>
                  bind3 (m_impl_Store fuel y22 y23 x1 x2 x3) fun y24 y25 y26 =>
                  (m_laws_eqMem fuel y24 y25 y4 y5).bind fun y27 =>
                  if y27 = true then
                    if (y26 == y6) = true then
                      (m_laws_heldMem fuel y9 y20 1).bind fun y28 =>
                      if y28 < 0 then
                        some false
                      else
                        if y28 = y19 then
                          some true
                        else
                          some false
                    else
                      some false
                  else
                    some false
                else
                  some false
            else
              some false
        else
          some false
      else
        some false
    else
      some false

set_option maxRecDepth 100000 in
set_option maxHeartbeats 4000000 in
theorem w_laws_FnExactStore (fuel : Nat) {x0_0 : Int} {x0_1 : List I3} {x1 : Int} {x2 : Int} {x3 : Int} {a_x0_1 : Option Addr} {n_x0_1 c_x0_1 : Nat} {r0 : Bool} {w0 : World} (h : m_laws_FnExactStore fuel x0_0 x0_1 x1 x2 x3 = some r0) (hr_x0_1 : RdT (fun b => ¬ False) w0 (rowT x0_1) (.slice a_x0_1 n_x0_1 c_x0_1)) :
    Calls Try.prog 10 #[.agg #[.int .i64 x0_0, .slice a_x0_1 n_x0_1 c_x0_1], .int .i64 x1, .int .i64 x2, .int .i64 x3] w0 fun e w => e = .returned (.bool r0) ∧ St w0 (fun _ => False) w [] := by
  obtain rfl := hr_x0_1.neq
  have HT : St w0 (fun _ => False) w0 [] := St.init0
  rw [m_laws_FnExactStore] at h
  refine calls_fr (n := 111) [.agg #[.int .i64 x0_0, .slice a_x0_1 x0_1.length c_x0_1], .int .i64 x1, .int .i64 x2, .int .i64 x3] Try.func10 rfl rfl rfl (fun a HF => ?_)
  have HT : St w0 (fun _ => False) w0 [] := HT
  refine wp_seq ?_
  refine wc_text ?_
  refine wc_box (cs := [.int .i64 x0_0, .slice a_x0_1 x0_1.length c_x0_1]) HF HT rfl rfl rfl rfl (fun p1 w HT hb => ⟨nS, fun a HF => ?_⟩)
  refine wc_assign HF nS rfl rfl rfl (fun a HF => ?_)
  refine wc_end ?_
  refine then_n ?_
  refine wp_seq ?_
  refine wc_text ?_
  refine wc_assign HF nS rfl rfl rfl (fun a HF => ?_)
  refine wc_end ?_
  refine then_n ?_
  refine wp_seq ?_
  refine wc_text ?_
  refine wc_loadA (vs := [.int .i64 x0_0, .slice a_x0_1 x0_1.length c_x0_1]) HF rfl ag24 rfl ((HT.boxAt 0 rfl).part 0 2) rfl rfl (fun a HF => ?_)
  refine wc_move HF nS rfl rfl rfl (fun a HF => ?_)
  obtain ⟨y1, hx1, h⟩ := obs h
  refine wc_call HF cf13 rfl (w_laws_szMem fuel hx1 (HT.ro hr_x0_1).any) rfl rfl ?_
  rintro e w ⟨rfl, hE⟩
  have hb := hE.below
  have HT := HT.pure hE
  have HT : St w0 (fun _ => False) w [Box p1 [.int .i64 x0_0, .slice a_x0_1 x0_1.length c_x0_1]] := HT
  refine ⟨_, rfl, nS, fun a HF => ?_⟩
  refine wc_assign HF nS rfl rfl rfl (fun a HF => ?_)
  refine wc_end ?_
  refine then_n ?_
  refine wp_seq ?_
  refine wp_seq ?_
  refine wc_text ?_
  refine wc_move HF nS rfl rfl rfl (fun a HF => ?_)
  refine wc_bin HF nS rfl rfl b_lt rfl rfl (fun a HF => ?_)
  refine wc_end ?_
  refine then_n ?_
  by_cases hb1 : y1 < 0
  · have h := (if_pos hb1).symm.trans h
    refine wp_if (b' := true) HF rfl (decide_eq_true hb1) ?_
    refine wp_seq ?_
    refine wc_text ?_
    refine wc_assign HF nS rfl rfl rfl (fun a HF => ?_)
    refine wc_end ?_
    refine then_n ?_
    refine wp_ret ?_
    obtain rfl := Option.some.inj h
    refine then_r (?_)
    refine bp_ret HF (res_one rfl HF rfl) ?_
    have HT : St w0 (fun _ => False) w [] := HT.take 0
    exact ⟨rfl, HT⟩
  · have h := (if_neg hb1).symm.trans h
    refine wp_if (b' := false) HF rfl (decide_eq_false hb1) ?_
    refine wp_skip ?_
    refine then_n ?_
    refine wp_seq ?_
    refine wc_text ?_
    refine wc_loadA (vs := [.int .i64 x0_0, .slice a_x0_1 x0_1.length c_x0_1]) HF rfl ag24 rfl ((HT.boxAt 0 rfl).part 0 2) rfl rfl (fun a HF => ?_)
    obtain ⟨y2, y3, hx2, h⟩ := obs2 h
    refine wc_call HF cf15 rfl (w_laws_toMem fuel hx2 (HT.ro hr_x0_1).any) rfl rfl ?_
    rintro e w ⟨a1, n1, c1, rfl, hE⟩
    have hb := hE.below
    have HT := HT.pure hE
    obtain rfl := (HT.rdAt 0 rfl).neq
    have HT : St w0 (fun _ => False) w [Own 61 (rowT y3) (.slice a1 y3.length c1), Box p1 [.int .i64 x0_0, .slice a_x0_1 x0_1.length c_x0_1]] := HT
    refine ⟨_, rfl, nS, fun a HF => ?_⟩
    refine wc_move HF nS rfl rfl rfl (fun a HF => ?_)
    refine wc_move HF nS rfl rfl rfl (fun a HF => ?_)
    refine wc_move HF nS rfl rfl rfl (fun a HF => ?_)
    obtain ⟨y4, y5, y6, hx3, h⟩ := obs3 h
    refine wc_call HF cf36 rfl (w_spec_Store fuel hx3 (HT.rdAt 0 rfl)) rfl rfl ?_
    rintro e w ⟨a2, n2, c2, rfl, hE⟩
    have hb := hE.below
    have HT := HT.pure hE
    obtain rfl := (HT.rdAt 0 rfl).neq
    have HT : St w0 (fun _ => False) w [Own 61 (rowT y5) (.slice a2 y5.length c2), Own 61 (rowT y3) (.slice a1 y3.length c1), Box p1 [.int .i64 x0_0, .slice a_x0_1 x0_1.length c_x0_1]] := HT
    refine ⟨_, rfl, nS, fun a HF => ?_⟩
    refine wc_move HF nS rfl rfl rfl (fun a HF => ?_)
    refine wc_extract (v := .agg #[.int .i64 y4, .slice a2 y5.length c2]) HF nS rfl rfl rfl rfl (fun a HF => ?_)
    refine wc_extract (v := .bool y6) HF nS rfl rfl rfl rfl (fun a HF => ?_)
    refine wc_alloc (cs := [.int .i64 0, .slice none 0 0]) HF HT zr29 rfl rfl rfl (fun p2 w HT hb => ⟨nS, fun a HF => ?_⟩)
    refine wc_storeB (cs' := [.int .i64 y4, .slice a2 y5.length c2]) HF HT rfl rfl (fun w => (ag29 w).2) rfl rfl rfl rfl rfl (fun w HT => ⟨nS, ?_⟩)
    refine wc_assign HF nS rfl rfl rfl (fun a HF => ?_)
    refine wc_end ?_
    refine then_n ?_
    refine wp_seq ?_
    refine wc_text ?_
    refine wc_loadA (vs := [.int .i64 x0_0, .slice a_x0_1 x0_1.length c_x0_1]) HF rfl ag24 rfl ((HT.boxAt 3 rfl).part 0 2) rfl rfl (fun a HF => ?_)
    obtain ⟨y7, y8, hx4, h⟩ := obs2 h
    refine wc_call HF cf15 rfl (w_laws_toMem fuel hx4 (HT.ro hr_x0_1).any) rfl rfl ?_
    rintro e w ⟨a3, n3, c3, rfl, hE⟩
    have hb := hE.below
    have HT := HT.pure hE
    obtain rfl := (HT.rdAt 0 rfl).neq
    have HT : St w0 (fun _ => False) w [Own 61 (rowT y8) (.slice a3 y8.length c3), Box p2 [.int .i64 y4, .slice a2 y5.length c2], Own 61 (rowT y5) (.slice a2 y5.length c2), Own 61 (rowT y3) (.slice a1 y3.length c1), Box p1 [.int .i64 x0_0, .slice a_x0_1 x0_1.length c_x0_1]] := HT
    refine ⟨_, rfl, nS, fun a HF => ?_⟩
    refine wc_alloc (cs := [.int .i64 0, .slice none 0 0]) HF HT zr29 rfl rfl rfl (fun p3 w HT hb => ⟨nS, fun a HF => ?_⟩)
    refine wc_storeB (cs' := [.int .i64 y7, .slice a3 y8.length c3]) HF HT rfl rfl (fun w => (ag29 w).2) rfl rfl rfl rfl rfl (fun w HT => ⟨nS, ?_⟩)
    refine wc_end ?_
    refine then_n ?_
    refine wp_seq ?_
    refine wc_text ?_
    refine wc_loadA (vs := [.int .i64 y7, .slice a3 y8.length c3]) HF rfl ag29 rfl ((HT.boxAt 0 rfl).part 0 2) rfl rfl (fun a HF => ?_)
    refine wc_move HF nS rfl rfl rfl (fun a HF => ?_)
    refine wc_move HF nS rfl rfl rfl (fun a HF => ?_)
    refine wc_move HF nS rfl rfl rfl (fun a HF => ?_)
    obtain ⟨y9, y10, y11, hx5, h⟩ := obs3 h
    refine wc_call HF cf37 rfl (w_impl_Store fuel hx5 (HT.rdAt 1 rfl)) rfl rfl ?_
    rintro e w ⟨a4, n4, c4, rfl, hE⟩
    have hb := hE.below
    have HT := HT.pure hE
    obtain rfl := (HT.rdAt 0 rfl).neq
    have HT : St w0 (fun _ => False) w [Own 61 (rowT y10) (.slice a4 y10.length c4), Box p3 [.int .i64 y7, .slice a3 y8.length c3], Own 61 (rowT y8) (.slice a3 y8.length c3), Box p2 [.int .i64 y4, .slice a2 y5.length c2], Own 61 (rowT y5) (.slice a2 y5.length c2), Own 61 (rowT y3) (.slice a1 y3.length c1), Box p1 [.int .i64 x0_0, .slice a_x0_1 x0_1.length c_x0_1]] := HT
    refine ⟨_, rfl, nS, fun a HF => ?_⟩
    refine wc_move HF nS rfl rfl rfl (fun a HF => ?_)
    refine wc_extract (v := .agg #[.int .i64 y9, .slice a4 y10.length c4]) HF nS rfl rfl rfl rfl (fun a HF => ?_)
    refine wc_extract (v := .bool y11) HF nS rfl rfl rfl rfl (fun a HF => ?_)
    refine wc_alloc (cs := [.int .i64 0, .slice none 0 0]) HF HT zr29 rfl rfl rfl (fun p4 w HT hb => ⟨nS, fun a HF => ?_⟩)
    refine wc_storeB (cs' := [.int .i64 y9, .slice a4 y10.length c4]) HF HT rfl rfl (fun w => (ag29 w).2) rfl rfl rfl rfl rfl (fun w HT => ⟨nS, ?_⟩)
    refine wc_assign HF nS rfl rfl rfl (fun a HF => ?_)
    refine wc_end ?_
    refine then_n ?_
    refine wp_seq ?_
    refine wp_seq ?_
    refine wc_text ?_
    refine wc_loadA (vs := [.int .i64 y9, .slice a4 y10.length c4]) HF rfl ag29 rfl ((HT.boxAt 0 rfl).part 0 2) rfl rfl (fun a HF => ?_)
    refine wc_loadA (vs := [.int .i64 y4, .slice a2 y5.length c2]) HF rfl ag29 rfl ((HT.boxAt 4 rfl).part 0 2) rfl rfl (fun a HF => ?_)
    obtain ⟨y12, hx6, h⟩ := obs h
    refine wc_call HF cf17 rfl (w_laws_eqMem fuel hx6 (HT.rdAt 1 rfl) (HT.rdAt 5 rfl)) rfl rfl ?_
    rintro e w ⟨rfl, hE⟩
    have hb := hE.below
    have HT := HT.pure hE
    have HT : St w0 (fun _ => False) w [Box p4 [.int .i64 y9, .slice a4 y10.length c4], Own 61 (rowT y10) (.slice a4 y10.length c4), Box p3 [.int .i64 y7, .slice a3 y8.length c3], Own 61 (rowT y8) (.slice a3 y8.length c3), Box p2 [.int .i64 y4, .slice a2 y5.length c2], Own 61 (rowT y5) (.slice a2 y5.length c2), Own 61 (rowT y3) (.slice a1 y3.length c1), Box p1 [.int .i64 x0_0, .slice a_x0_1 x0_1.length c_x0_1]] := HT
    refine ⟨_, rfl, nS, fun a HF => ?_⟩
    refine wc_not HF nS rfl rfl rfl (fun a HF => ?_)
    refine wc_move HF nS rfl rfl rfl (fun a HF => ?_)
    by_cases hb2 : y12 = true
    · have h := (if_pos hb2).symm.trans h
      refine wc_move HF nS rfl (HF.wy rfl rfl rfl rfl (notT hb2)) rfl (fun a HF => ?_)
      refine wc_move HF nS rfl (HF.wy rfl rfl rfl rfl (notT hb2)) rfl (fun a HF => ?_)
      refine wc_bin HF nS rfl rfl (b_bne Try.underlying4) (HF.wy rfl rfl rfl rfl (notT hb2)) rfl (fun a HF => ?_)
      refine wc_pick (b := false) HF nS rfl (notT hb2) rfl rfl rfl (fun a HF => ?_)
      refine wc_end ?_
      refine then_n ?_
      by_cases hb3 : (y11 == y6) = true
      · have h := (if_pos hb3).symm.trans h
        refine wp_if (b' := false) HF rfl (notT hb3) ?_
        refine wp_skip ?_
        refine then_n ?_
        refine wp_seq ?_
        refine wp_seq ?_
        refine wp_region_can [(0, false), (1, true), (2, false), (3, true), (4, true)] (fun w' => LdC w' p3 0 [.int .i64 y7, .slice a3 y8.length c3] ∧ True) (by kernel_rfl) (by kernel_rfl) ?_
        have HT : St w0 (fun _ => False) w.drew [Box p4 [.int .i64 y9, .slice a4 y10.length c4], Own 61 (rowT y10) (.slice a4 y10.length c4), Box p3 [.int .i64 y7, .slice a3 y8.length c3], Own 61 (rowT y8) (.slice a3 y8.length c3), Box p2 [.int .i64 y4, .slice a2 y5.length c2], Own 61 (rowT y5) (.slice a2 y5.length c2), Own 61 (rowT y3) (.slice a1 y3.length c1), Box p1 [.int .i64 x0_0, .slice a_x0_1 x0_1.length c_x0_1]] := HT.drew
        refine wc_loadAS (vs := [.int .i64 y7, .slice a3 y8.length c3]) HF ⟨(HT.boxAt 2 rfl).part 0 2, trivial⟩ rfl ag29 rfl (fun w hS => hS.1) rfl rfl (fun a HF => ?_)
        refine wc_loadA (vs := [.int .i64 x0_0, .slice a_x0_1 x0_1.length c_x0_1]) HF rfl ag24 rfl ((HT.boxAt 7 rfl).part 0 2) rfl rfl (fun a HF => ?_)
        obtain ⟨y13, y14, hx7, h⟩ := obs2 h
        refine wc_call HF cf15 rfl (w_laws_toMem fuel hx7 (HT.ro hr_x0_1).any) rfl rfl ?_
        rintro e w ⟨a5, n5, c5, rfl, hE⟩
        have hb := hE.below
        have HT := HT.pure hE
        obtain rfl := (HT.rdAt 0 rfl).neq
        have HT : St w0 (fun _ => False) w [Own 61 (rowT y14) (.slice a5 y14.length c5), Box p4 [.int .i64 y9, .slice a4 y10.length c4], Own 61 (rowT y10) (.slice a4 y10.length c4), Box p3 [.int .i64 y7, .slice a3 y8.length c3], Own 61 (rowT y8) (.slice a3 y8.length c3), Box p2 [.int .i64 y4, .slice a2 y5.length c2], Own 61 (rowT y5) (.slice a2 y5.length c2), Own 61 (rowT y3) (.slice a1 y3.length c1), Box p1 [.int .i64 x0_0, .slice a_x0_1 x0_1.length c_x0_1]] := HT
        refine ⟨_, rfl, (fun _ => ⟨(HT.boxAt 3 rfl).part 0 2, trivial⟩), fun a HF => ?_⟩
        obtain ⟨y15, hx8, h⟩ := obs h
        refine wc_call HF cf17 rfl (w_laws_eqMem fuel hx8 (HT.rdAt 4 rfl) (HT.rdAt 0 rfl)) rfl rfl ?_
        rintro e w ⟨rfl, hE⟩
        have hb := hE.below
        have HT := HT.pure hE
        have HT : St w0 (fun _ => False) w [Own 61 (rowT y14) (.slice a5 y14.length c5), Box p4 [.int .i64 y9, .slice a4 y10.length c4], Own 61 (rowT y10) (.slice a4 y10.length c4), Box p3 [.int .i64 y7, .slice a3 y8.length c3], Own 61 (rowT y8) (.slice a3 y8.length c3), Box p2 [.int .i64 y4, .slice a2 y5.length c2], Own 61 (rowT y5) (.slice a2 y5.length c2), Own 61 (rowT y3) (.slice a1 y3.length c1), Box p1 [.int .i64 x0_0, .slice a_x0_1 x0_1.length c_x0_1]] := HT
        refine ⟨_, rfl, nS, fun a HF => ?_⟩
        refine wc_not HF nS rfl rfl rfl (fun a HF => ?_)
        refine wc_endN ?_
        refine then_n ?_
        by_cases hb4 : y15 = true
        · have h := (if_pos hb4).symm.trans h
          refine wp_if (b' := false) HF rfl (notT hb4) ?_
          refine wp_skip ?_
          refine then_n ?_
          refine wp_seq ?_
          refine wc_text ?_
          refine wc_assign HF nS rfl rfl rfl (fun a HF => ?_)
          refine wc_end ?_
          refine then_n ?_
          refine wp_seq ?_
          refine wc_text ?_
          refine wc_loadA (vs := [.int .i64 y7, .slice a3 y8.length c3]) HF rfl ag29 rfl ((HT.boxAt 3 rfl).part 0 2) rfl rfl (fun a HF => ?_)
          refine wc_move HF nS rfl rfl rfl (fun a HF => ?_)
          obtain ⟨y16, y17, hx9, h⟩ := obs2 h
          have HT : St w0 (fun _ => False) w [Own 61 (rowT y8) (.slice a3 y8.length c3), Own 61 (rowT y14) (.slice a5 y14.length c5), Box p4 [.int .i64 y9, .slice a4 y10.length c4], Own 61 (rowT y10) (.slice a4 y10.length c4), Box p3 [.int .i64 y7, .slice a3 y8.length c3], Box p2 [.int .i64 y4, .slice a2 y5.length c2], Own 61 (rowT y5) (.slice a2 y5.length c2), Own 61 (rowT y3) (.slice a1 y3.length c1), Box p1 [.int .i64 x0_0, .slice a_x0_1 x0_1.length c_x0_1]] := HT.pick 4
          obtain ⟨F1, hAF1, hFF1, hbackF1, hroF1, hownF1⟩ := St.handR (A := [Own 61 (rowT y8) (.slice a3 y8.length c3)]) HT
          refine wc_call HF cf27 rfl (w_laws_markMem fuel hx9 hAF1) rfl rfl ?_
          rintro e w ⟨rfl, hE⟩
          have HT := hbackF1 _ _ hE
          have HT : St w0 (fun _ => False) w [Own 61 (rowT y17) (.slice a3 y8.length c3), Own 61 (rowT y14) (.slice a5 y14.length c5), Box p4 [.int .i64 y9, .slice a4 y10.length c4], Own 61 (rowT y10) (.slice a4 y10.length c4), Box p3 [.int .i64 y7, .slice a3 y8.length c3], Box p2 [.int .i64 y4, .slice a2 y5.length c2], Own 61 (rowT y5) (.slice a2 y5.length c2), Own 61 (rowT y3) (.slice a1 y3.length c1), Box p1 [.int .i64 x0_0, .slice a_x0_1 x0_1.length c_x0_1]] := HT
          refine ⟨_, rfl, nS, fun a HF => ?_⟩
          refine wc_assign HF nS rfl rfl rfl (fun a HF => ?_)
          refine wc_end ?_
          refine then_n ?_
          refine wp_seq ?_
          refine wp_seq ?_
          refine wc_text ?_
          refine wc_move HF nS rfl rfl rfl (fun a HF => ?_)
          refine wc_bin HF nS rfl rfl b_lt rfl rfl (fun a HF => ?_)
          refine wc_move HF nS rfl rfl rfl (fun a HF => ?_)
          by_cases hb5 : y16 < 0
          · have h := (if_pos hb5).symm.trans h
            refine wc_skip HF nS (HF.wn rfl rfl rfl rfl (decide_eq_true hb5)) rfl (fun a HF => ?_)
            refine wc_skip HF nS (HF.wn rfl rfl rfl rfl (decide_eq_true hb5)) rfl (fun a HF => ?_)
            refine wc_skip HF nS (HF.wn rfl rfl rfl rfl (decide_eq_true hb5)) rfl (fun a HF => ?_)
            refine wc_skip HF nS (HF.wn rfl rfl rfl rfl (decide_eq_true hb5)) rfl (fun a HF => ?_)
            refine wc_pick (b := true) HF nS rfl (decide_eq_true hb5) rfl rfl rfl (fun a HF => ?_)
            refine wc_move HF nS rfl rfl rfl (fun a HF => ?_)
            refine wc_skip HF nS (HF.wn rfl rfl rfl rfl rfl) rfl (fun a HF => ?_)
            refine wc_skip HF nS (HF.wn rfl rfl rfl rfl rfl) rfl (fun a HF => ?_)
            refine wc_skip HF nS (HF.wn rfl rfl rfl rfl rfl) rfl (fun a HF => ?_)
            refine wc_pick (b := true) HF nS rfl rfl rfl rfl rfl (fun a HF => ?_)
            refine wc_end ?_
            refine then_n ?_
            refine wp_if (b' := true) HF rfl rfl ?_
            refine wp_seq ?_
            refine wc_text ?_
            refine wc_assign HF nS rfl rfl rfl (fun a HF => ?_)
            refine wc_end ?_
            refine then_n ?_
            refine wp_ret ?_
            obtain rfl := Option.some.inj h
            refine then_r (?_)
            refine bp_ret HF (res_one rfl HF rfl) ?_
            have HT : St w0 (fun _ => False) w [] := HT.take 0
            exact ⟨rfl, HT⟩
          · have h := (if_neg hb5).symm.trans h
            refine wc_loadA (vs := [.int .i64 y9, .slice a4 y10.length c4]) HF rfl ag29 rfl ((HT.boxAt 2 rfl).part 0 2) (HF.wy rfl rfl rfl rfl (decide_eq_false hb5)) rfl (fun a HF => ?_)
            refine wc_loadA (vs := [.int .i64 y4, .slice a2 y5.length c2]) HF rfl ag29 rfl ((HT.boxAt 5 rfl).part 0 2) (HF.wy rfl rfl rfl rfl (decide_eq_false hb5)) rfl (fun a HF => ?_)
            obtain ⟨y18, hx10, h⟩ := obs h
            refine wc_call HF cf17 rfl (w_laws_eqMem fuel hx10 (HT.rdAt 3 rfl) (HT.rdAt 6 rfl)) (HF.wy rfl rfl rfl rfl (decide_eq_false hb5)) rfl ?_
            rintro e w ⟨rfl, hE⟩
            have hb := hE.below
            have HT := HT.pure hE
            have HT : St w0 (fun _ => False) w [Own 61 (rowT y17) (.slice a3 y8.length c3), Own 61 (rowT y14) (.slice a5 y14.length c5), Box p4 [.int .i64 y9, .slice a4 y10.length c4], Own 61 (rowT y10) (.slice a4 y10.length c4), Box p3 [.int .i64 y7, .slice a3 y8.length c3], Box p2 [.int .i64 y4, .slice a2 y5.length c2], Own 61 (rowT y5) (.slice a2 y5.length c2), Own 61 (rowT y3) (.slice a1 y3.length c1), Box p1 [.int .i64 x0_0, .slice a_x0_1 x0_1.length c_x0_1]] := HT
            refine ⟨_, rfl, nS, fun a HF => ?_⟩
            refine wc_not HF nS rfl (HF.wy rfl rfl rfl rfl (decide_eq_false hb5)) rfl (fun a HF => ?_)
            refine wc_pick (b := false) HF nS rfl (decide_eq_false hb5) rfl rfl rfl (fun a HF => ?_)
            refine wc_move HF nS rfl rfl rfl (fun a HF => ?_)
            by_cases hb6 : y18 = true
            · have h := (if_pos hb6).symm.trans h
              refine wc_move HF nS rfl (HF.wy rfl rfl rfl rfl (notT hb6)) rfl (fun a HF => ?_)
              refine wc_move HF nS rfl (HF.wy rfl rfl rfl rfl (notT hb6)) rfl (fun a HF => ?_)
              refine wc_bin HF nS rfl rfl (b_bne Try.underlying4) (HF.wy rfl rfl rfl rfl (notT hb6)) rfl (fun a HF => ?_)
              refine wc_pick (b := false) HF nS rfl (notT hb6) rfl rfl rfl (fun a HF => ?_)
              refine wc_end ?_
              refine then_n ?_
              refine wp_if (b' := false) HF rfl (notT hb3) ?_
              refine wp_skip ?_
              refine then_n ?_
              refine wp_seq ?_
              refine wc_text ?_
              refine wc_assign HF nS rfl rfl rfl (fun a HF => ?_)
              refine wc_end ?_
              refine then_n ?_
              refine wp_seq ?_
              refine wc_text ?_
              refine wc_loadA (vs := [.int .i64 y9, .slice a4 y10.length c4]) HF rfl ag29 rfl ((HT.boxAt 2 rfl).part 0 2) rfl rfl (fun a HF => ?_)
              refine wc_move HF nS rfl rfl rfl (fun a HF => ?_)
              obtain ⟨y19, y20, hx11, h⟩ := obs2 h
              have HT : St w0 (fun _ => False) w [Own 61 (rowT y10) (.slice a4 y10.length c4), Own 61 (rowT y17) (.slice a3 y8.length c3), Own 61 (rowT y14) (.slice a5 y14.length c5), Box p4 [.int .i64 y9, .slice a4 y10.length c4], Box p3 [.int .i64 y7, .slice a3 y8.length c3], Box p2 [.int .i64 y4, .slice a2 y5.length c2], Own 61 (rowT y5) (.slice a2 y5.length c2), Own 61 (rowT y3) (.slice a1 y3.length c1), Box p1 [.int .i64 x0_0, .slice a_x0_1 x0_1.length c_x0_1]] := HT.pick 3
              obtain ⟨F2, hAF2, hFF2, hbackF2, hroF2, hownF2⟩ := St.handR (A := [Own 61 (rowT y10) (.slice a4 y10.length c4)]) HT
              refine wc_call HF cf27 rfl (w_laws_markMem fuel hx11 hAF2) rfl rfl ?_
              rintro e w ⟨rfl, hE⟩
              have HT := hbackF2 _ _ hE
              have HT : St w0 (fun _ => False) w [Own 61 (rowT y20) (.slice a4 y10.length c4), Own 61 (rowT y17) (.slice a3 y8.length c3), Own 61 (rowT y14) (.slice a5 y14.length c5), Box p4 [.int .i64 y9, .slice a4 y10.length c4], Box p3 [.int .i64 y7, .slice a3 y8.length c3], Box p2 [.int .i64 y4, .slice a2 y5.length c2], Own 61 (rowT y5) (.slice a2 y5.length c2), Own 61 (rowT y3) (.slice a1 y3.length c1), Box p1 [.int .i64 x0_0, .slice a_x0_1 x0_1.length c_x0_1]] := HT
              refine ⟨_, rfl, nS, fun a HF => ?_⟩
              refine wc_assign HF nS rfl rfl rfl (fun a HF => ?_)
              refine wc_end ?_
              refine then_n ?_
              refine wp_seq ?_
              refine wc_text ?_
              refine wc_assign HF nS rfl rfl rfl (fun a HF => ?_)
              refine wc_end ?_
              refine then_n ?_
              refine wp_seq ?_
              refine wc_text ?_
              refine wc_loadA (vs := [.int .i64 y9, .slice a4 y10.length c4]) HF rfl ag29 rfl ((HT.boxAt 3 rfl).part 0 2) rfl rfl (fun a HF => ?_)
              refine wc_move HF nS rfl rfl rfl (fun a HF => ?_)
              obtain ⟨y21, hx12, h⟩ := obs h
              refine wc_call HF cf28 rfl (w_laws_heldMem fuel hx12 (HT.rdAt 0 rfl)) rfl rfl ?_
              rintro e w ⟨rfl, hE⟩
              have hb := hE.below
              have HT := HT.pure hE
              have HT : St w0 (fun _ => False) w [Own 61 (rowT y20) (.slice a4 y10.length c4), Own 61 (rowT y17) (.slice a3 y8.length c3), Own 61 (rowT y14) (.slice a5 y14.length c5), Box p4 [.int .i64 y9, .slice a4 y10.length c4], Box p3 [.int .i64 y7, .slice a3 y8.length c3], Box p2 [.int .i64 y4, .slice a2 y5.length c2], Own 61 (rowT y5) (.slice a2 y5.length c2), Own 61 (rowT y3) (.slice a1 y3.length c1), Box p1 [.int .i64 x0_0, .slice a_x0_1 x0_1.length c_x0_1]] := HT
              refine ⟨_, rfl, nS, fun a HF => ?_⟩
              refine wc_assign HF nS rfl rfl rfl (fun a HF => ?_)
              refine wc_end ?_
              refine then_n ?_
              refine wp_seq ?_
              refine wp_seq ?_
              refine wc_text ?_
              refine wc_move HF nS rfl rfl rfl (fun a HF => ?_)
              refine wc_bin HF nS rfl rfl b_lt rfl rfl (fun a HF => ?_)
              refine wc_end ?_
              refine then_n ?_
              by_cases hb7 : y21 < 0
              · have h := (if_pos hb7).symm.trans h
                refine wp_if (b' := true) HF rfl (decide_eq_true hb7) ?_
                refine wp_seq ?_
                refine wc_text ?_
                refine wc_assign HF nS rfl rfl rfl (fun a HF => ?_)
                refine wc_end ?_
                refine then_n ?_
                refine wp_ret ?_
                obtain rfl := Option.some.inj h
                refine then_r (?_)
                refine bp_ret HF (res_one rfl HF rfl) ?_
                have HT : St w0 (fun _ => False) w [] := HT.take 0
                exact ⟨rfl, HT⟩
              · have h := (if_neg hb7).symm.trans h
                refine wp_if (b' := false) HF rfl (decide_eq_false hb7) ?_
                refine wp_skip ?_
                refine then_n ?_
                refine wp_seq ?_
                refine wp_seq ?_
                refine wc_text ?_
                refine wc_move HF nS rfl rfl rfl (fun a HF => ?_)
                refine wc_move HF nS rfl rfl rfl (fun a HF => ?_)
                refine wc_bin HF nS rfl rfl b_ne rfl rfl (fun a HF => ?_)
                refine wc_end ?_
                refine then_n ?_
                by_cases hb8 : y21 = y19
                · have h := (if_pos hb8).symm.trans h
                  refine wp_if (b' := false) HF rfl (notT (decide_eq_true hb8)) ?_
                  refine wp_skip ?_
                  refine then_n ?_
                  refine wp_seq ?_
                  refine wc_text ?_
                  refine wc_loadA (vs := [.int .i64 x0_0, .slice a_x0_1 x0_1.length c_x0_1]) HF rfl ag24 rfl ((HT.boxAt 8 rfl).part 0 2) rfl rfl (fun a HF => ?_)
                  obtain ⟨y22, y23, hx13, h⟩ := obs2 h
                  refine wc_call HF cf15 rfl (w_laws_toMem fuel hx13 (HT.ro hr_x0_1).any) rfl rfl ?_
                  rintro e w ⟨a6, n6, c6, rfl, hE⟩
                  have hb := hE.below
                  have HT := HT.pure hE
                  obtain rfl := (HT.rdAt 0 rfl).neq
                  have HT : St w0 (fun _ => False) w [Own 61 (rowT y23) (.slice a6 y23.length c6), Own 61 (rowT y20) (.slice a4 y10.length c4), Own 61 (rowT y17) (.slice a3 y8.length c3), Own 61 (rowT y14) (.slice a5 y14.length c5), Box p4 [.int .i64 y9, .slice a4 y10.length c4], Box p3 [.int .i64 y7, .slice a3 y8.length c3], Box p2 [.int .i64 y4, .slice a2 y5.length c2], Own 61 (rowT y5) (.slice a2 y5.length c2), Own 61 (rowT y3) (.slice a1 y3.length c1), Box p1 [.int .i64 x0_0, .slice a_x0_1 x0_1.length c_x0_1]] := HT
                  refine ⟨_, rfl, nS, fun a HF => ?_⟩
                  refine wc_move HF nS rfl rfl rfl (fun a HF => ?_)
                  refine wc_move HF nS rfl rfl rfl (fun a HF => ?_)
                  refine wc_move HF nS rfl rfl rfl (fun a HF => ?_)
                  obtain ⟨y24, y25, y26, hx14, h⟩ := obs3 h
                  refine wc_call HF cf37 rfl (w_impl_Store fuel hx14 (HT.rdAt 0 rfl)) rfl rfl ?_
                  rintro e w ⟨a7, n7, c7, rfl, hE⟩
                  have hb := hE.below
                  have HT := HT.pure hE
                  obtain rfl := (HT.rdAt 0 rfl).neq
                  have HT : St w0 (fun _ => False) w [Own 61 (rowT y25) (.slice a7 y25.length c7), Own 61 (rowT y23) (.slice a6 y23.length c6), Own 61 (rowT y20) (.slice a4 y10.length c4), Own 61 (rowT y17) (.slice a3 y8.length c3), Own 61 (rowT y14) (.slice a5 y14.length c5), Box p4 [.int .i64 y9, .slice a4 y10.length c4], Box p3 [.int .i64 y7, .slice a3 y8.length c3], Box p2 [.int .i64 y4, .slice a2 y5.length c2], Own 61 (rowT y5) (.slice a2 y5.length c2), Own 61 (rowT y3) (.slice a1 y3.length c1), Box p1 [.int .i64 x0_0, .slice a_x0_1 x0_1.length c_x0_1]] := HT
                  refine ⟨_, rfl, nS, fun a HF => ?_⟩
                  refine wc_move HF nS rfl rfl rfl (fun a HF => ?_)
                  refine wc_extract (v := .agg #[.int .i64 y24, .slice a7 y25.length c7]) HF nS rfl rfl rfl rfl (fun a HF => ?_)
                  refine wc_extract (v := .bool y26) HF nS rfl rfl rfl rfl (fun a HF => ?_)
                  refine wc_alloc (cs := [.int .i64 0, .slice none 0 0]) HF HT zr29 rfl rfl rfl (fun p5 w HT hb => ⟨nS, fun a HF => ?_⟩)
                  refine wc_storeB (cs' := [.int .i64 y24, .slice a7 y25.length c7]) HF HT rfl rfl (fun w => (ag29 w).2) rfl rfl rfl rfl rfl (fun w HT => ⟨nS, ?_⟩)
                  refine wc_assign HF nS rfl rfl rfl (fun a HF => ?_)
                  refine wc_end ?_
                  refine then_n ?_
                  refine wp_seq ?_
                  refine wp_seq ?_
                  refine wc_text ?_
                  refine wc_loadA (vs := [.int .i64 y24, .slice a7 y25.length c7]) HF rfl ag29 rfl ((HT.boxAt 0 rfl).part 0 2) rfl rfl (fun a HF => ?_)
                  refine wc_loadA (vs := [.int .i64 y4, .slice a2 y5.length c2]) HF rfl ag29 rfl ((HT.boxAt 8 rfl).part 0 2) rfl rfl (fun a HF => ?_)
                  obtain ⟨y27, hx15, h⟩ := obs h
                  refine wc_call HF cf17 rfl (w_laws_eqMem fuel hx15 (HT.rdAt 1 rfl) (HT.rdAt 9 rfl)) rfl rfl ?_
                  rintro e w ⟨rfl, hE⟩
                  have hb := hE.below
                  have HT := HT.pure hE
                  have HT : St w0 (fun _ => False) w [Box p5 [.int .i64 y24, .slice a7 y25.length c7], Own 61 (rowT y25) (.slice a7 y25.length c7), Own 61 (rowT y23) (.slice a6 y23.length c6), Own 61 (rowT y20) (.slice a4 y10.length c4), Own 61 (rowT y17) (.slice a3 y8.length c3), Own 61 (rowT y14) (.slice a5 y14.length c5), Box p4 [.int .i64 y9, .slice a4 y10.length c4], Box p3 [.int .i64 y7, .slice a3 y8.length c3], Box p2 [.int .i64 y4, .slice a2 y5.length c2], Own 61 (rowT y5) (.slice a2 y5.length c2), Own 61 (rowT y3) (.slice a1 y3.length c1), Box p1 [.int .i64 x0_0, .slice a_x0_1 x0_1.length c_x0_1]] := HT
                  refine ⟨_, rfl, nS, fun a HF => ?_⟩
                  refine wc_not HF nS rfl rfl rfl (fun a HF => ?_)
                  refine wc_move HF nS rfl rfl rfl (fun a HF => ?_)
                  by_cases hb9 : y27 = true
                  · have h := (if_pos hb9).symm.trans h
                    refine wc_move HF nS rfl (HF.wy rfl rfl rfl rfl (notT hb9)) rfl (fun a HF => ?_)
                    refine wc_move HF nS rfl (HF.wy rfl rfl rfl rfl (notT hb9)) rfl (fun a HF => ?_)
                    refine wc_bin HF nS rfl rfl (b_bne Try.underlying4) (HF.wy rfl rfl rfl rfl (notT hb9)) rfl (fun a HF => ?_)
                    refine wc_pick (b := false) HF nS rfl (notT hb9) rfl rfl rfl (fun a HF => ?_)
                    refine wc_end ?_
                    refine then_n ?_
                    by_cases hb10 : (y26 == y6) = true
                    · have h := (if_pos hb10).symm.trans h
                      refine wp_if (b' := false) HF rfl (notT hb10) ?_
                      refine wp_skip ?_
                      refine then_n ?_
                      refine wp_seq ?_
                      refine wc_text ?_
                      refine wc_assign HF nS rfl rfl rfl (fun a HF => ?_)
                      refine wc_end ?_
                      refine then_n ?_
                      refine wp_seq ?_
                      refine wc_text ?_
                      refine wc_loadA (vs := [.int .i64 y9, .slice a4 y10.length c4]) HF rfl ag29 rfl ((HT.boxAt 6 rfl).part 0 2) rfl rfl (fun a HF => ?_)
                      refine wc_move HF nS rfl rfl rfl (fun a HF => ?_)
                      obtain ⟨y28, hx16, h⟩ := obs h
                      refine wc_call HF cf28 rfl (w_laws_heldMem fuel hx16 (HT.rdAt 3 rfl)) rfl rfl ?_
                      rintro e w ⟨rfl, hE⟩
                      have hb := hE.below
                      have HT := HT.pure hE
                      have HT : St w0 (fun _ => False) w [Box p5 [.int .i64 y24, .slice a7 y25.length c7], Own 61 (rowT y25) (.slice a7 y25.length c7), Own 61 (rowT y23) (.slice a6 y23.length c6), Own 61 (rowT y20) (.slice a4 y10.length c4), Own 61 (rowT y17) (.slice a3 y8.length c3), Own 61 (rowT y14) (.slice a5 y14.length c5), Box p4 [.int .i64 y9, .slice a4 y10.length c4], Box p3 [.int .i64 y7, .slice a3 y8.length c3], Box p2 [.int .i64 y4, .slice a2 y5.length c2], Own 61 (rowT y5) (.slice a2 y5.length c2), Own 61 (rowT y3) (.slice a1 y3.length c1), Box p1 [.int .i64 x0_0, .slice a_x0_1 x0_1.length c_x0_1]] := HT
                      refine ⟨_, rfl, nS, fun a HF => ?_⟩
                      refine wc_assign HF nS rfl rfl rfl (fun a HF => ?_)
                      refine wc_end ?_
                      refine then_n ?_
                      refine wp_seq ?_
                      refine wp_seq ?_
                      refine wc_text ?_
                      refine wc_move HF nS rfl rfl rfl (fun a HF => ?_)
                      refine wc_bin HF nS rfl rfl b_lt rfl rfl (fun a HF => ?_)
                      refine wc_end ?_
                      refine then_n ?_
                      by_cases hb11 : y28 < 0
                      · have h := (if_pos hb11).symm.trans h
                        refine wp_if (b' := true) HF rfl (decide_eq_true hb11) ?_
                        refine wp_seq ?_
                        refine wc_text ?_
                        refine wc_assign HF nS rfl rfl rfl (fun a HF => ?_)
                        refine wc_end ?_
                        refine then_n ?_
                        refine wp_ret ?_
                        obtain rfl := Option.some.inj h
                        refine then_r (?_)
                        refine bp_ret HF (res_one rfl HF rfl) ?_
                        have HT : St w0 (fun _ => False) w [] := HT.take 0
                        exact ⟨rfl, HT⟩
                      · have h := (if_neg hb11).symm.trans h
                        refine wp_if (b' := false) HF rfl (decide_eq_false hb11) ?_
                        refine wp_skip ?_
                        refine then_n ?_
                        refine wp_seq ?_
                        refine wp_seq ?_
                        refine wc_text ?_
                        refine wc_move HF nS rfl rfl rfl (fun a HF => ?_)
                        refine wc_move HF nS rfl rfl rfl (fun a HF => ?_)
                        refine wc_bin HF nS rfl rfl b_ne rfl rfl (fun a HF => ?_)
                        refine wc_end ?_
                        refine then_n ?_
                        by_cases hb12 : y28 = y19
                        · have h := (if_pos hb12).symm.trans h
                          refine wp_if (b' := false) HF rfl (notT (decide_eq_true hb12)) ?_
                          refine wp_skip ?_
                          refine then_n ?_
                          refine wp_seq ?_
                          refine wc_text ?_
                          refine wc_assign HF nS rfl rfl rfl (fun a HF => ?_)
                          refine wc_end ?_
                          refine then_n ?_
                          refine wp_ret ?_
                          obtain rfl := Option.some.inj h
                          refine bp_ret HF (res_one rfl HF rfl) ?_
                          have HT : St w0 (fun _ => False) w [] := HT.take 0
                          exact ⟨rfl, HT⟩
                        · have h := (if_neg hb12).symm.trans h
                          refine wp_if (b' := true) HF rfl (notF (decide_eq_false hb12)) ?_
                          refine wp_seq ?_
                          refine wc_text ?_
                          refine wc_assign HF nS rfl rfl rfl (fun a HF => ?_)
                          refine wc_end ?_
                          refine then_n ?_
                          refine wp_ret ?_
                          obtain rfl := Option.some.inj h
                          refine then_r (?_)
                          refine bp_ret HF (res_one rfl HF rfl) ?_
                          have HT : St w0 (fun _ => False) w [] := HT.take 0
                          exact ⟨rfl, HT⟩
                    · have h := (if_neg hb10).symm.trans h
                      refine wp_if (b' := true) HF rfl (notF (Bool.eq_false_iff.2 hb10)) ?_
                      refine wp_seq ?_
                      refine wc_text ?_
                      refine wc_assign HF nS rfl rfl rfl (fun a HF => ?_)
                      refine wc_end ?_
                      refine then_n ?_
                      refine wp_ret ?_
                      obtain rfl := Option.some.inj h
                      refine then_r (?_)
                      refine bp_ret HF (res_one rfl HF rfl) ?_
                      have HT : St w0 (fun _ => False) w [] := HT.take 0
                      exact ⟨rfl, HT⟩
                  · have h := (if_neg hb9).symm.trans h
                    refine wc_skip HF nS (HF.wn rfl rfl rfl rfl (notF (Bool.eq_false_iff.2 hb9))) rfl (fun a HF => ?_)
                    refine wc_skip HF nS (HF.wn rfl rfl rfl rfl (notF (Bool.eq_false_iff.2 hb9))) rfl (fun a HF => ?_)
                    refine wc_skip HF nS (HF.wn rfl rfl rfl rfl (notF (Bool.eq_false_iff.2 hb9))) rfl (fun a HF => ?_)
                    refine wc_pick (b := true) HF nS rfl (notF (Bool.eq_false_iff.2 hb9)) rfl rfl rfl (fun a HF => ?_)
                    refine wc_end ?_
                    refine then_n ?_
                    refine wp_if (b' := true) HF rfl rfl ?_
                    refine wp_seq ?_
                    refine wc_text ?_
                    refine wc_assign HF nS rfl rfl rfl (fun a HF => ?_)
                    refine wc_end ?_
                    refine then_n ?_
                    refine wp_ret ?_
                    obtain rfl := Option.some.inj h
                    refine then_r (?_)
                    refine bp_ret HF (res_one rfl HF rfl) ?_
                    have HT : St w0 (fun _ => False) w [] := HT.take 0
                    exact ⟨rfl, HT⟩
                · have h := (if_neg hb8).symm.trans h
                  refine wp_if (b' := true) HF rfl (notF (decide_eq_false hb8)) ?_
                  refine wp_seq ?_
                  refine wc_text ?_
                  refine wc_assign HF nS rfl rfl rfl (fun a HF => ?_)
                  refine wc_end ?_
                  refine then_n ?_
                  refine wp_ret ?_
                  obtain rfl := Option.some.inj h
                  refine then_r (?_)
                  refine bp_ret HF (res_one rfl HF rfl) ?_
                  have HT : St w0 (fun _ => False) w [] := HT.take 0
                  exact ⟨rfl, HT⟩
            · have h := (if_neg hb6).symm.trans h
              refine wc_skip HF nS (HF.wn rfl rfl rfl rfl (notF (Bool.eq_false_iff.2 hb6))) rfl (fun a HF => ?_)
              refine wc_skip HF nS (HF.wn rfl rfl rfl rfl (notF (Bool.eq_false_iff.2 hb6))) rfl (fun a HF => ?_)
              refine wc_skip HF nS (HF.wn rfl rfl rfl rfl (notF (Bool.eq_false_iff.2 hb6))) rfl (fun a HF => ?_)
              refine wc_pick (b := true) HF nS rfl (notF (Bool.eq_false_iff.2 hb6)) rfl rfl rfl (fun a HF => ?_)
              refine wc_end ?_
              refine then_n ?_
              refine wp_if (b' := true) HF rfl rfl ?_
              refine wp_seq ?_
              refine wc_text ?_
              refine wc_assign HF nS rfl rfl rfl (fun a HF => ?_)
              refine wc_end ?_
              refine then_n ?_
              refine wp_ret ?_
              obtain rfl := Option.some.inj h
              refine then_r (?_)
              refine bp_ret HF (res_one rfl HF rfl) ?_
              have HT : St w0 (fun _ => False) w [] := HT.take 0
              exact ⟨rfl, HT⟩
        · have h := (if_neg hb4).symm.trans h
          refine wp_if (b' := true) HF rfl (notF (Bool.eq_false_iff.2 hb4)) ?_
          refine wp_seq ?_
          refine wc_text ?_
          refine wc_assign HF nS rfl rfl rfl (fun a HF => ?_)
          refine wc_end ?_
          refine then_n ?_
          refine wp_ret ?_
          obtain rfl := Option.some.inj h
          refine then_r (?_)
          refine bp_ret HF (res_one rfl HF rfl) ?_
          have HT : St w0 (fun _ => False) w [] := HT.take 0
          exact ⟨rfl, HT⟩
      · have h := (if_neg hb3).symm.trans h
        refine wp_if (b' := true) HF rfl (notF (Bool.eq_false_iff.2 hb3)) ?_
        refine wp_seq ?_
        refine wc_text ?_
        refine wc_assign HF nS rfl rfl rfl (fun a HF => ?_)
        refine wc_end ?_
        refine then_n ?_
        refine wp_ret ?_
        obtain rfl := Option.some.inj h
        refine then_r (?_)
        refine bp_ret HF (res_one rfl HF rfl) ?_
        have HT : St w0 (fun _ => False) w [] := HT.take 0
        exact ⟨rfl, HT⟩
    · have h := (if_neg hb2).symm.trans h
      refine wc_skip HF nS (HF.wn rfl rfl rfl rfl (notF (Bool.eq_false_iff.2 hb2))) rfl (fun a HF => ?_)
      refine wc_skip HF nS (HF.wn rfl rfl rfl rfl (notF (Bool.eq_false_iff.2 hb2))) rfl (fun a HF => ?_)
      refine wc_skip HF nS (HF.wn rfl rfl rfl rfl (notF (Bool.eq_false_iff.2 hb2))) rfl (fun a HF => ?_)
      refine wc_pick (b := true) HF nS rfl (notF (Bool.eq_false_iff.2 hb2)) rfl rfl rfl (fun a HF => ?_)
      refine wc_end ?_
      refine then_n ?_
      refine wp_if (b' := true) HF rfl rfl ?_
      refine wp_seq ?_
      refine wc_text ?_
      refine wc_assign HF nS rfl rfl rfl (fun a HF => ?_)
      refine wc_end ?_
      refine then_n ?_
      refine wp_ret ?_
      obtain rfl := Option.some.inj h
      refine then_r (?_)
      refine bp_ret HF (res_one rfl HF rfl) ?_
      have HT : St w0 (fun _ => False) w [] := HT.take 0
      exact ⟨rfl, HT⟩

def m_laws_FnExactUnlock (fuel : Nat) (x0_0 : Int) (x0_1 : List I3) (x1 : Int) (x2 : Int) (x3 : Int) : Option Bool :=
  (m_laws_szMem fuel x0_0 x0_1 1048576).bind fun y1 =>
  if y1 < 0 then
    some true
  else
    bind2 (m_laws_toMem fuel x0_0 x0_1) fun y2 y3 =>
    bind3 (m_spec_Unlock fuel y2 y3 x1 x2 x3) fun y4 y5 y6 =>
    bind2 (m_laws_toMem fuel x0_0 x0_1) fun y7 y8 =>
    bind3 (m_impl_Unlock fuel y7 y8 x1 x2 x3) fun y9 y10 y11 =>
    (m_laws_eqMem fuel y9 y10 y4 y5).bind fun y12 =>
    if y12 = true then
      if (y11 == y6) = true then
        bind2 (m_laws_toMem fuel x0_0 x0_1) fun y13 y14 =>
        (m_laws_eqMem fuel y7 y8 y13 y14).bind fun y15 =>
        if y15 = true then
          bind2 (m_laws_markMem fuel y7 y8 1) fun y16 y17 =>
          if y16 < 0 then
            some false
          else
            (m_laws_eqMem fuel y9 y10 y4 y5).bind fun y18 =>
            if y18 = true then
              bind2 (m_laws_markMem fuel y9 y10 1) fun y19 y20 =>
              (m_laws_heldMem fuel y9 y20 1).bind fun y21 =>
              if y21 < 0 then
                some false
              else
                if y21 = y19 then
                  bind2 (m_laws_toMem fuel x0_0 x0_1) fun y22 y23 =>
                  bind3 (m_impl_Unlock fuel y22 y23 x1 x2 x3) fun y24 y25 y26 =>
                  (m_laws_eqMem fuel y24 y25 y4 y5).bind fun y27 =>
                  if y27 = true then
                    if (y26 == y6) = true then
                      (m_laws_heldMem fuel y9 y20 1).bind fun y28 =>
                      if y28 < 0 then
                        some false
                      else
                        if y28 = y19 then
                          some true
                        else
                          some false
                    else
                      some false
                  else
                    some false
                else
                  some false
            else
              some false
        else
          some false
      else
        some false
    else
      some false

set_option maxRecDepth 100000 in
set_option maxHeartbeats 4000000 in
theorem w_laws_FnExactUnlock (fuel : Nat) {x0_0 : Int} {x0_1 : List I3} {x1 : Int} {x2 : Int} {x3 : Int} {a_x0_1 : Option Addr} {n_x0_1 c_x0_1 : Nat} {r0 : Bool} {w0 : World} (h : m_laws_FnExactUnlock fuel x0_0 x0_1 x1 x2 x3 = some r0) (hr_x0_1 : RdT (fun b => ¬ False) w0 (rowT x0_1) (.slice a_x0_1 n_x0_1 c_x0_1)) :
    Calls Try.prog 11 #[.agg #[.int .i64 x0_0, .slice a_x0_1 n_x0_1 c_x0_1], .int .i64 x1, .int .i64 x2, .int .i64 x3] w0 fun e w => e = .returned (.bool r0) ∧ St w0 (fun _ => False) w [] := by
  obtain rfl := hr_x0_1.neq
  have HT : St w0 (fun _ => False) w0 [] := St.init0
  rw [m_laws_FnExactUnlock] at h
  refine calls_fr (n := 111) [.agg #[.int .i64 x0_0, .slice a_x0_1 x0_1.length c_x0_1], .int .i64 x1, .int .i64 x2, .int .i64 x3] Try.func11 rfl rfl rfl (fun a HF => ?_)
  have HT : St w0 (fun _ => False) w0 [] := HT
  refine wp_seq ?_
  refine wc_text ?_
  refine wc_box (cs := [.int .i64 x0_0, .slice a_x0_1 x0_1.length c_x0_1]) HF HT rfl rfl rfl rfl (fun p1 w HT hb => ⟨nS, fun a HF => ?_⟩)
  refine wc_assign HF nS rfl rfl rfl (fun a HF => ?_)
  refine wc_end ?_
  refine then_n ?_
  refine wp_seq ?_
  refine wc_text ?_
  refine wc_assign HF nS rfl rfl rfl (fun a HF => ?_)
  refine wc_end ?_
  refine then_n ?_
  refine wp_seq ?_
  refine wc_text ?_
  refine wc_loadA (vs := [.int .i64 x0_0, .slice a_x0_1 x0_1.length c_x0_1]) HF rfl ag24 rfl ((HT.boxAt 0 rfl).part 0 2) rfl rfl (fun a HF => ?_)
  refine wc_move HF nS rfl rfl rfl (fun a HF => ?_)
  obtain ⟨y1, hx1, h⟩ := obs h
  refine wc_call HF cf13 rfl (w_laws_szMem fuel hx1 (HT.ro hr_x0_1).any) rfl rfl ?_
  rintro e w ⟨rfl, hE⟩
  have hb := hE.below
  have HT := HT.pure hE
  have HT : St w0 (fun _ => False) w [Box p1 [.int .i64 x0_0, .slice a_x0_1 x0_1.length c_x0_1]] := HT
  refine ⟨_, rfl, nS, fun a HF => ?_⟩
  refine wc_assign HF nS rfl rfl rfl (fun a HF => ?_)
  refine wc_end ?_
  refine then_n ?_
  refine wp_seq ?_
  refine wp_seq ?_
  refine wc_text ?_
  refine wc_move HF nS rfl rfl rfl (fun a HF => ?_)
  refine wc_bin HF nS rfl rfl b_lt rfl rfl (fun a HF => ?_)
  refine wc_end ?_
  refine then_n ?_
  by_cases hb1 : y1 < 0
  · have h := (if_pos hb1).symm.trans h
    refine wp_if (b' := true) HF rfl (decide_eq_true hb1) ?_
    refine wp_seq ?_
    refine wc_text ?_
    refine wc_assign HF nS rfl rfl rfl (fun a HF => ?_)
    refine wc_end ?_
    refine then_n ?_
    refine wp_ret ?_
    obtain rfl := Option.some.inj h
    refine then_r (?_)
    refine bp_ret HF (res_one rfl HF rfl) ?_
    have HT : St w0 (fun _ => False) w [] := HT.take 0
    exact ⟨rfl, HT⟩
  · have h := (if_neg hb1).symm.trans h
    refine wp_if (b' := false) HF rfl (decide_eq_false hb1) ?_
    refine wp_skip ?_
    refine then_n ?_
    refine wp_seq ?_
    refine wc_text ?_
    refine wc_loadA (vs := [.int .i64 x0_0, .slice a_x0_1 x0_1.length c_x0_1]) HF rfl ag24 rfl ((HT.boxAt 0 rfl).part 0 2) rfl rfl (fun a HF => ?_)
    obtain ⟨y2, y3, hx2, h⟩ := obs2 h
    refine wc_call HF cf15 rfl (w_laws_toMem fuel hx2 (HT.ro hr_x0_1).any) rfl rfl ?_
    rintro e w ⟨a1, n1, c1, rfl, hE⟩
    have hb := hE.below
    have HT := HT.pure hE
    obtain rfl := (HT.rdAt 0 rfl).neq
    have HT : St w0 (fun _ => False) w [Own 61 (rowT y3) (.slice a1 y3.length c1), Box p1 [.int .i64 x0_0, .slice a_x0_1 x0_1.length c_x0_1]] := HT
    refine ⟨_, rfl, nS, fun a HF => ?_⟩
    refine wc_move HF nS rfl rfl rfl (fun a HF => ?_)
    refine wc_move HF nS rfl rfl rfl (fun a HF => ?_)
    refine wc_move HF nS rfl rfl rfl (fun a HF => ?_)
    obtain ⟨y4, y5, y6, hx3, h⟩ := obs3 h
    refine wc_call HF cf38 rfl (w_spec_Unlock fuel hx3 (HT.rdAt 0 rfl)) rfl rfl ?_
    rintro e w ⟨a2, n2, c2, rfl, hE⟩
    have hb := hE.below
    have HT := HT.pure hE
    obtain rfl := (HT.rdAt 0 rfl).neq
    have HT : St w0 (fun _ => False) w [Own 61 (rowT y5) (.slice a2 y5.length c2), Own 61 (rowT y3) (.slice a1 y3.length c1), Box p1 [.int .i64 x0_0, .slice a_x0_1 x0_1.length c_x0_1]] := HT
    refine ⟨_, rfl, nS, fun a HF => ?_⟩
    refine wc_move HF nS rfl rfl rfl (fun a HF => ?_)
    refine wc_extract (v := .agg #[.int .i64 y4, .slice a2 y5.length c2]) HF nS rfl rfl rfl rfl (fun a HF => ?_)
    refine wc_extract (v := .bool y6) HF nS rfl rfl rfl rfl (fun a HF => ?_)
    refine wc_alloc (cs := [.int .i64 0, .slice none 0 0]) HF HT zr29 rfl rfl rfl (fun p2 w HT hb => ⟨nS, fun a HF => ?_⟩)
    refine wc_storeB (cs' := [.int .i64 y4, .slice a2 y5.length c2]) HF HT rfl rfl (fun w => (ag29 w).2) rfl rfl rfl rfl rfl (fun w HT => ⟨nS, ?_⟩)
    refine wc_assign HF nS rfl rfl rfl (fun a HF => ?_)
    refine wc_end ?_
    refine then_n ?_
    refine wp_seq ?_
    refine wc_text ?_
    refine wc_loadA (vs := [.int .i64 x0_0, .slice a_x0_1 x0_1.length c_x0_1]) HF rfl ag24 rfl ((HT.boxAt 3 rfl).part 0 2) rfl rfl (fun a HF => ?_)
    obtain ⟨y7, y8, hx4, h⟩ := obs2 h
    refine wc_call HF cf15 rfl (w_laws_toMem fuel hx4 (HT.ro hr_x0_1).any) rfl rfl ?_
    rintro e w ⟨a3, n3, c3, rfl, hE⟩
    have hb := hE.below
    have HT := HT.pure hE
    obtain rfl := (HT.rdAt 0 rfl).neq
    have HT : St w0 (fun _ => False) w [Own 61 (rowT y8) (.slice a3 y8.length c3), Box p2 [.int .i64 y4, .slice a2 y5.length c2], Own 61 (rowT y5) (.slice a2 y5.length c2), Own 61 (rowT y3) (.slice a1 y3.length c1), Box p1 [.int .i64 x0_0, .slice a_x0_1 x0_1.length c_x0_1]] := HT
    refine ⟨_, rfl, nS, fun a HF => ?_⟩
    refine wc_alloc (cs := [.int .i64 0, .slice none 0 0]) HF HT zr29 rfl rfl rfl (fun p3 w HT hb => ⟨nS, fun a HF => ?_⟩)
    refine wc_storeB (cs' := [.int .i64 y7, .slice a3 y8.length c3]) HF HT rfl rfl (fun w => (ag29 w).2) rfl rfl rfl rfl rfl (fun w HT => ⟨nS, ?_⟩)
    refine wc_end ?_
    refine then_n ?_
    refine wp_seq ?_
    refine wc_text ?_
    refine wc_loadA (vs := [.int .i64 y7, .slice a3 y8.length c3]) HF rfl ag29 rfl ((HT.boxAt 0 rfl).part 0 2) rfl rfl (fun a HF => ?_)
    refine wc_move HF nS rfl rfl rfl (fun a HF => ?_)
    refine wc_move HF nS rfl rfl rfl (fun a HF => ?_)
    refine wc_move HF nS rfl rfl rfl (fun a HF => ?_)
    obtain ⟨y9, y10, y11, hx5, h⟩ := obs3 h
    refine wc_call HF cf39 rfl (w_impl_Unlock fuel hx5 (HT.rdAt 1 rfl)) rfl rfl ?_
    rintro e w ⟨a4, n4, c4, rfl, hE⟩
    have hb := hE.below
    have HT := HT.pure hE
    obtain rfl := (HT.rdAt 0 rfl).neq
    have HT : St w0 (fun _ => False) w [Own 61 (rowT y10) (.slice a4 y10.length c4), Box p3 [.int .i64 y7, .slice a3 y8.length c3], Own 61 (rowT y8) (.slice a3 y8.length c3), Box p2 [.int .i64 y4, .slice a2 y5.length c2], Own 61 (rowT y5) (.slice a2 y5.length c2), Own 61 (rowT y3) (.slice a1 y3.length c1), Box p1 [.int .i64 x0_0, .slice a_x0_1 x0_1.length c_x0_1]] := HT
    refine ⟨_, rfl, nS, fun a HF => ?_⟩
    refine wc_move HF nS rfl rfl rfl (fun a HF => ?_)
    refine wc_extract (v := .agg #[.int .i64 y9, .slice a4 y10.length c4]) HF nS rfl rfl rfl rfl (fun a HF => ?_)
    refine wc_extract (v := .bool y11) HF nS rfl rfl rfl rfl (fun a HF => ?_)
    refine wc_alloc (cs := [.int .i64 0, .slice none 0 0]) HF HT zr29 rfl rfl rfl (fun p4 w HT hb => ⟨nS, fun a HF => ?_⟩)
    refine wc_storeB (cs' := [.int .i64 y9, .slice a4 y10.length c4]) HF HT rfl rfl (fun w => (ag29 w).2) rfl rfl rfl rfl rfl (fun w HT => ⟨nS, ?_⟩)
    refine wc_assign HF nS rfl rfl rfl (fun a HF => ?_)
    refine wc_end ?_
    refine then_n ?_
    refine wp_seq ?_
    refine wp_seq ?_
    refine wc_text ?_
    refine wc_loadA (vs := [.int .i64 y9, .slice a4 y10.length c4]) HF rfl ag29 rfl ((HT.boxAt 0 rfl).part 0 2) rfl rfl (fun a HF => ?_)
    refine wc_loadA (vs := [.int .i64 y4, .slice a2 y5.length c2]) HF rfl ag29 rfl ((HT.boxAt 4 rfl).part 0 2) rfl rfl (fun a HF => ?_)
    obtain ⟨y12, hx6, h⟩ := obs h
    refine wc_call HF cf17 rfl (w_laws_eqMem fuel hx6 (HT.rdAt 1 rfl) (HT.rdAt 5 rfl)) rfl rfl ?_
    rintro e w ⟨rfl, hE⟩
    have hb := hE.below
    have HT := HT.pure hE
    have HT : St w0 (fun _ => False) w [Box p4 [.int .i64 y9, .slice a4 y10.length c4], Own 61 (rowT y10) (.slice a4 y10.length c4), Box p3 [.int .i64 y7, .slice a3 y8.length c3], Own 61 (rowT y8) (.slice a3 y8.length c3), Box p2 [.int .i64 y4, .slice a2 y5.length c2], Own 61 (rowT y5) (.slice a2 y5.length c2), Own 61 (rowT y3) (.slice a1 y3.length c1), Box p1 [.int .i64 x0_0, .slice a_x0_1 x0_1.length c_x0_1]] := HT
    refine ⟨_, rfl, nS, fun a HF => ?_⟩
    refine wc_not HF nS rfl rfl rfl (fun a HF => ?_)
    refine wc_move HF nS rfl rfl rfl (fun a HF => ?_)
    by_cases hb2 : y12 = true
    · have h := (if_pos hb2).symm.trans h
      refine wc_move HF nS rfl (HF.wy rfl rfl rfl rfl (notT hb2)) rfl (fun a HF => ?_)
      refine wc_move HF nS rfl (HF.wy rfl rfl rfl rfl (notT hb2)) rfl (fun a HF => ?_)
      refine wc_bin HF nS rfl rfl (b_bne Try.underlying4) (HF.wy rfl rfl rfl rfl (notT hb2)) rfl (fun a HF => ?_)
      refine wc_pick (b := false) HF nS rfl (notT hb2) rfl rfl rfl (fun a HF => ?_)
      refine wc_end ?_
      refine then_n ?_
      by_cases hb3 : (y11 == y6) = true
      · have h := (if_pos hb3).symm.trans h
        refine wp_if (b' := false) HF rfl (notT hb3) ?_
        refine wp_skip ?_
        refine then_n ?_
        refine wp_seq ?_
        refine wp_seq ?_
        refine wp_region_can [(0, false), (1, true), (2, false), (3, true), (4, true)] (fun w' => LdC w' p3 0 [.int .i64 y7, .slice a3 y8.length c3] ∧ True) (by kernel_rfl) (by kernel_rfl) ?_
        have HT : St w0 (fun _ => False) w.drew [Box p4 [.int .i64 y9, .slice a4 y10.length c4], Own 61 (rowT y10) (.slice a4 y10.length c4), Box p3 [.int .i64 y7, .slice a3 y8.length c3], Own 61 (rowT y8) (.slice a3 y8.length c3), Box p2 [.int .i64 y4, .slice a2 y5.length c2], Own 61 (rowT y5) (.slice a2 y5.length c2), Own 61 (rowT y3) (.slice a1 y3.length c1), Box p1 [.int .i64 x0_0, .slice a_x0_1 x0_1.length c_x0_1]] := HT.drew
        refine wc_loadAS (vs := [.int .i64 y7, .slice a3 y8.length c3]) HF ⟨(HT.boxAt 2 rfl).part 0 2, trivial⟩ rfl ag29 rfl (fun w hS => hS.1) rfl rfl (fun a HF => ?_)
        refine wc_loadA (vs := [.int .i64 x0_0, .slice a_x0_1 x0_1.length c_x0_1]) HF rfl ag24 rfl ((HT.boxAt 7 rfl).part 0 2) rfl rfl (fun a HF => ?_)
        obtain ⟨y13, y14, hx7, h⟩ := obs2 h
        refine wc_call HF cf15 rfl (w_laws_toMem fuel hx7 (HT.ro hr_x0_1).any) rfl rfl ?_
        rintro e w ⟨a5, n5, c5, rfl, hE⟩
        have hb := hE.below
        have HT := HT.pure hE
        obtain rfl := (HT.rdAt 0 rfl).neq
        have HT : St w0 (fun _ => False) w [Own 61 (rowT y14) (.slice a5 y14.length c5), Box p4 [.int .i64 y9, .slice a4 y10.length c4], Own 61 (rowT y10) (.slice a4 y10.length c4), Box p3 [.int .i64 y7, .slice a3 y8.length c3], Own 61 (rowT y8) (.slice a3 y8.length c3), Box p2 [.int .i64 y4, .slice a2 y5.length c2], Own 61 (rowT y5) (.slice a2 y5.length c2), Own 61 (rowT y3) (.slice a1 y3.length c1), Box p1 [.int .i64 x0_0, .slice a_x0_1 x0_1.length c_x0_1]] := HT
        refine ⟨_, rfl, (fun _ => ⟨(HT.boxAt 3 rfl).part 0 2, trivial⟩), fun a HF => ?_⟩
        obtain ⟨y15, hx8, h⟩ := obs h
        refine wc_call HF cf17 rfl (w_laws_eqMem fuel hx8 (HT.rdAt 4 rfl) (HT.rdAt 0 rfl)) rfl rfl ?_
        rintro e w ⟨rfl, hE⟩
        have hb := hE.below
        have HT := HT.pure hE
        have HT : St w0 (fun _ => False) w [Own 61 (rowT y14) (.slice a5 y14.length c5), Box p4 [.int .i64 y9, .slice a4 y10.length c4], Own 61 (rowT y10) (.slice a4 y10.length c4), Box p3 [.int .i64 y7, .slice a3 y8.length c3], Own 61 (rowT y8) (.slice a3 y8.length c3), Box p2 [.int .i64 y4, .slice a2 y5.length c2], Own 61 (rowT y5) (.slice a2 y5.length c2), Own 61 (rowT y3) (.slice a1 y3.length c1), Box p1 [.int .i64 x0_0, .slice a_x0_1 x0_1.length c_x0_1]] := HT
        refine ⟨_, rfl, nS, fun a HF => ?_⟩
        refine wc_not HF nS rfl rfl rfl (fun a HF => ?_)
        refine wc_endN ?_
        refine then_n ?_
        by_cases hb4 : y15 = true
        · have h := (if_pos hb4).symm.trans h
          refine wp_if (b' := false) HF rfl (notT hb4) ?_
          refine wp_skip ?_
          refine then_n ?_
          refine wp_seq ?_
          refine wc_text ?_
          refine wc_assign HF nS rfl rfl rfl (fun a HF => ?_)
          refine wc_end ?_
          refine then_n ?_
          refine wp_seq ?_
          refine wc_text ?_
          refine wc_loadA (vs := [.int .i64 y7, .slice a3 y8.length c3]) HF rfl ag29 rfl ((HT.boxAt 3 rfl).part 0 2) rfl rfl (fun a HF => ?_)
          refine wc_move HF nS rfl rfl rfl (fun a HF => ?_)
          obtain ⟨y16, y17, hx9, h⟩ := obs2 h
          have HT : St w0 (fun _ => False) w [Own 61 (rowT y8) (.slice a3 y8.length c3), Own 61 (rowT y14) (.slice a5 y14.length c5), Box p4 [.int .i64 y9, .slice a4 y10.length c4], Own 61 (rowT y10) (.slice a4 y10.length c4), Box p3 [.int .i64 y7, .slice a3 y8.length c3], Box p2 [.int .i64 y4, .slice a2 y5.length c2], Own 61 (rowT y5) (.slice a2 y5.length c2), Own 61 (rowT y3) (.slice a1 y3.length c1), Box p1 [.int .i64 x0_0, .slice a_x0_1 x0_1.length c_x0_1]] := HT.pick 4
          obtain ⟨F1, hAF1, hFF1, hbackF1, hroF1, hownF1⟩ := St.handR (A := [Own 61 (rowT y8) (.slice a3 y8.length c3)]) HT
          refine wc_call HF cf27 rfl (w_laws_markMem fuel hx9 hAF1) rfl rfl ?_
          rintro e w ⟨rfl, hE⟩
          have HT := hbackF1 _ _ hE
          have HT : St w0 (fun _ => False) w [Own 61 (rowT y17) (.slice a3 y8.length c3), Own 61 (rowT y14) (.slice a5 y14.length c5), Box p4 [.int .i64 y9, .slice a4 y10.length c4], Own 61 (rowT y10) (.slice a4 y10.length c4), Box p3 [.int .i64 y7, .slice a3 y8.length c3], Box p2 [.int .i64 y4, .slice a2 y5.length c2], Own 61 (rowT y5) (.slice a2 y5.length c2), Own 61 (rowT y3) (.slice a1 y3.length c1), Box p1 [.int .i64 x0_0, .slice a_x0_1 x0_1.length c_x0_1]] := HT
          refine ⟨_, rfl, nS, fun a HF => ?_⟩
          refine wc_assign HF nS rfl rfl rfl (fun a HF => ?_)
          refine wc_end ?_
          refine then_n ?_
          refine wp_seq ?_
          refine wp_seq ?_
          refine wc_text ?_
          refine wc_move HF nS rfl rfl rfl (fun a HF => ?_)
          refine wc_bin HF nS rfl rfl b_lt rfl rfl (fun a HF => ?_)
          refine wc_move HF nS rfl rfl rfl (fun a HF => ?_)
          by_cases hb5 : y16 < 0
          · have h := (if_pos hb5).symm.trans h
            refine wc_skip HF nS (HF.wn rfl rfl rfl rfl (decide_eq_true hb5)) rfl (fun a HF => ?_)
            refine wc_skip HF nS (HF.wn rfl rfl rfl rfl (decide_eq_true hb5)) rfl (fun a HF => ?_)
            refine wc_skip HF nS (HF.wn rfl rfl rfl rfl (decide_eq_true hb5)) rfl (fun a HF => ?_)
            refine wc_skip HF nS (HF.wn rfl rfl rfl rfl (decide_eq_true hb5)) rfl (fun a HF => ?_)
            refine wc_pick (b := true) HF nS rfl (decide_eq_true hb5) rfl rfl rfl (fun a HF => ?_)
            refine wc_move HF nS rfl rfl rfl (fun a HF => ?_)
            refine wc_skip HF nS (HF.wn rfl rfl rfl rfl rfl) rfl (fun a HF => ?_)
            refine wc_skip HF nS (HF.wn rfl rfl rfl rfl rfl) rfl (fun a HF => ?_)
            refine wc_skip HF nS (HF.wn rfl rfl rfl rfl rfl) rfl (fun a HF => ?_)
            refine wc_pick (b := true) HF nS rfl rfl rfl rfl rfl (fun a HF => ?_)
            refine wc_end ?_
            refine then_n ?_
            refine wp_if (b' := true) HF rfl rfl ?_
            refine wp_seq ?_
            refine wc_text ?_
            refine wc_assign HF nS rfl rfl rfl (fun a HF => ?_)
            refine wc_end ?_
            refine then_n ?_
            refine wp_ret ?_
            obtain rfl := Option.some.inj h
            refine then_r (?_)
            refine bp_ret HF (res_one rfl HF rfl) ?_
            have HT : St w0 (fun _ => False) w [] := HT.take 0
            exact ⟨rfl, HT⟩
          · have h := (if_neg hb5).symm.trans h
            refine wc_loadA (vs := [.int .i64 y9, .slice a4 y10.length c4]) HF rfl ag29 rfl ((HT.boxAt 2 rfl).part 0 2) (HF.wy rfl rfl rfl rfl (decide_eq_false hb5)) rfl (fun a HF => ?_)
            refine wc_loadA (vs := [.int .i64 y4, .slice a2 y5.length c2]) HF rfl ag29 rfl ((HT.boxAt 5 rfl).part 0 2) (HF.wy rfl rfl rfl rfl (decide_eq_false hb5)) rfl (fun a HF => ?_)
            obtain ⟨y18, hx10, h⟩ := obs h
            refine wc_call HF cf17 rfl (w_laws_eqMem fuel hx10 (HT.rdAt 3 rfl) (HT.rdAt 6 rfl)) (HF.wy rfl rfl rfl rfl (decide_eq_false hb5)) rfl ?_
            rintro e w ⟨rfl, hE⟩
            have hb := hE.below
            have HT := HT.pure hE
            have HT : St w0 (fun _ => False) w [Own 61 (rowT y17) (.slice a3 y8.length c3), Own 61 (rowT y14) (.slice a5 y14.length c5), Box p4 [.int .i64 y9, .slice a4 y10.length c4], Own 61 (rowT y10) (.slice a4 y10.length c4), Box p3 [.int .i64 y7, .slice a3 y8.length c3], Box p2 [.int .i64 y4, .slice a2 y5.length c2], Own 61 (rowT y5) (.slice a2 y5.length c2), Own 61 (rowT y3) (.slice a1 y3.length c1), Box p1 [.int .i64 x0_0, .slice a_x0_1 x0_1.length c_x0_1]] := HT
            refine ⟨_, rfl, nS, fun a HF => ?_⟩
            refine wc_not HF nS rfl (HF.wy rfl rfl rfl rfl (decide_eq_false hb5)) rfl (fun a HF => ?_)
            refine wc_pick (b := false) HF nS rfl (decide_eq_false hb5) rfl rfl rfl (fun a HF => ?_)
            refine wc_move HF nS rfl rfl rfl (fun a HF => ?_)
            by_cases hb6 : y18 = true
            · have h := (if_pos hb6).symm.trans h
              refine wc_move HF nS rfl (HF.wy rfl rfl rfl rfl (notT hb6)) rfl (fun a HF => ?_)
              refine wc_move HF nS rfl (HF.wy rfl rfl rfl rfl (notT hb6)) rfl (fun a HF => ?_)
              refine wc_bin HF nS rfl rfl (b_bne Try.underlying4) (HF.wy rfl rfl rfl rfl (notT hb6)) rfl (fun a HF => ?_)
              refine wc_pick (b := false) HF nS rfl (notT hb6) rfl rfl rfl (fun a HF => ?_)
              refine wc_end ?_
              refine then_n ?_
              refine wp_if (b' := false) HF rfl (notT hb3) ?_
              refine wp_skip ?_
              refine then_n ?_
              refine wp_seq ?_
              refine wc_text ?_
              refine wc_assign HF nS rfl rfl rfl (fun a HF => ?_)
              refine wc_end ?_
              refine then_n ?_
              refine wp_seq ?_
              refine wc_text ?_
              refine wc_loadA (vs := [.int .i64 y9, .slice a4 y10.length c4]) HF rfl ag29 rfl ((HT.boxAt 2 rfl).part 0 2) rfl rfl (fun a HF => ?_)
              refine wc_move HF nS rfl rfl rfl (fun a HF => ?_)
              obtain ⟨y19, y20, hx11, h⟩ := obs2 h
              have HT : St w0 (fun _ => False) w [Own 61 (rowT y10) (.slice a4 y10.length c4), Own 61 (rowT y17) (.slice a3 y8.length c3), Own 61 (rowT y14) (.slice a5 y14.length c5), Box p4 [.int .i64 y9, .slice a4 y10.length c4], Box p3 [.int .i64 y7, .slice a3 y8.length c3], Box p2 [.int .i64 y4, .slice a2 y5.length c2], Own 61 (rowT y5) (.slice a2 y5.length c2), Own 61 (rowT y3) (.slice a1 y3.length c1), Box p1 [.int .i64 x0_0, .slice a_x0_1 x0_1.length c_x0_1]] := HT.pick 3
              obtain ⟨F2, hAF2, hFF2, hbackF2, hroF2, hownF2⟩ := St.handR (A := [Own 61 (rowT y10) (.slice a4 y10.length c4)]) HT
              refine wc_call HF cf27 rfl (w_laws_markMem fuel hx11 hAF2) rfl rfl ?_
              rintro e w ⟨rfl, hE⟩
              have HT := hbackF2 _ _ hE
              have HT : St w0 (fun _ => False) w [Own 61 (rowT y20) (.slice a4 y10.length c4), Own 61 (rowT y17) (.slice a3 y8.length c3), Own 61 (rowT y14) (.slice a5 y14.length c5), Box p4 [.int .i64 y9, .slice a4 y10.length c4], Box p3 [.int .i64 y7, .slice a3 y8.length c3], Box p2 [.int .i64 y4, .slice a2 y5.length c2], Own 61 (rowT y5) (.slice a2 y5.length c2), Own 61 (rowT y3) (.slice a1 y3.length c1), Box p1 [.int .i64 x0_0, .slice a_x0_1 x0_1.length c_x0_1]] := HT
              refine ⟨_, rfl, nS, fun a HF => ?_⟩
              refine wc_assign HF nS rfl rfl rfl (fun a HF => ?_)
              refine wc_end ?_
              refine then_n ?_
              refine wp_seq ?_
              refine wc_text ?_
              refine wc_assign HF nS rfl rfl rfl (fun a HF => ?_)
              refine wc_end ?_
              refine then_n ?_
              refine wp_seq ?_
              refine wc_text ?_
              refine wc_loadA (vs := [.int .i64 y9, .slice a4 y10.length c4]) HF rfl ag29 rfl ((HT.boxAt 3 rfl).part 0 2) rfl rfl (fun a HF => ?_)
              refine wc_move HF nS rfl rfl rfl (fun a HF => ?_)
              obtain ⟨y21, hx12, h⟩ := obs h
              refine wc_call HF cf28 rfl (w_laws_heldMem fuel hx12 (HT.rdAt 0 rfl)) rfl rfl ?_
              rintro e w ⟨rfl, hE⟩
              have hb := hE.below
              have HT := HT.pure hE
              have HT : St w0 (fun _ => False) w [Own 61 (rowT y20) (.slice a4 y10.length c4), Own 61 (rowT y17) (.slice a3 y8.length c3), Own 61 (rowT y14) (.slice a5 y14.length c5), Box p4 [.int .i64 y9, .slice a4 y10.length c4], Box p3 [.int .i64 y7, .slice a3 y8.length c3], Box p2 [.int .i64 y4, .slice a2 y5.length c2], Own 61 (rowT y5) (.slice a2 y5.length c2), Own 61 (rowT y3) (.slice a1 y3.length c1), Box p1 [.int .i64 x0_0, .slice a_x0_1 x0_1.length c_x0_1]] := HT
              refine ⟨_, rfl, nS, fun a HF => ?_⟩
              refine wc_assign HF nS rfl rfl rfl (fun a HF => ?_)
              refine wc_end ?_
              refine then_n ?_
              refine wp_seq ?_
              refine wp_seq ?_
              refine wc_text ?_
              refine wc_move HF nS rfl rfl rfl (fun a HF => ?_)
              refine wc_bin HF nS rfl rfl b_lt rfl rfl (fun a HF => ?_)
              refine wc_end ?_
              refine then_n ?_
              by_cases hb7 : y21 < 0
              · have h := (if_pos hb7).symm.trans h
                refine wp_if (b' := true) HF rfl (decide_eq_true hb7) ?_
                refine wp_seq ?_
                refine wc_text ?_
                refine wc_assign HF nS rfl rfl rfl (fun a HF => ?_)
                refine wc_end ?_
                refine then_n ?_
                refine wp_ret ?_
                obtain rfl := Option.some.inj h
                refine then_r (?_)
                refine bp_ret HF (res_one rfl HF rfl) ?_
                have HT : St w0 (fun _ => False) w [] := HT.take 0
                exact ⟨rfl, HT⟩
              · have h := (if_neg hb7).symm.trans h
                refine wp_if (b' := false) HF rfl (decide_eq_false hb7) ?_
                refine wp_skip ?_
                refine then_n ?_
                refine wp_seq ?_
                refine wp_seq ?_
                refine wc_text ?_
                refine wc_move HF nS rfl rfl rfl (fun a HF => ?_)
                refine wc_move HF nS rfl rfl rfl (fun a HF => ?_)
                refine wc_bin HF nS rfl rfl b_ne rfl rfl (fun a HF => ?_)
                refine wc_end ?_
                refine then_n ?_
                by_cases hb8 : y21 = y19
                · have h := (if_pos hb8).symm.trans h
                  refine wp_if (b' := false) HF rfl (notT (decide_eq_true hb8)) ?_
                  refine wp_skip ?_
                  refine then_n ?_
                  refine wp_seq ?_
                  refine wc_text ?_
                  refine wc_loadA (vs := [.int .i64 x0_0, .slice a_x0_1 x0_1.length c_x0_1]) HF rfl ag24 rfl ((HT.boxAt 8 rfl).part 0 2) rfl rfl (fun a HF => ?_)
                  obtain ⟨y22, y23, hx13, h⟩ := obs2 h
                  refine wc_call HF cf15 rfl (w_laws_toMem fuel hx13 (HT.ro hr_x0_1).any) rfl rfl ?_
                  rintro e w ⟨a6, n6, c6, rfl, hE⟩
                  have hb := hE.below
                  have HT := HT.pure hE
                  obtain rfl := (HT.rdAt 0 rfl).neq
                  have HT : St w0 (fun _ => False) w [Own 61 (rowT y23) (.slice a6 y23.length c6), Own 61 (rowT y20) (.slice a4 y10.length c4), Own 61 (rowT y17) (.slice a3 y8.length c3), Own 61 (rowT y14) (.slice a5 y14.length c5), Box p4 [.int .i64 y9, .slice a4 y10.length c4], Box p3 [.int .i64 y7, .slice a3 y8.length c3], Box p2 [.int .i64 y4, .slice a2 y5.length c2], Own 61 (rowT y5) (.slice a2 y5.length c2), Own 61 (rowT y3) (.slice a1 y3.length c1), Box p1 [.int .i64 x0_0, .slice a_x0_1 x0_1.length c_x0_1]] := HT
                  refine ⟨_, rfl, nS, fun a HF => ?_⟩
                  refine wc_move HF nS rfl rfl rfl (fun a HF => ?_)
                  refine wc_move HF nS rfl rfl rfl (fun a HF => ?_)
                  refine wc_move HF nS rfl rfl rfl (fun a HF => ?_)
                  obtain ⟨y24, y25, y26, hx14, h⟩ := obs3 h
                  refine wc_call HF cf39 rfl (w_impl_Unlock fuel hx14 (HT.rdAt 0 rfl)) rfl rfl ?_
                  rintro e w ⟨a7, n7, c7, rfl, hE⟩
                  have hb := hE.below
                  have HT := HT.pure hE
                  obtain rfl := (HT.rdAt 0 rfl).neq
                  have HT : St w0 (fun _ => False) w [Own 61 (rowT y25) (.slice a7 y25.length c7), Own 61 (rowT y23) (.slice a6 y23.length c6), Own 61 (rowT y20) (.slice a4 y10.length c4), Own 61 (rowT y17) (.slice a3 y8.length c3), Own 61 (rowT y14) (.slice a5 y14.length c5), Box p4 [.int .i64 y9, .slice a4 y10.length c4], Box p3 [.int .i64 y7, .slice a3 y8.length c3], Box p2 [.int .i64 y4, .slice a2 y5.length c2], Own 61 (rowT y5) (.slice a2 y5.length c2), Own 61 (rowT y3) (.slice a1 y3.length c1), Box p1 [.int .i64 x0_0, .slice a_x0_1 x0_1.length c_x0_1]] := HT
                  refine ⟨_, rfl, nS, fun a HF => ?_⟩
                  refine wc_move HF nS rfl rfl rfl (fun a HF => ?_)
                  refine wc_extract (v := .agg #[.int .i64 y24, .slice a7 y25.length c7]) HF nS rfl rfl rfl rfl (fun a HF => ?_)
                  refine wc_extract (v := .bool y26) HF nS rfl rfl rfl rfl (fun a HF => ?_)
                  refine wc_alloc (cs := [.int .i64 0, .slice none 0 0]) HF HT zr29 rfl rfl rfl (fun p5 w HT hb => ⟨nS, fun a HF => ?_⟩)
                  refine wc_storeB (cs' := [.int .i64 y24, .slice a7 y25.length c7]) HF HT rfl rfl (fun w => (ag29 w).2) rfl rfl rfl rfl rfl (fun w HT => ⟨nS, ?_⟩)
                  refine wc_assign HF nS rfl rfl rfl (fun a HF => ?_)
                  refine wc_end ?_
                  refine then_n ?_
                  refine wp_seq ?_
                  refine wp_seq ?_
                  refine wc_text ?_
                  refine wc_loadA (vs := [.int .i64 y24, .slice a7 y25.length c7]) HF rfl ag29 rfl ((HT.boxAt 0 rfl).part 0 2) rfl rfl (fun a HF => ?_)
                  refine wc_loadA (vs := [.int .i64 y4, .slice a2 y5.length c2]) HF rfl ag29 rfl ((HT.boxAt 8 rfl).part 0 2) rfl rfl (fun a HF => ?_)
                  obtain ⟨y27, hx15, h⟩ := obs h
                  refine wc_call HF cf17 rfl (w_laws_eqMem fuel hx15 (HT.rdAt 1 rfl) (HT.rdAt 9 rfl)) rfl rfl ?_
                  rintro e w ⟨rfl, hE⟩
                  have hb := hE.below
                  have HT := HT.pure hE
                  have HT : St w0 (fun _ => False) w [Box p5 [.int .i64 y24, .slice a7 y25.length c7], Own 61 (rowT y25) (.slice a7 y25.length c7), Own 61 (rowT y23) (.slice a6 y23.length c6), Own 61 (rowT y20) (.slice a4 y10.length c4), Own 61 (rowT y17) (.slice a3 y8.length c3), Own 61 (rowT y14) (.slice a5 y14.length c5), Box p4 [.int .i64 y9, .slice a4 y10.length c4], Box p3 [.int .i64 y7, .slice a3 y8.length c3], Box p2 [.int .i64 y4, .slice a2 y5.length c2], Own 61 (rowT y5) (.slice a2 y5.length c2), Own 61 (rowT y3) (.slice a1 y3.length c1), Box p1 [.int .i64 x0_0, .slice a_x0_1 x0_1.length c_x0_1]] := HT
                  refine ⟨_, rfl, nS, fun a HF => ?_⟩
                  refine wc_not HF nS rfl rfl rfl (fun a HF => ?_)
                  refine wc_move HF nS rfl rfl rfl (fun a HF => ?_)
                  by_cases hb9 : y27 = true
                  · have h := (if_pos hb9).symm.trans h
                    refine wc_move HF nS rfl (HF.wy rfl rfl rfl rfl (notT hb9)) rfl (fun a HF => ?_)
                    refine wc_move HF nS rfl (HF.wy rfl rfl rfl rfl (notT hb9)) rfl (fun a HF => ?_)
                    refine wc_bin HF nS rfl rfl (b_bne Try.underlying4) (HF.wy rfl rfl rfl rfl (notT hb9)) rfl (fun a HF => ?_)
                    refine wc_pick (b := false) HF nS rfl (notT hb9) rfl rfl rfl (fun a HF => ?_)
                    refine wc_end ?_
                    refine then_n ?_
                    by_cases hb10 : (y26 == y6) = true
                    · have h := (if_pos hb10).symm.trans h
                      refine wp_if (b' := false) HF rfl (notT hb10) ?_
                      refine wp_skip ?_
                      refine then_n ?_
                      refine wp_seq ?_
                      refine wc_text ?_
                      refine wc_assign HF nS rfl rfl rfl (fun a HF => ?_)
                      refine wc_end ?_
                      refine then_n ?_
                      refine wp_seq ?_
                      refine wc_text ?_
                      refine wc_loadA (vs := [.int .i64 y9, .slice a4 y10.length c4]) HF rfl ag29 rfl ((HT.boxAt 6 rfl).part 0 2) rfl rfl (fun a HF => ?_)
                      refine wc_move HF nS rfl rfl rfl (fun a HF => ?_)
                      obtain ⟨y28, hx16, h⟩ := obs h
                      refine wc_call HF cf28 rfl (w_laws_heldMem fuel hx16 (HT.rdAt 3 rfl)) rfl rfl ?_
                      rintro e w ⟨rfl, hE⟩
                      have hb := hE.below
                      have HT := HT.pure hE
                      have HT : St w0 (fun _ => False) w [Box p5 [.int .i64 y24, .slice a7 y25.length c7], Own 61 (rowT y25) (.slice a7 y25.length c7), Own 61 (rowT y23) (.slice a6 y23.length c6), Own 61 (rowT y20) (.slice a4 y10.length c4), Own 61 (rowT y17) (.slice a3 y8.length c3), Own 61 (rowT y14) (.slice a5 y14.length c5), Box p4 [.int .i64 y9, .slice a4 y10.length c4], Box p3 [.int .i64 y7, .slice a3 y8.length c3], Box p2 [.int .i64 y4, .slice a2 y5.length c2], Own 61 (rowT y5) (.slice a2 y5.length c2), Own 61 (rowT y3) (.slice a1 y3.length c1), Box p1 [.int .i64 x0_0, .slice a_x0_1 x0_1.length c_x0_1]] := HT
                      refine ⟨_, rfl, nS, fun a HF => ?_⟩
                      refine wc_assign HF nS rfl rfl rfl (fun a HF => ?_)
                      refine wc_end ?_
                      refine then_n ?_
                      refine wp_seq ?_
                      refine wp_seq ?_
                      refine wc_text ?_
                      refine wc_move HF nS rfl rfl rfl (fun a HF => ?_)
                      refine wc_bin HF nS rfl rfl b_lt rfl rfl (fun a HF => ?_)
                      refine wc_end ?_
                      refine then_n ?_
                      by_cases hb11 : y28 < 0
                      · have h := (if_pos hb11).symm.trans h
                        refine wp_if (b' := true) HF rfl (decide_eq_true hb11) ?_
                        refine wp_seq ?_
                        refine wc_text ?_
                        refine wc_assign HF nS rfl rfl rfl (fun a HF => ?_)
                        refine wc_end ?_
                        refine then_n ?_
                        refine wp_ret ?_
                        obtain rfl := Option.some.inj h
                        refine then_r (?_)
                        refine bp_ret HF (res_one rfl HF rfl) ?_
                        have HT : St w0 (fun _ => False) w [] := HT.take 0
                        exact ⟨rfl, HT⟩
                      · have h := (if_neg hb11).symm.trans h
                        refine wp_if (b' := false) HF rfl (decide_eq_false hb11) ?_
                        refine wp_skip ?_
                        refine then_n ?_
                        refine wp_seq ?_
                        refine wp_seq ?_
                        refine wc_text ?_
                        refine wc_move HF nS rfl rfl rfl (fun a HF => ?_)
                        refine wc_move HF nS rfl rfl rfl (fun a HF => ?_)
                        refine wc_bin HF nS rfl rfl b_ne rfl rfl (fun a HF => ?_)
                        refine wc_end ?_
                        refine then_n ?_
                        by_cases hb12 : y28 = y19
                        · have h := (if_pos hb12).symm.trans h
                          refine wp_if (b' := false) HF rfl (notT (decide_eq_true hb12)) ?_
                          refine wp_skip ?_
                          refine then_n ?_
                          refine wp_seq ?_
                          refine wc_text ?_
                          refine wc_assign HF nS rfl rfl rfl (fun a HF => ?_)
                          refine wc_end ?_
                          refine then_n ?_
                          refine wp_ret ?_
                          obtain rfl := Option.some.inj h
                          refine bp_ret HF (res_one rfl HF rfl) ?_
                          have HT : St w0 (fun _ => False) w [] := HT.take 0
                          exact ⟨rfl, HT⟩
                        · have h := (if_neg hb12).symm.trans h
                          refine wp_if (b' := true) HF rfl (notF (decide_eq_false hb12)) ?_
                          refine wp_seq ?_
                          refine wc_text ?_
                          refine wc_assign HF nS rfl rfl rfl (fun a HF => ?_)
                          refine wc_end ?_
                          refine then_n ?_
                          refine wp_ret ?_
                          obtain rfl := Option.some.inj h
                          refine then_r (?_)
                          refine bp_ret HF (res_one rfl HF rfl) ?_
                          have HT : St w0 (fun _ => False) w [] := HT.take 0
                          exact ⟨rfl, HT⟩
                    · have h := (if_neg hb10).symm.trans h
                      refine wp_if (b' := true) HF rfl (notF (Bool.eq_false_iff.2 hb10)) ?_
                      refine wp_seq ?_
                      refine wc_text ?_
                      refine wc_assign HF nS rfl rfl rfl (fun a HF => ?_)
                      refine wc_end ?_
                      refine then_n ?_
                      refine wp_ret ?_
                      obtain rfl := Option.some.inj h
                      refine then_r (?_)
                      refine bp_ret HF (res_one rfl HF rfl) ?_
                      have HT : St w0 (fun _ => False) w [] := HT.take 0
                      exact ⟨rfl, HT⟩
                  · have h := (if_neg hb9).symm.trans h
                    refine wc_skip HF nS (HF.wn rfl rfl rfl rfl (notF (Bool.eq_false_iff.2 hb9))) rfl (fun a HF => ?_)
                    refine wc_skip HF nS (HF.wn rfl rfl rfl rfl (notF (Bool.eq_false_iff.2 hb9))) rfl (fun a HF => ?_)
                    refine wc_skip HF nS (HF.wn rfl rfl rfl rfl (notF (Bool.eq_false_iff.2 hb9))) rfl (fun a HF => ?_)
                    refine wc_pick (b := true) HF nS rfl (notF (Bool.eq_false_iff.2 hb9)) rfl rfl rfl (fun a HF => ?_)
                    refine wc_end ?_
                    refine then_n ?_
                    refine wp_if (b' := true) HF rfl rfl ?_
                    refine wp_seq ?_
                    refine wc_text ?_
                    refine wc_assign HF nS rfl rfl rfl (fun a HF => ?_)
                    refine wc_end ?_
                    refine then_n ?_
                    refine wp_ret ?_
                    obtain rfl := Option.some.inj h
                    refine then_r (?_)
                    refine bp_ret HF (res_one rfl HF rfl) ?_
                    have HT : St w0 (fun _ => False) w [] := HT.take 0
                    exact ⟨rfl, HT⟩
                · have h := (if_neg hb8).symm.trans h
                  refine wp_if (b' := true) HF rfl (notF (decide_eq_false hb8)) ?_
                  refine wp_seq ?_
                  refine wc_text ?_
                  refine wc_assign HF nS rfl rfl rfl (fun a HF => ?_)
                  refine wc_end ?_
                  refine then_n ?_
                  refine wp_ret ?_
                  obtain rfl := Option.some.inj h
                  refine then_r (?_)
                  refine bp_ret HF (res_one rfl HF rfl) ?_
                  have HT : St w0 (fun _ => False) w [] := HT.take 0
                  exact ⟨rfl, HT⟩
            · have h := (if_neg hb6).symm.trans h
              refine wc_skip HF nS (HF.wn rfl rfl rfl rfl (notF (Bool.eq_false_iff.2 hb6))) rfl (fun a HF => ?_)
              refine wc_skip HF nS (HF.wn rfl rfl rfl rfl (notF (Bool.eq_false_iff.2 hb6))) rfl (fun a HF => ?_)
              refine wc_skip HF nS (HF.wn rfl rfl rfl rfl (notF (Bool.eq_false_iff.2 hb6))) rfl (fun a HF => ?_)
              refine wc_pick (b := true) HF nS rfl (notF (Bool.eq_false_iff.2 hb6)) rfl rfl rfl (fun a HF => ?_)
              refine wc_end ?_
              refine then_n ?_
              refine wp_if (b' := true) HF rfl rfl ?_
              refine wp_seq ?_
              refine wc_text ?_
              refine wc_assign HF nS rfl rfl rfl (fun a HF => ?_)
              refine wc_end ?_
              refine then_n ?_
              refine wp_ret ?_
              obtain rfl := Option.some.inj h
              refine then_r (?_)
              refine bp_ret HF (res_one rfl HF rfl) ?_
              have HT : St w0 (fun _ => False) w [] := HT.take 0
              exact ⟨rfl, HT⟩
        · have h := (if_neg hb4).symm.trans h
          refine wp_if (b' := true) HF rfl (notF (Bool.eq_false_iff.2 hb4)) ?_
          refine wp_seq ?_
          refine wc_text ?_
          refine wc_assign HF nS rfl rfl rfl (fun a HF => ?_)
          refine wc_end ?_
          refine then_n ?_
          refine wp_ret ?_
          obtain rfl := Option.some.inj h
          refine then_r (?_)
          refine bp_ret HF (res_one rfl HF rfl) ?_
          have HT : St w0 (fun _ => False) w [] := HT.take 0
          exact ⟨rfl, HT⟩
      · have h := (if_neg hb3).symm.trans h
        refine wp_if (b' := true) HF rfl (notF (Bool.eq_false_iff.2 hb3)) ?_
        refine wp_seq ?_
        refine wc_text ?_
        refine wc_assign HF nS rfl rfl rfl (fun a HF => ?_)
        refine wc_end ?_
        refine then_n ?_
        refine wp_ret ?_
        obtain rfl := Option.some.inj h
        refine then_r (?_)
        refine bp_ret HF (res_one rfl HF rfl) ?_
        have HT : St w0 (fun _ => False) w [] := HT.take 0
        exact ⟨rfl, HT⟩
    · have h := (if_neg hb2).symm.trans h
      refine wc_skip HF nS (HF.wn rfl rfl rfl rfl (notF (Bool.eq_false_iff.2 hb2))) rfl (fun a HF => ?_)
      refine wc_skip HF nS (HF.wn rfl rfl rfl rfl (notF (Bool.eq_false_iff.2 hb2))) rfl (fun a HF => ?_)
      refine wc_skip HF nS (HF.wn rfl rfl rfl rfl (notF (Bool.eq_false_iff.2 hb2))) rfl (fun a HF => ?_)
      refine wc_pick (b := true) HF nS rfl (notF (Bool.eq_false_iff.2 hb2)) rfl rfl rfl (fun a HF => ?_)
      refine wc_end ?_
      refine then_n ?_
      refine wp_if (b' := true) HF rfl rfl ?_
      refine wp_seq ?_
      refine wc_text ?_
      refine wc_assign HF nS rfl rfl rfl (fun a HF => ?_)
      refine wc_end ?_
      refine then_n ?_
      refine wp_ret ?_
      obtain rfl := Option.some.inj h
      refine then_r (?_)
      refine bp_ret HF (res_one rfl HF rfl) ?_
      have HT : St w0 (fun _ => False) w [] := HT.take 0
      exact ⟨rfl, HT⟩
end Go.Proofs.Ytmhdjnmfioaciaa
