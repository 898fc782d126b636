/- Walks of functions, by program: spec.l7Things, spec.l7AnyThings, spec.DrawSerialAll, spec.l7Ints, spec.SameThings, laws.FnSerial. -/
import Derived.Test.YtknghnmcckjjbaaTy
import Derived.Test.YtknghnmcckjjbaaS6
namespace Go.Proofs.Ytknghnmcckjjbaa
open Go Go.RowKit
set_option linter.unusedVariables false
set_option linter.unusedSimpArgs false
def m_spec_l7Things_L0 (fuel : Nat) (x0_0 : List UInt8) : Nat → Int → Int → (List Int) → Int → Option (List Int × Int × Int)
  | 0, _, _, _, _ => none
  | k1 + 1, z4, z5, z6, z7 =>
    if z7 < 8 then
      bind3 (
        bind3 (
          bind3 (m_spec_l1Once fuel x0_0 z4 z5 2) fun y7 y8 y9 =>
          if y7 = true then
            bind3 (m_spec_l3Draw fuel x0_0 y8 y9) fun y10 y11 y12 =>
            if in64 (1 + y10) then
              some (y11, y12, 1 + y10)
            else none
          else
          some (y8, y9, 0)) fun z11 z12 z13 =>
        if z6.length + 1 ≤ 17179869184 then
          some (z11, z12, z6 ++ ([z13] : List Int))
        else none) fun z8 z9 z10 =>
      if in64 (z7 + 1) then
        m_spec_l7Things_L0 fuel x0_0 k1 z8 z9 z10 (z7 + 1)
      else none
    else
    some (z6, z4, z5)

def m_spec_l7Things (fuel : Nat) (x0_0 : List UInt8) (x0_1 : Int) (x0_2 : Int) : Option (List Int × List Int × Int × Int × Int) :=
  bind3 (m_spec_l3DrawVals fuel x0_0 x0_1 x0_2) fun y1 y2 y3 =>
  bind3 (m_spec_l3Draw fuel x0_0 y2 y3) fun y4 y5 y6 =>
  bind3 (m_spec_l7Things_L0 fuel x0_0 fuel y5 y6 ([] : List Int) 0) fun z1 z2 z3 =>
  some (y1, z1, y4, z2, z3)

set_option maxRecDepth 100000 in
set_option maxHeartbeats 4000000 in
theorem w_spec_l7Things (fuel : Nat) {x0_0 : List UInt8} {x0_1 : Int} {x0_2 : Int} {a_x0_0 : Option Addr} {n_x0_0 c_x0_0 : Nat} {p_0 : Nat} {r0_0 : List Int} {r0_1 : List Int} {r0_2 : Int} {x0_1' : Int} {x0_2' : Int} {F : Foot} {w0 : World} (h : m_spec_l7Things fuel x0_0 x0_1 x0_2 = some (r0_0, r0_1, r0_2, x0_1', x0_2')) (hA : StF w0 F [Box p_0 [.slice a_x0_0 n_x0_0 c_x0_0, .int .i64 x0_1, .int .i64 x0_2]]) (hr_x0_0 : RdT (fun b => ¬ F b) w0 (rowT x0_0) (.slice a_x0_0 n_x0_0 c_x0_0)) :
    Calls Try.prog 119 #[.pointer (some ⟨p_0, 0, none⟩)] w0 fun e w => ∃ a_r0_0 n_r0_0 c_r0_0, ∃ a_r0_1 n_r0_1 c_r0_1, e = .returned (.agg #[.slice a_r0_0 n_r0_0 c_r0_0, .slice a_r0_1 n_r0_1 c_r0_1, .int .i64 r0_2]) ∧ St w0 F w [Own 3 (rowT r0_0) (.slice a_r0_0 n_r0_0 c_r0_0), Own 3 (rowT r0_1) (.slice a_r0_1 n_r0_1 c_r0_1), Box p_0 [.slice a_x0_0 n_x0_0 c_x0_0, .int .i64 x0_1', .int .i64 x0_2']] := by
  have HT0 := St.init hA
  obtain rfl := hr_x0_0.neq
  have HT : St w0 F w0 [Box p_0 [.slice a_x0_0 x0_0.length c_x0_0, .int .i64 x0_1, .int .i64 x0_2]] := St.init hA
  rw [m_spec_l7Things] at h
  refine calls_fr (n := 27) [.pointer (some ⟨p_0, 0, none⟩)] Try.func119 rfl rfl rfl fun a HF => ?_
  have HT : St w0 F w0 [Box p_0 [.slice a_x0_0 x0_0.length c_x0_0, .int .i64 x0_1, .int .i64 x0_2]] := HT
  refine wp_seq (wc_text (wc_alloc (cs := [.slice none 0 0, .slice none 0 0, .int .i64 0]) HF HT zr27 rfl rfl rfl (fun p1 w HT hb => ⟨nS, fun a HF => ?_⟩)))
  refine wc_end (then_n (wp_seq (wc_text (wm HF rfl rfl rfl fun a HF => ?_))))
  obtain ⟨y1, y2, y3, hx1, h⟩ := obs3 h
  have HT := HT.p1
  obtain ⟨F1, hAF1, hFF1, hbackF1, hroF1, hownF1, hownAF1⟩ := St.handR2 (A := [Box p_0 [.slice a_x0_0 x0_0.length c_x0_0, .int .i64 x0_1, .int .i64 x0_2]]) HT
  refine wc_call HF cf89 rfl (w_spec_l3DrawVals fuel hx1 hAF1 (hroF1 hr_x0_0)) rfl rfl ?_
  rintro e w ⟨a1, n1, c1, rfl, hE⟩
  have HT := hbackF1 _ _ hE
  obtain rfl := (HT.rdAt 0 rfl).neq
  have HT : St w0 F w [Own 3 (rowT y1) (.slice a1 y1.length c1), Box p_0 [.slice a_x0_0 x0_0.length c_x0_0, .int .i64 y2, .int .i64 y3], Box p1 [.slice none 0 0, .slice none 0 0, .int .i64 0]] := HT
  refine ⟨_, rfl, nS, fun a HF => ?_⟩
  refine wm HF rfl rfl rfl fun a HF => ?_
  obtain ⟨y4, y5, y6, hx2, h⟩ := obs3 h
  have HT := HT.p1
  obtain ⟨F2, hAF2, hFF2, hbackF2, hroF2, hownF2, hownAF2⟩ := St.handR2 (A := [Box p_0 [.slice a_x0_0 x0_0.length c_x0_0, .int .i64 y2, .int .i64 y3]]) HT
  refine wc_call HF cf88 rfl (w_spec_l3Draw fuel hx2 hAF2 (hroF2 hr_x0_0)) rfl rfl ?_
  rintro e w ⟨rfl, hE⟩
  have HT := hbackF2 _ _ hE
  have HT : St w0 F w [Box p_0 [.slice a_x0_0 x0_0.length c_x0_0, .int .i64 y5, .int .i64 y6], Own 3 (rowT y1) (.slice a1 y1.length c1), Box p1 [.slice none 0 0, .slice none 0 0, .int .i64 0]] := HT
  refine ⟨_, rfl, nS, fun a HF => ?_⟩
  refine wc_build (cs := #[.slice a1 y1.length c1, .slice none 0 0, .int .i64 y4]) HF nS bd27 rfl rfl rfl rfl fun a HF => ?_
  refine wc_alloc (cs := [.slice none 0 0, .slice none 0 0, .int .i64 0]) HF HT zr27 rfl rfl rfl (fun p2 w HT hb => ⟨nS, fun a HF => ?_⟩)
  refine wc_storeB (cs' := [.slice a1 y1.length c1, .slice none 0 0, .int .i64 y4]) HF HT rfl rfl (fun w => (ag27 w).2) rfl rfl rfl rfl rfl (fun w HT => ⟨nS, ?_⟩)
  refine wc_end (then_n ?_)
  obtain ⟨z1, z2, z3, hx3, h⟩ := obs3 h
  refine wp_cut (fun a w => ∃ a2 n2 c2, Fr a 27 [(2, .pointer (some ⟨p1, 0, none⟩)), (3, .pointer (some ⟨p2, 0, none⟩))] ∧ St w0 F w [Box p1 [.slice none 0 0, .slice none 0 0, .int .i64 0], Own 3 (rowT y1) (.slice a1 y1.length c1), Own 3 (rowT z1) (.slice a2 n2 c2), Box p2 [.slice a1 y1.length c1, .slice a2 n2 c2, .int .i64 y4], Box p_0 [.slice a_x0_0 x0_0.length c_x0_0, .int .i64 z2, .int .i64 z3]]) ?_ ?_
  have hk1 := h
  have h := hx3
  refine wp_seq (wc_text (wa HF rfl rfl rfl fun a HF => ?_))
  refine wc_end (then_n (wp_block ?_))
  have HT := HT.nilrow (E := Int) 3
  have HT := HT.p1.p1.p3.p4.p4
  refine wp_loopN (fun k1 a w => ∃ z4 z5 z6 z7 a3 n3 c3, m_spec_l7Things_L0 fuel x0_0 k1 z4 z5 z6 z7 = some (z1, z2, z3) ∧ Fr a 27 [(0, .pointer (some ⟨p_0, 0, none⟩)), (2, .pointer (some ⟨p1, 0, none⟩)), (3, .pointer (some ⟨p2, 0, none⟩)), (4, .int .i64 z7)] ∧ St w0 F w [Box p_0 [.slice a_x0_0 x0_0.length c_x0_0, .int .i64 z4, .int .i64 z5], Box p1 [.slice none 0 0, .slice none 0 0, .int .i64 0], Own 3 (rowT y1) (.slice a1 y1.length c1), Own 3 (rowT z6) (.slice a3 n3 c3), Box p2 [.slice a1 y1.length c1, .slice a3 n3 c3, .int .i64 y4]]) fuel ⟨y5, y6, ([] : List Int), 0, none, 0, 0, h, (HF.keep (HF.keep (HF.keep (HF.keep HF.nil rfl) rfl) rfl) rfl), HT⟩ ?_
  rintro k1 a w ⟨z4, z5, z6, z7, a3, n3, c3, h, HF, HT⟩
  rcases k1 with _ | k1
  cases h
  rw [m_spec_l7Things_L0] at h
  obtain rfl := (HT.rdAt 3 rfl).neq
  refine ?_
  refine wp_seq (wp_seq (wc_text (wm HF rfl rfl rfl fun a HF => ?_)))
  refine wc_bin HF nS rfl rfl b_lt rfl rfl fun a HF => ?_
  refine wc_end (then_n ?_)
  by_cases hb1 : z7 < 8
  have h := ifp hb1 h
  refine wp_if (b' := true) HF rfl (decide_eq_true hb1) ?_
  refine wp_skip (then_n ?_)
  obtain ⟨z8, z9, z10, hx4, h⟩ := obs3 h
  refine wp_cut (fun a w => ∃ a4 n4 c4, Fr a 27 [(0, .pointer (some ⟨p_0, 0, none⟩)), (2, .pointer (some ⟨p1, 0, none⟩)), (3, .pointer (some ⟨p2, 0, none⟩)), (4, .int .i64 z7)] ∧ St w0 F w [Box p_0 [.slice a_x0_0 x0_0.length c_x0_0, .int .i64 z8, .int .i64 z9], Box p1 [.slice none 0 0, .slice none 0 0, .int .i64 0], Own 3 (rowT y1) (.slice a1 y1.length c1), Own 3 (rowT z10) (.slice a4 n4 c4), Box p2 [.slice a1 y1.length c1, .slice a4 n4 c4, .int .i64 y4]]) ?_ ?_
  have hk2 := h
  have h := hx4
  refine wp_block (wp_seq (wc_text (wa HF rfl rfl rfl fun a HF => ?_)))
  refine wc_end (then_n ?_)
  obtain ⟨z11, z12, z13, hx5, h⟩ := obs3 h
  refine wp_cut (fun a w => Fr a 27 [(0, .pointer (some ⟨p_0, 0, none⟩)), (2, .pointer (some ⟨p1, 0, none⟩)), (3, .pointer (some ⟨p2, 0, none⟩)), (4, .int .i64 z7), (5, .int .i64 z13)] ∧ St w0 F w [Box p_0 [.slice a_x0_0 x0_0.length c_x0_0, .int .i64 z11, .int .i64 z12], Box p1 [.slice none 0 0, .slice none 0 0, .int .i64 0], Own 3 (rowT y1) (.slice a1 y1.length c1), Own 3 (rowT z6) (.slice a3 z6.length c3), Box p2 [.slice a1 y1.length c1, .slice a3 z6.length c3, .int .i64 y4]]) ?_ ?_
  have hk3 := h
  have h := hx5
  refine wp_seq (wc_text (wm HF rfl rfl rfl fun a HF => ?_))
  obtain ⟨y7, y8, y9, hx6, h⟩ := obs3 h
  obtain ⟨F3, hAF3, hFF3, hbackF3, hroF3, hownF3, hownAF3⟩ := St.handR2 (A := [Box p_0 [.slice a_x0_0 x0_0.length c_x0_0, .int .i64 z4, .int .i64 z5]]) HT
  refine wc_call HF cf86 rfl (w_spec_l1Once fuel hx6 hAF3 (hroF3 hr_x0_0)) rfl rfl ?_
  rintro e w ⟨rfl, hE⟩
  have HT := hbackF3 _ _ hE
  have HT : St w0 F w [Box p_0 [.slice a_x0_0 x0_0.length c_x0_0, .int .i64 y8, .int .i64 y9], Box p1 [.slice none 0 0, .slice none 0 0, .int .i64 0], Own 3 (rowT y1) (.slice a1 y1.length c1), Own 3 (rowT z6) (.slice a3 z6.length c3), Box p2 [.slice a1 y1.length c1, .slice a3 z6.length c3, .int .i64 y4]] := HT
  refine ⟨_, rfl, nS, fun a HF => ?_⟩
  refine wc_end (then_n ?_)
  by_cases hb2 : y7 = true
  have h := ifp hb2 h
  refine wp_if (b' := true) HF rfl hb2 ?_
  refine wc_text (wm HF rfl rfl rfl fun a HF => ?_)
  obtain ⟨y10, y11, y12, hx7, h⟩ := obs3 h
  obtain ⟨F4, hAF4, hFF4, hbackF4, hroF4, hownF4, hownAF4⟩ := St.handR2 (A := [Box p_0 [.slice a_x0_0 x0_0.length c_x0_0, .int .i64 y8, .int .i64 y9]]) HT
  refine wc_call HF cf88 rfl (w_spec_l3Draw fuel hx7 hAF4 (hroF4 hr_x0_0)) rfl rfl ?_
  rintro e w ⟨rfl, hE⟩
  have HT := hbackF4 _ _ hE
  have HT : St w0 F w [Box p_0 [.slice a_x0_0 x0_0.length c_x0_0, .int .i64 y11, .int .i64 y12], Box p1 [.slice none 0 0, .slice none 0 0, .int .i64 0], Own 3 (rowT y1) (.slice a1 y1.length c1), Own 3 (rowT z6) (.slice a3 z6.length c3), Box p2 [.slice a1 y1.length c1, .slice a3 z6.length c3, .int .i64 y4]] := HT
  refine ⟨_, rfl, nS, fun a HF => ?_⟩
  obtain ⟨hg1, h⟩ := grd h
  refine wc_bin HF nS rfl rfl (b_add hg1) rfl rfl fun a HF => ?_
  refine wa HF rfl rfl rfl fun a HF => ?_
  refine wc_end ?_
  have hj1 := Option.some.inj h
  obtain ⟨rfl, hj2⟩ := Prod.mk.inj hj1
  obtain ⟨rfl, hj3⟩ := Prod.mk.inj hj2
  subst hj3
  exact then_n ⟨(HF.keep (HF.keep (HF.keep (HF.keep (HF.keep HF.nil rfl) rfl) rfl) rfl) rfl), HT⟩
  have h := ifn hb2 h
  refine wp_if (b' := false) HF rfl (Bool.eq_false_iff.2 hb2) ?_
  refine wp_skip ?_
  have hj4 := Option.some.inj h
  obtain ⟨rfl, hj5⟩ := Prod.mk.inj hj4
  obtain ⟨rfl, hj6⟩ := Prod.mk.inj hj5
  subst hj6
  exact then_n ⟨(HF.keep (HF.keep (HF.keep (HF.keep (HF.keep HF.nil rfl) rfl) rfl) rfl) rfl), HT⟩
  rintro a w ⟨HF, HT⟩
  refine ?_
  refine wc_text (wc_faddr HF nS rfl fl27_1 rfl rfl fun a HF => ?_)
  refine wc_load HF rfl sc22 ((HT.boxAt 4 rfl).get 1 rfl) rfl rfl fun a HF => ?_
  refine wm HF rfl rfl rfl fun a HF => ?_
  refine wc_bslice (l := ([z13] : List Int)) (cs := [.int .i64 z13]) (A := []) HF HT bs22_1 rfl rfl (gives_flat rfl) rfl (by decide) rfl rfl (fun p3 w HT hb  => ⟨nS, fun a HF => ?_⟩)
  obtain ⟨hg2, h⟩ := grd h
  have HT := HT.p4
  refine wc_append HF HT el22 rfl rfl (Nat.zero_lt_succ _) hg2 rfl rfl rfl (fun a5 c5 w HT => ⟨nS, fun a HF => ?_⟩)
  refine wc_faddr HF nS rfl fl27_1 rfl rfl fun a HF => ?_
  have HT := HT.p4
  refine wc_storeB (cs' := [.slice a1 y1.length c1, .slice a5 ((z6 ++ ([z13] : List Int)).length) c5, .int .i64 y4]) HF HT rfl rfl (fun w => (sc22 w).2) rfl rfl rfl rfl rfl (fun w HT => ⟨nS, ?_⟩)
  refine wc_end (blk_n ?_)
  have HT := HT.p1.p4.p4.p4
  have hj7 := Option.some.inj h
  obtain ⟨rfl, hj8⟩ := Prod.mk.inj hj7
  obtain ⟨rfl, hj9⟩ := Prod.mk.inj hj8
  subst hj9
  exact then_n ⟨a5, (z6 ++ ([z13] : List Int)).length, c5, (HF.keep (HF.keep (HF.keep (HF.keep HF.nil rfl) rfl) rfl) rfl), HT⟩
  rintro a w ⟨a4, n4, c4, HF, HT⟩
  obtain rfl := (HT.rdAt 3 rfl).neq
  refine ?_
  refine wc_text (wm HF rfl rfl rfl fun a HF => ?_)
  obtain ⟨hg3, h⟩ := grd h
  refine wc_bin HF nS rfl rfl (b_add hg3) rfl rfl fun a HF => ?_
  refine wa HF rfl rfl rfl fun a HF => ?_
  exact wc_end (then_n ⟨k1, Nat.lt_succ_self k1, z8, z9, z10, z7 + 1, a4, z10.length, c4, h, (HF.keep (HF.keep (HF.keep (HF.keep HF.nil rfl) rfl) rfl) rfl), HT⟩)
  have h := ifn hb1 h
  refine wp_if (b' := false) HF rfl (decide_eq_false hb1) ?_
  refine wp_exit ?_
  refine then_x (then_x (?_))
  refine blk_x ?_
  have HT := HT.p4.p4.p4.p4
  have hj10 := Option.some.inj h
  obtain ⟨rfl, hj11⟩ := Prod.mk.inj hj10
  obtain ⟨rfl, hj12⟩ := Prod.mk.inj hj11
  subst hj12
  exact then_n ⟨a3, z6.length, c3, (HF.keep (HF.keep HF.nil rfl) rfl), HT⟩
  rintro a w ⟨a2, n2, c2, HF, HT⟩
  obtain rfl := (HT.rdAt 2 rfl).neq
  refine ?_
  refine wp_seq (wc_text (wc_loadA (vs := [.slice a1 y1.length c1, .slice a2 z1.length c2, .int .i64 y4]) HF rfl ag27 rfl ((HT.boxAt 3 rfl).part 0 3) rfl rfl fun a HF => ?_))
  refine wc_storeB (cs' := [.slice a1 y1.length c1, .slice a2 z1.length c2, .int .i64 y4]) HF HT rfl rfl (fun w => (ag27 w).2) rfl rfl rfl rfl rfl (fun w HT => ⟨nS, ?_⟩)
  refine wc_end (then_n (wp_ret ?_))
  have hj13 := Option.some.inj h
  obtain ⟨rfl, hj14⟩ := Prod.mk.inj hj13
  obtain ⟨rfl, hj15⟩ := Prod.mk.inj hj14
  obtain ⟨rfl, hj16⟩ := Prod.mk.inj hj15
  obtain ⟨rfl, hj17⟩ := Prod.mk.inj hj16
  subst hj17
  refine bp_ret HF (res_cell (vs := [.slice a1 y1.length c1, .slice a2 z1.length c2, .int .i64 y4]) rfl HF rfl ag27 rfl (HT.boxAt 0 rfl)) ?_
  have HT := HT.p4.p3.p3.t3
  exact ⟨a1, y1.length, c1, a2, z1.length, c2, rfl, HT⟩

def m_spec_l7AnyThings (fuel : Nat) (x0_0 : List UInt8) (x0_1 : Int) (x0_2 : Int) : Option (List Int × List Int × Int × Int × Int) :=
  bind5 (m_spec_l7Things fuel x0_0 x0_1 x0_2) fun y1 y2 y3 y4 y5 =>
  bind5 (
    bind3 (m_spec_l1Below fuel x0_0 y4 y5 16) fun y6 y7 y8 =>
    if y6 = 0 then
      if 0 ≤ (7 : Int) ∧ 7 ≤ (y1.length : Int) then
        some (subl y1 0 7, y2, y3, y7, y8)
      else none
    else
    if y6 = 1 then
      bind3 (m_spec_l1Below fuel x0_0 y7 y8 8) fun y9 y10 y11 =>
      (at? y2 y9).bind fun e1 =>
      some (y1, y2.set y9.toNat 65537, y3, y10, y11)
    else
    if y6 = 2 then
      some (y1, y2, 65536, y7, y8)
    else
    if y6 = 3 then
      if 0 ≤ (3 : Int) ∧ 3 ≤ (y2.length : Int) then
        some (y1, subl y2 0 3, y3, y7, y8)
      else none
    else
    if y6 = 4 then
      bind3 (m_spec_l1Below fuel x0_0 y7 y8 8) fun y12 y13 y14 =>
      (at? y1 y12).bind fun e2 =>
      some (y1.set y12.toNat (-1), y2, y3, y13, y14)
    else
    some (y1, y2, y3, y7, y8)) fun z1 z2 z3 z4 z5 =>
  some (z1, z2, z3, z4, z5)

set_option maxRecDepth 100000 in
set_option maxHeartbeats 4000000 in
theorem w_spec_l7AnyThings (fuel : Nat) {x0_0 : List UInt8} {x0_1 : Int} {x0_2 : Int} {a_x0_0 : Option Addr} {n_x0_0 c_x0_0 : Nat} {p_0 : Nat} {r0_0 : List Int} {r0_1 : List Int} {r0_2 : Int} {x0_1' : Int} {x0_2' : Int} {F : Foot} {w0 : World} (h : m_spec_l7AnyThings fuel x0_0 x0_1 x0_2 = some (r0_0, r0_1, r0_2, x0_1', x0_2')) (hA : StF w0 F [Box p_0 [.slice a_x0_0 n_x0_0 c_x0_0, .int .i64 x0_1, .int .i64 x0_2]]) (hr_x0_0 : RdT (fun b => ¬ F b) w0 (rowT x0_0) (.slice a_x0_0 n_x0_0 c_x0_0)) :
    Calls Try.prog 97 #[.pointer (some ⟨p_0, 0, none⟩)] w0 fun e w => ∃ a_r0_0 n_r0_0 c_r0_0, ∃ a_r0_1 n_r0_1 c_r0_1, e = .returned (.agg #[.slice a_r0_0 n_r0_0 c_r0_0, .slice a_r0_1 n_r0_1 c_r0_1, .int .i64 r0_2]) ∧ St w0 F w [Own 3 (rowT r0_0) (.slice a_r0_0 n_r0_0 c_r0_0), Own 3 (rowT r0_1) (.slice a_r0_1 n_r0_1 c_r0_1), Box p_0 [.slice a_x0_0 n_x0_0 c_x0_0, .int .i64 x0_1', .int .i64 x0_2']] := by
  have HT0 := St.init hA
  obtain rfl := hr_x0_0.neq
  have HT : St w0 F w0 [Box p_0 [.slice a_x0_0 x0_0.length c_x0_0, .int .i64 x0_1, .int .i64 x0_2]] := St.init hA
  rw [m_spec_l7AnyThings] at h
  refine calls_fr (n := 38) [.pointer (some ⟨p_0, 0, none⟩)] Try.func97 rfl rfl rfl fun a HF => ?_
  have HT : St w0 F w0 [Box p_0 [.slice a_x0_0 x0_0.length c_x0_0, .int .i64 x0_1, .int .i64 x0_2]] := HT
  refine wp_seq (wc_text (wc_alloc (cs := [.slice none 0 0, .slice none 0 0, .int .i64 0]) HF HT zr27 rfl rfl rfl (fun p1 w HT hb => ⟨nS, fun a HF => ?_⟩)))
  refine wc_end (then_n (wp_seq (wc_text (wm HF rfl rfl rfl fun a HF => ?_))))
  obtain ⟨y1, y2, y3, y4, y5, hx1, h⟩ := obs5 h
  have HT := HT.p1
  obtain ⟨F1, hAF1, hFF1, hbackF1, hroF1, hownF1, hownAF1⟩ := St.handR2 (A := [Box p_0 [.slice a_x0_0 x0_0.length c_x0_0, .int .i64 x0_1, .int .i64 x0_2]]) HT
  refine wc_call HF cf119 rfl (w_spec_l7Things fuel hx1 hAF1 (hroF1 hr_x0_0)) rfl rfl ?_
  rintro e w ⟨a1, n1, c1, a2, n2, c2, rfl, hE⟩
  have HT := hbackF1 _ _ hE
  obtain rfl := (HT.rdAt 0 rfl).neq
  obtain rfl := (HT.rdAt 1 rfl).neq
  have HT : St w0 F w [Own 3 (rowT y1) (.slice a1 y1.length c1), Own 3 (rowT y2) (.slice a2 y2.length c2), Box p_0 [.slice a_x0_0 x0_0.length c_x0_0, .int .i64 y4, .int .i64 y5], Box p1 [.slice none 0 0, .slice none 0 0, .int .i64 0]] := HT
  refine ⟨_, rfl, nS, fun a HF => ?_⟩
  refine wc_alloc (cs := [.slice none 0 0, .slice none 0 0, .int .i64 0]) HF HT zr27 rfl rfl rfl (fun p2 w HT hb => ⟨nS, fun a HF => ?_⟩)
  refine wc_storeB (cs' := [.slice a1 y1.length c1, .slice a2 y2.length c2, .int .i64 y3]) HF HT rfl rfl (fun w => (ag27 w).2) rfl rfl rfl rfl rfl (fun w HT => ⟨nS, ?_⟩)
  refine wc_end (then_n ?_)
  obtain ⟨z1, z2, z3, z4, z5, hx2, h⟩ := obs5 h
  refine wp_cut (fun a w => ∃ a3 n3 c3 a4 n4 c4, Fr a 38 [(2, .pointer (some ⟨p1, 0, none⟩)), (3, .pointer (some ⟨p2, 0, none⟩))] ∧ St w0 F w [Box p1 [.slice none 0 0, .slice none 0 0, .int .i64 0], Own 3 (rowT z1) (.slice a3 n3 c3), Own 3 (rowT z2) (.slice a4 n4 c4), Box p2 [.slice a3 n3 c3, .slice a4 n4 c4, .int .i64 z3], Box p_0 [.slice a_x0_0 x0_0.length c_x0_0, .int .i64 z4, .int .i64 z5]]) ?_ ?_
  have hk1 := h
  have h := hx2
  refine wp_seq (wc_text (wm HF rfl rfl rfl fun a HF => ?_))
  obtain ⟨y6, y7, y8, hx3, h⟩ := obs3 h
  have HT := HT.p3
  obtain ⟨F2, hAF2, hFF2, hbackF2, hroF2, hownF2, hownAF2⟩ := St.handR2 (A := [Box p_0 [.slice a_x0_0 x0_0.length c_x0_0, .int .i64 y4, .int .i64 y5]]) HT
  refine wc_call HF cf90 rfl (w_spec_l1Below fuel hx3 hAF2 (hroF2 hr_x0_0)) rfl rfl ?_
  rintro e w ⟨rfl, hE⟩
  have HT := hbackF2 _ _ hE
  have HT : St w0 F w [Box p_0 [.slice a_x0_0 x0_0.length c_x0_0, .int .i64 y7, .int .i64 y8], Box p2 [.slice a1 y1.length c1, .slice a2 y2.length c2, .int .i64 y3], Own 3 (rowT y1) (.slice a1 y1.length c1), Own 3 (rowT y2) (.slice a2 y2.length c2), Box p1 [.slice none 0 0, .slice none 0 0, .int .i64 0]] := HT
  refine ⟨_, rfl, nS, fun a HF => ?_⟩
  refine wc_end (then_n (wp_block (wp_seq (wc_text (wc_bin HF nS rfl rfl b_eq rfl rfl fun a HF => ?_)))))
  refine wa HF rfl rfl rfl fun a HF => ?_
  refine wc_end (then_n ?_)
  by_cases hb1 : y6 = 0
  have h := ifp hb1 h
  refine wp_if (b' := true) HF rfl (decide_eq_true hb1) ?_
  refine wc_text (wc_faddr HF nS rfl fl27_0 rfl rfl fun a HF => ?_)
  refine wc_load HF rfl sc22 ((HT.boxAt 1 rfl).get 0 rfl) rfl rfl fun a HF => ?_
  have HT := HT.p2
  obtain ⟨hg1, h⟩ := grd h
  obtain ⟨HT, hcut⟩ := St.cutO HT hg1
  refine wc_slrH HF nS el22 rfl rfl hcut rfl rfl fun a HF => ?_
  refine wc_faddr HF nS rfl fl27_0 rfl rfl fun a HF => ?_
  have HT := HT.p2
  refine wc_storeB (cs' := [.slice a1 ((subl y1 0 7).length) c1, .slice a2 y2.length c2, .int .i64 y3]) HF HT rfl rfl (fun w => (sc22 w).2) rfl rfl rfl rfl rfl (fun w HT => ⟨nS, ?_⟩)
  refine wc_end (blk_n ?_)
  have HT := HT.p2.p1.p3.p3.p4
  have hj1 := Option.some.inj h
  obtain ⟨rfl, hj2⟩ := Prod.mk.inj hj1
  obtain ⟨rfl, hj3⟩ := Prod.mk.inj hj2
  obtain ⟨rfl, hj4⟩ := Prod.mk.inj hj3
  obtain ⟨rfl, hj5⟩ := Prod.mk.inj hj4
  subst hj5
  exact then_n ⟨a1, (subl y1 0 7).length, c1, a2, y2.length, c2, (HF.keep (HF.keep HF.nil rfl) rfl), HT⟩
  have h := ifn hb1 h
  refine wp_if (b' := false) HF rfl (decide_eq_false hb1) ?_
  refine wp_seq (wc_text (wc_bin HF nS rfl rfl b_eq rfl rfl fun a HF => ?_))
  refine wa HF rfl rfl rfl fun a HF => ?_
  refine wc_end (then_n ?_)
  by_cases hb2 : y6 = 1
  have h := ifp hb2 h
  refine wp_if (b' := true) HF rfl (decide_eq_true hb2) ?_
  refine wp_region_can [(0, false), (1, false), (2, true), (3, false), (4, true), (5, true)] (fun w' => w'.cell? ⟨p2, 1, none⟩ = some (.slice a2 y2.length c2) ∧ True) (by kernel_rfl) (by kernel_rfl) ?_
  have HT := HT.drew
  refine wc_faddr HF (fun _ => ⟨(HT.boxAt 1 rfl).get 1 rfl, trivial⟩) rfl fl27_1 rfl rfl fun a HF => ?_
  refine wc_loadS HF ⟨(HT.boxAt 1 rfl).get 1 rfl, trivial⟩ rfl sc22 (fun w hS => hS.1) rfl rfl fun a HF => ?_
  refine wm HF rfl rfl rfl fun a HF => ?_
  obtain ⟨y9, y10, y11, hx4, h⟩ := obs3 h
  obtain ⟨F3, hAF3, hFF3, hbackF3, hroF3, hownF3, hownAF3⟩ := St.handR2 (A := [Box p_0 [.slice a_x0_0 x0_0.length c_x0_0, .int .i64 y7, .int .i64 y8]]) HT
  refine wc_call HF cf90 rfl (w_spec_l1Below fuel hx4 hAF3 (hroF3 hr_x0_0)) rfl rfl ?_
  rintro e w ⟨rfl, hE⟩
  have HT := hbackF3 _ _ hE
  have HT : St w0 F w [Box p_0 [.slice a_x0_0 x0_0.length c_x0_0, .int .i64 y10, .int .i64 y11], Box p2 [.slice a1 y1.length c1, .slice a2 y2.length c2, .int .i64 y3], Own 3 (rowT y1) (.slice a1 y1.length c1), Own 3 (rowT y2) (.slice a2 y2.length c2), Box p1 [.slice none 0 0, .slice none 0 0, .int .i64 0]] := HT
  refine ⟨_, rfl, (fun _ => ⟨(HT.boxAt 1 rfl).get 1 rfl, trivial⟩), fun a HF => ?_⟩
  obtain ⟨e1, hx5, h⟩ := obs h
  obtain ⟨b1, o1, ha1⟩ := (HT.rdAt 3 rfl).addr hx5
  refine wc_ixaddr HF nS el22 rfl ha1 ((HT.rdAt 3 rfl)).neq rfl hx5 rfl rfl fun a HF => ?_
  have HT := HT.p3
  refine wc_storeR (i := y9) (j := 0) (x' := 65537) HF HT ha1 rfl rfl (fun w => (sc3 w).2) rfl rfl hx5 rfl rfl rfl rfl (fun w HT => ⟨nS, ?_⟩)
  refine wc_endN (blk_n ?_)
  have HT := HT.p1.p2.p2.p3.p4
  have hj6 := Option.some.inj h
  obtain ⟨rfl, hj7⟩ := Prod.mk.inj hj6
  obtain ⟨rfl, hj8⟩ := Prod.mk.inj hj7
  obtain ⟨rfl, hj9⟩ := Prod.mk.inj hj8
  obtain ⟨rfl, hj10⟩ := Prod.mk.inj hj9
  subst hj10
  exact then_n ⟨a1, y1.length, c1, a2, y2.length, c2, (HF.keep (HF.keep HF.nil rfl) rfl), HT⟩
  have h := ifn hb2 h
  refine wp_if (b' := false) HF rfl (decide_eq_false hb2) ?_
  refine wp_seq (wc_text (wc_bin HF nS rfl rfl b_eq rfl rfl fun a HF => ?_))
  refine wa HF rfl rfl rfl fun a HF => ?_
  refine wc_end (then_n ?_)
  by_cases hb3 : y6 = 2
  have h := ifp hb3 h
  refine wp_if (b' := true) HF rfl (decide_eq_true hb3) ?_
  refine wc_text (wc_faddr HF nS rfl fl27_2 rfl rfl fun a HF => ?_)
  have HT := HT.p1
  refine wc_storeB (cs' := [.slice a1 y1.length c1, .slice a2 y2.length c2, .int .i64 65536]) HF HT rfl rfl (fun w => (sc3 w).2) rfl rfl rfl rfl rfl (fun w HT => ⟨nS, ?_⟩)
  refine wc_end (blk_n ?_)
  have HT := HT.p1.p1.p3.p3.p4
  have hj11 := Option.some.inj h
  obtain ⟨rfl, hj12⟩ := Prod.mk.inj hj11
  obtain ⟨rfl, hj13⟩ := Prod.mk.inj hj12
  obtain ⟨rfl, hj14⟩ := Prod.mk.inj hj13
  obtain ⟨rfl, hj15⟩ := Prod.mk.inj hj14
  subst hj15
  exact then_n ⟨a1, y1.length, c1, a2, y2.length, c2, (HF.keep (HF.keep HF.nil rfl) rfl), HT⟩
  have h := ifn hb3 h
  refine wp_if (b' := false) HF rfl (decide_eq_false hb3) ?_
  refine wp_seq (wc_text (wc_bin HF nS rfl rfl b_eq rfl rfl fun a HF => ?_))
  refine wa HF rfl rfl rfl fun a HF => ?_
  refine wc_end (then_n ?_)
  by_cases hb4 : y6 = 3
  have h := ifp hb4 h
  refine wp_if (b' := true) HF rfl (decide_eq_true hb4) ?_
  refine wc_text (wc_faddr HF nS rfl fl27_1 rfl rfl fun a HF => ?_)
  refine wc_load HF rfl sc22 ((HT.boxAt 1 rfl).get 1 rfl) rfl rfl fun a HF => ?_
  have HT := HT.p3
  obtain ⟨hg2, h⟩ := grd h
  obtain ⟨HT, hcut⟩ := St.cutO HT hg2
  refine wc_slrH HF nS el22 rfl rfl hcut rfl rfl fun a HF => ?_
  refine wc_faddr HF nS rfl fl27_1 rfl rfl fun a HF => ?_
  have HT := HT.p2
  refine wc_storeB (cs' := [.slice a1 y1.length c1, .slice a2 ((subl y2 0 3).length) c2, .int .i64 y3]) HF HT rfl rfl (fun w => (sc22 w).2) rfl rfl rfl rfl rfl (fun w HT => ⟨nS, ?_⟩)
  refine wc_end (blk_n ?_)
  have HT := HT.p2.p1.p2.p3.p4
  have hj16 := Option.some.inj h
  obtain ⟨rfl, hj17⟩ := Prod.mk.inj hj16
  obtain ⟨rfl, hj18⟩ := Prod.mk.inj hj17
  obtain ⟨rfl, hj19⟩ := Prod.mk.inj hj18
  obtain ⟨rfl, hj20⟩ := Prod.mk.inj hj19
  subst hj20
  exact then_n ⟨a1, y1.length, c1, a2, (subl y2 0 3).length, c2, (HF.keep (HF.keep HF.nil rfl) rfl), HT⟩
  have h := ifn hb4 h
  refine wp_if (b' := false) HF rfl (decide_eq_false hb4) ?_
  refine wp_seq (wc_text (wc_bin HF nS rfl rfl b_eq rfl rfl fun a HF => ?_))
  refine wa HF rfl rfl rfl fun a HF => ?_
  refine wc_end (then_n ?_)
  by_cases hb5 : y6 = 4
  have h := ifp hb5 h
  refine wp_if (b' := true) HF rfl (decide_eq_true hb5) ?_
  refine wp_region_can [(0, false), (1, false), (2, true), (3, false), (4, true), (5, true)] (fun w' => w'.cell? ⟨p2, 0, none⟩ = some (.slice a1 y1.length c1) ∧ True) (by kernel_rfl) (by kernel_rfl) ?_
  have HT := HT.drew
  refine wc_faddr HF (fun _ => ⟨(HT.boxAt 1 rfl).get 0 rfl, trivial⟩) rfl fl27_0 rfl rfl fun a HF => ?_
  refine wc_loadS HF ⟨(HT.boxAt 1 rfl).get 0 rfl, trivial⟩ rfl sc22 (fun w hS => hS.1) rfl rfl fun a HF => ?_
  refine wm HF rfl rfl rfl fun a HF => ?_
  obtain ⟨y12, y13, y14, hx6, h⟩ := obs3 h
  obtain ⟨F4, hAF4, hFF4, hbackF4, hroF4, hownF4, hownAF4⟩ := St.handR2 (A := [Box p_0 [.slice a_x0_0 x0_0.length c_x0_0, .int .i64 y7, .int .i64 y8]]) HT
  refine wc_call HF cf90 rfl (w_spec_l1Below fuel hx6 hAF4 (hroF4 hr_x0_0)) rfl rfl ?_
  rintro e w ⟨rfl, hE⟩
  have HT := hbackF4 _ _ hE
  have HT : St w0 F w [Box p_0 [.slice a_x0_0 x0_0.length c_x0_0, .int .i64 y13, .int .i64 y14], Box p2 [.slice a1 y1.length c1, .slice a2 y2.length c2, .int .i64 y3], Own 3 (rowT y1) (.slice a1 y1.length c1), Own 3 (rowT y2) (.slice a2 y2.length c2), Box p1 [.slice none 0 0, .slice none 0 0, .int .i64 0]] := HT
  refine ⟨_, rfl, (fun _ => ⟨(HT.boxAt 1 rfl).get 0 rfl, trivial⟩), fun a HF => ?_⟩
  obtain ⟨e2, hx7, h⟩ := obs h
  obtain ⟨b2, o2, ha2⟩ := (HT.rdAt 2 rfl).addr hx7
  refine wc_ixaddr HF nS el22 rfl ha2 ((HT.rdAt 2 rfl)).neq rfl hx7 rfl rfl fun a HF => ?_
  have HT := HT.p2
  refine wc_storeR (i := y12) (j := 0) (x' := (-1)) HF HT ha2 rfl rfl (fun w => (sc3 w).2) rfl rfl hx7 rfl rfl rfl rfl (fun w HT => ⟨nS, ?_⟩)
  refine wc_endN (blk_n ?_)
  have HT := HT.p1.p2.p3.p3.p4
  have hj21 := Option.some.inj h
  obtain ⟨rfl, hj22⟩ := Prod.mk.inj hj21
  obtain ⟨rfl, hj23⟩ := Prod.mk.inj hj22
  obtain ⟨rfl, hj24⟩ := Prod.mk.inj hj23
  obtain ⟨rfl, hj25⟩ := Prod.mk.inj hj24
  subst hj25
  exact then_n ⟨a1, y1.length, c1, a2, y2.length, c2, (HF.keep (HF.keep HF.nil rfl) rfl), HT⟩
  have h := ifn hb5 h
  refine wp_if (b' := false) HF rfl (decide_eq_false hb5) ?_
  refine wp_skip (blk_n ?_)
  have HT := HT.p1.p3.p3.p4
  have hj26 := Option.some.inj h
  obtain ⟨rfl, hj27⟩ := Prod.mk.inj hj26
  obtain ⟨rfl, hj28⟩ := Prod.mk.inj hj27
  obtain ⟨rfl, hj29⟩ := Prod.mk.inj hj28
  obtain ⟨rfl, hj30⟩ := Prod.mk.inj hj29
  subst hj30
  exact then_n ⟨a1, y1.length, c1, a2, y2.length, c2, (HF.keep (HF.keep HF.nil rfl) rfl), HT⟩
  rintro a w ⟨a3, n3, c3, a4, n4, c4, HF, HT⟩
  obtain rfl := (HT.rdAt 1 rfl).neq
  obtain rfl := (HT.rdAt 2 rfl).neq
  refine ?_
  refine wp_seq (wc_text (wc_loadA (vs := [.slice a3 z1.length c3, .slice a4 z2.length c4, .int .i64 z3]) HF rfl ag27 rfl ((HT.boxAt 3 rfl).part 0 3) rfl rfl fun a HF => ?_))
  refine wc_storeB (cs' := [.slice a3 z1.length c3, .slice a4 z2.length c4, .int .i64 z3]) HF HT rfl rfl (fun w => (ag27 w).2) rfl rfl rfl rfl rfl (fun w HT => ⟨nS, ?_⟩)
  refine wc_end (then_n (wp_ret ?_))
  have hj31 := Option.some.inj h
  obtain ⟨rfl, hj32⟩ := Prod.mk.inj hj31
  obtain ⟨rfl, hj33⟩ := Prod.mk.inj hj32
  obtain ⟨rfl, hj34⟩ := Prod.mk.inj hj33
  obtain ⟨rfl, hj35⟩ := Prod.mk.inj hj34
  subst hj35
  refine bp_ret HF (res_cell (vs := [.slice a3 z1.length c3, .slice a4 z2.length c4, .int .i64 z3]) rfl HF rfl ag27 rfl (HT.boxAt 0 rfl)) ?_
  have HT := HT.p4.p3.p3.t3
  exact ⟨a3, z1.length, c3, a4, z2.length, c4, rfl, HT⟩

def m_spec_DrawSerialAll_L0 (fuel : Nat) (x0 : List UInt8) : Nat → Int → Int → (List ProgD) → (List OrdD) → Int → Option (Int × Int × List ProgD × List OrdD)
  | 0, _, _, _, _, _ => none
  | k1 + 1, z5, z6, z7, z8, z9 =>
    if 0 < z9 then
      bind4 (
        bind3 (m_spec_l1Once fuel x0 z5 z6 3) fun y6 y7 y8 =>
        bind4 (m_spec_l5Prog fuel x0 y7 y8 y6) fun y9 y10 y11 y12 =>
        bind4 (
          bind3 (m_spec_l1Once fuel x0 y11 y12 30) fun y13 y14 y15 =>
          if y13 = true then
            bind4 (m_spec_l5AnyProg fuel x0 y14 y15) fun y16 y17 y18 y19 =>
            some (y18, y19, y16, y17)
          else
          some (y14, y15, y9, y10)) fun z14 z15 z16 z17 =>
        if z7.length + 1 ≤ 17179869184 then
          bind3 (m_spec_l7AnyOrder fuel x0 z14 z15 (z17.length : Int)) fun y20 y21 y22 =>
          if z8.length + 1 ≤ 17179869184 then
            some (y21, y22, z7 ++ ([(⟨z16, z17⟩ : ProgD)] : List ProgD), z8 ++ ([(⟨y20⟩ : OrdD)] : List OrdD))
          else none
        else none) fun z10 z11 z12 z13 =>
      if in64 (z9 - 1) then
        m_spec_DrawSerialAll_L0 fuel x0 k1 z10 z11 z12 z13 (z9 - 1)
      else none
    else
    some (z5, z6, z7, z8)

def m_spec_DrawSerialAll (fuel : Nat) (x0 : List UInt8) : Option (List ProgD × List OrdD × List Int × List Int × Int) :=
  bind2 (m_spec_l1New fuel x0) fun y1 y2 =>
  bind4 (
    bind3 (m_spec_l1Below fuel x0 y1 y2 4) fun y3 y4 y5 =>
    m_spec_DrawSerialAll_L0 fuel x0 fuel y4 y5 ([] : List ProgD) ([] : List OrdD) y3) fun z1 z2 z3 z4 =>
  bind3 (
    bind3 (m_spec_l1Once fuel x0 z1 z2 12) fun y23 y24 y25 =>
    if y23 = true then
      if z4.length + 1 ≤ 17179869184 then
        some (y24, y25, z4 ++ ([(⟨([] : List Int)⟩ : OrdD)] : List OrdD))
      else none
    else
    some (y24, y25, z4)) fun z18 z19 z20 =>
  bind5 (m_spec_l7AnyThings fuel x0 z18 z19) fun y26 y27 y28 y29 y30 =>
  some (z3, z20, y26, y27, y28)

set_option maxRecDepth 100000 in
set_option maxHeartbeats 4000000 in
theorem w_spec_DrawSerialAll (fuel : Nat) {x0 : List UInt8} {a_x0 : Option Addr} {n_x0 c_x0 : Nat} {r0 : List ProgD} {r1 : List OrdD} {r2_0 : List Int} {r2_1 : List Int} {r2_2 : Int} {w0 : World} (h : m_spec_DrawSerialAll fuel x0 = some (r0, r1, r2_0, r2_1, r2_2)) (hr_x0 : RdT (fun b => ¬ False) w0 (rowT x0) (.slice a_x0 n_x0 c_x0)) :
    Calls Try.prog 55 #[.slice a_x0 n_x0 c_x0] w0 fun e w => ∃ a_r0 n_r0 c_r0, ∃ a_r1 n_r1 c_r1, ∃ a_r2_0 n_r2_0 c_r2_0, ∃ a_r2_1 n_r2_1 c_r2_1, e = .returned (.tuple #[.slice a_r0 n_r0 c_r0, .slice a_r1 n_r1 c_r1, .agg #[.slice a_r2_0 n_r2_0 c_r2_0, .slice a_r2_1 n_r2_1 c_r2_1, .int .i64 r2_2]]) ∧ St w0 (fun _ => False) w [Own 53 (rowT r0) (.slice a_r0 n_r0 c_r0), Own 89 (rowT r1) (.slice a_r1 n_r1 c_r1), Own 3 (rowT r2_0) (.slice a_r2_0 n_r2_0 c_r2_0), Own 3 (rowT r2_1) (.slice a_r2_1 n_r2_1 c_r2_1)] := by
  obtain rfl := hr_x0.neq
  have HT : St w0 (fun _ => False) w0 [] := St.init0
  rw [m_spec_DrawSerialAll] at h
  refine calls_fr (n := 51) [.slice a_x0 x0.length c_x0] Try.func55 rfl rfl rfl fun a HF => ?_
  have HT : St w0 (fun _ => False) w0 [] := HT
  refine wp_seq (wc_text (wa HF rfl rfl rfl fun a HF => ?_))
  refine wa HF rfl rfl rfl fun a HF => ?_
  refine wc_alloc (cs := [.slice none 0 0, .slice none 0 0, .int .i64 0]) HF HT zr27 rfl rfl rfl (fun p1 w HT hb => ⟨nS, fun a HF => ?_⟩)
  refine wc_end (then_n (wp_seq (wc_text (wm HF rfl rfl rfl fun a HF => ?_))))
  obtain ⟨y1, y2, hx1, h⟩ := obs2 h
  refine wc_call HF cf84 rfl (w_spec_l1New fuel hx1 (HT.ro hr_x0).any) rfl rfl ?_
  rintro e w ⟨p2, rfl, hE⟩
  have hb := hE.below
  have HT := HT.pure hE
  have HT : St w0 (fun _ => False) w [Box p2 [.slice a_x0 x0.length c_x0, .int .i64 y1, .int .i64 y2], Box p1 [.slice none 0 0, .slice none 0 0, .int .i64 0]] := HT
  refine ⟨_, rfl, nS, fun a HF => ?_⟩
  refine wa HF rfl rfl rfl fun a HF => ?_
  refine wc_end (then_n (wp_seq (wc_text (wc_bslice (l := ([] : List ProgD)) (cs := []) (A := []) HF HT bs68_0 rfl rfl gives_nil rfl (by decide) rfl rfl (fun p3 w HT hb  => ⟨nS, fun a HF => ?_⟩)))))
  refine wa HF rfl rfl rfl fun a HF => ?_
  refine wc_end (then_n (wp_seq (wc_text (wc_bslice (l := ([] : List OrdD)) (cs := []) (A := []) HF HT bs70_0 rfl rfl gives_nil rfl (by decide) rfl rfl (fun p4 w HT hb  => ⟨nS, fun a HF => ?_⟩)))))
  refine wa HF rfl rfl rfl fun a HF => ?_
  refine wc_end (then_n ?_)
  obtain ⟨z1, z2, z3, z4, hx2, h⟩ := obs4 h
  refine wp_cut (fun a w => ∃ a1 n1 c1 a2 n2 c2, Fr a 51 [(4, .pointer (some ⟨p1, 0, none⟩)), (5, .pointer (some ⟨p2, 0, none⟩)), (6, .slice a1 n1 c1), (7, .slice a2 n2 c2)] ∧ St w0 (fun _ => False) w [Box p1 [.slice none 0 0, .slice none 0 0, .int .i64 0], Box p2 [.slice a_x0 x0.length c_x0, .int .i64 z1, .int .i64 z2], Own 53 (rowT z3) (.slice a1 n1 c1), Own 89 (rowT z4) (.slice a2 n2 c2)]) ?_ ?_
  have hk1 := h
  have h := hx2
  refine wp_seq (wc_text (wm HF rfl rfl rfl fun a HF => ?_))
  obtain ⟨y3, y4, y5, hx3, h⟩ := obs3 h
  have HT := HT.p2
  obtain ⟨F1, hAF1, hFF1, hbackF1, hroF1, hownF1, hownAF1⟩ := St.handR2 (A := [Box p2 [.slice a_x0 x0.length c_x0, .int .i64 y1, .int .i64 y2]]) HT
  refine wc_call HF cf90 rfl (w_spec_l1Below fuel hx3 hAF1 (hroF1 hr_x0)) rfl rfl ?_
  rintro e w ⟨rfl, hE⟩
  have HT := hbackF1 _ _ hE
  have HT : St w0 (fun _ => False) w [Box p2 [.slice a_x0 x0.length c_x0, .int .i64 y4, .int .i64 y5], Own 89 (rowT ([] : List OrdD)) (.slice (some ⟨p4, 0, none⟩) 0 0), Own 53 (rowT ([] : List ProgD)) (.slice (some ⟨p3, 0, none⟩) 0 0), Box p1 [.slice none 0 0, .slice none 0 0, .int .i64 0]] := HT
  refine ⟨_, rfl, nS, fun a HF => ?_⟩
  refine wa HF rfl rfl rfl fun a HF => ?_
  refine wc_end (then_n (wp_block ?_))
  have HT := HT.p1.p2.p2.p3
  refine wp_loopN (fun k1 a w => ∃ z5 z6 z7 z8 z9 a3 n3 c3 a4 n4 c4, m_spec_DrawSerialAll_L0 fuel x0 k1 z5 z6 z7 z8 z9 = some (z1, z2, z3, z4) ∧ Fr a 51 [(4, .pointer (some ⟨p1, 0, none⟩)), (5, .pointer (some ⟨p2, 0, none⟩)), (6, .slice a3 n3 c3), (7, .slice a4 n4 c4), (8, .int .i64 z9)] ∧ St w0 (fun _ => False) w [Box p1 [.slice none 0 0, .slice none 0 0, .int .i64 0], Box p2 [.slice a_x0 x0.length c_x0, .int .i64 z5, .int .i64 z6], Own 53 (rowT z7) (.slice a3 n3 c3), Own 89 (rowT z8) (.slice a4 n4 c4)]) fuel ⟨y4, y5, ([] : List ProgD), ([] : List OrdD), y3, (some ⟨p3, 0, none⟩), 0, 0, (some ⟨p4, 0, none⟩), 0, 0, h, (HF.keep (HF.keep (HF.keep (HF.keep (HF.keep HF.nil rfl) rfl) rfl) rfl) rfl), HT⟩ ?_
  rintro k1 a w ⟨z5, z6, z7, z8, z9, a3, n3, c3, a4, n4, c4, h, HF, HT⟩
  rcases k1 with _ | k1
  cases h
  rw [m_spec_DrawSerialAll_L0] at h
  obtain rfl := (HT.rdAt 2 rfl).neq
  obtain rfl := (HT.rdAt 3 rfl).neq
  refine ?_
  refine wp_seq (wp_seq (wc_text (wm HF rfl rfl rfl fun a HF => ?_)))
  refine wc_bin HF nS rfl rfl b_gt rfl rfl fun a HF => ?_
  refine wc_end (then_n ?_)
  by_cases hb1 : 0 < z9
  have h := ifp hb1 h
  refine wp_if (b' := true) HF rfl (decide_eq_true hb1) ?_
  refine wp_skip (then_n ?_)
  obtain ⟨z10, z11, z12, z13, hx4, h⟩ := obs4 h
  refine wp_cut (fun a w => ∃ a5 n5 c5 a6 n6 c6, Fr a 51 [(4, .pointer (some ⟨p1, 0, none⟩)), (5, .pointer (some ⟨p2, 0, none⟩)), (6, .slice a5 n5 c5), (7, .slice a6 n6 c6), (8, .int .i64 z9)] ∧ St w0 (fun _ => False) w [Box p1 [.slice none 0 0, .slice none 0 0, .int .i64 0], Box p2 [.slice a_x0 x0.length c_x0, .int .i64 z10, .int .i64 z11], Own 53 (rowT z12) (.slice a5 n5 c5), Own 89 (rowT z13) (.slice a6 n6 c6)]) ?_ ?_
  have hk2 := h
  have h := hx4
  refine wp_block (wp_seq (wc_text (wm HF rfl rfl rfl fun a HF => ?_)))
  refine wm HF rfl rfl rfl fun a HF => ?_
  obtain ⟨y6, y7, y8, hx5, h⟩ := obs3 h
  have HT := HT.p1
  obtain ⟨F2, hAF2, hFF2, hbackF2, hroF2, hownF2, hownAF2⟩ := St.handR2 (A := [Box p2 [.slice a_x0 x0.length c_x0, .int .i64 z5, .int .i64 z6]]) HT
  refine wc_call HF cf86 rfl (w_spec_l1Once fuel hx5 hAF2 (hroF2 hr_x0)) rfl rfl ?_
  rintro e w ⟨rfl, hE⟩
  have HT := hbackF2 _ _ hE
  have HT : St w0 (fun _ => False) w [Box p2 [.slice a_x0 x0.length c_x0, .int .i64 y7, .int .i64 y8], Box p1 [.slice none 0 0, .slice none 0 0, .int .i64 0], Own 53 (rowT z7) (.slice a3 z7.length c3), Own 89 (rowT z8) (.slice a4 z8.length c4)] := HT
  refine ⟨_, rfl, nS, fun a HF => ?_⟩
  obtain ⟨y9, y10, y11, y12, hx6, h⟩ := obs4 h
  obtain ⟨F3, hAF3, hFF3, hbackF3, hroF3, hownF3, hownAF3⟩ := St.handR2 (A := [Box p2 [.slice a_x0 x0.length c_x0, .int .i64 y7, .int .i64 y8]]) HT
  refine wc_call HF cf94 rfl (w_spec_l5Prog fuel hx6 hAF3 (hroF3 hr_x0)) rfl rfl ?_
  rintro e w ⟨a7, n7, c7, a8, n8, c8, rfl, hE⟩
  have HT := hbackF3 _ _ hE
  obtain rfl := (HT.rdAt 0 rfl).neq
  obtain rfl := (HT.rdAt 1 rfl).neq
  have HT : St w0 (fun _ => False) w [Own 85 (rowT y9) (.slice a7 y9.length c7), Own 127 (rowT y10) (.slice a8 y10.length c8), Box p2 [.slice a_x0 x0.length c_x0, .int .i64 y11, .int .i64 y12], Box p1 [.slice none 0 0, .slice none 0 0, .int .i64 0], Own 53 (rowT z7) (.slice a3 z7.length c3), Own 89 (rowT z8) (.slice a4 z8.length c4)] := HT
  refine ⟨_, rfl, nS, fun a HF => ?_⟩
  refine wc_alloc (cs := [.slice none 0 0, .slice none 0 0]) HF HT zr53 rfl rfl rfl (fun p5 w HT hb => ⟨nS, fun a HF => ?_⟩)
  refine wc_storeB (cs' := [.slice a7 y9.length c7, .slice a8 y10.length c8]) HF HT rfl rfl (fun w => (ag53 w).2) rfl rfl rfl rfl rfl (fun w HT => ⟨nS, ?_⟩)
  refine wc_end (then_n ?_)
  obtain ⟨z14, z15, z16, z17, hx7, h⟩ := obs4 h
  refine wp_cut (fun a w => ∃ a9 n9 c9 a10 n10 c10, Fr a 51 [(4, .pointer (some ⟨p1, 0, none⟩)), (5, .pointer (some ⟨p2, 0, none⟩)), (6, .slice a3 z7.length c3), (7, .slice a4 z8.length c4), (8, .int .i64 z9), (9, .pointer (some ⟨p5, 0, none⟩))] ∧ St w0 (fun _ => False) w [Box p1 [.slice none 0 0, .slice none 0 0, .int .i64 0], Box p2 [.slice a_x0 x0.length c_x0, .int .i64 z14, .int .i64 z15], Own 53 (rowT z7) (.slice a3 z7.length c3), Own 89 (rowT z8) (.slice a4 z8.length c4), Own 85 (rowT z16) (.slice a9 n9 c9), Own 127 (rowT z17) (.slice a10 n10 c10), Box p5 [.slice a9 n9 c9, .slice a10 n10 c10]]) ?_ ?_
  have hk3 := h
  have h := hx7
  refine wp_seq (wc_text (wm HF rfl rfl rfl fun a HF => ?_))
  obtain ⟨y13, y14, y15, hx8, h⟩ := obs3 h
  have HT := HT.p3
  obtain ⟨F4, hAF4, hFF4, hbackF4, hroF4, hownF4, hownAF4⟩ := St.handR2 (A := [Box p2 [.slice a_x0 x0.length c_x0, .int .i64 y11, .int .i64 y12]]) HT
  refine wc_call HF cf86 rfl (w_spec_l1Once fuel hx8 hAF4 (hroF4 hr_x0)) rfl rfl ?_
  rintro e w ⟨rfl, hE⟩
  have HT := hbackF4 _ _ hE
  have HT : St w0 (fun _ => False) w [Box p2 [.slice a_x0 x0.length c_x0, .int .i64 y14, .int .i64 y15], Box p5 [.slice a7 y9.length c7, .slice a8 y10.length c8], Own 85 (rowT y9) (.slice a7 y9.length c7), Own 127 (rowT y10) (.slice a8 y10.length c8), Box p1 [.slice none 0 0, .slice none 0 0, .int .i64 0], Own 53 (rowT z7) (.slice a3 z7.length c3), Own 89 (rowT z8) (.slice a4 z8.length c4)] := HT
  refine ⟨_, rfl, nS, fun a HF => ?_⟩
  refine wc_end (then_n ?_)
  by_cases hb2 : y13 = true
  have h := ifp hb2 h
  refine wp_if (b' := true) HF rfl hb2 ?_
  refine wc_text (wm HF rfl rfl rfl fun a HF => ?_)
  obtain ⟨y16, y17, y18, y19, hx9, h⟩ := obs4 h
  obtain ⟨F5, hAF5, hFF5, hbackF5, hroF5, hownF5, hownAF5⟩ := St.handR2 (A := [Box p2 [.slice a_x0 x0.length c_x0, .int .i64 y14, .int .i64 y15]]) HT
  refine wc_call HF cf95 rfl (w_spec_l5AnyProg fuel hx9 hAF5 (hroF5 hr_x0)) rfl rfl ?_
  rintro e w ⟨a11, n11, c11, a12, n12, c12, rfl, hE⟩
  have HT := hbackF5 _ _ hE
  obtain rfl := (HT.rdAt 0 rfl).neq
  obtain rfl := (HT.rdAt 1 rfl).neq
  have HT : St w0 (fun _ => False) w [Own 85 (rowT y16) (.slice a11 y16.length c11), Own 127 (rowT y17) (.slice a12 y17.length c12), Box p2 [.slice a_x0 x0.length c_x0, .int .i64 y18, .int .i64 y19], Box p5 [.slice a7 y9.length c7, .slice a8 y10.length c8], Own 85 (rowT y9) (.slice a7 y9.length c7), Own 127 (rowT y10) (.slice a8 y10.length c8), Box p1 [.slice none 0 0, .slice none 0 0, .int .i64 0], Own 53 (rowT z7) (.slice a3 z7.length c3), Own 89 (rowT z8) (.slice a4 z8.length c4)] := HT
  refine ⟨_, rfl, nS, fun a HF => ?_⟩
  have HT := HT.p3
  refine wc_storeB (cs' := [.slice a11 y16.length c11, .slice a12 y17.length c12]) HF HT rfl rfl (fun w => (ag53 w).2) rfl rfl rfl rfl rfl (fun w HT => ⟨nS, ?_⟩)
  refine wc_end ?_
  have HT := HT.p2.p2.p8.p8.p5.p8.t7
  have hj1 := Option.some.inj h
  obtain ⟨rfl, hj2⟩ := Prod.mk.inj hj1
  obtain ⟨rfl, hj3⟩ := Prod.mk.inj hj2
  obtain ⟨rfl, hj4⟩ := Prod.mk.inj hj3
  subst hj4
  exact then_n ⟨a11, y16.length, c11, a12, y17.length, c12, (HF.keep (HF.keep (HF.keep (HF.keep (HF.keep (HF.keep HF.nil rfl) rfl) rfl) rfl) rfl) rfl), HT⟩
  have h := ifn hb2 h
  refine wp_if (b' := false) HF rfl (Bool.eq_false_iff.2 hb2) ?_
  refine wp_skip ?_
  have HT := HT.p1.p3.p3.p6.p6.p5.p6
  have hj5 := Option.some.inj h
  obtain ⟨rfl, hj6⟩ := Prod.mk.inj hj5
  obtain ⟨rfl, hj7⟩ := Prod.mk.inj hj6
  obtain ⟨rfl, hj8⟩ := Prod.mk.inj hj7
  subst hj8
  exact then_n ⟨a7, y9.length, c7, a8, y10.length, c8, (HF.keep (HF.keep (HF.keep (HF.keep (HF.keep (HF.keep HF.nil rfl) rfl) rfl) rfl) rfl) rfl), HT⟩
  rintro a w ⟨a9, n9, c9, a10, n10, c10, HF, HT⟩
  obtain rfl := (HT.rdAt 4 rfl).neq
  obtain rfl := (HT.rdAt 5 rfl).neq
  refine ?_
  refine wp_seq (wc_text (wm HF rfl rfl rfl fun a HF => ?_))
  refine wc_loadA (vs := [.slice a9 z16.length c9, .slice a10 z17.length c10]) HF rfl ag53 rfl ((HT.boxAt 6 rfl).part 0 2) rfl rfl fun a HF => ?_
  have HT := HT.p5.p5
  refine wc_bslice (l := ([(⟨z16, z17⟩ : ProgD)] : List ProgD)) (cs := [.slice a9 z16.length c9, .slice a10 z17.length c10]) (A := [Own 85 (rowT z16) (.slice a9 z16.length c9), Own 127 (rowT z17) (.slice a10 z17.length c10)]) HF HT bs68_1 rfl rfl (gives_own (gives_own gives_nil)) rfl (by decide) rfl rfl (fun p6 w HT hb  => ⟨nS, fun a HF => ?_⟩)
  obtain ⟨hg1, h⟩ := grd h
  have HT := HT.p3
  refine wc_append HF HT el68 rfl rfl (Nat.zero_lt_succ _) hg1 rfl rfl rfl (fun a13 c13 w HT => ⟨nS, fun a HF => ?_⟩)
  refine wa HF rfl rfl rfl fun a HF => ?_
  refine wc_end (then_n (wc_text (wm HF rfl rfl rfl fun a HF => ?_)))
  refine wm HF rfl rfl rfl fun a HF => ?_
  refine wc_faddr HF nS rfl fl53_1 rfl rfl fun a HF => ?_
  refine wc_load HF rfl sc51 ((HT.boxAt 4 rfl).get 1 rfl) rfl rfl fun a HF => ?_
  refine wc_lenR HF nS Try.underlying51 rfl rfl rfl fun a HF => ?_
  obtain ⟨y20, y21, y22, hx10, h⟩ := obs3 h
  have HT := HT.p2
  obtain ⟨F6, hAF6, hFF6, hbackF6, hroF6, hownF6, hownAF6⟩ := St.handR2 (A := [Box p2 [.slice a_x0 x0.length c_x0, .int .i64 z14, .int .i64 z15]]) HT
  refine wc_call HF cf96 rfl (w_spec_l7AnyOrder fuel hx10 hAF6 (hroF6 hr_x0)) rfl rfl ?_
  rintro e w ⟨a14, n13, c14, rfl, hE⟩
  have HT := hbackF6 _ _ hE
  obtain rfl := (HT.rdAt 0 rfl).neq
  have HT : St w0 (fun _ => False) w [Own 3 (rowT y20) (.slice a14 y20.length c14), Box p2 [.slice a_x0 x0.length c_x0, .int .i64 y21, .int .i64 y22], Own 53 (rowT (z7 ++ ([(⟨z16, z17⟩ : ProgD)] : List ProgD))) (.slice a13 ((z7 ++ ([(⟨z16, z17⟩ : ProgD)] : List ProgD)).length) c13), Box p1 [.slice none 0 0, .slice none 0 0, .int .i64 0], Own 89 (rowT z8) (.slice a4 z8.length c4), Box p5 [.slice a9 z16.length c9, .slice a10 z17.length c10]] := HT
  refine ⟨_, rfl, nS, fun a HF => ?_⟩
  refine wc_build (cs := #[.slice a14 y20.length c14]) HF nS bd89 rfl rfl rfl rfl fun a HF => ?_
  refine wc_bslice (l := ([(⟨y20⟩ : OrdD)] : List OrdD)) (cs := [.slice a14 y20.length c14]) (A := [Own 3 (rowT y20) (.slice a14 y20.length c14)]) HF HT bs70_1 rfl rfl (gives_own gives_nil) rfl (by decide) rfl rfl (fun p7 w HT hb  => ⟨nS, fun a HF => ?_⟩)
  obtain ⟨hg2, h⟩ := grd h
  have HT := HT.p4
  refine wc_append HF HT el70 rfl rfl (Nat.zero_lt_succ _) hg2 rfl rfl rfl (fun a15 c15 w HT => ⟨nS, fun a HF => ?_⟩)
  refine wa HF rfl rfl rfl fun a HF => ?_
  refine wc_end (blk_n ?_)
  have HT := HT.p2.p2.p3.t4
  have hj9 := Option.some.inj h
  obtain ⟨rfl, hj10⟩ := Prod.mk.inj hj9
  obtain ⟨rfl, hj11⟩ := Prod.mk.inj hj10
  obtain ⟨rfl, hj12⟩ := Prod.mk.inj hj11
  subst hj12
  exact then_n ⟨a13, (z7 ++ ([(⟨z16, z17⟩ : ProgD)] : List ProgD)).length, c13, a15, (z8 ++ ([(⟨y20⟩ : OrdD)] : List OrdD)).length, c15, (HF.keep (HF.keep (HF.keep (HF.keep (HF.keep HF.nil rfl) rfl) rfl) rfl) rfl), HT⟩
  rintro a w ⟨a5, n5, c5, a6, n6, c6, HF, HT⟩
  obtain rfl := (HT.rdAt 2 rfl).neq
  obtain rfl := (HT.rdAt 3 rfl).neq
  refine ?_
  refine wc_text (wm HF rfl rfl rfl fun a HF => ?_)
  obtain ⟨hg3, h⟩ := grd h
  refine wc_bin HF nS rfl rfl (b_sub hg3) rfl rfl fun a HF => ?_
  refine wa HF rfl rfl rfl fun a HF => ?_
  exact wc_end (then_n ⟨k1, Nat.lt_succ_self k1, z10, z11, z12, z13, z9 - 1, a5, z12.length, c5, a6, z13.length, c6, h, (HF.keep (HF.keep (HF.keep (HF.keep (HF.keep HF.nil rfl) rfl) rfl) rfl) rfl), HT⟩)
  have h := ifn hb1 h
  refine wp_if (b' := false) HF rfl (decide_eq_false hb1) ?_
  refine wp_exit ?_
  refine then_x (then_x (?_))
  refine blk_x ?_
  have hj13 := Option.some.inj h
  obtain ⟨rfl, hj14⟩ := Prod.mk.inj hj13
  obtain ⟨rfl, hj15⟩ := Prod.mk.inj hj14
  obtain ⟨rfl, hj16⟩ := Prod.mk.inj hj15
  subst hj16
  exact then_n ⟨a3, z7.length, c3, a4, z8.length, c4, (HF.keep (HF.keep (HF.keep (HF.keep HF.nil rfl) rfl) rfl) rfl), HT⟩
  rintro a w ⟨a1, n1, c1, a2, n2, c2, HF, HT⟩
  obtain rfl := (HT.rdAt 2 rfl).neq
  obtain rfl := (HT.rdAt 3 rfl).neq
  refine ?_
  obtain ⟨z18, z19, z20, hx11, h⟩ := obs3 h
  refine wp_cut (fun a w => ∃ a16 n14 c16, Fr a 51 [(4, .pointer (some ⟨p1, 0, none⟩)), (5, .pointer (some ⟨p2, 0, none⟩)), (6, .slice a1 z3.length c1), (7, .slice a16 n14 c16)] ∧ St w0 (fun _ => False) w [Box p1 [.slice none 0 0, .slice none 0 0, .int .i64 0], Box p2 [.slice a_x0 x0.length c_x0, .int .i64 z18, .int .i64 z19], Own 53 (rowT z3) (.slice a1 z3.length c1), Own 89 (rowT z20) (.slice a16 n14 c16)]) ?_ ?_
  have hk1 := h
  have h := hx11
  refine wp_seq (wc_text (wm HF rfl rfl rfl fun a HF => ?_))
  obtain ⟨y23, y24, y25, hx12, h⟩ := obs3 h
  have HT := HT.p1
  obtain ⟨F7, hAF7, hFF7, hbackF7, hroF7, hownF7, hownAF7⟩ := St.handR2 (A := [Box p2 [.slice a_x0 x0.length c_x0, .int .i64 z1, .int .i64 z2]]) HT
  refine wc_call HF cf86 rfl (w_spec_l1Once fuel hx12 hAF7 (hroF7 hr_x0)) rfl rfl ?_
  rintro e w ⟨rfl, hE⟩
  have HT := hbackF7 _ _ hE
  have HT : St w0 (fun _ => False) w [Box p2 [.slice a_x0 x0.length c_x0, .int .i64 y24, .int .i64 y25], Box p1 [.slice none 0 0, .slice none 0 0, .int .i64 0], Own 53 (rowT z3) (.slice a1 z3.length c1), Own 89 (rowT z4) (.slice a2 z4.length c2)] := HT
  refine ⟨_, rfl, nS, fun a HF => ?_⟩
  refine wc_end (then_n ?_)
  by_cases hb3 : y23 = true
  have h := ifp hb3 h
  refine wp_if (b' := true) HF rfl hb3 ?_
  refine wc_text (wm HF rfl rfl rfl fun a HF => ?_)
  refine wc_build (cs := #[.slice none 0 0]) HF nS bd89 rfl rfl rfl rfl fun a HF => ?_
  have HT := HT.nilrow (E := Int) 3
  refine wc_bslice (l := ([(⟨([] : List Int)⟩ : OrdD)] : List OrdD)) (cs := [.slice none 0 0]) (A := [Own 3 (rowT ([] : List Int)) (.slice none 0 0)]) HF HT bs70_1 rfl rfl (gives_own gives_nil) rfl (by decide) rfl rfl (fun p8 w HT hb  => ⟨nS, fun a HF => ?_⟩)
  obtain ⟨hg4, h⟩ := grd h
  have HT := HT.p4
  refine wc_append HF HT el70 rfl rfl (Nat.zero_lt_succ _) hg4 rfl rfl rfl (fun a17 c17 w HT => ⟨nS, fun a HF => ?_⟩)
  refine wa HF rfl rfl rfl fun a HF => ?_
  refine wc_end ?_
  have HT := HT.p3.p2.p3
  have hj17 := Option.some.inj h
  obtain ⟨rfl, hj18⟩ := Prod.mk.inj hj17
  obtain ⟨rfl, hj19⟩ := Prod.mk.inj hj18
  subst hj19
  exact then_n ⟨a17, (z4 ++ ([(⟨([] : List Int)⟩ : OrdD)] : List OrdD)).length, c17, (HF.keep (HF.keep (HF.keep (HF.keep HF.nil rfl) rfl) rfl) rfl), HT⟩
  have h := ifn hb3 h
  refine wp_if (b' := false) HF rfl (Bool.eq_false_iff.2 hb3) ?_
  refine wp_skip ?_
  have HT := HT.p3.p3.p2.p3
  have hj20 := Option.some.inj h
  obtain ⟨rfl, hj21⟩ := Prod.mk.inj hj20
  obtain ⟨rfl, hj22⟩ := Prod.mk.inj hj21
  subst hj22
  exact then_n ⟨a2, z4.length, c2, (HF.keep (HF.keep (HF.keep (HF.keep HF.nil rfl) rfl) rfl) rfl), HT⟩
  rintro a w ⟨a16, n14, c16, HF, HT⟩
  obtain rfl := (HT.rdAt 3 rfl).neq
  refine ?_
  refine wp_seq (wc_text (wm HF rfl rfl rfl fun a HF => ?_))
  refine wm HF rfl rfl rfl fun a HF => ?_
  refine wm HF rfl rfl rfl fun a HF => ?_
  obtain ⟨y26, y27, y28, y29, y30, hx13, h⟩ := obs5 h
  have HT := HT.p1
  obtain ⟨F8, hAF8, hFF8, hbackF8, hroF8, hownF8, hownAF8⟩ := St.handR2 (A := [Box p2 [.slice a_x0 x0.length c_x0, .int .i64 z18, .int .i64 z19]]) HT
  refine wc_call HF cf97 rfl (w_spec_l7AnyThings fuel hx13 hAF8 (hroF8 hr_x0)) rfl rfl ?_
  rintro e w ⟨a18, n15, c18, a19, n16, c19, rfl, hE⟩
  have HT := hbackF8 _ _ hE
  obtain rfl := (HT.rdAt 0 rfl).neq
  obtain rfl := (HT.rdAt 1 rfl).neq
  have HT : St w0 (fun _ => False) w [Own 3 (rowT y26) (.slice a18 y26.length c18), Own 3 (rowT y27) (.slice a19 y27.length c19), Box p2 [.slice a_x0 x0.length c_x0, .int .i64 y29, .int .i64 y30], Box p1 [.slice none 0 0, .slice none 0 0, .int .i64 0], Own 53 (rowT z3) (.slice a1 z3.length c1), Own 89 (rowT z20) (.slice a16 z20.length c16)] := HT
  refine ⟨_, rfl, nS, fun a HF => ?_⟩
  refine wa HF rfl rfl rfl fun a HF => ?_
  refine wa HF rfl rfl rfl fun a HF => ?_
  have HT := HT.p3
  refine wc_storeB (cs' := [.slice a18 y26.length c18, .slice a19 y27.length c19, .int .i64 y28]) HF HT rfl rfl (fun w => (ag27 w).2) rfl rfl rfl rfl rfl (fun w HT => ⟨nS, ?_⟩)
  refine wc_end (then_n (wp_ret ?_))
  have hj23 := Option.some.inj h
  obtain ⟨rfl, hj24⟩ := Prod.mk.inj hj23
  obtain ⟨rfl, hj25⟩ := Prod.mk.inj hj24
  obtain ⟨rfl, hj26⟩ := Prod.mk.inj hj25
  obtain ⟨rfl, hj27⟩ := Prod.mk.inj hj26
  subst hj27
  refine bp_ret HF (res_ttc (vs := [.slice a18 y26.length c18, .slice a19 y27.length c19, .int .i64 y28]) rfl HF rfl rfl rfl ag27 rfl (HT.boxAt 0 rfl)) ?_
  have HT := HT.p2.p2.p5.p5.t4
  exact ⟨a1, z3.length, c1, a16, z20.length, c16, a18, y26.length, c18, a19, y27.length, c19, rfl, HT⟩

def m_spec_l7Ints_L0 (fuel : Nat) (x0 : List Int) (x1 : List Int) : Nat → Int → Option (Lp Unit Bool)
  | 0, _ => none
  | k1 + 1, z1 =>
    if z1 < (x0.length : Int) then
      (at? x0 z1).bind fun e1 =>
      (at? x1 z1).bind fun e2 =>
      if e1 = e2 then
        if in64 (z1 + 1) then
          m_spec_l7Ints_L0 fuel x0 x1 k1 (z1 + 1)
        else none
      else
      some (.ret false)
    else
    some (.brk ())

def m_spec_l7Ints (fuel : Nat) (x0 : List Int) (x1 : List Int) : Option Bool :=
  if (x0.length : Int) = (x1.length : Int) then
    (m_spec_l7Ints_L0 fuel x0 x1 fuel 0).bind <| contL <| un1 fun _ =>
    some true
  else
  some false

set_option maxRecDepth 100000 in
set_option maxHeartbeats 4000000 in
theorem w_spec_l7Ints (fuel : Nat) {x0 : List Int} {x1 : List Int} {a_x0 : Option Addr} {n_x0 c_x0 : Nat} {a_x1 : Option Addr} {n_x1 c_x1 : Nat} {r0 : Bool} {w0 : World} (h : m_spec_l7Ints fuel x0 x1 = some r0) (hr_x0 : RdT (fun b => ¬ False) w0 (rowT x0) (.slice a_x0 n_x0 c_x0)) (hr_x1 : RdT (fun b => ¬ False) w0 (rowT x1) (.slice a_x1 n_x1 c_x1)) :
    Calls Try.prog 57 #[.slice a_x0 n_x0 c_x0, .slice a_x1 n_x1 c_x1] w0 fun e w => e = .returned (.bool r0) ∧ St w0 (fun _ => False) w [] := by
  obtain rfl := hr_x0.neq
  obtain rfl := hr_x1.neq
  have HT : St w0 (fun _ => False) w0 [] := St.init0
  rw [m_spec_l7Ints] at h
  refine calls_fr (n := 26) [.slice a_x0 x0.length c_x0, .slice a_x1 x1.length c_x1] Try.func57 rfl rfl rfl fun a HF => ?_
  have HT : St w0 (fun _ => False) w0 [] := HT
  refine wp_seq (wc_text (wa HF rfl rfl rfl fun a HF => ?_))
  refine wc_end (then_n (wp_seq (wp_seq (wc_text (wm HF rfl rfl rfl fun a HF => ?_)))))
  refine wc_lenR HF nS Try.underlying22 rfl rfl rfl fun a HF => ?_
  refine wm HF rfl rfl rfl fun a HF => ?_
  refine wc_lenR HF nS Try.underlying22 rfl rfl rfl fun a HF => ?_
  refine wc_bin HF nS rfl rfl b_ne rfl rfl fun a HF => ?_
  refine wc_end (then_n ?_)
  by_cases hb1 : (x0.length : Int) = (x1.length : Int)
  have h := ifp hb1 h
  refine wp_if (b' := false) HF rfl (notT (decide_eq_true hb1)) ?_
  refine wp_skip (then_n ?_)
  obtain ⟨q1, hx1, h⟩ := obs h
  refine wp_cut (fun a w => q1 = .brk () ∧ Fr a 26 [] ∧ St w0 (fun _ => False) w []) ?_ ?_
  have hk1 := h
  have h := hx1
  refine wp_seq (wc_text (wa HF rfl rfl rfl fun a HF => ?_))
  refine wc_end (then_n (wp_block (wp_loopN (fun k1 a w => ∃ z1, m_spec_l7Ints_L0 fuel x0 x1 k1 z1 = some q1 ∧ Fr a 26 [(0, .slice a_x0 x0.length c_x0), (1, .slice a_x1 x1.length c_x1), (5, .int .i64 z1)] ∧ St w0 (fun _ => False) w []) fuel ⟨0, h, (HF.keep (HF.keep (HF.keep HF.nil rfl) rfl) rfl), HT⟩ ?_)))
  rintro k1 a w ⟨z1, h, HF, HT⟩
  rcases k1 with _ | k1
  cases h
  rw [m_spec_l7Ints_L0] at h
  refine ?_
  refine wp_seq (wp_seq (wc_text (wm HF rfl rfl rfl fun a HF => ?_)))
  refine wm HF rfl rfl rfl fun a HF => ?_
  refine wc_lenR HF nS Try.underlying22 rfl rfl rfl fun a HF => ?_
  refine wc_bin HF nS rfl rfl b_lt rfl rfl fun a HF => ?_
  refine wc_end (then_n ?_)
  by_cases hb2 : z1 < (x0.length : Int)
  have h := ifp hb2 h
  refine wp_if (b' := true) HF rfl (decide_eq_true hb2) ?_
  refine wp_skip (then_n (wp_seq (wp_block (wp_seq (wp_region_can [(0, true), (1, true), (2, true), (3, true), (4, true), (5, true), (6, true), (7, true), (8, true)] (fun w' => True) (by kernel_rfl) (by kernel_rfl) ?_)))))
  have HT := HT.drew
  refine wm HF rfl rfl rfl fun a HF => ?_
  refine wm HF rfl rfl rfl fun a HF => ?_
  obtain ⟨e1, hx2, h⟩ := obs h
  obtain ⟨b1, o1, ha1⟩ := (HT.ro hr_x0).any.addr hx2
  refine wc_ixaddr HF nS el22 rfl ha1 ((HT.ro hr_x0).any).neq rfl hx2 rfl rfl fun a HF => ?_
  have hc1 := (HT.ro hr_x0).any.flatAt ha1 hx2
  refine wc_load HF rfl sc3 (hc1.get 0 rfl) rfl rfl fun a HF => ?_
  refine wm HF rfl rfl rfl fun a HF => ?_
  refine wm HF rfl rfl rfl fun a HF => ?_
  obtain ⟨e2, hx3, h⟩ := obs h
  obtain ⟨b2, o2, ha2⟩ := (HT.ro hr_x1).any.addr hx3
  refine wc_ixaddr HF nS el22 rfl ha2 ((HT.ro hr_x1).any).neq rfl hx3 rfl rfl fun a HF => ?_
  have hc2 := (HT.ro hr_x1).any.flatAt ha2 hx3
  refine wc_load HF rfl sc3 (hc2.get 0 rfl) rfl rfl fun a HF => ?_
  refine wc_bin HF nS rfl rfl b_ne rfl rfl fun a HF => ?_
  refine wc_endN (then_n ?_)
  by_cases hb3 : e1 = e2
  have h := ifp hb3 h
  refine wp_if (b' := false) HF rfl (notT (decide_eq_true hb3)) ?_
  refine wp_skip (blk_n (then_n (wc_text (wm HF rfl rfl rfl fun a HF => ?_))))
  obtain ⟨hg1, h⟩ := grd h
  refine wc_bin HF nS rfl rfl (b_add hg1) rfl rfl fun a HF => ?_
  refine wa HF rfl rfl rfl fun a HF => ?_
  exact wc_end (then_n ⟨k1, Nat.lt_succ_self k1, z1 + 1, h, (HF.keep (HF.keep (HF.keep HF.nil rfl) rfl) rfl), HT⟩)
  have h := ifn hb3 h
  refine wp_if (b' := true) HF rfl (notF (decide_eq_false hb3)) ?_
  refine wp_seq (wc_text (wa HF rfl rfl rfl fun a HF => ?_))
  refine wc_end (then_n (wp_ret ?_))
  obtain rfl := Option.some.inj h
  have h := retL hk1
  obtain rfl := Option.some.inj h
  refine blk_r (then_r (then_r (blk_r (then_r (?_)))))
  refine bp_ret HF (res_one rfl HF rfl) ?_
  exact ⟨rfl, HT⟩
  have h := ifn hb2 h
  refine wp_if (b' := false) HF rfl (decide_eq_false hb2) ?_
  refine wp_exit ?_
  refine then_x (then_x (?_))
  refine blk_x ?_
  exact then_n ⟨(Option.some.inj h).symm, HF.nil, HT⟩
  rintro a w ⟨rfl, HF, HT⟩
  have h := brkL1u h
  refine ?_
  refine wp_seq (wc_text (wa HF rfl rfl rfl fun a HF => ?_))
  refine wc_end (then_n (wp_ret ?_))
  obtain rfl := Option.some.inj h
  refine bp_ret HF (res_one rfl HF rfl) ?_
  exact ⟨rfl, HT⟩
  have h := ifn hb1 h
  refine wp_if (b' := true) HF rfl (notF (decide_eq_false hb1)) ?_
  refine wp_seq (wc_text (wa HF rfl rfl rfl fun a HF => ?_))
  refine wc_end (then_n (wp_ret ?_))
  obtain rfl := Option.some.inj h
  refine then_r (?_)
  refine bp_ret HF (res_one rfl HF rfl) ?_
  exact ⟨rfl, HT⟩

def m_spec_SameThings (fuel : Nat) (x0_0 : List Int) (x0_1 : List Int) (x0_2 : Int) (x1_0 : List Int) (x1_1 : List Int) (x1_2 : Int) : Option Bool :=
  (m_spec_l7Ints fuel x0_0 x1_0).bind fun y1 =>
  if y1 = true then
    (m_spec_l7Ints fuel x0_1 x1_1).bind fun y2 =>
    if y2 = true then
      some (decide (x0_2 = x1_2))
    else
    some false
  else
  some false

set_option maxRecDepth 100000 in
set_option maxHeartbeats 4000000 in
theorem w_spec_SameThings (fuel : Nat) {x0_0 : List Int} {x0_1 : List Int} {x0_2 : Int} {x1_0 : List Int} {x1_1 : List Int} {x1_2 : Int} {a_x0_0 : Option Addr} {n_x0_0 c_x0_0 : Nat} {a_x0_1 : Option Addr} {n_x0_1 c_x0_1 : Nat} {a_x1_0 : Option Addr} {n_x1_0 c_x1_0 : Nat} {a_x1_1 : Option Addr} {n_x1_1 c_x1_1 : Nat} {r0 : Bool} {w0 : World} (h : m_spec_SameThings fuel x0_0 x0_1 x0_2 x1_0 x1_1 x1_2 = some r0) (hr_x0_0 : RdT (fun b => ¬ False) w0 (rowT x0_0) (.slice a_x0_0 n_x0_0 c_x0_0)) (hr_x0_1 : RdT (fun b => ¬ False) w0 (rowT x0_1) (.slice a_x0_1 n_x0_1 c_x0_1)) (hr_x1_0 : RdT (fun b => ¬ False) w0 (rowT x1_0) (.slice a_x1_0 n_x1_0 c_x1_0)) (hr_x1_1 : RdT (fun b => ¬ False) w0 (rowT x1_1) (.slice a_x1_1 n_x1_1 c_x1_1)) :
    Calls Try.prog 11 #[.agg #[.slice a_x0_0 n_x0_0 c_x0_0, .slice a_x0_1 n_x0_1 c_x0_1, .int .i64 x0_2], .agg #[.slice a_x1_0 n_x1_0 c_x1_0, .slice a_x1_1 n_x1_1 c_x1_1, .int .i64 x1_2]] w0 fun e w => e = .returned (.bool r0) ∧ St w0 (fun _ => False) w [] := by
  obtain rfl := hr_x0_0.neq
  obtain rfl := hr_x0_1.neq
  obtain rfl := hr_x1_0.neq
  obtain rfl := hr_x1_1.neq
  have HT : St w0 (fun _ => False) w0 [] := St.init0
  rw [m_spec_SameThings] at h
  refine calls_fr (n := 24) [.agg #[.slice a_x0_0 x0_0.length c_x0_0, .slice a_x0_1 x0_1.length c_x0_1, .int .i64 x0_2], .agg #[.slice a_x1_0 x1_0.length c_x1_0, .slice a_x1_1 x1_1.length c_x1_1, .int .i64 x1_2]] Try.func11 rfl rfl rfl fun a HF => ?_
  have HT : St w0 (fun _ => False) w0 [] := HT
  refine wp_seq (wc_text (wc_box (cs := [.slice a_x0_0 x0_0.length c_x0_0, .slice a_x0_1 x0_1.length c_x0_1, .int .i64 x0_2]) HF HT rfl rfl rfl rfl (fun p1 w HT hb => ⟨nS, fun a HF => ?_⟩)))
  refine wc_box (cs := [.slice a_x1_0 x1_0.length c_x1_0, .slice a_x1_1 x1_1.length c_x1_1, .int .i64 x1_2]) HF HT rfl rfl rfl rfl (fun p2 w HT hb => ⟨nS, fun a HF => ?_⟩)
  refine wa HF rfl rfl rfl fun a HF => ?_
  refine wc_end (then_n (wp_seq (wc_text (wc_faddr HF nS rfl fl27_0 rfl rfl fun a HF => ?_))))
  refine wc_load HF rfl sc22 ((HT.boxAt 1 rfl).get 0 rfl) rfl rfl fun a HF => ?_
  refine wc_faddr HF nS rfl fl27_0 rfl rfl fun a HF => ?_
  refine wc_load HF rfl sc22 ((HT.boxAt 0 rfl).get 0 rfl) rfl rfl fun a HF => ?_
  obtain ⟨y1, hx1, h⟩ := obs h
  refine wc_call HF cf57 rfl (w_spec_l7Ints fuel hx1 (HT.ro hr_x0_0).any (HT.ro hr_x1_0).any) rfl rfl ?_
  rintro e w ⟨rfl, hE⟩
  have hb := hE.below
  have HT := HT.pure hE
  have HT : St w0 (fun _ => False) w [Box p2 [.slice a_x1_0 x1_0.length c_x1_0, .slice a_x1_1 x1_1.length c_x1_1, .int .i64 x1_2], Box p1 [.slice a_x0_0 x0_0.length c_x0_0, .slice a_x0_1 x0_1.length c_x0_1, .int .i64 x0_2]] := HT
  refine ⟨_, rfl, nS, fun a HF => ?_⟩
  refine wm HF rfl rfl rfl fun a HF => ?_
  by_cases hb1 : y1 = true
  have h := ifp hb1 h
  refine wc_faddr HF nS rfl fl27_1 (HF.wy rfl rfl rfl rfl hb1) rfl fun a HF => ?_
  refine wc_load HF rfl sc22 ((HT.boxAt 1 rfl).get 1 rfl) (HF.wy rfl rfl rfl rfl hb1) rfl fun a HF => ?_
  refine wc_faddr HF nS rfl fl27_1 (HF.wy rfl rfl rfl rfl hb1) rfl fun a HF => ?_
  refine wc_load HF rfl sc22 ((HT.boxAt 0 rfl).get 1 rfl) (HF.wy rfl rfl rfl rfl hb1) rfl fun a HF => ?_
  obtain ⟨y2, hx2, h⟩ := obs h
  refine wc_call HF cf57 rfl (w_spec_l7Ints fuel hx2 (HT.ro hr_x0_1).any (HT.ro hr_x1_1).any) (HF.wy rfl rfl rfl rfl hb1) rfl ?_
  rintro e w ⟨rfl, hE⟩
  have hb := hE.below
  have HT := HT.pure hE
  have HT : St w0 (fun _ => False) w [Box p2 [.slice a_x1_0 x1_0.length c_x1_0, .slice a_x1_1 x1_1.length c_x1_1, .int .i64 x1_2], Box p1 [.slice a_x0_0 x0_0.length c_x0_0, .slice a_x0_1 x0_1.length c_x0_1, .int .i64 x0_2]] := HT
  refine ⟨_, rfl, nS, fun a HF => ?_⟩
  refine wc_pick (b := true) HF nS rfl hb1 rfl rfl rfl fun a HF => ?_
  refine wm HF rfl rfl rfl fun a HF => ?_
  by_cases hb2 : y2 = true
  have h := ifp hb2 h
  refine wc_faddr HF nS rfl fl27_2 (HF.wy rfl rfl rfl rfl hb2) rfl fun a HF => ?_
  refine wc_load HF rfl sc3 ((HT.boxAt 1 rfl).get 2 rfl) (HF.wy rfl rfl rfl rfl hb2) rfl fun a HF => ?_
  refine wc_faddr HF nS rfl fl27_2 (HF.wy rfl rfl rfl rfl hb2) rfl fun a HF => ?_
  refine wc_load HF rfl sc3 ((HT.boxAt 0 rfl).get 2 rfl) (HF.wy rfl rfl rfl rfl hb2) rfl fun a HF => ?_
  refine wc_bin HF nS rfl rfl b_eq (HF.wy rfl rfl rfl rfl hb2) rfl fun a HF => ?_
  refine wc_pick (b := true) HF nS rfl hb2 rfl rfl rfl fun a HF => ?_
  refine wa HF rfl rfl rfl fun a HF => ?_
  refine wc_end (then_n (wp_ret ?_))
  obtain rfl := Option.some.inj h
  refine bp_ret HF (res_one rfl HF rfl) ?_
  have HT := HT.t0
  exact ⟨rfl, HT⟩
  have h := ifn hb2 h
  refine wc_skip HF nS (HF.wn rfl rfl rfl rfl (Bool.eq_false_iff.2 hb2)) rfl fun a HF => ?_
  refine wc_skip HF nS (HF.wn rfl rfl rfl rfl (Bool.eq_false_iff.2 hb2)) rfl fun a HF => ?_
  refine wc_skip HF nS (HF.wn rfl rfl rfl rfl (Bool.eq_false_iff.2 hb2)) rfl fun a HF => ?_
  refine wc_skip HF nS (HF.wn rfl rfl rfl rfl (Bool.eq_false_iff.2 hb2)) rfl fun a HF => ?_
  refine wc_skip HF nS (HF.wn rfl rfl rfl rfl (Bool.eq_false_iff.2 hb2)) rfl fun a HF => ?_
  refine wc_pick (b := false) HF nS rfl (Bool.eq_false_iff.2 hb2) rfl rfl rfl fun a HF => ?_
  refine wa HF rfl rfl rfl fun a HF => ?_
  refine wc_end (then_n (wp_ret ?_))
  obtain rfl := Option.some.inj h
  refine bp_ret HF (res_one rfl HF rfl) ?_
  have HT := HT.t0
  exact ⟨rfl, HT⟩
  have h := ifn hb1 h
  refine wc_skip HF nS (HF.wn rfl rfl rfl rfl (Bool.eq_false_iff.2 hb1)) rfl fun a HF => ?_
  refine wc_skip HF nS (HF.wn rfl rfl rfl rfl (Bool.eq_false_iff.2 hb1)) rfl fun a HF => ?_
  refine wc_skip HF nS (HF.wn rfl rfl rfl rfl (Bool.eq_false_iff.2 hb1)) rfl fun a HF => ?_
  refine wc_skip HF nS (HF.wn rfl rfl rfl rfl (Bool.eq_false_iff.2 hb1)) rfl fun a HF => ?_
  refine wc_skip HF nS (HF.wn rfl rfl rfl rfl (Bool.eq_false_iff.2 hb1)) rfl fun a HF => ?_
  refine wc_pick (b := false) HF nS rfl (Bool.eq_false_iff.2 hb1) rfl rfl rfl fun a HF => ?_
  refine wm HF rfl rfl rfl fun a HF => ?_
  refine wc_skip HF nS (HF.wn rfl rfl rfl rfl rfl) rfl fun a HF => ?_
  refine wc_skip HF nS (HF.wn rfl rfl rfl rfl rfl) rfl fun a HF => ?_
  refine wc_skip HF nS (HF.wn rfl rfl rfl rfl rfl) rfl fun a HF => ?_
  refine wc_skip HF nS (HF.wn rfl rfl rfl rfl rfl) rfl fun a HF => ?_
  refine wc_skip HF nS (HF.wn rfl rfl rfl rfl rfl) rfl fun a HF => ?_
  refine wc_pick (b := false) HF nS rfl rfl rfl rfl rfl fun a HF => ?_
  refine wa HF rfl rfl rfl fun a HF => ?_
  refine wc_end (then_n (wp_ret ?_))
  obtain rfl := Option.some.inj h
  refine bp_ret HF (res_one rfl HF rfl) ?_
  have HT := HT.t0
  exact ⟨rfl, HT⟩

def m_laws_FnSerial_L0 (fuel : Nat) (y2 : List ProgD) (y3 : List OrdD) (y7 : List RunD) : Nat → (List Int) → (List Int) → Int → Int → Option (Lp (List Int × List Int × Int) Bool)
  | 0, _, _, _, _ => none
  | k1 + 1, z5, z6, z7, z8 =>
    if z8 < (y7.length : Int) then
      (
        bind5 (
          (at? y2 z8).bind fun e1 =>
          (at? y3 z8).bind fun e2 =>
          bind5 (m_impl_Serial fuel e1.code e1.kids e2.kids z5 z6 z7) fun y16 y17 y18 y19 y20 =>
          some (y16, y17, y18, y19, y20)) fun z12 z13 z14 z15 z16 =>
        (
          (
            (at? y7 z8).bind fun e3 =>
            if z12 = e3.out then
              (m_laws_sameInts fuel z13 e3.regs).bind fun y21 =>
              if y21 = true then
                (m_spec_SameThings fuel z14 z15 z16 e3.cells e3.map e3.count).bind fun y22 =>
                if y22 = true then
                  (m_spec_ThingsOk fuel z14 z15 z16).bind fun y23 =>
                  some !(y23)
                else
                some true
              else
              some true
            else
            some true).bind fun z17 =>
          if z17 = true then
            some (.ret false)
          else
          some (.brk ())).bind <| contM <| un1 fun _ =>
        (
          (
            if z12 = 2 then
              (m_spec_SameThings fuel z14 z15 z16 z5 z6 z7).bind fun y24 =>
              some !(y24)
            else
            some false).bind fun z18 =>
          if z18 = true then
            some (.ret false)
          else
          some (.brk ())).bind <| contM <| un1 fun _ =>
        some (.brk (z14, z15, z16))).bind <| contM <| un3 fun z9 z10 z11 =>
      if in64 (z8 + 1) then
        m_laws_FnSerial_L0 fuel y2 y3 y7 k1 z9 z10 z11 (z8 + 1)
      else none
    else
    some (.brk (z5, z6, z7))

def m_laws_FnSerial (fuel : Nat) (x0 : List UInt8) : Option Bool :=
  (m_laws_big fuel x0).bind fun y1 =>
  if y1 = true then
    some true
  else
  bind5 (m_spec_DrawSerialAll fuel x0) fun y2 y3 y4 y5 y6 =>
  bind4 (m_impl_SerialAll fuel y2 y3 y4 y5 y6) fun y7 y8 y9 y10 =>
  bind4 (m_spec_SerialAll fuel y2 y3 y4 y5 y6) fun y11 y12 y13 y14 =>
  (m_spec_SameThings fuel y8 y9 y10 y12 y13 y14).bind fun y15 =>
  if y15 = true then
    (
      (
        if (y2.length : Int) < (y7.length : Int) then
          some true
        else
        some (decide ((y3.length : Int) < (y7.length : Int)))).bind fun z1 =>
      if z1 = true then
        some (.ret false)
      else
      some (.brk ())).bind <| contL <| un1 fun _ =>
    (m_laws_FnSerial_L0 fuel y2 y3 y7 fuel y4 y5 y6 0).bind <| contL <| un3 fun z2 z3 z4 =>
    (
      if (y7.length : Int) = 0 then
        some true
      else
      if (y7.length : Int) = (y2.length : Int) then
        (m_spec_SameThings fuel z2 z3 z4 y8 y9 y10).bind fun y25 =>
        some y25
      else
      some false).bind fun z19 =>
    some z19
  else
  some false

set_option maxRecDepth 100000 in
set_option maxHeartbeats 4000000 in
theorem w_laws_FnSerial (fuel : Nat) {x0 : List UInt8} {a_x0 : Option Addr} {n_x0 c_x0 : Nat} {r0 : Bool} {w0 : World} (h : m_laws_FnSerial fuel x0 = some r0) (hr_x0 : RdT (fun b => ¬ False) w0 (rowT x0) (.slice a_x0 n_x0 c_x0)) :
    Calls Try.prog 9 #[.slice a_x0 n_x0 c_x0] w0 fun e w => e = .returned (.bool r0) ∧ St w0 (fun _ => False) w [] := by
  obtain rfl := hr_x0.neq
  have HT : St w0 (fun _ => False) w0 [] := St.init0
  rw [m_laws_FnSerial] at h
  refine calls_fr (n := 132) [.slice a_x0 x0.length c_x0] Try.func9 rfl rfl rfl fun a HF => ?_
  have HT : St w0 (fun _ => False) w0 [] := HT
  refine wp_seq (wc_text (wa HF rfl rfl rfl fun a HF => ?_))
  refine wc_end (then_n (wp_seq (wp_seq (wc_text (wm HF rfl rfl rfl fun a HF => ?_)))))
  obtain ⟨y1, hx1, h⟩ := obs h
  refine wc_call HF cf51 rfl (w_laws_big fuel hx1 (HT.ro hr_x0).any) rfl rfl ?_
  rintro e w ⟨rfl, hE⟩
  have hb := hE.below
  have HT := HT.pure hE
  have HT : St w0 (fun _ => False) w [] := HT
  refine ⟨_, rfl, nS, fun a HF => ?_⟩
  refine wc_end (then_n ?_)
  by_cases hb1 : y1 = true
  have h := ifp hb1 h
  refine wp_if (b' := true) HF rfl hb1 ?_
  refine wp_seq (wc_text (wa HF rfl rfl rfl fun a HF => ?_))
  refine wc_end (then_n (wp_ret ?_))
  obtain rfl := Option.some.inj h
  refine then_r (?_)
  refine bp_ret HF (res_one rfl HF rfl) ?_
  exact ⟨rfl, HT⟩
  have h := ifn hb1 h
  refine wp_if (b' := false) HF rfl (Bool.eq_false_iff.2 hb1) ?_
  refine wp_skip (then_n (wp_seq (wc_text (wm HF rfl rfl rfl fun a HF => ?_))))
  obtain ⟨y2, y3, y4, y5, y6, hx2, h⟩ := obs5 h
  refine wc_call HF cf55 rfl (w_spec_DrawSerialAll fuel hx2 (HT.ro hr_x0).any) rfl rfl ?_
  rintro e w ⟨a1, n1, c1, a2, n2, c2, a3, n3, c3, a4, n4, c4, rfl, hE⟩
  have hb := hE.below
  have HT := HT.pure hE
  obtain rfl := (HT.rdAt 0 rfl).neq
  obtain rfl := (HT.rdAt 1 rfl).neq
  obtain rfl := (HT.rdAt 2 rfl).neq
  obtain rfl := (HT.rdAt 3 rfl).neq
  have HT : St w0 (fun _ => False) w [Own 53 (rowT y2) (.slice a1 y2.length c1), Own 89 (rowT y3) (.slice a2 y3.length c2), Own 3 (rowT y4) (.slice a3 y4.length c3), Own 3 (rowT y5) (.slice a4 y5.length c4)] := HT
  refine ⟨_, rfl, nS, fun a HF => ?_⟩
  refine wm HF rfl rfl rfl fun a HF => ?_
  refine wc_extract (v := .slice a1 y2.length c1) HF nS rfl rfl rfl rfl fun a HF => ?_
  refine wc_extract (v := .slice a2 y3.length c2) HF nS rfl rfl rfl rfl fun a HF => ?_
  refine wc_extract (v := .agg #[.slice a3 y4.length c3, .slice a4 y5.length c4, .int .i64 y6]) HF nS rfl rfl rfl rfl fun a HF => ?_
  refine wc_alloc (cs := [.slice none 0 0, .slice none 0 0, .int .i64 0]) HF HT zr27 rfl rfl rfl (fun p1 w HT hb => ⟨nS, fun a HF => ?_⟩)
  refine wa HF rfl rfl rfl fun a HF => ?_
  refine wa HF rfl rfl rfl fun a HF => ?_
  refine wc_storeB (cs' := [.slice a3 y4.length c3, .slice a4 y5.length c4, .int .i64 y6]) HF HT rfl rfl (fun w => (ag27 w).2) rfl rfl rfl rfl rfl (fun w HT => ⟨nS, ?_⟩)
  refine wc_end (then_n (wp_seq (wc_text (wm HF rfl rfl rfl fun a HF => ?_))))
  refine wm HF rfl rfl rfl fun a HF => ?_
  refine wc_loadA (vs := [.slice a3 y4.length c3, .slice a4 y5.length c4, .int .i64 y6]) HF rfl ag27 rfl ((HT.boxAt 0 rfl).part 0 3) rfl rfl fun a HF => ?_
  obtain ⟨y7, y8, y9, y10, hx3, h⟩ := obs4 h
  refine wc_call HF cf42 rfl (w_impl_SerialAll fuel hx3 (HT.rdAt 1 rfl) (HT.rdAt 2 rfl) (HT.rdAt 3 rfl) (HT.rdAt 4 rfl)) rfl rfl ?_
  rintro e w ⟨a5, n5, c5, a6, n6, c6, a7, n7, c7, rfl, hE⟩
  have hb := hE.below
  have HT := HT.pure hE
  obtain rfl := (HT.rdAt 0 rfl).neq
  obtain rfl := (HT.rdAt 1 rfl).neq
  obtain rfl := (HT.rdAt 2 rfl).neq
  have HT : St w0 (fun _ => False) w [Own 49 (rowT y7) (.slice a5 y7.length c5), Own 3 (rowT y8) (.slice a6 y8.length c6), Own 3 (rowT y9) (.slice a7 y9.length c7), Box p1 [.slice a3 y4.length c3, .slice a4 y5.length c4, .int .i64 y6], Own 53 (rowT y2) (.slice a1 y2.length c1), Own 89 (rowT y3) (.slice a2 y3.length c2), Own 3 (rowT y4) (.slice a3 y4.length c3), Own 3 (rowT y5) (.slice a4 y5.length c4)] := HT
  refine ⟨_, rfl, nS, fun a HF => ?_⟩
  refine wm HF rfl rfl rfl fun a HF => ?_
  refine wc_extract (v := .slice a5 y7.length c5) HF nS rfl rfl rfl rfl fun a HF => ?_
  refine wc_extract (v := .agg #[.slice a6 y8.length c6, .slice a7 y9.length c7, .int .i64 y10]) HF nS rfl rfl rfl rfl fun a HF => ?_
  refine wc_alloc (cs := [.slice none 0 0, .slice none 0 0, .int .i64 0]) HF HT zr27 rfl rfl rfl (fun p2 w HT hb => ⟨nS, fun a HF => ?_⟩)
  refine wa HF rfl rfl rfl fun a HF => ?_
  refine wc_storeB (cs' := [.slice a6 y8.length c6, .slice a7 y9.length c7, .int .i64 y10]) HF HT rfl rfl (fun w => (ag27 w).2) rfl rfl rfl rfl rfl (fun w HT => ⟨nS, ?_⟩)
  refine wc_end (then_n (wp_seq (wc_text (wm HF rfl rfl rfl fun a HF => ?_))))
  refine wm HF rfl rfl rfl fun a HF => ?_
  refine wc_loadA (vs := [.slice a3 y4.length c3, .slice a4 y5.length c4, .int .i64 y6]) HF rfl ag27 rfl ((HT.boxAt 4 rfl).part 0 3) rfl rfl fun a HF => ?_
  obtain ⟨y11, y12, y13, y14, hx4, h⟩ := obs4 h
  refine wc_call HF cf39 rfl (w_spec_SerialAll fuel hx4 (HT.rdAt 5 rfl) (HT.rdAt 6 rfl) (HT.rdAt 7 rfl) (HT.rdAt 8 rfl)) rfl rfl ?_
  rintro e w ⟨a8, n8, c8, a9, n9, c9, a10, n10, c10, rfl, hE⟩
  have hb := hE.below
  have HT := HT.pure hE
  obtain rfl := (HT.rdAt 0 rfl).neq
  obtain rfl := (HT.rdAt 1 rfl).neq
  obtain rfl := (HT.rdAt 2 rfl).neq
  have HT : St w0 (fun _ => False) w [Own 49 (rowT y11) (.slice a8 y11.length c8), Own 3 (rowT y12) (.slice a9 y12.length c9), Own 3 (rowT y13) (.slice a10 y13.length c10), Box p2 [.slice a6 y8.length c6, .slice a7 y9.length c7, .int .i64 y10], Own 49 (rowT y7) (.slice a5 y7.length c5), Own 3 (rowT y8) (.slice a6 y8.length c6), Own 3 (rowT y9) (.slice a7 y9.length c7), Box p1 [.slice a3 y4.length c3, .slice a4 y5.length c4, .int .i64 y6], Own 53 (rowT y2) (.slice a1 y2.length c1), Own 89 (rowT y3) (.slice a2 y3.length c2), Own 3 (rowT y4) (.slice a3 y4.length c3), Own 3 (rowT y5) (.slice a4 y5.length c4)] := HT
  refine ⟨_, rfl, nS, fun a HF => ?_⟩
  refine wm HF rfl rfl rfl fun a HF => ?_
  refine wc_extract (v := .slice a8 y11.length c8) HF nS rfl rfl rfl rfl fun a HF => ?_
  refine wc_extract (v := .agg #[.slice a9 y12.length c9, .slice a10 y13.length c10, .int .i64 y14]) HF nS rfl rfl rfl rfl fun a HF => ?_
  refine wc_alloc (cs := [.slice none 0 0, .slice none 0 0, .int .i64 0]) HF HT zr27 rfl rfl rfl (fun p3 w HT hb => ⟨nS, fun a HF => ?_⟩)
  refine wa HF rfl rfl rfl fun a HF => ?_
  refine wc_storeB (cs' := [.slice a9 y12.length c9, .slice a10 y13.length c10, .int .i64 y14]) HF HT rfl rfl (fun w => (ag27 w).2) rfl rfl rfl rfl rfl (fun w HT => ⟨nS, ?_⟩)
  refine wc_end (then_n (wp_seq (wp_seq (wc_text (wc_loadA (vs := [.slice a6 y8.length c6, .slice a7 y9.length c7, .int .i64 y10]) HF rfl ag27 rfl ((HT.boxAt 4 rfl).part 0 3) rfl rfl fun a HF => ?_)))))
  refine wc_loadA (vs := [.slice a9 y12.length c9, .slice a10 y13.length c10, .int .i64 y14]) HF rfl ag27 rfl ((HT.boxAt 0 rfl).part 0 3) rfl rfl fun a HF => ?_
  obtain ⟨y15, hx5, h⟩ := obs h
  refine wc_call HF cf11 rfl (w_spec_SameThings fuel hx5 (HT.rdAt 6 rfl) (HT.rdAt 7 rfl) (HT.rdAt 2 rfl) (HT.rdAt 3 rfl)) rfl rfl ?_
  rintro e w ⟨rfl, hE⟩
  have hb := hE.below
  have HT := HT.pure hE
  have HT : St w0 (fun _ => False) w [Box p3 [.slice a9 y12.length c9, .slice a10 y13.length c10, .int .i64 y14], Own 49 (rowT y11) (.slice a8 y11.length c8), Own 3 (rowT y12) (.slice a9 y12.length c9), Own 3 (rowT y13) (.slice a10 y13.length c10), Box p2 [.slice a6 y8.length c6, .slice a7 y9.length c7, .int .i64 y10], Own 49 (rowT y7) (.slice a5 y7.length c5), Own 3 (rowT y8) (.slice a6 y8.length c6), Own 3 (rowT y9) (.slice a7 y9.length c7), Box p1 [.slice a3 y4.length c3, .slice a4 y5.length c4, .int .i64 y6], Own 53 (rowT y2) (.slice a1 y2.length c1), Own 89 (rowT y3) (.slice a2 y3.length c2), Own 3 (rowT y4) (.slice a3 y4.length c3), Own 3 (rowT y5) (.slice a4 y5.length c4)] := HT
  refine ⟨_, rfl, nS, fun a HF => ?_⟩
  refine wc_not HF nS rfl rfl rfl fun a HF => ?_
  refine wc_end (then_n ?_)
  by_cases hb2 : y15 = true
  have h := ifp hb2 h
  refine wp_if (b' := false) HF rfl (notT hb2) ?_
  refine wp_skip (then_n (wp_seq (wc_text (wc_loadA (vs := [.slice a3 y4.length c3, .slice a4 y5.length c4, .int .i64 y6]) HF rfl ag27 rfl ((HT.boxAt 8 rfl).part 0 3) rfl rfl fun a HF => ?_))))
  refine wc_alloc (cs := [.slice none 0 0, .slice none 0 0, .int .i64 0]) HF HT zr27 rfl rfl rfl (fun p4 w HT hb => ⟨nS, fun a HF => ?_⟩)
  refine wc_storeB (cs' := [.slice a3 y4.length c3, .slice a4 y5.length c4, .int .i64 y6]) HF HT rfl rfl (fun w => (ag27 w).2) rfl rfl rfl rfl rfl (fun w HT => ⟨nS, ?_⟩)
  refine wc_end (then_n ?_)
  obtain ⟨q1, hx6, h⟩ := obs h
  refine wp_cut (fun a w => q1 = .brk () ∧ Fr a 132 [(3, .slice a1 y2.length c1), (4, .slice a2 y3.length c2), (6, .slice a5 y7.length c5), (7, .pointer (some ⟨p2, 0, none⟩)), (10, .pointer (some ⟨p4, 0, none⟩))] ∧ St w0 (fun _ => False) w [Own 53 (rowT y2) (.slice a1 y2.length c1), Own 89 (rowT y3) (.slice a2 y3.length c2), Own 49 (rowT y7) (.slice a5 y7.length c5), Own 3 (rowT y8) (.slice a6 y8.length c6), Own 3 (rowT y9) (.slice a7 y9.length c7), Box p2 [.slice a6 y8.length c6, .slice a7 y9.length c7, .int .i64 y10], Own 3 (rowT y4) (.slice a3 y4.length c3), Own 3 (rowT y5) (.slice a4 y5.length c4), Box p4 [.slice a3 y4.length c3, .slice a4 y5.length c4, .int .i64 y6]]) ?_ ?_
  have hk1 := h
  have h := hx6
  obtain ⟨z1, hx7, h⟩ := obs h
  refine wp_cut (fun a w => Fr a 132 [(3, .slice a1 y2.length c1), (4, .slice a2 y3.length c2), (6, .slice a5 y7.length c5), (7, .pointer (some ⟨p2, 0, none⟩)), (10, .pointer (some ⟨p4, 0, none⟩)), (51, .bool z1)] ∧ St w0 (fun _ => False) w [Own 53 (rowT y2) (.slice a1 y2.length c1), Own 89 (rowT y3) (.slice a2 y3.length c2), Own 49 (rowT y7) (.slice a5 y7.length c5), Own 3 (rowT y8) (.slice a6 y8.length c6), Own 3 (rowT y9) (.slice a7 y9.length c7), Box p2 [.slice a6 y8.length c6, .slice a7 y9.length c7, .int .i64 y10], Own 3 (rowT y4) (.slice a3 y4.length c3), Own 3 (rowT y5) (.slice a4 y5.length c4), Box p4 [.slice a3 y4.length c3, .slice a4 y5.length c4, .int .i64 y6]]) ?_ ?_
  have hk2 := h
  have h := hx7
  refine wc_text (wm HF rfl rfl rfl fun a HF => ?_)
  refine wc_lenR HF nS Try.underlying65 rfl rfl rfl fun a HF => ?_
  refine wm HF rfl rfl rfl fun a HF => ?_
  refine wc_lenR HF nS Try.underlying68 rfl rfl rfl fun a HF => ?_
  refine wc_bin HF nS rfl rfl b_gt rfl rfl fun a HF => ?_
  refine wm HF rfl rfl rfl fun a HF => ?_
  by_cases hb3 : (y2.length : Int) < (y7.length : Int)
  have h := ifp hb3 h
  refine wc_skip HF nS (HF.wn rfl rfl rfl rfl (decide_eq_true hb3)) rfl fun a HF => ?_
  refine wc_skip HF nS (HF.wn rfl rfl rfl rfl (decide_eq_true hb3)) rfl fun a HF => ?_
  refine wc_skip HF nS (HF.wn rfl rfl rfl rfl (decide_eq_true hb3)) rfl fun a HF => ?_
  refine wc_skip HF nS (HF.wn rfl rfl rfl rfl (decide_eq_true hb3)) rfl fun a HF => ?_
  refine wc_skip HF nS (HF.wn rfl rfl rfl rfl (decide_eq_true hb3)) rfl fun a HF => ?_
  refine wc_pick (b := true) HF nS rfl (decide_eq_true hb3) rfl rfl rfl fun a HF => ?_
  refine wc_end ?_
  have HT := HT.p13.p13.p7.p10.p10.p10.p13.p13.t9
  obtain rfl := Option.some.inj h
  exact then_n ⟨(HF.keep (HF.keep (HF.keep (HF.keep (HF.keep (HF.keep HF.nil rfl) rfl) rfl) rfl) rfl) rfl), HT⟩
  have h := ifn hb3 h
  refine wc_move HF nS rfl (HF.wy rfl rfl rfl rfl (decide_eq_false hb3)) rfl fun a HF => ?_
  refine wc_lenR HF nS Try.underlying65 rfl (HF.wy rfl rfl rfl rfl (decide_eq_false hb3)) rfl fun a HF => ?_
  refine wc_move HF nS rfl (HF.wy rfl rfl rfl rfl (decide_eq_false hb3)) rfl fun a HF => ?_
  refine wc_lenR HF nS Try.underlying70 rfl (HF.wy rfl rfl rfl rfl (decide_eq_false hb3)) rfl fun a HF => ?_
  refine wc_bin HF nS rfl rfl b_gt (HF.wy rfl rfl rfl rfl (decide_eq_false hb3)) rfl fun a HF => ?_
  refine wc_pick (b := false) HF nS rfl (decide_eq_false hb3) rfl rfl rfl fun a HF => ?_
  refine wc_end ?_
  have HT := HT.p13.p13.p7.p10.p10.p10.p13.p13.t9
  obtain rfl := Option.some.inj h
  exact then_n ⟨(HF.keep (HF.keep (HF.keep (HF.keep (HF.keep (HF.keep HF.nil rfl) rfl) rfl) rfl) rfl) rfl), HT⟩
  rintro a w ⟨HF, HT⟩
  refine ?_
  by_cases hb4 : z1 = true
  have h := ifp hb4 h
  refine wp_if (b' := true) HF rfl hb4 ?_
  refine wp_seq (wc_text (wa HF rfl rfl rfl fun a HF => ?_))
  refine wc_end (then_n (wp_ret ?_))
  obtain rfl := Option.some.inj h
  have h := retL hk1
  obtain rfl := Option.some.inj h
  refine then_r (?_)
  refine bp_ret HF (res_one rfl HF rfl) ?_
  have HT := HT.t0
  exact ⟨rfl, HT⟩
  have h := ifn hb4 h
  refine wp_if (b' := false) HF rfl (Bool.eq_false_iff.2 hb4) ?_
  exact wp_skip (then_n ⟨(Option.some.inj h).symm, (HF.keep (HF.keep (HF.keep (HF.keep (HF.keep HF.nil rfl) rfl) rfl) rfl) rfl), HT⟩)
  rintro a w ⟨rfl, HF, HT⟩
  have h := brkL1u h
  refine ?_
  obtain ⟨q3, hx8, h⟩ := obs h
  refine wp_cut (fun a w => ∃ z2 z3 z4 a11 n11 c11 a12 n12 c12, q3 = .brk (z2, z3, z4) ∧ Fr a 132 [(3, .slice a1 y2.length c1), (6, .slice a5 y7.length c5), (7, .pointer (some ⟨p2, 0, none⟩)), (10, .pointer (some ⟨p4, 0, none⟩))] ∧ St w0 (fun _ => False) w [Own 53 (rowT y2) (.slice a1 y2.length c1), Own 49 (rowT y7) (.slice a5 y7.length c5), Own 3 (rowT y8) (.slice a6 y8.length c6), Own 3 (rowT y9) (.slice a7 y9.length c7), Box p2 [.slice a6 y8.length c6, .slice a7 y9.length c7, .int .i64 y10], OwnA (rowT z2) (.slice a11 n11 c11), OwnA (rowT z3) (.slice a12 n12 c12), Box p4 [.slice a11 n11 c11, .slice a12 n12 c12, .int .i64 z4]]) ?_ ?_
  have hk1 := h
  have h := hx8
  refine wp_seq (wc_text (wa HF rfl rfl rfl fun a HF => ?_))
  refine wc_end (then_n (wp_block ?_))
  have HT := HT.p6
  have HT := HT.weak
  have HT := HT.p7
  have HT := HT.weak
  have HT := HT.p8.p1.p2.p8.p8.p8.p8.p8.p8
  refine wp_loopN (fun k1 a w => ∃ z5 z6 z7 z8 a13 n13 c13 a14 n14 c14, m_laws_FnSerial_L0 fuel y2 y3 y7 k1 z5 z6 z7 z8 = some q3 ∧ Fr a 132 [(3, .slice a1 y2.length c1), (4, .slice a2 y3.length c2), (6, .slice a5 y7.length c5), (7, .pointer (some ⟨p2, 0, none⟩)), (10, .pointer (some ⟨p4, 0, none⟩)), (11, .int .i64 z8)] ∧ St w0 (fun _ => False) w [Own 53 (rowT y2) (.slice a1 y2.length c1), Own 89 (rowT y3) (.slice a2 y3.length c2), Own 49 (rowT y7) (.slice a5 y7.length c5), Own 3 (rowT y8) (.slice a6 y8.length c6), Own 3 (rowT y9) (.slice a7 y9.length c7), Box p2 [.slice a6 y8.length c6, .slice a7 y9.length c7, .int .i64 y10], OwnA (rowT z5) (.slice a13 n13 c13), OwnA (rowT z6) (.slice a14 n14 c14), Box p4 [.slice a13 n13 c13, .slice a14 n14 c14, .int .i64 z7]]) fuel ⟨y4, y5, y6, 0, a3, y4.length, c3, a4, y5.length, c4, h, (HF.keep (HF.keep (HF.keep (HF.keep (HF.keep (HF.keep HF.nil rfl) rfl) rfl) rfl) rfl) rfl), HT⟩ ?_
  rintro k1 a w ⟨z5, z6, z7, z8, a13, n13, c13, a14, n14, c14, h, HF, HT⟩
  rcases k1 with _ | k1
  cases h
  rw [m_laws_FnSerial_L0] at h
  obtain rfl := (HT.rdAAt 6 rfl).neq
  obtain rfl := (HT.rdAAt 7 rfl).neq
  refine ?_
  refine wp_seq (wp_seq (wc_text (wm HF rfl rfl rfl fun a HF => ?_)))
  refine wm HF rfl rfl rfl fun a HF => ?_
  refine wc_lenR HF nS Try.underlying65 rfl rfl rfl fun a HF => ?_
  refine wc_bin HF nS rfl rfl b_lt rfl rfl fun a HF => ?_
  refine wc_end (then_n ?_)
  by_cases hb5 : z8 < (y7.length : Int)
  have h := ifp hb5 h
  refine wp_if (b' := true) HF rfl (decide_eq_true hb5) ?_
  refine wp_skip (then_n ?_)
  obtain ⟨q4, hx9, h⟩ := obs h
  refine wp_cut (fun a w => ∃ z9 z10 z11 a15 n15 c15 a16 n16 c16, q4 = .brk (z9, z10, z11) ∧ Fr a 132 [(3, .slice a1 y2.length c1), (4, .slice a2 y3.length c2), (6, .slice a5 y7.length c5), (7, .pointer (some ⟨p2, 0, none⟩)), (10, .pointer (some ⟨p4, 0, none⟩)), (11, .int .i64 z8)] ∧ St w0 (fun _ => False) w [Own 53 (rowT y2) (.slice a1 y2.length c1), Own 89 (rowT y3) (.slice a2 y3.length c2), Own 49 (rowT y7) (.slice a5 y7.length c5), Own 3 (rowT y8) (.slice a6 y8.length c6), Own 3 (rowT y9) (.slice a7 y9.length c7), Box p2 [.slice a6 y8.length c6, .slice a7 y9.length c7, .int .i64 y10], OwnA (rowT z9) (.slice a15 n15 c15), OwnA (rowT z10) (.slice a16 n16 c16), Box p4 [.slice a15 n15 c15, .slice a16 n16 c16, .int .i64 z11]]) ?_ ?_
  have hk2 := h
  have h := hx9
  refine wp_block ?_
  obtain ⟨z12, z13, z14, z15, z16, hx10, h⟩ := obs5 h
  refine wp_cut (fun a w => ∃ a17 n17 c17 a18 n18 c18 a19 n19 c19 p5, Fr a 132 [(3, .slice a1 y2.length c1), (4, .slice a2 y3.length c2), (6, .slice a5 y7.length c5), (7, .pointer (some ⟨p2, 0, none⟩)), (10, .pointer (some ⟨p4, 0, none⟩)), (11, .int .i64 z8), (12, .pointer (some ⟨p5, 0, none⟩))] ∧ St w0 (fun _ => False) w [Own 53 (rowT y2) (.slice a1 y2.length c1), Own 89 (rowT y3) (.slice a2 y3.length c2), Own 49 (rowT y7) (.slice a5 y7.length c5), Own 3 (rowT y8) (.slice a6 y8.length c6), Own 3 (rowT y9) (.slice a7 y9.length c7), Box p2 [.slice a6 y8.length c6, .slice a7 y9.length c7, .int .i64 y10], OwnA (rowT z5) (.slice a13 z5.length c13), OwnA (rowT z6) (.slice a14 z6.length c14), Box p4 [.slice a13 z5.length c13, .slice a14 z6.length c14, .int .i64 z7], OwnA (rowT z13) (.slice a17 n17 c17), OwnA (rowT z14) (.slice a18 n18 c18), OwnA (rowT z15) (.slice a19 n19 c19), Box p5 [.int .i64 z12, .slice a17 n17 c17, .slice a18 n18 c18, .slice a19 n19 c19, .int .i64 z16]]) ?_ ?_
  have hk3 := h
  have h := hx10
  obtain ⟨e1, hx11, h⟩ := obs h
  obtain ⟨b1, o1, ha1⟩ := (HT.rdAt 0 rfl).addr hx11
  obtain ⟨_, _, hc1, hr1⟩ := (HT.rdAt 0 rfl).elemAt ha1 hx11
  obtain ⟨a20, c20, a21, c21, rfl, hr2, hr3⟩ := cells_Prog hr1
  obtain ⟨e2, hx12, h⟩ := obs h
  obtain ⟨b2, o2, ha2⟩ := (HT.rdAt 1 rfl).addr hx12
  obtain ⟨_, _, hc2, hr4⟩ := (HT.rdAt 1 rfl).elemAt ha2 hx12
  obtain ⟨a22, c22, rfl, hr5⟩ := cells_Ord hr4
  refine wp_region_tree (.seg [(0, false), (1, false), (2, false), (3, false), (4, false), (5, false), (6, false), (7, false), (8, false), (9, false)] (.alt 10 true (.seg [(11, false), (12, true)] .stop) (.alt 11 false (.seg [(10, true), (12, true)] .stop) .none))) (fun w' => LdC w' b1 (o1 + (z8 : Int).toNat * Dat.size ProgD) [.slice a20 e1.code.length c20, .slice a21 e1.kids.length c21] ∧ LdC w' b2 (o2 + (z8 : Int).toNat * Dat.size OrdD) [.slice a22 e2.kids.length c22] ∧ LdC w' p4 0 [.slice a13 z5.length c13, .slice a14 z6.length c14, .int .i64 z7] ∧ True) (by kernel_rfl) (by kernel_rfl) ?_
  have HT := HT.drew
  have hb : Below w.heap.size w w.drew := (Below.refl _ _).drew
  have hl1 := hr2.belowR hb
  have hl2 := hr3.belowR hb
  have hl3 := hr5.belowR hb
  have hk1 := hc1.below hb
  have hk2 := hc2.below hb
  refine wt_seg (wc_move HF (fun _ => ⟨hk1, hk2, (HT.boxAt 8 rfl).part 0 3, trivial⟩) rfl rfl rfl fun a HF => ?_)
  refine wc_move HF (fun _ => ⟨hk1, hk2, (HT.boxAt 8 rfl).part 0 3, trivial⟩) rfl rfl rfl fun a HF => ?_
  refine wc_ixaddr HF (fun _ => ⟨hk1, hk2, (HT.boxAt 8 rfl).part 0 3, trivial⟩) el68 rfl ha1 ((HT.rdAt 0 rfl)).neq rfl hx11 rfl rfl fun a HF => ?_
  refine wc_loadAS (vs := [.slice a20 e1.code.length c20, .slice a21 e1.kids.length c21]) HF ⟨hk1, hk2, (HT.boxAt 8 rfl).part 0 3, trivial⟩ rfl ag53 rfl (fun w hS => (hS.1).part 0 2) rfl rfl fun a HF => ?_
  refine wc_move HF (fun _ => ⟨hk1, hk2, (HT.boxAt 8 rfl).part 0 3, trivial⟩) rfl rfl rfl fun a HF => ?_
  refine wc_move HF (fun _ => ⟨hk1, hk2, (HT.boxAt 8 rfl).part 0 3, trivial⟩) rfl rfl rfl fun a HF => ?_
  refine wc_ixaddr HF (fun _ => ⟨hk1, hk2, (HT.boxAt 8 rfl).part 0 3, trivial⟩) el70 rfl ha2 ((HT.rdAt 1 rfl)).neq rfl hx12 rfl rfl fun a HF => ?_
  refine wc_faddr HF (fun _ => ⟨hk1, hk2, (HT.boxAt 8 rfl).part 0 3, trivial⟩) rfl fl89_0 rfl rfl fun a HF => ?_
  refine wc_loadS HF ⟨hk1, hk2, (HT.boxAt 8 rfl).part 0 3, trivial⟩ rfl sc22 (fun w hS => (hS.2.1).get 0 rfl) rfl rfl fun a HF => ?_
  refine wc_loadAS (vs := [.slice a13 z5.length c13, .slice a14 z6.length c14, .int .i64 z7]) HF ⟨hk1, hk2, (HT.boxAt 8 rfl).part 0 3, trivial⟩ rfl ag27 rfl (fun w hS => hS.2.2.1) rfl rfl fun a HF => ?_
  refine wc_endT ?_
  obtain ⟨y16, y17, y18, y19, y20, hx13, h⟩ := obs5 h
  refine wt_alt ?_ ?_
  refine wc_call HF cf30 rfl (w_impl_Serial fuel hx13 hl1 hl2 hl3 (HT.rdAAt 6 rfl) (HT.rdAAt 7 rfl)) rfl rfl ?_
  rintro e w ⟨a26, n23, c26, a27, n24, c27, a28, n25, c28, rfl, hE⟩
  have hb := hE.below
  have HT := HT.pure hE
  have hl10 := hl1.belowR hb
  have hl11 := hl2.belowR hb
  have hl12 := hl3.belowR hb
  have hk7 := hk1.below hb
  have hk8 := hk2.below hb
  obtain rfl := (HT.rdAAt 0 rfl).neq
  obtain rfl := (HT.rdAAt 1 rfl).neq
  obtain rfl := (HT.rdAAt 2 rfl).neq
  have HT : St w0 (fun _ => False) w [OwnA (rowT y17) (.slice a26 y17.length c26), OwnA (rowT y18) (.slice a27 y18.length c27), OwnA (rowT y19) (.slice a28 y19.length c28), Own 53 (rowT y2) (.slice a1 y2.length c1), Own 89 (rowT y3) (.slice a2 y3.length c2), Own 49 (rowT y7) (.slice a5 y7.length c5), Own 3 (rowT y8) (.slice a6 y8.length c6), Own 3 (rowT y9) (.slice a7 y9.length c7), Box p2 [.slice a6 y8.length c6, .slice a7 y9.length c7, .int .i64 y10], OwnA (rowT z5) (.slice a13 z5.length c13), OwnA (rowT z6) (.slice a14 z6.length c14), Box p4 [.slice a13 z5.length c13, .slice a14 z6.length c14, .int .i64 z7]] := HT
  refine ⟨_, rfl, nS, fun a HF => ?_⟩
  refine wc_endT (wt_seg (wc_alloc (cs := [.int .i64 0, .slice none 0 0, .slice none 0 0, .slice none 0 0, .int .i64 0]) HF HT zr49 rfl rfl rfl (fun p7 w HT hb => ⟨(fun _ => ⟨(hk7.below hb), (hk8.below hb), (HT.boxAt 12 rfl).part 0 3, trivial⟩), fun a HF => ?_⟩)))
  have hl13 := hl10.belowR hb
  have hl14 := hl11.belowR hb
  have hl15 := hl12.belowR hb
  have hk9 := hk7.below hb
  have hk10 := hk8.below hb
  refine wc_storeB (cs' := [.int .i64 y16, .slice a26 y17.length c26, .slice a27 y18.length c27, .slice a28 y19.length c28, .int .i64 y20]) HF HT rfl rfl (fun w => (ag49 w).2) rfl rfl rfl rfl rfl (fun w HT => ⟨nS, ?_⟩)
  refine wc_endT (wt_stop ?_)
  have HT := HT.p3.p3.p3.p12.p12.p12.p12.p12.p12.p12.p12.p12
  have hj1 := Option.some.inj h
  obtain ⟨rfl, hj2⟩ := Prod.mk.inj hj1
  obtain ⟨rfl, hj3⟩ := Prod.mk.inj hj2
  obtain ⟨rfl, hj4⟩ := Prod.mk.inj hj3
  obtain ⟨rfl, hj5⟩ := Prod.mk.inj hj4
  subst hj5
  exact then_n ⟨a26, y17.length, c26, a27, y18.length, c27, a28, y19.length, c28, p7, (HF.keep (HF.keep (HF.keep (HF.keep (HF.keep (HF.keep (HF.keep HF.nil rfl) rfl) rfl) rfl) rfl) rfl) rfl), HT⟩
  refine wt_alt ?_ ?_
  refine wc_alloc (cs := [.int .i64 0, .slice none 0 0, .slice none 0 0, .slice none 0 0, .int .i64 0]) HF HT zr49 rfl rfl rfl (fun p8 w HT hb => ⟨(fun _ => ⟨(hk1.below hb), (hk2.below hb), (HT.boxAt 9 rfl).part 0 3, trivial⟩), fun a HF => ?_⟩)
  have hl16 := hl1.belowR hb
  have hl17 := hl2.belowR hb
  have hl18 := hl3.belowR hb
  have hk11 := hk1.below hb
  have hk12 := hk2.below hb
  refine wc_endT (wt_seg (wc_call HF cf30 rfl (w_impl_Serial fuel hx13 hl16 hl17 hl18 (HT.rdAAt 7 rfl) (HT.rdAAt 8 rfl)) rfl rfl ?_))
  rintro e w ⟨a29, n26, c29, a30, n27, c30, a31, n28, c31, rfl, hE⟩
  have hb := hE.below
  have HT := HT.pure hE
  have hl19 := hl16.belowR hb
  have hl20 := hl17.belowR hb
  have hl21 := hl18.belowR hb
  have hk13 := hk11.below hb
  have hk14 := hk12.below hb
  obtain rfl := (HT.rdAAt 0 rfl).neq
  obtain rfl := (HT.rdAAt 1 rfl).neq
  obtain rfl := (HT.rdAAt 2 rfl).neq
  have HT : St w0 (fun _ => False) w [OwnA (rowT y17) (.slice a29 y17.length c29), OwnA (rowT y18) (.slice a30 y18.length c30), OwnA (rowT y19) (.slice a31 y19.length c31), Box p8 [.int .i64 0, .slice none 0 0, .slice none 0 0, .slice none 0 0, .int .i64 0], Own 53 (rowT y2) (.slice a1 y2.length c1), Own 89 (rowT y3) (.slice a2 y3.length c2), Own 49 (rowT y7) (.slice a5 y7.length c5), Own 3 (rowT y8) (.slice a6 y8.length c6), Own 3 (rowT y9) (.slice a7 y9.length c7), Box p2 [.slice a6 y8.length c6, .slice a7 y9.length c7, .int .i64 y10], OwnA (rowT z5) (.slice a13 z5.length c13), OwnA (rowT z6) (.slice a14 z6.length c14), Box p4 [.slice a13 z5.length c13, .slice a14 z6.length c14, .int .i64 z7]] := HT
  refine ⟨_, rfl, nS, fun a HF => ?_⟩
  have HT := HT.p3
  refine wc_storeB (cs' := [.int .i64 y16, .slice a29 y17.length c29, .slice a30 y18.length c30, .slice a31 y19.length c31, .int .i64 y20]) HF HT rfl rfl (fun w => (ag49 w).2) rfl rfl rfl rfl rfl (fun w HT => ⟨nS, ?_⟩)
  refine wc_endT (wt_stop ?_)
  have HT := HT.p3.p3.p3.p12.p12.p12.p12.p12.p12.p12.p12.p12
  have hj6 := Option.some.inj h
  obtain ⟨rfl, hj7⟩ := Prod.mk.inj hj6
  obtain ⟨rfl, hj8⟩ := Prod.mk.inj hj7
  obtain ⟨rfl, hj9⟩ := Prod.mk.inj hj8
  obtain ⟨rfl, hj10⟩ := Prod.mk.inj hj9
  subst hj10
  exact then_n ⟨a29, y17.length, c29, a30, y18.length, c30, a31, y19.length, c31, p8, (HF.keep (HF.keep (HF.keep (HF.keep (HF.keep (HF.keep (HF.keep HF.nil rfl) rfl) rfl) rfl) rfl) rfl) rfl), HT⟩
  exact wt_none
  rintro a w ⟨a17, n17, c17, a18, n18, c18, a19, n19, c19, p5, HF, HT⟩
  obtain rfl := (HT.rdAAt 9 rfl).neq
  obtain rfl := (HT.rdAAt 10 rfl).neq
  obtain rfl := (HT.rdAAt 11 rfl).neq
  refine ?_
  obtain ⟨q6, hx14, h⟩ := obs h
  refine wp_cut (fun a w => q6 = .brk () ∧ Fr a 132 [(3, .slice a1 y2.length c1), (4, .slice a2 y3.length c2), (6, .slice a5 y7.length c5), (7, .pointer (some ⟨p2, 0, none⟩)), (10, .pointer (some ⟨p4, 0, none⟩)), (11, .int .i64 z8), (12, .pointer (some ⟨p5, 0, none⟩))] ∧ St w0 (fun _ => False) w [Own 53 (rowT y2) (.slice a1 y2.length c1), Own 89 (rowT y3) (.slice a2 y3.length c2), Own 49 (rowT y7) (.slice a5 y7.length c5), Own 3 (rowT y8) (.slice a6 y8.length c6), Own 3 (rowT y9) (.slice a7 y9.length c7), Box p2 [.slice a6 y8.length c6, .slice a7 y9.length c7, .int .i64 y10], OwnA (rowT z5) (.slice a13 z5.length c13), OwnA (rowT z6) (.slice a14 z6.length c14), Box p4 [.slice a13 z5.length c13, .slice a14 z6.length c14, .int .i64 z7], OwnA (rowT z13) (.slice a17 z13.length c17), OwnA (rowT z14) (.slice a18 z14.length c18), OwnA (rowT z15) (.slice a19 z15.length c19), Box p5 [.int .i64 z12, .slice a17 z13.length c17, .slice a18 z14.length c18, .slice a19 z15.length c19, .int .i64 z16]]) ?_ ?_
  have hk3 := h
  have h := hx14
  obtain ⟨z17, hx15, h⟩ := obs h
  refine wp_cut (fun a w => Fr a 132 [(3, .slice a1 y2.length c1), (4, .slice a2 y3.length c2), (6, .slice a5 y7.length c5), (7, .pointer (some ⟨p2, 0, none⟩)), (10, .pointer (some ⟨p4, 0, none⟩)), (11, .int .i64 z8), (12, .pointer (some ⟨p5, 0, none⟩)), (104, .bool z17)] ∧ St w0 (fun _ => False) w [Own 53 (rowT y2) (.slice a1 y2.length c1), Own 89 (rowT y3) (.slice a2 y3.length c2), Own 49 (rowT y7) (.slice a5 y7.length c5), Own 3 (rowT y8) (.slice a6 y8.length c6), Own 3 (rowT y9) (.slice a7 y9.length c7), Box p2 [.slice a6 y8.length c6, .slice a7 y9.length c7, .int .i64 y10], OwnA (rowT z5) (.slice a13 z5.length c13), OwnA (rowT z6) (.slice a14 z6.length c14), Box p4 [.slice a13 z5.length c13, .slice a14 z6.length c14, .int .i64 z7], OwnA (rowT z13) (.slice a17 z13.length c17), OwnA (rowT z14) (.slice a18 z14.length c18), OwnA (rowT z15) (.slice a19 z15.length c19), Box p5 [.int .i64 z12, .slice a17 z13.length c17, .slice a18 z14.length c18, .slice a19 z15.length c19, .int .i64 z16]]) ?_ ?_
  have hk4 := h
  have h := hx15
  refine wp_region_can [(0, true), (1, true), (2, true), (3, true), (4, true), (5, true), (6, true), (7, true), (8, true), (9, true), (10, true), (11, true), (12, true), (13, true), (14, true), (15, true), (16, true), (17, true), (18, true), (19, true), (20, true), (21, true), (22, true), (23, true), (24, true), (25, true), (26, true), (27, true), (28, true), (29, true), (30, true), (31, true), (32, true), (33, true), (34, true), (35, true)] (fun w' => True) (by kernel_rfl) (by kernel_rfl) ?_
  have HT := HT.drew
  refine wc_faddr HF nS rfl fl49_0 rfl rfl fun a HF => ?_
  refine wc_load HF rfl sc3 ((HT.boxAt 12 rfl).get 0 rfl) rfl rfl fun a HF => ?_
  refine wm HF rfl rfl rfl fun a HF => ?_
  refine wm HF rfl rfl rfl fun a HF => ?_
  obtain ⟨e3, hx16, h⟩ := obs h
  obtain ⟨b3, o3, ha3⟩ := (HT.rdAt 2 rfl).addr hx16
  refine wc_ixaddr HF nS el65 rfl ha3 ((HT.rdAt 2 rfl)).neq rfl hx16 rfl rfl fun a HF => ?_
  refine wc_faddr HF nS rfl fl49_0 rfl rfl fun a HF => ?_
  obtain ⟨_, _, hc3, hr6⟩ := (HT.rdAt 2 rfl).elemAt ha3 hx16
  obtain ⟨a32, c32, a33, c33, a34, c34, rfl, hr7, hr8, hr9⟩ := cells_Run hr6
  refine wc_load HF rfl sc3 (hc3.get 0 rfl) rfl rfl fun a HF => ?_
  refine wc_bin HF nS rfl rfl b_ne rfl rfl fun a HF => ?_
  refine wm HF rfl rfl rfl fun a HF => ?_
  by_cases hb6 : z12 = e3.out
  have h := ifp hb6 h
  refine wc_faddr HF nS rfl fl49_1 (HF.wy rfl rfl rfl rfl (notT (decide_eq_true hb6))) rfl fun a HF => ?_
  refine wc_load HF rfl sc22 ((HT.boxAt 12 rfl).get 1 rfl) (HF.wy rfl rfl rfl rfl (notT (decide_eq_true hb6))) rfl fun a HF => ?_
  refine wc_move HF nS rfl (HF.wy rfl rfl rfl rfl (notT (decide_eq_true hb6))) rfl fun a HF => ?_
  refine wc_move HF nS rfl (HF.wy rfl rfl rfl rfl (notT (decide_eq_true hb6))) rfl fun a HF => ?_
  refine wc_ixaddr HF nS el65 rfl ha3 ((HT.rdAt 2 rfl)).neq rfl hx16 (HF.wy rfl rfl rfl rfl (notT (decide_eq_true hb6))) rfl fun a HF => ?_
  refine wc_faddr HF nS rfl fl49_1 (HF.wy rfl rfl rfl rfl (notT (decide_eq_true hb6))) rfl fun a HF => ?_
  obtain ⟨_, _, hc4, hr10⟩ := (HT.rdAt 2 rfl).elemAt ha3 hx16
  obtain ⟨a35, c35, a36, c36, a37, c37, rfl, hr11, hr12, hr13⟩ := cells_Run hr10
  refine wc_load HF rfl sc22 (hc4.get 1 rfl) (HF.wy rfl rfl rfl rfl (notT (decide_eq_true hb6))) rfl fun a HF => ?_
  obtain ⟨y21, hx17, h⟩ := obs h
  refine wc_call HF cf54 rfl (w_laws_sameInts fuel hx17 (HT.rdAAt 9 rfl) hr11) (HF.wy rfl rfl rfl rfl (notT (decide_eq_true hb6))) rfl ?_
  rintro e w ⟨rfl, hE⟩
  have hb := hE.below
  have HT := HT.pure hE
  have hl22 := hr7.belowR hb
  have hl23 := hr8.belowR hb
  have hl24 := hr9.belowR hb
  have hl25 := hr11.belowR hb
  have hl26 := hr12.belowR hb
  have hl27 := hr13.belowR hb
  have hk15 := hc4.below hb
  have HT : St w0 (fun _ => False) w [Own 53 (rowT y2) (.slice a1 y2.length c1), Own 89 (rowT y3) (.slice a2 y3.length c2), Own 49 (rowT y7) (.slice a5 y7.length c5), Own 3 (rowT y8) (.slice a6 y8.length c6), Own 3 (rowT y9) (.slice a7 y9.length c7), Box p2 [.slice a6 y8.length c6, .slice a7 y9.length c7, .int .i64 y10], OwnA (rowT z5) (.slice a13 z5.length c13), OwnA (rowT z6) (.slice a14 z6.length c14), Box p4 [.slice a13 z5.length c13, .slice a14 z6.length c14, .int .i64 z7], OwnA (rowT z13) (.slice a17 z13.length c17), OwnA (rowT z14) (.slice a18 z14.length c18), OwnA (rowT z15) (.slice a19 z15.length c19), Box p5 [.int .i64 z12, .slice a17 z13.length c17, .slice a18 z14.length c18, .slice a19 z15.length c19, .int .i64 z16]] := HT
  refine ⟨_, rfl, nS, fun a HF => ?_⟩
  refine wc_not HF nS rfl (HF.wy rfl rfl rfl rfl (notT (decide_eq_true hb6))) rfl fun a HF => ?_
  refine wc_pick (b := false) HF nS rfl (notT (decide_eq_true hb6)) rfl rfl rfl fun a HF => ?_
  refine wm HF rfl rfl rfl fun a HF => ?_
  by_cases hb7 : y21 = true
  have h := ifp hb7 h
  refine wc_faddr HF nS rfl fl49_2 (HF.wy rfl rfl rfl rfl (notT hb7)) rfl fun a HF => ?_
  refine wc_loadA (vs := [.slice a18 z14.length c18, .slice a19 z15.length c19, .int .i64 z16]) HF rfl ag27 rfl ((HT.boxAt 12 rfl).part 2 3) (HF.wy rfl rfl rfl rfl (notT hb7)) rfl fun a HF => ?_
  refine wc_move HF nS rfl (HF.wy rfl rfl rfl rfl (notT hb7)) rfl fun a HF => ?_
  refine wc_move HF nS rfl (HF.wy rfl rfl rfl rfl (notT hb7)) rfl fun a HF => ?_
  refine wc_ixaddr HF nS el65 rfl ha3 ((HT.rdAt 2 rfl)).neq rfl hx16 (HF.wy rfl rfl rfl rfl (notT hb7)) rfl fun a HF => ?_
  refine wc_faddr HF nS rfl fl49_2 (HF.wy rfl rfl rfl rfl (notT hb7)) rfl fun a HF => ?_
  obtain ⟨_, _, hc5, hr14⟩ := (HT.rdAt 2 rfl).elemAt ha3 hx16
  obtain ⟨a38, c38, a39, c39, a40, c40, rfl, hr15, hr16, hr17⟩ := cells_Run hr14
  refine wc_loadA (vs := [.slice a39 e3.cells.length c39, .slice a40 e3.map.length c40, .int .i64 e3.count]) HF rfl ag27 rfl (hc5.part 2 3) (HF.wy rfl rfl rfl rfl (notT hb7)) rfl fun a HF => ?_
  obtain ⟨y22, hx18, h⟩ := obs h
  refine wc_call HF cf11 rfl (w_spec_SameThings fuel hx18 (HT.rdAAt 10 rfl) (HT.rdAAt 11 rfl) hr16 hr17) (HF.wy rfl rfl rfl rfl (notT hb7)) rfl ?_
  rintro e w ⟨rfl, hE⟩
  have hb := hE.below
  have HT := HT.pure hE
  have hl28 := hl22.belowR hb
  have hl29 := hl23.belowR hb
  have hl30 := hl24.belowR hb
  have hl31 := hl25.belowR hb
  have hl32 := hl26.belowR hb
  have hl33 := hl27.belowR hb
  have hl34 := hr15.belowR hb
  have hl35 := hr16.belowR hb
  have hl36 := hr17.belowR hb
  have hk16 := hc5.below hb
  have HT : St w0 (fun _ => False) w [Own 53 (rowT y2) (.slice a1 y2.length c1), Own 89 (rowT y3) (.slice a2 y3.length c2), Own 49 (rowT y7) (.slice a5 y7.length c5), Own 3 (rowT y8) (.slice a6 y8.length c6), Own 3 (rowT y9) (.slice a7 y9.length c7), Box p2 [.slice a6 y8.length c6, .slice a7 y9.length c7, .int .i64 y10], OwnA (rowT z5) (.slice a13 z5.length c13), OwnA (rowT z6) (.slice a14 z6.length c14), Box p4 [.slice a13 z5.length c13, .slice a14 z6.length c14, .int .i64 z7], OwnA (rowT z13) (.slice a17 z13.length c17), OwnA (rowT z14) (.slice a18 z14.length c18), OwnA (rowT z15) (.slice a19 z15.length c19), Box p5 [.int .i64 z12, .slice a17 z13.length c17, .slice a18 z14.length c18, .slice a19 z15.length c19, .int .i64 z16]] := HT
  refine ⟨_, rfl, nS, fun a HF => ?_⟩
  refine wc_not HF nS rfl (HF.wy rfl rfl rfl rfl (notT hb7)) rfl fun a HF => ?_
  refine wc_pick (b := false) HF nS rfl (notT hb7) rfl rfl rfl fun a HF => ?_
  refine wm HF rfl rfl rfl fun a HF => ?_
  by_cases hb8 : y22 = true
  have h := ifp hb8 h
  refine wc_faddr HF nS rfl fl49_2 (HF.wy rfl rfl rfl rfl (notT hb8)) rfl fun a HF => ?_
  refine wc_loadA (vs := [.slice a18 z14.length c18, .slice a19 z15.length c19, .int .i64 z16]) HF rfl ag27 rfl ((HT.boxAt 12 rfl).part 2 3) (HF.wy rfl rfl rfl rfl (notT hb8)) rfl fun a HF => ?_
  obtain ⟨y23, hx19, h⟩ := obs h
  refine wc_call HF cf15 rfl (w_spec_ThingsOk fuel hx19 (HT.rdAAt 10 rfl) (HT.rdAAt 11 rfl)) (HF.wy rfl rfl rfl rfl (notT hb8)) rfl ?_
  rintro e w ⟨rfl, hE⟩
  have hb := hE.below
  have HT := HT.pure hE
  have hl37 := hl28.belowR hb
  have hl38 := hl29.belowR hb
  have hl39 := hl30.belowR hb
  have hl40 := hl31.belowR hb
  have hl41 := hl32.belowR hb
  have hl42 := hl33.belowR hb
  have hl43 := hl34.belowR hb
  have hl44 := hl35.belowR hb
  have hl45 := hl36.belowR hb
  have hk17 := hk16.below hb
  have HT : St w0 (fun _ => False) w [Own 53 (rowT y2) (.slice a1 y2.length c1), Own 89 (rowT y3) (.slice a2 y3.length c2), Own 49 (rowT y7) (.slice a5 y7.length c5), Own 3 (rowT y8) (.slice a6 y8.length c6), Own 3 (rowT y9) (.slice a7 y9.length c7), Box p2 [.slice a6 y8.length c6, .slice a7 y9.length c7, .int .i64 y10], OwnA (rowT z5) (.slice a13 z5.length c13), OwnA (rowT z6) (.slice a14 z6.length c14), Box p4 [.slice a13 z5.length c13, .slice a14 z6.length c14, .int .i64 z7], OwnA (rowT z13) (.slice a17 z13.length c17), OwnA (rowT z14) (.slice a18 z14.length c18), OwnA (rowT z15) (.slice a19 z15.length c19), Box p5 [.int .i64 z12, .slice a17 z13.length c17, .slice a18 z14.length c18, .slice a19 z15.length c19, .int .i64 z16]] := HT
  refine ⟨_, rfl, nS, fun a HF => ?_⟩
  refine wc_not HF nS rfl (HF.wy rfl rfl rfl rfl (notT hb8)) rfl fun a HF => ?_
  refine wc_pick (b := false) HF nS rfl (notT hb8) rfl rfl rfl fun a HF => ?_
  refine wc_endN ?_
  obtain rfl := Option.some.inj h
  exact then_n ⟨(HF.keep (HF.keep (HF.keep (HF.keep (HF.keep (HF.keep (HF.keep (HF.keep HF.nil rfl) rfl) rfl) rfl) rfl) rfl) rfl) rfl), HT⟩
  have h := ifn hb8 h
  refine wc_skip HF nS (HF.wn rfl rfl rfl rfl (notF (Bool.eq_false_iff.2 hb8))) rfl fun a HF => ?_
  refine wc_skip HF nS (HF.wn rfl rfl rfl rfl (notF (Bool.eq_false_iff.2 hb8))) rfl fun a HF => ?_
  refine wc_skip HF nS (HF.wn rfl rfl rfl rfl (notF (Bool.eq_false_iff.2 hb8))) rfl fun a HF => ?_
  refine wc_skip HF nS (HF.wn rfl rfl rfl rfl (notF (Bool.eq_false_iff.2 hb8))) rfl fun a HF => ?_
  refine wc_pick (b := true) HF nS rfl (notF (Bool.eq_false_iff.2 hb8)) rfl rfl rfl fun a HF => ?_
  refine wc_endN ?_
  obtain rfl := Option.some.inj h
  exact then_n ⟨(HF.keep (HF.keep (HF.keep (HF.keep (HF.keep (HF.keep (HF.keep (HF.keep HF.nil rfl) rfl) rfl) rfl) rfl) rfl) rfl) rfl), HT⟩
  have h := ifn hb7 h
  refine wc_skip HF nS (HF.wn rfl rfl rfl rfl (notF (Bool.eq_false_iff.2 hb7))) rfl fun a HF => ?_
  refine wc_skip HF nS (HF.wn rfl rfl rfl rfl (notF (Bool.eq_false_iff.2 hb7))) rfl fun a HF => ?_
  refine wc_skip HF nS (HF.wn rfl rfl rfl rfl (notF (Bool.eq_false_iff.2 hb7))) rfl fun a HF => ?_
  refine wc_skip HF nS (HF.wn rfl rfl rfl rfl (notF (Bool.eq_false_iff.2 hb7))) rfl fun a HF => ?_
  refine wc_skip HF nS (HF.wn rfl rfl rfl rfl (notF (Bool.eq_false_iff.2 hb7))) rfl fun a HF => ?_
  refine wc_skip HF nS (HF.wn rfl rfl rfl rfl (notF (Bool.eq_false_iff.2 hb7))) rfl fun a HF => ?_
  refine wc_skip HF nS (HF.wn rfl rfl rfl rfl (notF (Bool.eq_false_iff.2 hb7))) rfl fun a HF => ?_
  refine wc_skip HF nS (HF.wn rfl rfl rfl rfl (notF (Bool.eq_false_iff.2 hb7))) rfl fun a HF => ?_
  refine wc_skip HF nS (HF.wn rfl rfl rfl rfl (notF (Bool.eq_false_iff.2 hb7))) rfl fun a HF => ?_
  refine wc_pick (b := true) HF nS rfl (notF (Bool.eq_false_iff.2 hb7)) rfl rfl rfl fun a HF => ?_
  refine wm HF rfl rfl rfl fun a HF => ?_
  refine wc_skip HF nS (HF.wn rfl rfl rfl rfl rfl) rfl fun a HF => ?_
  refine wc_skip HF nS (HF.wn rfl rfl rfl rfl rfl) rfl fun a HF => ?_
  refine wc_skip HF nS (HF.wn rfl rfl rfl rfl rfl) rfl fun a HF => ?_
  refine wc_skip HF nS (HF.wn rfl rfl rfl rfl rfl) rfl fun a HF => ?_
  refine wc_pick (b := true) HF nS rfl rfl rfl rfl rfl fun a HF => ?_
  refine wc_endN ?_
  obtain rfl := Option.some.inj h
  exact then_n ⟨(HF.keep (HF.keep (HF.keep (HF.keep (HF.keep (HF.keep (HF.keep (HF.keep HF.nil rfl) rfl) rfl) rfl) rfl) rfl) rfl) rfl), HT⟩
  have h := ifn hb6 h
  refine wc_skip HF nS (HF.wn rfl rfl rfl rfl (notF (decide_eq_false hb6))) rfl fun a HF => ?_
  refine wc_skip HF nS (HF.wn rfl rfl rfl rfl (notF (decide_eq_false hb6))) rfl fun a HF => ?_
  refine wc_skip HF nS (HF.wn rfl rfl rfl rfl (notF (decide_eq_false hb6))) rfl fun a HF => ?_
  refine wc_skip HF nS (HF.wn rfl rfl rfl rfl (notF (decide_eq_false hb6))) rfl fun a HF => ?_
  refine wc_skip HF nS (HF.wn rfl rfl rfl rfl (notF (decide_eq_false hb6))) rfl fun a HF => ?_
  refine wc_skip HF nS (HF.wn rfl rfl rfl rfl (notF (decide_eq_false hb6))) rfl fun a HF => ?_
  refine wc_skip HF nS (HF.wn rfl rfl rfl rfl (notF (decide_eq_false hb6))) rfl fun a HF => ?_
  refine wc_skip HF nS (HF.wn rfl rfl rfl rfl (notF (decide_eq_false hb6))) rfl fun a HF => ?_
  refine wc_skip HF nS (HF.wn rfl rfl rfl rfl (notF (decide_eq_false hb6))) rfl fun a HF => ?_
  refine wc_pick (b := true) HF nS rfl (notF (decide_eq_false hb6)) rfl rfl rfl fun a HF => ?_
  refine wm HF rfl rfl rfl fun a HF => ?_
  refine wc_skip HF nS (HF.wn rfl rfl rfl rfl rfl) rfl fun a HF => ?_
  refine wc_skip HF nS (HF.wn rfl rfl rfl rfl rfl) rfl fun a HF => ?_
  refine wc_skip HF nS (HF.wn rfl rfl rfl rfl rfl) rfl fun a HF => ?_
  refine wc_skip HF nS (HF.wn rfl rfl rfl rfl rfl) rfl fun a HF => ?_
  refine wc_skip HF nS (HF.wn rfl rfl rfl rfl rfl) rfl fun a HF => ?_
  refine wc_skip HF nS (HF.wn rfl rfl rfl rfl rfl) rfl fun a HF => ?_
  refine wc_skip HF nS (HF.wn rfl rfl rfl rfl rfl) rfl fun a HF => ?_
  refine wc_skip HF nS (HF.wn rfl rfl rfl rfl rfl) rfl fun a HF => ?_
  refine wc_skip HF nS (HF.wn rfl rfl rfl rfl rfl) rfl fun a HF => ?_
  refine wc_pick (b := true) HF nS rfl rfl rfl rfl rfl fun a HF => ?_
  refine wm HF rfl rfl rfl fun a HF => ?_
  refine wc_skip HF nS (HF.wn rfl rfl rfl rfl rfl) rfl fun a HF => ?_
  refine wc_skip HF nS (HF.wn rfl rfl rfl rfl rfl) rfl fun a HF => ?_
  refine wc_skip HF nS (HF.wn rfl rfl rfl rfl rfl) rfl fun a HF => ?_
  refine wc_skip HF nS (HF.wn rfl rfl rfl rfl rfl) rfl fun a HF => ?_
  refine wc_pick (b := true) HF nS rfl rfl rfl rfl rfl fun a HF => ?_
  refine wc_endN ?_
  obtain rfl := Option.some.inj h
  exact then_n ⟨(HF.keep (HF.keep (HF.keep (HF.keep (HF.keep (HF.keep (HF.keep (HF.keep HF.nil rfl) rfl) rfl) rfl) rfl) rfl) rfl) rfl), HT⟩
  rintro a w ⟨HF, HT⟩
  refine ?_
  by_cases hb9 : z17 = true
  have h := ifp hb9 h
  refine wp_if (b' := true) HF rfl hb9 ?_
  refine wp_seq (wc_text (wa HF rfl rfl rfl fun a HF => ?_))
  refine wc_end (then_n (wp_ret ?_))
  obtain rfl := Option.some.inj h
  have h := retM hk3
  obtain rfl := Option.some.inj h
  have h := retM hk2
  obtain rfl := Option.some.inj h
  have h := retL hk1
  obtain rfl := Option.some.inj h
  refine then_r (blk_r (then_r (then_r (blk_r (then_r (?_))))))
  refine bp_ret HF (res_one rfl HF rfl) ?_
  have HT := HT.t0
  exact ⟨rfl, HT⟩
  have h := ifn hb9 h
  refine wp_if (b' := false) HF rfl (Bool.eq_false_iff.2 hb9) ?_
  exact wp_skip (then_n ⟨(Option.some.inj h).symm, (HF.keep (HF.keep (HF.keep (HF.keep (HF.keep (HF.keep (HF.keep HF.nil rfl) rfl) rfl) rfl) rfl) rfl) rfl), HT⟩)
  rintro a w ⟨rfl, HF, HT⟩
  have h := brkM1u h
  refine ?_
  obtain ⟨q8, hx20, h⟩ := obs h
  refine wp_cut (fun a w => q8 = .brk () ∧ Fr a 132 [(3, .slice a1 y2.length c1), (4, .slice a2 y3.length c2), (6, .slice a5 y7.length c5), (7, .pointer (some ⟨p2, 0, none⟩)), (10, .pointer (some ⟨p4, 0, none⟩)), (11, .int .i64 z8), (12, .pointer (some ⟨p5, 0, none⟩))] ∧ St w0 (fun _ => False) w [Own 53 (rowT y2) (.slice a1 y2.length c1), Own 89 (rowT y3) (.slice a2 y3.length c2), Own 49 (rowT y7) (.slice a5 y7.length c5), Own 3 (rowT y8) (.slice a6 y8.length c6), Own 3 (rowT y9) (.slice a7 y9.length c7), Box p2 [.slice a6 y8.length c6, .slice a7 y9.length c7, .int .i64 y10], OwnA (rowT z5) (.slice a13 z5.length c13), OwnA (rowT z6) (.slice a14 z6.length c14), Box p4 [.slice a13 z5.length c13, .slice a14 z6.length c14, .int .i64 z7], OwnA (rowT z13) (.slice a17 z13.length c17), OwnA (rowT z14) (.slice a18 z14.length c18), OwnA (rowT z15) (.slice a19 z15.length c19), Box p5 [.int .i64 z12, .slice a17 z13.length c17, .slice a18 z14.length c18, .slice a19 z15.length c19, .int .i64 z16]]) ?_ ?_
  have hk3 := h
  have h := hx20
  obtain ⟨z18, hx21, h⟩ := obs h
  refine wp_cut (fun a w => Fr a 132 [(3, .slice a1 y2.length c1), (4, .slice a2 y3.length c2), (6, .slice a5 y7.length c5), (7, .pointer (some ⟨p2, 0, none⟩)), (10, .pointer (some ⟨p4, 0, none⟩)), (11, .int .i64 z8), (12, .pointer (some ⟨p5, 0, none⟩)), (114, .bool z18)] ∧ St w0 (fun _ => False) w [Own 53 (rowT y2) (.slice a1 y2.length c1), Own 89 (rowT y3) (.slice a2 y3.length c2), Own 49 (rowT y7) (.slice a5 y7.length c5), Own 3 (rowT y8) (.slice a6 y8.length c6), Own 3 (rowT y9) (.slice a7 y9.length c7), Box p2 [.slice a6 y8.length c6, .slice a7 y9.length c7, .int .i64 y10], OwnA (rowT z5) (.slice a13 z5.length c13), OwnA (rowT z6) (.slice a14 z6.length c14), Box p4 [.slice a13 z5.length c13, .slice a14 z6.length c14, .int .i64 z7], OwnA (rowT z13) (.slice a17 z13.length c17), OwnA (rowT z14) (.slice a18 z14.length c18), OwnA (rowT z15) (.slice a19 z15.length c19), Box p5 [.int .i64 z12, .slice a17 z13.length c17, .slice a18 z14.length c18, .slice a19 z15.length c19, .int .i64 z16]]) ?_ ?_
  have hk4 := h
  have h := hx21
  refine wc_text (wc_faddr HF nS rfl fl49_0 rfl rfl fun a HF => ?_)
  refine wc_load HF rfl sc3 ((HT.boxAt 12 rfl).get 0 rfl) rfl rfl fun a HF => ?_
  refine wc_bin HF nS rfl rfl b_eq rfl rfl fun a HF => ?_
  refine wm HF rfl rfl rfl fun a HF => ?_
  by_cases hb10 : z12 = 2
  have h := ifp hb10 h
  refine wc_faddr HF nS rfl fl49_2 (HF.wy rfl rfl rfl rfl (decide_eq_true hb10)) rfl fun a HF => ?_
  refine wc_loadA (vs := [.slice a18 z14.length c18, .slice a19 z15.length c19, .int .i64 z16]) HF rfl ag27 rfl ((HT.boxAt 12 rfl).part 2 3) (HF.wy rfl rfl rfl rfl (decide_eq_true hb10)) rfl fun a HF => ?_
  refine wc_loadA (vs := [.slice a13 z5.length c13, .slice a14 z6.length c14, .int .i64 z7]) HF rfl ag27 rfl ((HT.boxAt 8 rfl).part 0 3) (HF.wy rfl rfl rfl rfl (decide_eq_true hb10)) rfl fun a HF => ?_
  obtain ⟨y24, hx22, h⟩ := obs h
  refine wc_call HF cf11 rfl (w_spec_SameThings fuel hx22 (HT.rdAAt 10 rfl) (HT.rdAAt 11 rfl) (HT.rdAAt 6 rfl) (HT.rdAAt 7 rfl)) (HF.wy rfl rfl rfl rfl (decide_eq_true hb10)) rfl ?_
  rintro e w ⟨rfl, hE⟩
  have hb := hE.below
  have HT := HT.pure hE
  have HT : St w0 (fun _ => False) w [Own 53 (rowT y2) (.slice a1 y2.length c1), Own 89 (rowT y3) (.slice a2 y3.length c2), Own 49 (rowT y7) (.slice a5 y7.length c5), Own 3 (rowT y8) (.slice a6 y8.length c6), Own 3 (rowT y9) (.slice a7 y9.length c7), Box p2 [.slice a6 y8.length c6, .slice a7 y9.length c7, .int .i64 y10], OwnA (rowT z5) (.slice a13 z5.length c13), OwnA (rowT z6) (.slice a14 z6.length c14), Box p4 [.slice a13 z5.length c13, .slice a14 z6.length c14, .int .i64 z7], OwnA (rowT z13) (.slice a17 z13.length c17), OwnA (rowT z14) (.slice a18 z14.length c18), OwnA (rowT z15) (.slice a19 z15.length c19), Box p5 [.int .i64 z12, .slice a17 z13.length c17, .slice a18 z14.length c18, .slice a19 z15.length c19, .int .i64 z16]] := HT
  refine ⟨_, rfl, nS, fun a HF => ?_⟩
  refine wc_not HF nS rfl (HF.wy rfl rfl rfl rfl (decide_eq_true hb10)) rfl fun a HF => ?_
  refine wc_pick (b := true) HF nS rfl (decide_eq_true hb10) rfl rfl rfl fun a HF => ?_
  refine wc_end ?_
  obtain rfl := Option.some.inj h
  exact then_n ⟨(HF.keep (HF.keep (HF.keep (HF.keep (HF.keep (HF.keep (HF.keep (HF.keep HF.nil rfl) rfl) rfl) rfl) rfl) rfl) rfl) rfl), HT⟩
  have h := ifn hb10 h
  refine wc_skip HF nS (HF.wn rfl rfl rfl rfl (decide_eq_false hb10)) rfl fun a HF => ?_
  refine wc_skip HF nS (HF.wn rfl rfl rfl rfl (decide_eq_false hb10)) rfl fun a HF => ?_
  refine wc_skip HF nS (HF.wn rfl rfl rfl rfl (decide_eq_false hb10)) rfl fun a HF => ?_
  refine wc_skip HF nS (HF.wn rfl rfl rfl rfl (decide_eq_false hb10)) rfl fun a HF => ?_
  refine wc_skip HF nS (HF.wn rfl rfl rfl rfl (decide_eq_false hb10)) rfl fun a HF => ?_
  refine wc_pick (b := false) HF nS rfl (decide_eq_false hb10) rfl rfl rfl fun a HF => ?_
  refine wc_end ?_
  obtain rfl := Option.some.inj h
  exact then_n ⟨(HF.keep (HF.keep (HF.keep (HF.keep (HF.keep (HF.keep (HF.keep (HF.keep HF.nil rfl) rfl) rfl) rfl) rfl) rfl) rfl) rfl), HT⟩
  rintro a w ⟨HF, HT⟩
  refine ?_
  by_cases hb11 : z18 = true
  have h := ifp hb11 h
  refine wp_if (b' := true) HF rfl hb11 ?_
  refine wp_seq (wc_text (wa HF rfl rfl rfl fun a HF => ?_))
  refine wc_end (then_n (wp_ret ?_))
  obtain rfl := Option.some.inj h
  have h := retM hk3
  obtain rfl := Option.some.inj h
  have h := retM hk2
  obtain rfl := Option.some.inj h
  have h := retL hk1
  obtain rfl := Option.some.inj h
  refine then_r (blk_r (then_r (then_r (blk_r (then_r (?_))))))
  refine bp_ret HF (res_one rfl HF rfl) ?_
  have HT := HT.t0
  exact ⟨rfl, HT⟩
  have h := ifn hb11 h
  refine wp_if (b' := false) HF rfl (Bool.eq_false_iff.2 hb11) ?_
  exact wp_skip (then_n ⟨(Option.some.inj h).symm, (HF.keep (HF.keep (HF.keep (HF.keep (HF.keep (HF.keep (HF.keep HF.nil rfl) rfl) rfl) rfl) rfl) rfl) rfl), HT⟩)
  rintro a w ⟨rfl, HF, HT⟩
  have h := brkM1u h
  refine ?_
  refine wc_text (wc_faddr HF nS rfl fl49_2 rfl rfl fun a HF => ?_)
  refine wc_loadA (vs := [.slice a18 z14.length c18, .slice a19 z15.length c19, .int .i64 z16]) HF rfl ag27 rfl ((HT.boxAt 12 rfl).part 2 3) rfl rfl fun a HF => ?_
  have HT := HT.p8
  refine wc_storeB (cs' := [.slice a18 z14.length c18, .slice a19 z15.length c19, .int .i64 z16]) HF HT rfl rfl (fun w => (ag27 w).2) rfl rfl rfl rfl rfl (fun w HT => ⟨nS, ?_⟩)
  refine wc_end (blk_n ?_)
  have HT := HT.p11.p11.p8.p8.p8.p8.p8.p8.t9
  exact then_n ⟨z14, z15, z16, a18, z14.length, c18, a19, z15.length, c19, (Option.some.inj h).symm, (HF.keep (HF.keep (HF.keep (HF.keep (HF.keep (HF.keep HF.nil rfl) rfl) rfl) rfl) rfl) rfl), HT⟩
  rintro a w ⟨z9, z10, z11, a15, n15, c15, a16, n16, c16, rfl, HF, HT⟩
  have h := brkM3 h
  obtain rfl := (HT.rdAAt 6 rfl).neq
  obtain rfl := (HT.rdAAt 7 rfl).neq
  refine ?_
  refine wc_text (wm HF rfl rfl rfl fun a HF => ?_)
  obtain ⟨hg1, h⟩ := grd h
  refine wc_bin HF nS rfl rfl (b_add hg1) rfl rfl fun a HF => ?_
  refine wa HF rfl rfl rfl fun a HF => ?_
  exact wc_end (then_n ⟨k1, Nat.lt_succ_self k1, z9, z10, z11, z8 + 1, a15, z9.length, c15, a16, z10.length, c16, h, (HF.keep (HF.keep (HF.keep (HF.keep (HF.keep (HF.keep HF.nil rfl) rfl) rfl) rfl) rfl) rfl), HT⟩)
  have h := ifn hb5 h
  refine wp_if (b' := false) HF rfl (decide_eq_false hb5) ?_
  refine wp_exit ?_
  refine then_x (then_x (?_))
  refine blk_x ?_
  have HT := HT.p8.p8.p8.p8.p8.p8.p8.p7.t8
  exact then_n ⟨z5, z6, z7, a13, z5.length, c13, a14, z6.length, c14, (Option.some.inj h).symm, (HF.keep (HF.keep (HF.keep (HF.keep HF.nil rfl) rfl) rfl) rfl), HT⟩
  rintro a w ⟨z2, z3, z4, a11, n11, c11, a12, n12, c12, rfl, HF, HT⟩
  have h := brkL3 h
  obtain rfl := (HT.rdAAt 5 rfl).neq
  obtain rfl := (HT.rdAAt 6 rfl).neq
  refine ?_
  obtain ⟨z19, hx23, h⟩ := obs h
  refine wp_cut (fun a w => Fr a 132 [(2, .bool z19)] ∧ St w0 (fun _ => False) w []) ?_ ?_
  have hk1 := h
  have h := hx23
  refine wc_text (wm HF rfl rfl rfl fun a HF => ?_)
  refine wc_lenR HF nS Try.underlying65 rfl rfl rfl fun a HF => ?_
  refine wc_bin HF nS rfl rfl b_eq rfl rfl fun a HF => ?_
  refine wm HF rfl rfl rfl fun a HF => ?_
  by_cases hb12 : (y7.length : Int) = 0
  have h := ifp hb12 h
  refine wc_skip HF nS (HF.wn rfl rfl rfl rfl (decide_eq_true hb12)) rfl fun a HF => ?_
  refine wc_skip HF nS (HF.wn rfl rfl rfl rfl (decide_eq_true hb12)) rfl fun a HF => ?_
  refine wc_skip HF nS (HF.wn rfl rfl rfl rfl (decide_eq_true hb12)) rfl fun a HF => ?_
  refine wc_skip HF nS (HF.wn rfl rfl rfl rfl (decide_eq_true hb12)) rfl fun a HF => ?_
  refine wc_skip HF nS (HF.wn rfl rfl rfl rfl (decide_eq_true hb12)) rfl fun a HF => ?_
  refine wc_skip HF nS (HF.wn rfl rfl rfl rfl (decide_eq_true hb12)) rfl fun a HF => ?_
  refine wc_skip HF nS (HF.unwanted rfl rfl rfl rfl) rfl fun a HF => ?_
  refine wc_skip HF nS (HF.unwanted rfl rfl rfl rfl) rfl fun a HF => ?_
  refine wc_skip HF nS (HF.unwanted rfl rfl rfl rfl) rfl fun a HF => ?_
  refine wc_skip HF nS (HF.wn rfl rfl rfl rfl (decide_eq_true hb12)) rfl fun a HF => ?_
  refine wc_pick (b := true) HF nS rfl (decide_eq_true hb12) rfl rfl rfl fun a HF => ?_
  refine wa HF rfl rfl rfl fun a HF => ?_
  refine wc_end ?_
  have HT := HT.t0
  obtain rfl := Option.some.inj h
  exact then_n ⟨(HF.keep HF.nil rfl), HT⟩
  have h := ifn hb12 h
  refine wc_move HF nS rfl (HF.wy rfl rfl rfl rfl (decide_eq_false hb12)) rfl fun a HF => ?_
  refine wc_lenR HF nS Try.underlying65 rfl (HF.wy rfl rfl rfl rfl (decide_eq_false hb12)) rfl fun a HF => ?_
  refine wc_move HF nS rfl (HF.wy rfl rfl rfl rfl (decide_eq_false hb12)) rfl fun a HF => ?_
  refine wc_lenR HF nS Try.underlying68 rfl (HF.wy rfl rfl rfl rfl (decide_eq_false hb12)) rfl fun a HF => ?_
  refine wc_bin HF nS rfl rfl b_eq (HF.wy rfl rfl rfl rfl (decide_eq_false hb12)) rfl fun a HF => ?_
  refine wc_move HF nS rfl (HF.wy rfl rfl rfl rfl (decide_eq_false hb12)) rfl fun a HF => ?_
  by_cases hb13 : (y7.length : Int) = (y2.length : Int)
  have h := ifp hb13 h
  refine wc_loadA (vs := [.slice a11 z2.length c11, .slice a12 z3.length c12, .int .i64 z4]) HF rfl ag27 rfl ((HT.boxAt 7 rfl).part 0 3) (HF.wy rfl rfl rfl rfl (decide_eq_true hb13)) rfl fun a HF => ?_
  refine wc_loadA (vs := [.slice a6 y8.length c6, .slice a7 y9.length c7, .int .i64 y10]) HF rfl ag27 rfl ((HT.boxAt 4 rfl).part 0 3) (HF.wy rfl rfl rfl rfl (decide_eq_true hb13)) rfl fun a HF => ?_
  obtain ⟨y25, hx24, h⟩ := obs h
  refine wc_call HF cf11 rfl (w_spec_SameThings fuel hx24 (HT.rdAAt 5 rfl) (HT.rdAAt 6 rfl) (HT.rdAt 2 rfl) (HT.rdAt 3 rfl)) (HF.wy rfl rfl rfl rfl (decide_eq_true hb13)) rfl ?_
  rintro e w ⟨rfl, hE⟩
  have hb := hE.below
  have HT := HT.pure hE
  have HT : St w0 (fun _ => False) w [Own 53 (rowT y2) (.slice a1 y2.length c1), Own 49 (rowT y7) (.slice a5 y7.length c5), Own 3 (rowT y8) (.slice a6 y8.length c6), Own 3 (rowT y9) (.slice a7 y9.length c7), Box p2 [.slice a6 y8.length c6, .slice a7 y9.length c7, .int .i64 y10], OwnA (rowT z2) (.slice a11 z2.length c11), OwnA (rowT z3) (.slice a12 z3.length c12), Box p4 [.slice a11 z2.length c11, .slice a12 z3.length c12, .int .i64 z4]] := HT
  refine ⟨_, rfl, nS, fun a HF => ?_⟩
  refine wc_pick (b := true) HF nS rfl (decide_eq_true hb13) rfl (HF.wy rfl rfl rfl rfl (decide_eq_false hb12)) rfl fun a HF => ?_
  refine wc_pick (b := false) HF nS rfl (decide_eq_false hb12) rfl rfl rfl fun a HF => ?_
  refine wa HF rfl rfl rfl fun a HF => ?_
  refine wc_end ?_
  have HT := HT.t0
  obtain rfl := Option.some.inj h
  exact then_n ⟨(HF.keep HF.nil rfl), HT⟩
  have h := ifn hb13 h
  refine wc_skip HF nS (HF.wn rfl rfl rfl rfl (decide_eq_false hb13)) rfl fun a HF => ?_
  refine wc_skip HF nS (HF.wn rfl rfl rfl rfl (decide_eq_false hb13)) rfl fun a HF => ?_
  refine wc_skip HF nS (HF.wn rfl rfl rfl rfl (decide_eq_false hb13)) rfl fun a HF => ?_
  refine wc_pick (b := false) HF nS rfl (decide_eq_false hb13) rfl (HF.wy rfl rfl rfl rfl (decide_eq_false hb12)) rfl fun a HF => ?_
  refine wc_pick (b := false) HF nS rfl (decide_eq_false hb12) rfl rfl rfl fun a HF => ?_
  refine wa HF rfl rfl rfl fun a HF => ?_
  refine wc_end ?_
  have HT := HT.t0
  obtain rfl := Option.some.inj h
  exact then_n ⟨(HF.keep HF.nil rfl), HT⟩
  rintro a w ⟨HF, HT⟩
  refine ?_
  refine wp_ret ?_
  obtain rfl := Option.some.inj h
  refine bp_ret HF (res_one rfl HF rfl) ?_
  exact ⟨rfl, HT⟩
  have h := ifn hb2 h
  refine wp_if (b' := true) HF rfl (notF (Bool.eq_false_iff.2 hb2)) ?_
  refine wp_seq (wc_text (wa HF rfl rfl rfl fun a HF => ?_))
  refine wc_end (then_n (wp_ret ?_))
  obtain rfl := Option.some.inj h
  refine then_r (?_)
  refine bp_ret HF (res_one rfl HF rfl) ?_
  have HT := HT.t0
  exact ⟨rfl, HT⟩
end Go.Proofs.Ytknghnmcckjjbaa
