/- Walks of functions, by program: laws.eqProgS, laws.eqRunS, laws.heldRunS, laws.markOrderS, laws.markProgS, laws.markRunS, laws.szOrder, laws.szOrderS, laws.szProgS, laws.toOrder, laws.toOrderS, laws.toProgS, spec.SerialAll, laws.FnExactSerialAll, laws.big, laws.sameInts, spec.l1Byte, spec.l1Below, spec.l1New, spec.l1Once, spec.l1PickInt. -/
import Derived.Test.YtknghnmcckjjbaaTy
import Derived.Test.YtknghnmcckjjbaaS4
namespace Go.Proofs.Ytknghnmcckjjbaa
open Go Go.RowKit
set_option linter.unusedVariables false
set_option linter.unusedSimpArgs false
def m_spec_SerialAll_L0 (fuel : Nat) (x0 : List ProgD) (x1 : List OrdD) : Nat → (List RunD) → (List Int) → (List Int) → Int → Int → Option (Lp (List RunD × List Int × List Int × Int) (List RunD × List Int × List Int × Int))
  | 0, _, _, _, _, _ => none
  | k1 + 1, z6, z7, z8, z9, z10 =>
    if z10 < (x0.length : Int) then
      (
        bind5 (
          (at? x0 z10).bind fun e1 =>
          (at? x1 z10).bind fun e2 =>
          bind5 (m_spec_Serial fuel e1.code e1.kids e2.kids z7 z8 z9) fun y5 y6 y7 y8 y9 =>
          some (y5, y6, y7, y8, y9)) fun z15 z16 z17 z18 z19 =>
        if z15 = 0 then
          some (.ret (([] : List RunD), ([] : List Int), ([] : List Int), 0))
        else
        bind3 (m_spec_l7Copy fuel z17 z18 z19) fun y10 y11 y12 =>
        if z6.length + 1 ≤ 17179869184 then
          some (.brk (z6 ++ ([(⟨z15, z16, z17, z18, z19⟩ : RunD)] : List RunD), y10, y11, y12))
        else none).bind <| contM <| un4 fun z11 z12 z13 z14 =>
      if in64 (z10 + 1) then
        m_spec_SerialAll_L0 fuel x0 x1 k1 z11 z12 z13 z14 (z10 + 1)
      else none
    else
    some (.brk (z6, z7, z8, z9))

def m_spec_SerialAll (fuel : Nat) (x0 : List ProgD) (x1 : List OrdD) (x2_0 : List Int) (x2_1 : List Int) (x2_2 : Int) : Option (List RunD × List Int × List Int × Int) :=
  (
    (
      if (x1.length : Int) = (x0.length : Int) then
        (m_spec_ThingsOk fuel x2_0 x2_1 x2_2).bind fun y1 =>
        some !(y1)
      else
      some true).bind fun z1 =>
    if z1 = true then
      some (.ret (([] : List RunD), ([] : List Int), ([] : List Int), 0))
    else
    some (.brk ())).bind <| contL <| un1 fun _ =>
  bind3 (m_spec_l7Copy fuel x2_0 x2_1 x2_2) fun y2 y3 y4 =>
  (m_spec_SerialAll_L0 fuel x0 x1 fuel ([] : List RunD) y2 y3 y4 0).bind <| contL <| un4 fun z2 z3 z4 z5 =>
  some (z2, z3, z4, z5)

set_option maxRecDepth 100000 in
set_option maxHeartbeats 4000000 in
theorem w_spec_SerialAll (fuel : Nat) {x0 : List ProgD} {x1 : List OrdD} {x2_0 : List Int} {x2_1 : List Int} {x2_2 : Int} {a_x0 : Option Addr} {n_x0 c_x0 : Nat} {a_x1 : Option Addr} {n_x1 c_x1 : Nat} {a_x2_0 : Option Addr} {n_x2_0 c_x2_0 : Nat} {a_x2_1 : Option Addr} {n_x2_1 c_x2_1 : Nat} {r0 : List RunD} {r1_0 : List Int} {r1_1 : List Int} {r1_2 : Int} {w0 : World} (h : m_spec_SerialAll fuel x0 x1 x2_0 x2_1 x2_2 = some (r0, r1_0, r1_1, r1_2)) (hr_x0 : RdT (fun b => ¬ False) w0 (rowT x0) (.slice a_x0 n_x0 c_x0)) (hr_x1 : RdT (fun b => ¬ False) w0 (rowT x1) (.slice a_x1 n_x1 c_x1)) (hr_x2_0 : RdT (fun b => ¬ False) w0 (rowT x2_0) (.slice a_x2_0 n_x2_0 c_x2_0)) (hr_x2_1 : RdT (fun b => ¬ False) w0 (rowT x2_1) (.slice a_x2_1 n_x2_1 c_x2_1)) :
    Calls Try.prog 39 #[.slice a_x0 n_x0 c_x0, .slice a_x1 n_x1 c_x1, .agg #[.slice a_x2_0 n_x2_0 c_x2_0, .slice a_x2_1 n_x2_1 c_x2_1, .int .i64 x2_2]] w0 fun e w => ∃ a_r0 n_r0 c_r0, ∃ a_r1_0 n_r1_0 c_r1_0, ∃ a_r1_1 n_r1_1 c_r1_1, e = .returned (.tuple #[.slice a_r0 n_r0 c_r0, .agg #[.slice a_r1_0 n_r1_0 c_r1_0, .slice a_r1_1 n_r1_1 c_r1_1, .int .i64 r1_2]]) ∧ St w0 (fun _ => False) w [Own 49 (rowT r0) (.slice a_r0 n_r0 c_r0), Own 3 (rowT r1_0) (.slice a_r1_0 n_r1_0 c_r1_0), Own 3 (rowT r1_1) (.slice a_r1_1 n_r1_1 c_r1_1)] := by
  obtain rfl := hr_x0.neq
  obtain rfl := hr_x1.neq
  obtain rfl := hr_x2_0.neq
  obtain rfl := hr_x2_1.neq
  have HT : St w0 (fun _ => False) w0 [] := St.init0
  rw [m_spec_SerialAll] at h
  refine calls_fr (n := 58) [.slice a_x0 x0.length c_x0, .slice a_x1 x1.length c_x1, .agg #[.slice a_x2_0 x2_0.length c_x2_0, .slice a_x2_1 x2_1.length c_x2_1, .int .i64 x2_2]] Try.func39 rfl rfl rfl fun a HF => ?_
  have HT : St w0 (fun _ => False) w0 [] := HT
  refine wp_seq (wc_text (wc_box (cs := [.slice a_x2_0 x2_0.length c_x2_0, .slice a_x2_1 x2_1.length c_x2_1, .int .i64 x2_2]) HF HT rfl rfl rfl rfl (fun p1 w HT hb => ⟨nS, fun a HF => ?_⟩)))
  refine wa HF rfl rfl rfl fun a HF => ?_
  refine wc_alloc (cs := [.slice none 0 0, .slice none 0 0, .int .i64 0]) HF HT zr27 rfl rfl rfl (fun p2 w HT hb => ⟨nS, fun a HF => ?_⟩)
  refine wc_end (then_n (wp_seq (wc_text (wc_bslice (l := ([] : List RunD)) (cs := []) (A := []) HF HT bs65_0 rfl rfl gives_nil rfl (by decide) rfl rfl (fun p3 w HT hb  => ⟨nS, fun a HF => ?_⟩)))))
  refine wa HF rfl rfl rfl fun a HF => ?_
  refine wc_end (then_n ?_)
  obtain ⟨q1, hx1, h⟩ := obs h
  refine wp_cut (fun a w => q1 = .brk () ∧ Fr a 58 [(0, .slice a_x0 x0.length c_x0), (1, .slice a_x1 x1.length c_x1), (5, .pointer (some ⟨p1, 0, none⟩)), (7, .pointer (some ⟨p2, 0, none⟩)), (8, .slice (some ⟨p3, 0, none⟩) 0 0)] ∧ St w0 (fun _ => False) w [Box p1 [.slice a_x2_0 x2_0.length c_x2_0, .slice a_x2_1 x2_1.length c_x2_1, .int .i64 x2_2], Box p2 [.slice none 0 0, .slice none 0 0, .int .i64 0], Own 49 (rowT ([] : List RunD)) (.slice (some ⟨p3, 0, none⟩) 0 0)]) ?_ ?_
  have hk1 := h
  have h := hx1
  obtain ⟨z1, hx2, h⟩ := obs h
  refine wp_cut (fun a w => Fr a 58 [(0, .slice a_x0 x0.length c_x0), (1, .slice a_x1 x1.length c_x1), (5, .pointer (some ⟨p1, 0, none⟩)), (7, .pointer (some ⟨p2, 0, none⟩)), (8, .slice (some ⟨p3, 0, none⟩) 0 0), (22, .bool z1)] ∧ St w0 (fun _ => False) w [Box p1 [.slice a_x2_0 x2_0.length c_x2_0, .slice a_x2_1 x2_1.length c_x2_1, .int .i64 x2_2], Box p2 [.slice none 0 0, .slice none 0 0, .int .i64 0], Own 49 (rowT ([] : List RunD)) (.slice (some ⟨p3, 0, none⟩) 0 0)]) ?_ ?_
  have hk2 := h
  have h := hx2
  refine wc_text (wm HF rfl rfl rfl fun a HF => ?_)
  refine wc_lenR HF nS Try.underlying70 rfl rfl rfl fun a HF => ?_
  refine wm HF rfl rfl rfl fun a HF => ?_
  refine wc_lenR HF nS Try.underlying68 rfl rfl rfl fun a HF => ?_
  refine wc_bin HF nS rfl rfl b_ne rfl rfl fun a HF => ?_
  refine wm HF rfl rfl rfl fun a HF => ?_
  by_cases hb1 : (x1.length : Int) = (x0.length : Int)
  have h := ifp hb1 h
  refine wc_loadA (vs := [.slice a_x2_0 x2_0.length c_x2_0, .slice a_x2_1 x2_1.length c_x2_1, .int .i64 x2_2]) HF rfl ag27 rfl ((HT.boxAt 2 rfl).part 0 3) (HF.wy rfl rfl rfl rfl (notT (decide_eq_true hb1))) rfl fun a HF => ?_
  obtain ⟨y1, hx3, h⟩ := obs h
  refine wc_call HF cf15 rfl (w_spec_ThingsOk fuel hx3 (HT.ro hr_x2_0).any (HT.ro hr_x2_1).any) (HF.wy rfl rfl rfl rfl (notT (decide_eq_true hb1))) rfl ?_
  rintro e w ⟨rfl, hE⟩
  have hb := hE.below
  have HT := HT.pure hE
  have HT : St w0 (fun _ => False) w [Own 49 (rowT ([] : List RunD)) (.slice (some ⟨p3, 0, none⟩) 0 0), Box p2 [.slice none 0 0, .slice none 0 0, .int .i64 0], Box p1 [.slice a_x2_0 x2_0.length c_x2_0, .slice a_x2_1 x2_1.length c_x2_1, .int .i64 x2_2]] := HT
  refine ⟨_, rfl, nS, fun a HF => ?_⟩
  refine wc_not HF nS rfl (HF.wy rfl rfl rfl rfl (notT (decide_eq_true hb1))) rfl fun a HF => ?_
  refine wc_pick (b := false) HF nS rfl (notT (decide_eq_true hb1)) rfl rfl rfl fun a HF => ?_
  refine wc_end ?_
  have HT := HT.p1.p2
  obtain rfl := Option.some.inj h
  exact then_n ⟨(HF.keep (HF.keep (HF.keep (HF.keep (HF.keep (HF.keep HF.nil rfl) rfl) rfl) rfl) rfl) rfl), HT⟩
  have h := ifn hb1 h
  refine wc_skip HF nS (HF.wn rfl rfl rfl rfl (notF (decide_eq_false hb1))) rfl fun a HF => ?_
  refine wc_skip HF nS (HF.wn rfl rfl rfl rfl (notF (decide_eq_false hb1))) rfl fun a HF => ?_
  refine wc_skip HF nS (HF.wn rfl rfl rfl rfl (notF (decide_eq_false hb1))) rfl fun a HF => ?_
  refine wc_pick (b := true) HF nS rfl (notF (decide_eq_false hb1)) rfl rfl rfl fun a HF => ?_
  refine wc_end ?_
  have HT := HT.p1.p2
  obtain rfl := Option.some.inj h
  exact then_n ⟨(HF.keep (HF.keep (HF.keep (HF.keep (HF.keep (HF.keep HF.nil rfl) rfl) rfl) rfl) rfl) rfl), HT⟩
  rintro a w ⟨HF, HT⟩
  refine ?_
  by_cases hb2 : z1 = true
  have h := ifp hb2 h
  refine wp_if (b' := true) HF rfl hb2 ?_
  refine wp_seq (wc_text (wm HF rfl rfl rfl fun a HF => ?_))
  refine wc_build (cs := #[.slice none 0 0, .slice none 0 0, .int .i64 0]) HF nS bd27 rfl rfl rfl rfl fun a HF => ?_
  refine wa HF rfl rfl rfl fun a HF => ?_
  have HT := HT.p1
  refine wc_storeB (cs' := [.slice none 0 0, .slice none 0 0, .int .i64 0]) HF HT rfl rfl (fun w => (ag27 w).2) rfl rfl rfl rfl rfl (fun w HT => ⟨nS, ?_⟩)
  refine wc_end (then_n (wp_ret ?_))
  have HT := HT.nilrow (E := Int) 3
  have HT := HT.nilrow (E := Int) 3
  obtain rfl := Option.some.inj h
  have h := retL hk1
  have hj1 := Option.some.inj h
  obtain ⟨rfl, hj2⟩ := Prod.mk.inj hj1
  obtain ⟨rfl, hj3⟩ := Prod.mk.inj hj2
  obtain ⟨rfl, hj4⟩ := Prod.mk.inj hj3
  subst hj4
  refine then_r (?_)
  refine bp_ret HF (res_tmp_cell (vs := [.slice none 0 0, .slice none 0 0, .int .i64 0]) rfl HF rfl rfl ag27 rfl (HT.boxAt 2 rfl)) ?_
  have HT := HT.p1.p4.t3
  exact ⟨(some ⟨p3, 0, none⟩), 0, 0, none, 0, 0, none, 0, 0, rfl, HT⟩
  have h := ifn hb2 h
  refine wp_if (b' := false) HF rfl (Bool.eq_false_iff.2 hb2) ?_
  exact wp_skip (then_n ⟨(Option.some.inj h).symm, (HF.keep (HF.keep (HF.keep (HF.keep (HF.keep HF.nil rfl) rfl) rfl) rfl) rfl), HT⟩)
  rintro a w ⟨rfl, HF, HT⟩
  have h := brkL1u h
  refine ?_
  refine wp_seq (wc_text (wc_loadA (vs := [.slice a_x2_0 x2_0.length c_x2_0, .slice a_x2_1 x2_1.length c_x2_1, .int .i64 x2_2]) HF rfl ag27 rfl ((HT.boxAt 0 rfl).part 0 3) rfl rfl fun a HF => ?_))
  obtain ⟨y2, y3, y4, hx4, h⟩ := obs3 h
  refine wc_call HF cf80 rfl (w_spec_l7Copy fuel hx4 (HT.ro hr_x2_0).any (HT.ro hr_x2_1).any) rfl rfl ?_
  rintro e w ⟨a1, n1, c1, a2, n2, c2, rfl, hE⟩
  have hb := hE.below
  have HT := HT.pure hE
  obtain rfl := (HT.rdAt 0 rfl).neq
  obtain rfl := (HT.rdAt 1 rfl).neq
  have HT : St w0 (fun _ => False) w [Own 3 (rowT y2) (.slice a1 y2.length c1), Own 3 (rowT y3) (.slice a2 y3.length c2), Box p1 [.slice a_x2_0 x2_0.length c_x2_0, .slice a_x2_1 x2_1.length c_x2_1, .int .i64 x2_2], Box p2 [.slice none 0 0, .slice none 0 0, .int .i64 0], Own 49 (rowT ([] : List RunD)) (.slice (some ⟨p3, 0, none⟩) 0 0)] := HT
  refine ⟨_, rfl, nS, fun a HF => ?_⟩
  refine wc_alloc (cs := [.slice none 0 0, .slice none 0 0, .int .i64 0]) HF HT zr27 rfl rfl rfl (fun p4 w HT hb => ⟨nS, fun a HF => ?_⟩)
  refine wc_storeB (cs' := [.slice a1 y2.length c1, .slice a2 y3.length c2, .int .i64 y4]) HF HT rfl rfl (fun w => (ag27 w).2) rfl rfl rfl rfl rfl (fun w HT => ⟨nS, ?_⟩)
  refine wc_end (then_n ?_)
  obtain ⟨q3, hx5, h⟩ := obs h
  refine wp_cut (fun a w => ∃ z2 z3 z4 z5 a3 n3 c3 a4 n4 c4 a5 n5 c5, q3 = .brk (z2, z3, z4, z5) ∧ Fr a 58 [(7, .pointer (some ⟨p2, 0, none⟩)), (8, .slice a3 n3 c3), (9, .pointer (some ⟨p4, 0, none⟩))] ∧ St w0 (fun _ => False) w [Box p2 [.slice none 0 0, .slice none 0 0, .int .i64 0], Own 49 (rowT z2) (.slice a3 n3 c3), Own 3 (rowT z3) (.slice a4 n4 c4), Own 3 (rowT z4) (.slice a5 n5 c5), Box p4 [.slice a4 n4 c4, .slice a5 n5 c5, .int .i64 z5]]) ?_ ?_
  have hk1 := h
  have h := hx5
  refine wp_seq (wc_text (wa HF rfl rfl rfl fun a HF => ?_))
  refine wc_end (then_n (wp_block ?_))
  have HT := HT.p2.p2.p5.p5.t5
  refine wp_loopN (fun k1 a w => ∃ z6 z7 z8 z9 z10 a6 n6 c6 a7 n7 c7 a8 n8 c8, m_spec_SerialAll_L0 fuel x0 x1 k1 z6 z7 z8 z9 z10 = some q3 ∧ Fr a 58 [(0, .slice a_x0 x0.length c_x0), (1, .slice a_x1 x1.length c_x1), (7, .pointer (some ⟨p2, 0, none⟩)), (8, .slice a6 n6 c6), (9, .pointer (some ⟨p4, 0, none⟩)), (10, .int .i64 z10)] ∧ St w0 (fun _ => False) w [Box p2 [.slice none 0 0, .slice none 0 0, .int .i64 0], Own 49 (rowT z6) (.slice a6 n6 c6), Own 3 (rowT z7) (.slice a7 n7 c7), Own 3 (rowT z8) (.slice a8 n8 c8), Box p4 [.slice a7 n7 c7, .slice a8 n8 c8, .int .i64 z9]]) fuel ⟨([] : List RunD), y2, y3, y4, 0, (some ⟨p3, 0, none⟩), 0, 0, a1, y2.length, c1, a2, y3.length, c2, h, (HF.keep (HF.keep (HF.keep (HF.keep (HF.keep (HF.keep HF.nil rfl) rfl) rfl) rfl) rfl) rfl), HT⟩ ?_
  rintro k1 a w ⟨z6, z7, z8, z9, z10, a6, n6, c6, a7, n7, c7, a8, n8, c8, h, HF, HT⟩
  rcases k1 with _ | k1
  cases h
  rw [m_spec_SerialAll_L0] at h
  obtain rfl := (HT.rdAt 1 rfl).neq
  obtain rfl := (HT.rdAt 2 rfl).neq
  obtain rfl := (HT.rdAt 3 rfl).neq
  refine ?_
  refine wp_seq (wp_seq (wc_text (wm HF rfl rfl rfl fun a HF => ?_)))
  refine wm HF rfl rfl rfl fun a HF => ?_
  refine wc_lenR HF nS Try.underlying68 rfl rfl rfl fun a HF => ?_
  refine wc_bin HF nS rfl rfl b_lt rfl rfl fun a HF => ?_
  refine wc_end (then_n ?_)
  by_cases hb3 : z10 < (x0.length : Int)
  have h := ifp hb3 h
  refine wp_if (b' := true) HF rfl (decide_eq_true hb3) ?_
  refine wp_skip (then_n ?_)
  obtain ⟨q4, hx6, h⟩ := obs h
  refine wp_cut (fun a w => ∃ z11 z12 z13 z14 a9 n9 c9 a10 n10 c10 a11 n11 c11, q4 = .brk (z11, z12, z13, z14) ∧ Fr a 58 [(0, .slice a_x0 x0.length c_x0), (1, .slice a_x1 x1.length c_x1), (7, .pointer (some ⟨p2, 0, none⟩)), (8, .slice a9 n9 c9), (9, .pointer (some ⟨p4, 0, none⟩)), (10, .int .i64 z10)] ∧ St w0 (fun _ => False) w [Box p2 [.slice none 0 0, .slice none 0 0, .int .i64 0], Own 49 (rowT z11) (.slice a9 n9 c9), Own 3 (rowT z12) (.slice a10 n10 c10), Own 3 (rowT z13) (.slice a11 n11 c11), Box p4 [.slice a10 n10 c10, .slice a11 n11 c11, .int .i64 z14]]) ?_ ?_
  have hk2 := h
  have h := hx6
  refine wp_block ?_
  obtain ⟨z15, z16, z17, z18, z19, hx7, h⟩ := obs5 h
  refine wp_cut (fun a w => ∃ a12 n12 c12 a13 n13 c13 a14 n14 c14 p5, Fr a 58 [(0, .slice a_x0 x0.length c_x0), (1, .slice a_x1 x1.length c_x1), (7, .pointer (some ⟨p2, 0, none⟩)), (8, .slice a6 z6.length c6), (9, .pointer (some ⟨p4, 0, none⟩)), (10, .int .i64 z10), (11, .pointer (some ⟨p5, 0, none⟩))] ∧ St w0 (fun _ => False) w [Box p2 [.slice none 0 0, .slice none 0 0, .int .i64 0], Own 49 (rowT z6) (.slice a6 z6.length c6), Own 3 (rowT z7) (.slice a7 z7.length c7), Own 3 (rowT z8) (.slice a8 z8.length c8), Box p4 [.slice a7 z7.length c7, .slice a8 z8.length c8, .int .i64 z9], Own 3 (rowT z16) (.slice a12 n12 c12), Own 3 (rowT z17) (.slice a13 n13 c13), Own 3 (rowT z18) (.slice a14 n14 c14), Box p5 [.int .i64 z15, .slice a12 n12 c12, .slice a13 n13 c13, .slice a14 n14 c14, .int .i64 z19]]) ?_ ?_
  have hk3 := h
  have h := hx7
  obtain ⟨e1, hx8, h⟩ := obs h
  obtain ⟨b1, o1, ha1⟩ := (HT.ro hr_x0).any.addr hx8
  obtain ⟨_, hP1, hc1, hr1⟩ := hr_x0.elemAt ha1 hx8
  obtain ⟨a15, c15, a16, c16, rfl, hr2, hr3⟩ := cells_Prog hr1
  have hc2 := HT.roLd hP1 hc1
  obtain ⟨e2, hx9, h⟩ := obs h
  obtain ⟨b2, o2, ha2⟩ := (HT.ro hr_x1).any.addr hx9
  obtain ⟨_, hP2, hc3, hr4⟩ := hr_x1.elemAt ha2 hx9
  obtain ⟨a17, c17, rfl, hr5⟩ := cells_Ord hr4
  have hc4 := HT.roLd hP2 hc3
  refine wp_region_tree (.seg [(0, false), (1, false), (2, false), (3, false), (4, false), (5, false), (6, false), (7, false), (8, false), (9, false)] (.alt 10 true (.seg [(11, false), (12, true)] .stop) (.alt 11 false (.seg [(10, true), (12, true)] .stop) .none))) (fun w' => LdC w' b1 (o1 + (z10 : Int).toNat * Dat.size ProgD) [.slice a15 e1.code.length c15, .slice a16 e1.kids.length c16] ∧ LdC w' b2 (o2 + (z10 : Int).toNat * Dat.size OrdD) [.slice a17 e2.kids.length c17] ∧ LdC w' p4 0 [.slice a7 z7.length c7, .slice a8 z8.length c8, .int .i64 z9] ∧ True) (by kernel_rfl) (by kernel_rfl) ?_
  have HT := HT.drew
  refine wt_seg (wc_move HF (fun _ => ⟨(HT.roLd hP1 hc1), (HT.roLd hP2 hc3), (HT.boxAt 4 rfl).part 0 3, trivial⟩) rfl rfl rfl fun a HF => ?_)
  refine wc_move HF (fun _ => ⟨(HT.roLd hP1 hc1), (HT.roLd hP2 hc3), (HT.boxAt 4 rfl).part 0 3, trivial⟩) rfl rfl rfl fun a HF => ?_
  refine wc_ixaddr HF (fun _ => ⟨(HT.roLd hP1 hc1), (HT.roLd hP2 hc3), (HT.boxAt 4 rfl).part 0 3, trivial⟩) el68 rfl ha1 ((HT.ro hr_x0).any).neq rfl hx8 rfl rfl fun a HF => ?_
  refine wc_loadAS (vs := [.slice a15 e1.code.length c15, .slice a16 e1.kids.length c16]) HF ⟨(HT.roLd hP1 hc1), (HT.roLd hP2 hc3), (HT.boxAt 4 rfl).part 0 3, trivial⟩ rfl ag53 rfl (fun w hS => (hS.1).part 0 2) rfl rfl fun a HF => ?_
  refine wc_move HF (fun _ => ⟨(HT.roLd hP1 hc1), (HT.roLd hP2 hc3), (HT.boxAt 4 rfl).part 0 3, trivial⟩) rfl rfl rfl fun a HF => ?_
  refine wc_move HF (fun _ => ⟨(HT.roLd hP1 hc1), (HT.roLd hP2 hc3), (HT.boxAt 4 rfl).part 0 3, trivial⟩) rfl rfl rfl fun a HF => ?_
  refine wc_ixaddr HF (fun _ => ⟨(HT.roLd hP1 hc1), (HT.roLd hP2 hc3), (HT.boxAt 4 rfl).part 0 3, trivial⟩) el70 rfl ha2 ((HT.ro hr_x1).any).neq rfl hx9 rfl rfl fun a HF => ?_
  refine wc_faddr HF (fun _ => ⟨(HT.roLd hP1 hc1), (HT.roLd hP2 hc3), (HT.boxAt 4 rfl).part 0 3, trivial⟩) rfl fl89_0 rfl rfl fun a HF => ?_
  refine wc_loadS HF ⟨(HT.roLd hP1 hc1), (HT.roLd hP2 hc3), (HT.boxAt 4 rfl).part 0 3, trivial⟩ rfl sc22 (fun w hS => (hS.2.1).get 0 rfl) rfl rfl fun a HF => ?_
  refine wc_loadAS (vs := [.slice a7 z7.length c7, .slice a8 z8.length c8, .int .i64 z9]) HF ⟨(HT.roLd hP1 hc1), (HT.roLd hP2 hc3), (HT.boxAt 4 rfl).part 0 3, trivial⟩ rfl ag27 rfl (fun w hS => hS.2.2.1) rfl rfl fun a HF => ?_
  refine wc_endT ?_
  obtain ⟨y5, y6, y7, y8, y9, hx10, h⟩ := obs5 h
  refine wt_alt ?_ ?_
  refine wc_call HF cf28 rfl (w_spec_Serial fuel hx10 (HT.ro hr2).any (HT.ro hr3).any (HT.ro hr5).any (HT.rdAt 2 rfl) (HT.rdAt 3 rfl)) rfl rfl ?_
  rintro e w ⟨a21, n18, c21, a22, n19, c22, a23, n20, c23, rfl, hE⟩
  have hb := hE.below
  have HT := HT.pure hE
  obtain rfl := (HT.rdAt 0 rfl).neq
  obtain rfl := (HT.rdAt 1 rfl).neq
  obtain rfl := (HT.rdAt 2 rfl).neq
  have HT : St w0 (fun _ => False) w [Own 3 (rowT y6) (.slice a21 y6.length c21), Own 3 (rowT y7) (.slice a22 y7.length c22), Own 3 (rowT y8) (.slice a23 y8.length c23), Box p2 [.slice none 0 0, .slice none 0 0, .int .i64 0], Own 49 (rowT z6) (.slice a6 z6.length c6), Own 3 (rowT z7) (.slice a7 z7.length c7), Own 3 (rowT z8) (.slice a8 z8.length c8), Box p4 [.slice a7 z7.length c7, .slice a8 z8.length c8, .int .i64 z9]] := HT
  refine ⟨_, rfl, nS, fun a HF => ?_⟩
  refine wc_endT (wt_seg (wc_alloc (cs := [.int .i64 0, .slice none 0 0, .slice none 0 0, .slice none 0 0, .int .i64 0]) HF HT zr49 rfl rfl rfl (fun p7 w HT hb => ⟨(fun _ => ⟨(HT.roLd hP1 hc1), (HT.roLd hP2 hc3), (HT.boxAt 8 rfl).part 0 3, trivial⟩), fun a HF => ?_⟩)))
  refine wc_storeB (cs' := [.int .i64 y5, .slice a21 y6.length c21, .slice a22 y7.length c22, .slice a23 y8.length c23, .int .i64 y9]) HF HT rfl rfl (fun w => (ag49 w).2) rfl rfl rfl rfl rfl (fun w HT => ⟨nS, ?_⟩)
  refine wc_endT (wt_stop ?_)
  have HT := HT.p3.p3.p3.p8.p8.p8.p8.p8
  have hj5 := Option.some.inj h
  obtain ⟨rfl, hj6⟩ := Prod.mk.inj hj5
  obtain ⟨rfl, hj7⟩ := Prod.mk.inj hj6
  obtain ⟨rfl, hj8⟩ := Prod.mk.inj hj7
  obtain ⟨rfl, hj9⟩ := Prod.mk.inj hj8
  subst hj9
  exact then_n ⟨a21, y6.length, c21, a22, y7.length, c22, a23, y8.length, c23, p7, (HF.keep (HF.keep (HF.keep (HF.keep (HF.keep (HF.keep (HF.keep HF.nil rfl) rfl) rfl) rfl) rfl) rfl) rfl), HT⟩
  refine wt_alt ?_ ?_
  refine wc_alloc (cs := [.int .i64 0, .slice none 0 0, .slice none 0 0, .slice none 0 0, .int .i64 0]) HF HT zr49 rfl rfl rfl (fun p8 w HT hb => ⟨(fun _ => ⟨(HT.roLd hP1 hc1), (HT.roLd hP2 hc3), (HT.boxAt 5 rfl).part 0 3, trivial⟩), fun a HF => ?_⟩)
  refine wc_endT (wt_seg (wc_call HF cf28 rfl (w_spec_Serial fuel hx10 (HT.ro hr2).any (HT.ro hr3).any (HT.ro hr5).any (HT.rdAt 3 rfl) (HT.rdAt 4 rfl)) rfl rfl ?_))
  rintro e w ⟨a24, n21, c24, a25, n22, c25, a26, n23, c26, rfl, hE⟩
  have hb := hE.below
  have HT := HT.pure hE
  obtain rfl := (HT.rdAt 0 rfl).neq
  obtain rfl := (HT.rdAt 1 rfl).neq
  obtain rfl := (HT.rdAt 2 rfl).neq
  have HT : St w0 (fun _ => False) w [Own 3 (rowT y6) (.slice a24 y6.length c24), Own 3 (rowT y7) (.slice a25 y7.length c25), Own 3 (rowT y8) (.slice a26 y8.length c26), Box p8 [.int .i64 0, .slice none 0 0, .slice none 0 0, .slice none 0 0, .int .i64 0], Box p2 [.slice none 0 0, .slice none 0 0, .int .i64 0], Own 49 (rowT z6) (.slice a6 z6.length c6), Own 3 (rowT z7) (.slice a7 z7.length c7), Own 3 (rowT z8) (.slice a8 z8.length c8), Box p4 [.slice a7 z7.length c7, .slice a8 z8.length c8, .int .i64 z9]] := HT
  refine ⟨_, rfl, nS, fun a HF => ?_⟩
  have HT := HT.p3
  refine wc_storeB (cs' := [.int .i64 y5, .slice a24 y6.length c24, .slice a25 y7.length c25, .slice a26 y8.length c26, .int .i64 y9]) HF HT rfl rfl (fun w => (ag49 w).2) rfl rfl rfl rfl rfl (fun w HT => ⟨nS, ?_⟩)
  refine wc_endT (wt_stop ?_)
  have HT := HT.p3.p3.p3.p8.p8.p8.p8.p8
  have hj10 := Option.some.inj h
  obtain ⟨rfl, hj11⟩ := Prod.mk.inj hj10
  obtain ⟨rfl, hj12⟩ := Prod.mk.inj hj11
  obtain ⟨rfl, hj13⟩ := Prod.mk.inj hj12
  obtain ⟨rfl, hj14⟩ := Prod.mk.inj hj13
  subst hj14
  exact then_n ⟨a24, y6.length, c24, a25, y7.length, c25, a26, y8.length, c26, p8, (HF.keep (HF.keep (HF.keep (HF.keep (HF.keep (HF.keep (HF.keep HF.nil rfl) rfl) rfl) rfl) rfl) rfl) rfl), HT⟩
  exact wt_none
  rintro a w ⟨a12, n12, c12, a13, n13, c13, a14, n14, c14, p5, HF, HT⟩
  obtain rfl := (HT.rdAt 5 rfl).neq
  obtain rfl := (HT.rdAt 6 rfl).neq
  obtain rfl := (HT.rdAt 7 rfl).neq
  refine ?_
  refine wp_seq (wp_seq (wc_text (wc_faddr HF nS rfl fl49_0 rfl rfl fun a HF => ?_)))
  refine wc_load HF rfl sc3 ((HT.boxAt 8 rfl).get 0 rfl) rfl rfl fun a HF => ?_
  refine wc_bin HF nS rfl rfl b_eq rfl rfl fun a HF => ?_
  refine wc_end (then_n ?_)
  by_cases hb4 : z15 = 0
  have h := ifp hb4 h
  refine wp_if (b' := true) HF rfl (decide_eq_true hb4) ?_
  refine wp_seq (wc_text (wc_bslice (l := ([] : List RunD)) (cs := []) (A := []) HF HT bs65_0 rfl rfl gives_nil rfl (by decide) rfl rfl (fun p9 w HT hb  => ⟨nS, fun a HF => ?_⟩)))
  refine wc_build (cs := #[.slice none 0 0, .slice none 0 0, .int .i64 0]) HF nS bd27 rfl rfl rfl rfl fun a HF => ?_
  refine wa HF rfl rfl rfl fun a HF => ?_
  have HT := HT.p1
  refine wc_storeB (cs' := [.slice none 0 0, .slice none 0 0, .int .i64 0]) HF HT rfl rfl (fun w => (ag27 w).2) rfl rfl rfl rfl rfl (fun w HT => ⟨nS, ?_⟩)
  refine wc_end (then_n (wp_ret ?_))
  have HT := HT.nilrow (E := Int) 3
  have HT := HT.nilrow (E := Int) 3
  obtain rfl := Option.some.inj h
  have h := retM hk2
  obtain rfl := Option.some.inj h
  have h := retL hk1
  have hj15 := Option.some.inj h
  obtain ⟨rfl, hj16⟩ := Prod.mk.inj hj15
  obtain ⟨rfl, hj17⟩ := Prod.mk.inj hj16
  obtain ⟨rfl, hj18⟩ := Prod.mk.inj hj17
  subst hj18
  refine then_r (blk_r (then_r (then_r (blk_r (then_r (?_))))))
  refine bp_ret HF (res_tmp_cell (vs := [.slice none 0 0, .slice none 0 0, .int .i64 0]) rfl HF rfl rfl ag27 rfl (HT.boxAt 2 rfl)) ?_
  have HT := HT.p1.p3.t3
  exact ⟨(some ⟨p9, 0, none⟩), 0, 0, none, 0, 0, none, 0, 0, rfl, HT⟩
  have h := ifn hb4 h
  refine wp_if (b' := false) HF rfl (decide_eq_false hb4) ?_
  refine wp_skip (then_n (wp_seq (wc_text (wc_faddr HF nS rfl fl49_2 rfl rfl fun a HF => ?_))))
  refine wc_loadA (vs := [.slice a13 z17.length c13, .slice a14 z18.length c14, .int .i64 z19]) HF rfl ag27 rfl ((HT.boxAt 8 rfl).part 2 3) rfl rfl fun a HF => ?_
  obtain ⟨y10, y11, y12, hx11, h⟩ := obs3 h
  refine wc_call HF cf80 rfl (w_spec_l7Copy fuel hx11 (HT.rdAt 6 rfl) (HT.rdAt 7 rfl)) rfl rfl ?_
  rintro e w ⟨a27, n24, c27, a28, n25, c28, rfl, hE⟩
  have hb := hE.below
  have HT := HT.pure hE
  obtain rfl := (HT.rdAt 0 rfl).neq
  obtain rfl := (HT.rdAt 1 rfl).neq
  have HT : St w0 (fun _ => False) w [Own 3 (rowT y10) (.slice a27 y10.length c27), Own 3 (rowT y11) (.slice a28 y11.length c28), Box p2 [.slice none 0 0, .slice none 0 0, .int .i64 0], Own 49 (rowT z6) (.slice a6 z6.length c6), Own 3 (rowT z7) (.slice a7 z7.length c7), Own 3 (rowT z8) (.slice a8 z8.length c8), Box p4 [.slice a7 z7.length c7, .slice a8 z8.length c8, .int .i64 z9], Own 3 (rowT z16) (.slice a12 z16.length c12), Own 3 (rowT z17) (.slice a13 z17.length c13), Own 3 (rowT z18) (.slice a14 z18.length c14), Box p5 [.int .i64 z15, .slice a12 z16.length c12, .slice a13 z17.length c13, .slice a14 z18.length c14, .int .i64 z19]] := HT
  refine ⟨_, rfl, nS, fun a HF => ?_⟩
  have HT := HT.p6
  refine wc_storeB (cs' := [.slice a27 y10.length c27, .slice a28 y11.length c28, .int .i64 y12]) HF HT rfl rfl (fun w => (ag27 w).2) rfl rfl rfl rfl rfl (fun w HT => ⟨nS, ?_⟩)
  refine wc_end (then_n (wc_text (wm HF rfl rfl rfl fun a HF => ?_)))
  refine wc_loadA (vs := [.int .i64 z15, .slice a12 z16.length c12, .slice a13 z17.length c13, .slice a14 z18.length c14, .int .i64 z19]) HF rfl ag49 rfl ((HT.boxAt 10 rfl).part 0 5) rfl rfl fun a HF => ?_
  have HT := HT.p9.p9.p9
  refine wc_bslice (l := ([(⟨z15, z16, z17, z18, z19⟩ : RunD)] : List RunD)) (cs := [.int .i64 z15, .slice a12 z16.length c12, .slice a13 z17.length c13, .slice a14 z18.length c14, .int .i64 z19]) (A := [Own 3 (rowT z16) (.slice a12 z16.length c12), Own 3 (rowT z17) (.slice a13 z17.length c13), Own 3 (rowT z18) (.slice a14 z18.length c14)]) HF HT bs65_1 rfl rfl (gives_lit (gives_own (gives_own (gives_own (gives_lit gives_nil))))) rfl (by decide) rfl rfl (fun p10 w HT hb  => ⟨nS, fun a HF => ?_⟩)
  obtain ⟨hg1, h⟩ := grd h
  have HT := HT.p5
  refine wc_append HF HT el65 rfl rfl (Nat.zero_lt_succ _) hg1 rfl rfl rfl (fun a29 c29 w HT => ⟨nS, fun a HF => ?_⟩)
  refine wa HF rfl rfl rfl fun a HF => ?_
  refine wc_end (blk_n ?_)
  have HT := HT.p1.p3.p3.p3.p4.t5
  exact then_n ⟨z6 ++ ([(⟨z15, z16, z17, z18, z19⟩ : RunD)] : List RunD), y10, y11, y12, a29, (z6 ++ ([(⟨z15, z16, z17, z18, z19⟩ : RunD)] : List RunD)).length, c29, a27, y10.length, c27, a28, y11.length, c28, (Option.some.inj h).symm, (HF.keep (HF.keep (HF.keep (HF.keep (HF.keep (HF.keep HF.nil rfl) rfl) rfl) rfl) rfl) rfl), HT⟩
  rintro a w ⟨z11, z12, z13, z14, a9, n9, c9, a10, n10, c10, a11, n11, c11, rfl, HF, HT⟩
  have h := brkM4 h
  obtain rfl := (HT.rdAt 1 rfl).neq
  obtain rfl := (HT.rdAt 2 rfl).neq
  obtain rfl := (HT.rdAt 3 rfl).neq
  refine ?_
  refine wc_text (wm HF rfl rfl rfl fun a HF => ?_)
  obtain ⟨hg2, h⟩ := grd h
  refine wc_bin HF nS rfl rfl (b_add hg2) rfl rfl fun a HF => ?_
  refine wa HF rfl rfl rfl fun a HF => ?_
  exact wc_end (then_n ⟨k1, Nat.lt_succ_self k1, z11, z12, z13, z14, z10 + 1, a9, z11.length, c9, a10, z12.length, c10, a11, z13.length, c11, h, (HF.keep (HF.keep (HF.keep (HF.keep (HF.keep (HF.keep HF.nil rfl) rfl) rfl) rfl) rfl) rfl), HT⟩)
  have h := ifn hb3 h
  refine wp_if (b' := false) HF rfl (decide_eq_false hb3) ?_
  refine wp_exit ?_
  refine then_x (then_x (?_))
  refine blk_x ?_
  exact then_n ⟨z6, z7, z8, z9, a6, z6.length, c6, a7, z7.length, c7, a8, z8.length, c8, (Option.some.inj h).symm, (HF.keep (HF.keep (HF.keep HF.nil rfl) rfl) rfl), HT⟩
  rintro a w ⟨z2, z3, z4, z5, a3, n3, c3, a4, n4, c4, a5, n5, c5, rfl, HF, HT⟩
  have h := brkL4 h
  obtain rfl := (HT.rdAt 1 rfl).neq
  obtain rfl := (HT.rdAt 2 rfl).neq
  obtain rfl := (HT.rdAt 3 rfl).neq
  refine ?_
  refine wp_seq (wp_region_can [(0, true), (1, true), (2, true), (3, true)] (fun w' => True) (by kernel_rfl) (by kernel_rfl) ?_)
  have HT := HT.drew
  refine wm HF rfl rfl rfl fun a HF => ?_
  refine wc_loadA (vs := [.slice a4 z3.length c4, .slice a5 z4.length c5, .int .i64 z5]) HF rfl ag27 rfl ((HT.boxAt 4 rfl).part 0 3) rfl rfl fun a HF => ?_
  refine wa HF rfl rfl rfl fun a HF => ?_
  refine wc_storeB (cs' := [.slice a4 z3.length c4, .slice a5 z4.length c5, .int .i64 z5]) HF HT rfl rfl (fun w => (ag27 w).2) rfl rfl rfl rfl rfl (fun w HT => ⟨nS, ?_⟩)
  refine wc_endN (then_n (wp_ret ?_))
  have hj19 := Option.some.inj h
  obtain ⟨rfl, hj20⟩ := Prod.mk.inj hj19
  obtain ⟨rfl, hj21⟩ := Prod.mk.inj hj20
  obtain ⟨rfl, hj22⟩ := Prod.mk.inj hj21
  subst hj22
  refine bp_ret HF (res_tmp_cell (vs := [.slice a4 z3.length c4, .slice a5 z4.length c5, .int .i64 z5]) rfl HF rfl rfl ag27 rfl (HT.boxAt 0 rfl)) ?_
  have HT := HT.p3.p3.p3.t3
  exact ⟨a3, z2.length, c3, a4, z3.length, c4, a5, z4.length, c5, rfl, HT⟩

def m_laws_big (fuel : Nat) (x0 : List UInt8) : Option Bool :=
  some (decide (1048576 < (x0.length : Int)))

set_option maxRecDepth 100000 in
set_option maxHeartbeats 4000000 in
theorem w_laws_big (fuel : Nat) {x0 : List UInt8} {a_x0 : Option Addr} {n_x0 c_x0 : Nat} {r0 : Bool} {w0 : World} (h : m_laws_big fuel x0 = some r0) (hr_x0 : RdT (fun b => ¬ False) w0 (rowT x0) (.slice a_x0 n_x0 c_x0)) :
    Calls Try.prog 51 #[.slice a_x0 n_x0 c_x0] w0 fun e w => e = .returned (.bool r0) ∧ St w0 (fun _ => False) w [] := by
  obtain rfl := hr_x0.neq
  have HT : St w0 (fun _ => False) w0 [] := St.init0
  rw [m_laws_big] at h
  refine calls_fr (n := 6) [.slice a_x0 x0.length c_x0] Try.func51 rfl rfl rfl fun a HF => ?_
  have HT : St w0 (fun _ => False) w0 [] := HT
  refine wp_seq (wc_text (wa HF rfl rfl rfl fun a HF => ?_))
  refine wc_end (then_n (wp_seq (wc_text (wm HF rfl rfl rfl fun a HF => ?_))))
  refine wc_lenR HF nS Try.underlying79 rfl rfl rfl fun a HF => ?_
  refine wc_bin HF nS rfl rfl b_gt rfl rfl fun a HF => ?_
  refine wa HF rfl rfl rfl fun a HF => ?_
  refine wc_end (then_n (wp_ret ?_))
  obtain rfl := Option.some.inj h
  refine bp_ret HF (res_one rfl HF rfl) ?_
  exact ⟨rfl, HT⟩

def m_laws_sameInts_L0 (fuel : Nat) (x0 : List Int) (x1 : List Int) : Nat → Int → Option (Lp Unit Bool)
  | 0, _ => none
  | k1 + 1, z1 =>
    if z1 < (x0.length : Int) then
      (at? x0 z1).bind fun e1 =>
      (at? x1 z1).bind fun e2 =>
      if e1 = e2 then
        if in64 (z1 + 1) then
          m_laws_sameInts_L0 fuel x0 x1 k1 (z1 + 1)
        else none
      else
      some (.ret false)
    else
    some (.brk ())

def m_laws_sameInts (fuel : Nat) (x0 : List Int) (x1 : List Int) : Option Bool :=
  if (x0.length : Int) = (x1.length : Int) then
    (m_laws_sameInts_L0 fuel x0 x1 fuel 0).bind <| contL <| un1 fun _ =>
    some true
  else
  some false

set_option maxRecDepth 100000 in
set_option maxHeartbeats 4000000 in
theorem w_laws_sameInts (fuel : Nat) {x0 : List Int} {x1 : List Int} {a_x0 : Option Addr} {n_x0 c_x0 : Nat} {a_x1 : Option Addr} {n_x1 c_x1 : Nat} {r0 : Bool} {w0 : World} (h : m_laws_sameInts fuel x0 x1 = some r0) (hr_x0 : RdT (fun b => ¬ False) w0 (rowT x0) (.slice a_x0 n_x0 c_x0)) (hr_x1 : RdT (fun b => ¬ False) w0 (rowT x1) (.slice a_x1 n_x1 c_x1)) :
    Calls Try.prog 54 #[.slice a_x0 n_x0 c_x0, .slice a_x1 n_x1 c_x1] w0 fun e w => e = .returned (.bool r0) ∧ St w0 (fun _ => False) w [] := by
  obtain rfl := hr_x0.neq
  obtain rfl := hr_x1.neq
  have HT : St w0 (fun _ => False) w0 [] := St.init0
  rw [m_laws_sameInts] at h
  refine calls_fr (n := 26) [.slice a_x0 x0.length c_x0, .slice a_x1 x1.length c_x1] Try.func54 rfl rfl rfl fun a HF => ?_
  have HT : St w0 (fun _ => False) w0 [] := HT
  refine wp_seq (wc_text (wa HF rfl rfl rfl fun a HF => ?_))
  refine wc_end (then_n (wp_seq (wp_seq (wc_text (wm HF rfl rfl rfl fun a HF => ?_)))))
  refine wc_lenR HF nS Try.underlying22 rfl rfl rfl fun a HF => ?_
  refine wm HF rfl rfl rfl fun a HF => ?_
  refine wc_lenR HF nS Try.underlying22 rfl rfl rfl fun a HF => ?_
  refine wc_bin HF nS rfl rfl b_ne rfl rfl fun a HF => ?_
  refine wc_end (then_n ?_)
  by_cases hb1 : (x0.length : Int) = (x1.length : Int)
  have h := ifp hb1 h
  refine wp_if (b' := false) HF rfl (notT (decide_eq_true hb1)) ?_
  refine wp_skip (then_n ?_)
  obtain ⟨q1, hx1, h⟩ := obs h
  refine wp_cut (fun a w => q1 = .brk () ∧ Fr a 26 [] ∧ St w0 (fun _ => False) w []) ?_ ?_
  have hk1 := h
  have h := hx1
  refine wp_seq (wc_text (wa HF rfl rfl rfl fun a HF => ?_))
  refine wc_end (then_n (wp_block (wp_loopN (fun k1 a w => ∃ z1, m_laws_sameInts_L0 fuel x0 x1 k1 z1 = some q1 ∧ Fr a 26 [(0, .slice a_x0 x0.length c_x0), (1, .slice a_x1 x1.length c_x1), (5, .int .i64 z1)] ∧ St w0 (fun _ => False) w []) fuel ⟨0, h, (HF.keep (HF.keep (HF.keep HF.nil rfl) rfl) rfl), HT⟩ ?_)))
  rintro k1 a w ⟨z1, h, HF, HT⟩
  rcases k1 with _ | k1
  cases h
  rw [m_laws_sameInts_L0] at h
  refine ?_
  refine wp_seq (wp_seq (wc_text (wm HF rfl rfl rfl fun a HF => ?_)))
  refine wm HF rfl rfl rfl fun a HF => ?_
  refine wc_lenR HF nS Try.underlying22 rfl rfl rfl fun a HF => ?_
  refine wc_bin HF nS rfl rfl b_lt rfl rfl fun a HF => ?_
  refine wc_end (then_n ?_)
  by_cases hb2 : z1 < (x0.length : Int)
  have h := ifp hb2 h
  refine wp_if (b' := true) HF rfl (decide_eq_true hb2) ?_
  refine wp_skip (then_n (wp_seq (wp_block (wp_seq (wp_region_can [(0, true), (1, true), (2, true), (3, true), (4, true), (5, true), (6, true), (7, true), (8, true)] (fun w' => True) (by kernel_rfl) (by kernel_rfl) ?_)))))
  have HT := HT.drew
  refine wm HF rfl rfl rfl fun a HF => ?_
  refine wm HF rfl rfl rfl fun a HF => ?_
  obtain ⟨e1, hx2, h⟩ := obs h
  obtain ⟨b1, o1, ha1⟩ := (HT.ro hr_x0).any.addr hx2
  refine wc_ixaddr HF nS el22 rfl ha1 ((HT.ro hr_x0).any).neq rfl hx2 rfl rfl fun a HF => ?_
  have hc1 := (HT.ro hr_x0).any.flatAt ha1 hx2
  refine wc_load HF rfl sc3 (hc1.get 0 rfl) rfl rfl fun a HF => ?_
  refine wm HF rfl rfl rfl fun a HF => ?_
  refine wm HF rfl rfl rfl fun a HF => ?_
  obtain ⟨e2, hx3, h⟩ := obs h
  obtain ⟨b2, o2, ha2⟩ := (HT.ro hr_x1).any.addr hx3
  refine wc_ixaddr HF nS el22 rfl ha2 ((HT.ro hr_x1).any).neq rfl hx3 rfl rfl fun a HF => ?_
  have hc2 := (HT.ro hr_x1).any.flatAt ha2 hx3
  refine wc_load HF rfl sc3 (hc2.get 0 rfl) rfl rfl fun a HF => ?_
  refine wc_bin HF nS rfl rfl b_ne rfl rfl fun a HF => ?_
  refine wc_endN (then_n ?_)
  by_cases hb3 : e1 = e2
  have h := ifp hb3 h
  refine wp_if (b' := false) HF rfl (notT (decide_eq_true hb3)) ?_
  refine wp_skip (blk_n (then_n (wc_text (wm HF rfl rfl rfl fun a HF => ?_))))
  obtain ⟨hg1, h⟩ := grd h
  refine wc_bin HF nS rfl rfl (b_add hg1) rfl rfl fun a HF => ?_
  refine wa HF rfl rfl rfl fun a HF => ?_
  exact wc_end (then_n ⟨k1, Nat.lt_succ_self k1, z1 + 1, h, (HF.keep (HF.keep (HF.keep HF.nil rfl) rfl) rfl), HT⟩)
  have h := ifn hb3 h
  refine wp_if (b' := true) HF rfl (notF (decide_eq_false hb3)) ?_
  refine wp_seq (wc_text (wa HF rfl rfl rfl fun a HF => ?_))
  refine wc_end (then_n (wp_ret ?_))
  obtain rfl := Option.some.inj h
  have h := retL hk1
  obtain rfl := Option.some.inj h
  refine blk_r (then_r (then_r (blk_r (then_r (?_)))))
  refine bp_ret HF (res_one rfl HF rfl) ?_
  exact ⟨rfl, HT⟩
  have h := ifn hb2 h
  refine wp_if (b' := false) HF rfl (decide_eq_false hb2) ?_
  refine wp_exit ?_
  refine then_x (then_x (?_))
  refine blk_x ?_
  exact then_n ⟨(Option.some.inj h).symm, HF.nil, HT⟩
  rintro a w ⟨rfl, HF, HT⟩
  have h := brkL1u h
  refine ?_
  refine wp_seq (wc_text (wa HF rfl rfl rfl fun a HF => ?_))
  refine wc_end (then_n (wp_ret ?_))
  obtain rfl := Option.some.inj h
  refine bp_ret HF (res_one rfl HF rfl) ?_
  exact ⟨rfl, HT⟩
  have h := ifn hb1 h
  refine wp_if (b' := true) HF rfl (notF (decide_eq_false hb1)) ?_
  refine wp_seq (wc_text (wa HF rfl rfl rfl fun a HF => ?_))
  refine wc_end (then_n (wp_ret ?_))
  obtain rfl := Option.some.inj h
  refine then_r (?_)
  refine bp_ret HF (res_one rfl HF rfl) ?_
  exact ⟨rfl, HT⟩

def m_spec_l1Byte (fuel : Nat) (x0_0 : List UInt8) (x0_1 : Int) (x0_2 : Int) : Option (Int × Int × Int) :=
  bind3 (
    if x0_1 < (x0_0.length : Int) then
      (at? x0_0 x0_1).bind fun e1 =>
      some (bits .and .i64 (IntKind.i64.wrap ((bits .and .i64 (bits .xor .i64 ((IntKind.i64.wrap ((IntKind.i64.wrap (x0_2 * 6364136223846793005)) + 1442695040888963407)) / 2 ^ 33) ((IntKind.i64.wrap ((IntKind.i64.wrap (x0_2 * 6364136223846793005)) + 1442695040888963407)) / 2 ^ 45)) 255) + (e1.toNat : Int))) 255, IntKind.i64.wrap (x0_1 + 1), IntKind.i64.wrap ((IntKind.i64.wrap (x0_2 * 6364136223846793005)) + 1442695040888963407))
    else
    some (bits .and .i64 (bits .xor .i64 ((IntKind.i64.wrap ((IntKind.i64.wrap (x0_2 * 6364136223846793005)) + 1442695040888963407)) / 2 ^ 33) ((IntKind.i64.wrap ((IntKind.i64.wrap (x0_2 * 6364136223846793005)) + 1442695040888963407)) / 2 ^ 45)) 255, x0_1, IntKind.i64.wrap ((IntKind.i64.wrap (x0_2 * 6364136223846793005)) + 1442695040888963407))) fun z1 z2 z3 =>
  some (z1, z2, z3)

set_option maxRecDepth 100000 in
set_option maxHeartbeats 4000000 in
theorem w_spec_l1Byte (fuel : Nat) {x0_0 : List UInt8} {x0_1 : Int} {x0_2 : Int} {a_x0_0 : Option Addr} {n_x0_0 c_x0_0 : Nat} {p_0 : Nat} {r0 : Int} {x0_1' : Int} {x0_2' : Int} {F : Foot} {w0 : World} (h : m_spec_l1Byte fuel x0_0 x0_1 x0_2 = some (r0, x0_1', x0_2')) (hA : StF w0 F [Box p_0 [.slice a_x0_0 n_x0_0 c_x0_0, .int .i64 x0_1, .int .i64 x0_2]]) (hr_x0_0 : RdT (fun b => ¬ F b) w0 (rowT x0_0) (.slice a_x0_0 n_x0_0 c_x0_0)) :
    Calls Try.prog 116 #[.pointer (some ⟨p_0, 0, none⟩)] w0 fun e w => e = .returned (.int .i64 r0) ∧ St w0 F w [Box p_0 [.slice a_x0_0 n_x0_0 c_x0_0, .int .i64 x0_1', .int .i64 x0_2']] := by
  have HT0 := St.init hA
  obtain rfl := hr_x0_0.neq
  have HT : St w0 F w0 [Box p_0 [.slice a_x0_0 x0_0.length c_x0_0, .int .i64 x0_1, .int .i64 x0_2]] := St.init hA
  rw [m_spec_l1Byte] at h
  refine calls_fr (n := 58) [.pointer (some ⟨p_0, 0, none⟩)] Try.func116 rfl rfl rfl fun a HF => ?_
  have HT : St w0 F w0 [Box p_0 [.slice a_x0_0 x0_0.length c_x0_0, .int .i64 x0_1, .int .i64 x0_2]] := HT
  refine wp_seq (wc_text (wa HF rfl rfl rfl fun a HF => ?_))
  refine wc_end (then_n (wp_seq (wc_text (wm HF rfl rfl rfl fun a HF => ?_))))
  refine wm HF rfl rfl rfl fun a HF => ?_
  refine wc_nilCheck HF nS rfl rfl rfl fun a HF => ?_
  refine wc_faddr HF nS rfl fl142_2 rfl rfl fun a HF => ?_
  refine wc_load HF rfl sc3 ((HT.boxAt 0 rfl).get 2 rfl) rfl rfl fun a HF => ?_
  refine wc_bin HF nS rfl rfl b_mulw rfl rfl fun a HF => ?_
  refine wc_bin HF nS rfl rfl b_addw rfl rfl fun a HF => ?_
  refine wc_nilCheck HF nS rfl rfl rfl fun a HF => ?_
  refine wc_faddr HF nS rfl fl142_2 rfl rfl fun a HF => ?_
  refine wc_storeB (cs' := [.slice a_x0_0 x0_0.length c_x0_0, .int .i64 x0_1, .int .i64 (IntKind.i64.wrap ((IntKind.i64.wrap (x0_2 * 6364136223846793005)) + 1442695040888963407))]) HF HT rfl rfl (fun w => (sc3 w).2) rfl rfl rfl rfl rfl (fun w HT => ⟨nS, ?_⟩)
  refine wc_end (then_n (wp_seq (wp_region_can [(0, true), (1, true), (2, true), (3, true), (4, true), (5, true), (6, true), (7, true), (8, true), (9, true), (10, true), (11, true), (12, true)] (fun w' => True) (by kernel_rfl) (by kernel_rfl) ?_)))
  have HT := HT.drew
  refine wm HF rfl rfl rfl fun a HF => ?_
  refine wc_nilCheck HF nS rfl rfl rfl fun a HF => ?_
  refine wc_faddr HF nS rfl fl142_2 rfl rfl fun a HF => ?_
  refine wc_load HF rfl sc3 ((HT.boxAt 0 rfl).get 2 rfl) rfl rfl fun a HF => ?_
  refine wc_bin HF nS rfl rfl (b_shrk (k := 33) (by decide)) rfl rfl fun a HF => ?_
  refine wm HF rfl rfl rfl fun a HF => ?_
  refine wc_nilCheck HF nS rfl rfl rfl fun a HF => ?_
  refine wc_faddr HF nS rfl fl142_2 rfl rfl fun a HF => ?_
  refine wc_load HF rfl sc3 ((HT.boxAt 0 rfl).get 2 rfl) rfl rfl fun a HF => ?_
  refine wc_bin HF nS rfl rfl (b_shrk (k := 45) (by decide)) rfl rfl fun a HF => ?_
  refine wc_bin HF nS rfl rfl b_xor rfl rfl fun a HF => ?_
  refine wc_bin HF nS rfl rfl b_and rfl rfl fun a HF => ?_
  refine wa HF rfl rfl rfl fun a HF => ?_
  refine wc_endN (then_n ?_)
  obtain ⟨z1, z2, z3, hx1, h⟩ := obs3 h
  refine wp_cut (fun a w => Fr a 58 [(3, .int .i64 z1)] ∧ St w0 F w [Box p_0 [.slice a_x0_0 x0_0.length c_x0_0, .int .i64 z2, .int .i64 z3]]) ?_ ?_
  have hk1 := h
  have h := hx1
  refine wp_seq (wp_region_can [(0, true), (1, true), (2, true), (3, true), (4, true), (5, true), (6, true), (7, true), (8, true), (9, true)] (fun w' => True) (by kernel_rfl) (by kernel_rfl) ?_)
  have HT := HT.drew
  refine wm HF rfl rfl rfl fun a HF => ?_
  refine wc_nilCheck HF nS rfl rfl rfl fun a HF => ?_
  refine wc_faddr HF nS rfl fl142_1 rfl rfl fun a HF => ?_
  refine wc_load HF rfl sc3 ((HT.boxAt 0 rfl).get 1 rfl) rfl rfl fun a HF => ?_
  refine wm HF rfl rfl rfl fun a HF => ?_
  refine wc_nilCheck HF nS rfl rfl rfl fun a HF => ?_
  refine wc_faddr HF nS rfl fl142_0 rfl rfl fun a HF => ?_
  refine wc_load HF rfl sc79 ((HT.boxAt 0 rfl).get 0 rfl) rfl rfl fun a HF => ?_
  refine wc_lenR HF nS Try.underlying79 rfl rfl rfl fun a HF => ?_
  refine wc_bin HF nS rfl rfl b_lt rfl rfl fun a HF => ?_
  refine wc_endN (then_n ?_)
  by_cases hb1 : x0_1 < (x0_0.length : Int)
  have h := ifp hb1 h
  refine wp_if (b' := true) HF rfl (decide_eq_true hb1) ?_
  refine wp_seq (wp_region_can [(0, true), (1, true), (2, true), (3, true), (4, true), (5, true), (6, true), (7, true), (8, true), (9, true), (10, true), (11, true), (12, true), (13, true), (14, true)] (fun w' => True) (by kernel_rfl) (by kernel_rfl) ?_)
  have HT := HT.drew
  refine wm HF rfl rfl rfl fun a HF => ?_
  refine wm HF rfl rfl rfl fun a HF => ?_
  refine wc_nilCheck HF nS rfl rfl rfl fun a HF => ?_
  refine wc_faddr HF nS rfl fl142_0 rfl rfl fun a HF => ?_
  refine wc_load HF rfl sc79 ((HT.boxAt 0 rfl).get 0 rfl) rfl rfl fun a HF => ?_
  refine wm HF rfl rfl rfl fun a HF => ?_
  refine wc_nilCheck HF nS rfl rfl rfl fun a HF => ?_
  refine wc_faddr HF nS rfl fl142_1 rfl rfl fun a HF => ?_
  refine wc_load HF rfl sc3 ((HT.boxAt 0 rfl).get 1 rfl) rfl rfl fun a HF => ?_
  obtain ⟨e1, hx2, h⟩ := obs h
  obtain ⟨b1, o1, ha1⟩ := (HT.ro hr_x0_0).any.addr hx2
  refine wc_ixaddr HF nS el79 rfl ha1 ((HT.ro hr_x0_0).any).neq rfl hx2 rfl rfl fun a HF => ?_
  have hc1 := (HT.ro hr_x0_0).any.flatAt ha1 hx2
  refine wc_load HF rfl sc5 (hc1.get 0 rfl) rfl rfl fun a HF => ?_
  refine wc_cvu HF nS Try.underlying3 Try.underlying5 rfl rfl rfl fun a HF => ?_
  refine wc_bin HF nS rfl rfl b_addw rfl rfl fun a HF => ?_
  refine wc_bin HF nS rfl rfl b_and rfl rfl fun a HF => ?_
  refine wa HF rfl rfl rfl fun a HF => ?_
  refine wc_endN (then_n (wc_text (wm HF rfl rfl rfl fun a HF => ?_)))
  refine wm HF rfl rfl rfl fun a HF => ?_
  refine wc_nilCheck HF nS rfl rfl rfl fun a HF => ?_
  refine wc_faddr HF nS rfl fl142_1 rfl rfl fun a HF => ?_
  refine wc_load HF rfl sc3 ((HT.boxAt 0 rfl).get 1 rfl) rfl rfl fun a HF => ?_
  refine wc_bin HF nS rfl rfl b_addw rfl rfl fun a HF => ?_
  refine wc_nilCheck HF nS rfl rfl rfl fun a HF => ?_
  refine wc_faddr HF nS rfl fl142_1 rfl rfl fun a HF => ?_
  refine wc_storeB (cs' := [.slice a_x0_0 x0_0.length c_x0_0, .int .i64 (IntKind.i64.wrap (x0_1 + 1)), .int .i64 (IntKind.i64.wrap ((IntKind.i64.wrap (x0_2 * 6364136223846793005)) + 1442695040888963407))]) HF HT rfl rfl (fun w => (sc3 w).2) rfl rfl rfl rfl rfl (fun w HT => ⟨nS, ?_⟩)
  refine wc_end ?_
  have hj1 := Option.some.inj h
  obtain ⟨rfl, hj2⟩ := Prod.mk.inj hj1
  obtain ⟨rfl, hj3⟩ := Prod.mk.inj hj2
  subst hj3
  exact then_n ⟨(HF.keep HF.nil rfl), HT⟩
  have h := ifn hb1 h
  refine wp_if (b' := false) HF rfl (decide_eq_false hb1) ?_
  refine wp_skip ?_
  have hj4 := Option.some.inj h
  obtain ⟨rfl, hj5⟩ := Prod.mk.inj hj4
  obtain ⟨rfl, hj6⟩ := Prod.mk.inj hj5
  subst hj6
  exact then_n ⟨(HF.keep HF.nil rfl), HT⟩
  rintro a w ⟨HF, HT⟩
  refine ?_
  refine wp_seq (wc_text (wm HF rfl rfl rfl fun a HF => ?_))
  refine wa HF rfl rfl rfl fun a HF => ?_
  refine wc_end (then_n (wp_ret ?_))
  have hj7 := Option.some.inj h
  obtain ⟨rfl, hj8⟩ := Prod.mk.inj hj7
  obtain ⟨rfl, hj9⟩ := Prod.mk.inj hj8
  subst hj9
  refine bp_ret HF (res_one rfl HF rfl) ?_
  exact ⟨rfl, HT⟩

def m_spec_l1Below (fuel : Nat) (x0_0 : List UInt8) (x0_1 : Int) (x0_2 : Int) (x1 : Int) : Option (Int × Int × Int) :=
  if x1 ≤ 0 then
    some (0, x0_1, x0_2)
  else
  if x1 ≤ 256 then
    bind3 (m_spec_l1Byte fuel x0_0 x0_1 x0_2) fun y1 y2 y3 =>
    if (x1 : Int) ≠ 0 then
      some (y1.tmod x1, y2, y3)
    else none
  else
  bind3 (m_spec_l1Byte fuel x0_0 x0_1 x0_2) fun y4 y5 y6 =>
  bind3 (m_spec_l1Byte fuel x0_0 y5 y6) fun y7 y8 y9 =>
  bind3 (m_spec_l1Byte fuel x0_0 y8 y9) fun y10 y11 y12 =>
  bind3 (m_spec_l1Byte fuel x0_0 y11 y12) fun y13 y14 y15 =>
  if in64 (y4 * 16777216) then
    if in64 (y7 * 65536) then
      if in64 ((y4 * 16777216) + (y7 * 65536)) then
        if in64 (y10 * 256) then
          if in64 (((y4 * 16777216) + (y7 * 65536)) + (y10 * 256)) then
            if in64 ((((y4 * 16777216) + (y7 * 65536)) + (y10 * 256)) + y13) then
              if (x1 : Int) ≠ 0 then
                some (((((y4 * 16777216) + (y7 * 65536)) + (y10 * 256)) + y13).tmod x1, y14, y15)
              else none
            else none
          else none
        else none
      else none
    else none
  else none

set_option maxRecDepth 100000 in
set_option maxHeartbeats 4000000 in
theorem w_spec_l1Below (fuel : Nat) {x0_0 : List UInt8} {x0_1 : Int} {x0_2 : Int} {x1 : Int} {a_x0_0 : Option Addr} {n_x0_0 c_x0_0 : Nat} {p_0 : Nat} {r0 : Int} {x0_1' : Int} {x0_2' : Int} {F : Foot} {w0 : World} (h : m_spec_l1Below fuel x0_0 x0_1 x0_2 x1 = some (r0, x0_1', x0_2')) (hA : StF w0 F [Box p_0 [.slice a_x0_0 n_x0_0 c_x0_0, .int .i64 x0_1, .int .i64 x0_2]]) (hr_x0_0 : RdT (fun b => ¬ F b) w0 (rowT x0_0) (.slice a_x0_0 n_x0_0 c_x0_0)) :
    Calls Try.prog 90 #[.pointer (some ⟨p_0, 0, none⟩), .int .i64 x1] w0 fun e w => e = .returned (.int .i64 r0) ∧ St w0 F w [Box p_0 [.slice a_x0_0 n_x0_0 c_x0_0, .int .i64 x0_1', .int .i64 x0_2']] := by
  have HT0 := St.init hA
  obtain rfl := hr_x0_0.neq
  have HT : St w0 F w0 [Box p_0 [.slice a_x0_0 x0_0.length c_x0_0, .int .i64 x0_1, .int .i64 x0_2]] := St.init hA
  rw [m_spec_l1Below] at h
  refine calls_fr (n := 37) [.pointer (some ⟨p_0, 0, none⟩), .int .i64 x1] Try.func90 rfl rfl rfl fun a HF => ?_
  have HT : St w0 F w0 [Box p_0 [.slice a_x0_0 x0_0.length c_x0_0, .int .i64 x0_1, .int .i64 x0_2]] := HT
  refine wp_seq (wc_text (wa HF rfl rfl rfl fun a HF => ?_))
  refine wc_end (then_n (wp_seq (wp_seq (wc_text (wm HF rfl rfl rfl fun a HF => ?_)))))
  refine wc_bin HF nS rfl rfl b_le rfl rfl fun a HF => ?_
  refine wc_end (then_n ?_)
  by_cases hb1 : x1 ≤ 0
  have h := ifp hb1 h
  refine wp_if (b' := true) HF rfl (decide_eq_true hb1) ?_
  refine wp_seq (wc_text (wa HF rfl rfl rfl fun a HF => ?_))
  refine wc_end (then_n (wp_ret ?_))
  have hj1 := Option.some.inj h
  obtain ⟨rfl, hj2⟩ := Prod.mk.inj hj1
  obtain ⟨rfl, hj3⟩ := Prod.mk.inj hj2
  subst hj3
  refine then_r (?_)
  refine bp_ret HF (res_one rfl HF rfl) ?_
  exact ⟨rfl, HT⟩
  have h := ifn hb1 h
  refine wp_if (b' := false) HF rfl (decide_eq_false hb1) ?_
  refine wp_skip (then_n (wp_seq (wp_seq (wc_text (wm HF rfl rfl rfl fun a HF => ?_)))))
  refine wc_bin HF nS rfl rfl b_le rfl rfl fun a HF => ?_
  refine wc_end (then_n ?_)
  by_cases hb2 : x1 ≤ 256
  have h := ifp hb2 h
  refine wp_if (b' := true) HF rfl (decide_eq_true hb2) ?_
  refine wp_seq (wc_text (wm HF rfl rfl rfl fun a HF => ?_))
  obtain ⟨y1, y2, y3, hx1, h⟩ := obs3 h
  obtain ⟨F1, hAF1, hFF1, hbackF1, hroF1, hownF1, hownAF1⟩ := St.handR2 (A := [Box p_0 [.slice a_x0_0 x0_0.length c_x0_0, .int .i64 x0_1, .int .i64 x0_2]]) HT
  refine wc_call HF cf116 rfl (w_spec_l1Byte fuel hx1 hAF1 (hroF1 hr_x0_0)) rfl rfl ?_
  rintro e w ⟨rfl, hE⟩
  have HT := hbackF1 _ _ hE
  have HT : St w0 F w [Box p_0 [.slice a_x0_0 x0_0.length c_x0_0, .int .i64 y2, .int .i64 y3]] := HT
  refine ⟨_, rfl, nS, fun a HF => ?_⟩
  refine wm HF rfl rfl rfl fun a HF => ?_
  obtain ⟨hg1, h⟩ := grd h
  refine wc_bin HF nS rfl rfl (b_rem hg1) rfl rfl fun a HF => ?_
  refine wa HF rfl rfl rfl fun a HF => ?_
  refine wc_end (then_n (wp_ret ?_))
  have hj4 := Option.some.inj h
  obtain ⟨rfl, hj5⟩ := Prod.mk.inj hj4
  obtain ⟨rfl, hj6⟩ := Prod.mk.inj hj5
  subst hj6
  refine then_r (?_)
  refine bp_ret HF (res_one rfl HF rfl) ?_
  exact ⟨rfl, HT⟩
  have h := ifn hb2 h
  refine wp_if (b' := false) HF rfl (decide_eq_false hb2) ?_
  refine wp_skip (then_n (wp_seq (wc_text (wm HF rfl rfl rfl fun a HF => ?_))))
  obtain ⟨y4, y5, y6, hx2, h⟩ := obs3 h
  obtain ⟨F2, hAF2, hFF2, hbackF2, hroF2, hownF2, hownAF2⟩ := St.handR2 (A := [Box p_0 [.slice a_x0_0 x0_0.length c_x0_0, .int .i64 x0_1, .int .i64 x0_2]]) HT
  refine wc_call HF cf116 rfl (w_spec_l1Byte fuel hx2 hAF2 (hroF2 hr_x0_0)) rfl rfl ?_
  rintro e w ⟨rfl, hE⟩
  have HT := hbackF2 _ _ hE
  have HT : St w0 F w [Box p_0 [.slice a_x0_0 x0_0.length c_x0_0, .int .i64 y5, .int .i64 y6]] := HT
  refine ⟨_, rfl, nS, fun a HF => ?_⟩
  refine wa HF rfl rfl rfl fun a HF => ?_
  refine wc_end (then_n (wp_seq (wc_text (wm HF rfl rfl rfl fun a HF => ?_))))
  obtain ⟨y7, y8, y9, hx3, h⟩ := obs3 h
  obtain ⟨F3, hAF3, hFF3, hbackF3, hroF3, hownF3, hownAF3⟩ := St.handR2 (A := [Box p_0 [.slice a_x0_0 x0_0.length c_x0_0, .int .i64 y5, .int .i64 y6]]) HT
  refine wc_call HF cf116 rfl (w_spec_l1Byte fuel hx3 hAF3 (hroF3 hr_x0_0)) rfl rfl ?_
  rintro e w ⟨rfl, hE⟩
  have HT := hbackF3 _ _ hE
  have HT : St w0 F w [Box p_0 [.slice a_x0_0 x0_0.length c_x0_0, .int .i64 y8, .int .i64 y9]] := HT
  refine ⟨_, rfl, nS, fun a HF => ?_⟩
  refine wa HF rfl rfl rfl fun a HF => ?_
  refine wc_end (then_n (wp_seq (wc_text (wm HF rfl rfl rfl fun a HF => ?_))))
  obtain ⟨y10, y11, y12, hx4, h⟩ := obs3 h
  obtain ⟨F4, hAF4, hFF4, hbackF4, hroF4, hownF4, hownAF4⟩ := St.handR2 (A := [Box p_0 [.slice a_x0_0 x0_0.length c_x0_0, .int .i64 y8, .int .i64 y9]]) HT
  refine wc_call HF cf116 rfl (w_spec_l1Byte fuel hx4 hAF4 (hroF4 hr_x0_0)) rfl rfl ?_
  rintro e w ⟨rfl, hE⟩
  have HT := hbackF4 _ _ hE
  have HT : St w0 F w [Box p_0 [.slice a_x0_0 x0_0.length c_x0_0, .int .i64 y11, .int .i64 y12]] := HT
  refine ⟨_, rfl, nS, fun a HF => ?_⟩
  refine wa HF rfl rfl rfl fun a HF => ?_
  refine wc_end (then_n (wp_seq (wc_text (wm HF rfl rfl rfl fun a HF => ?_))))
  obtain ⟨y13, y14, y15, hx5, h⟩ := obs3 h
  obtain ⟨F5, hAF5, hFF5, hbackF5, hroF5, hownF5, hownAF5⟩ := St.handR2 (A := [Box p_0 [.slice a_x0_0 x0_0.length c_x0_0, .int .i64 y11, .int .i64 y12]]) HT
  refine wc_call HF cf116 rfl (w_spec_l1Byte fuel hx5 hAF5 (hroF5 hr_x0_0)) rfl rfl ?_
  rintro e w ⟨rfl, hE⟩
  have HT := hbackF5 _ _ hE
  have HT : St w0 F w [Box p_0 [.slice a_x0_0 x0_0.length c_x0_0, .int .i64 y14, .int .i64 y15]] := HT
  refine ⟨_, rfl, nS, fun a HF => ?_⟩
  refine wa HF rfl rfl rfl fun a HF => ?_
  refine wc_end (then_n (wp_seq (wc_text (wm HF rfl rfl rfl fun a HF => ?_))))
  obtain ⟨hg2, h⟩ := grd h
  refine wc_bin HF nS rfl rfl (b_mul hg2) rfl rfl fun a HF => ?_
  refine wm HF rfl rfl rfl fun a HF => ?_
  obtain ⟨hg3, h⟩ := grd h
  refine wc_bin HF nS rfl rfl (b_mul hg3) rfl rfl fun a HF => ?_
  obtain ⟨hg4, h⟩ := grd h
  refine wc_bin HF nS rfl rfl (b_add hg4) rfl rfl fun a HF => ?_
  refine wm HF rfl rfl rfl fun a HF => ?_
  obtain ⟨hg5, h⟩ := grd h
  refine wc_bin HF nS rfl rfl (b_mul hg5) rfl rfl fun a HF => ?_
  obtain ⟨hg6, h⟩ := grd h
  refine wc_bin HF nS rfl rfl (b_add hg6) rfl rfl fun a HF => ?_
  refine wm HF rfl rfl rfl fun a HF => ?_
  obtain ⟨hg7, h⟩ := grd h
  refine wc_bin HF nS rfl rfl (b_add hg7) rfl rfl fun a HF => ?_
  refine wm HF rfl rfl rfl fun a HF => ?_
  obtain ⟨hg8, h⟩ := grd h
  refine wc_bin HF nS rfl rfl (b_rem hg8) rfl rfl fun a HF => ?_
  refine wa HF rfl rfl rfl fun a HF => ?_
  refine wc_end (then_n (wp_ret ?_))
  have hj7 := Option.some.inj h
  obtain ⟨rfl, hj8⟩ := Prod.mk.inj hj7
  obtain ⟨rfl, hj9⟩ := Prod.mk.inj hj8
  subst hj9
  refine bp_ret HF (res_one rfl HF rfl) ?_
  exact ⟨rfl, HT⟩

def m_spec_l1New_L0 (fuel : Nat) (x0 : List UInt8) : Nat → Int → Int → Option Int
  | 0, _, _ => none
  | k1 + 1, z2, z3 =>
    if z3 < (x0.length : Int) then
      if z3 < 4000 then
        if in64 (z2 * 131) then
          (at? x0 z3).bind fun e1 =>
          if in64 ((z2 * 131) + (e1.toNat : Int)) then
            if in64 (((z2 * 131) + (e1.toNat : Int)) + 7) then
              if in64 (z3 + 1) then
                m_spec_l1New_L0 fuel x0 k1 (bits .and .i64 (((z2 * 131) + (e1.toNat : Int)) + 7) 1073741823) (z3 + 1)
              else none
            else none
          else none
        else none
      else
      some z2
    else
    some z2

def m_spec_l1New (fuel : Nat) (x0 : List UInt8) : Option (Int × Int) :=
  if in64 (10101 + (x0.length : Int)) then
    (m_spec_l1New_L0 fuel x0 fuel (10101 + (x0.length : Int)) 0).bind fun z1 =>
    some (0, z1)
  else none

set_option maxRecDepth 100000 in
set_option maxHeartbeats 4000000 in
theorem w_spec_l1New (fuel : Nat) {x0 : List UInt8} {a_x0 : Option Addr} {n_x0 c_x0 : Nat} {r0_1 : Int} {r0_2 : Int} {w0 : World} (h : m_spec_l1New fuel x0 = some (r0_1, r0_2)) (hr_x0 : RdT (fun b => ¬ False) w0 (rowT x0) (.slice a_x0 n_x0 c_x0)) :
    Calls Try.prog 84 #[.slice a_x0 n_x0 c_x0] w0 fun e w => ∃ q_r0, e = .returned (.pointer (some ⟨q_r0, 0, none⟩)) ∧ St w0 (fun _ => False) w [Box q_r0 [.slice a_x0 n_x0 c_x0, .int .i64 r0_1, .int .i64 r0_2]] := by
  obtain rfl := hr_x0.neq
  have HT : St w0 (fun _ => False) w0 [] := St.init0
  rw [m_spec_l1New] at h
  refine calls_fr (n := 32) [.slice a_x0 x0.length c_x0] Try.func84 rfl rfl rfl fun a HF => ?_
  have HT : St w0 (fun _ => False) w0 [] := HT
  refine wp_seq (wc_text (wa HF rfl rfl rfl fun a HF => ?_))
  refine wc_end (then_n (wp_seq (wc_text (wm HF rfl rfl rfl fun a HF => ?_))))
  refine wc_lenR HF nS Try.underlying79 rfl rfl rfl fun a HF => ?_
  obtain ⟨hg1, h⟩ := grd h
  refine wc_bin HF nS rfl rfl (b_add hg1) rfl rfl fun a HF => ?_
  refine wa HF rfl rfl rfl fun a HF => ?_
  refine wc_end (then_n ?_)
  obtain ⟨z1, hx1, h⟩ := obs h
  refine wp_cut (fun a w => Fr a 32 [(0, .slice a_x0 x0.length c_x0), (3, .int .i64 z1)] ∧ St w0 (fun _ => False) w []) ?_ ?_
  have hk1 := h
  have h := hx1
  refine wp_seq (wc_text (wa HF rfl rfl rfl fun a HF => ?_))
  refine wc_end (then_n (wp_block (wp_loopN (fun k1 a w => ∃ z2 z3, m_spec_l1New_L0 fuel x0 k1 z2 z3 = some z1 ∧ Fr a 32 [(0, .slice a_x0 x0.length c_x0), (3, .int .i64 z2), (4, .int .i64 z3)] ∧ St w0 (fun _ => False) w []) fuel ⟨10101 + (x0.length : Int), 0, h, (HF.keep (HF.keep (HF.keep HF.nil rfl) rfl) rfl), HT⟩ ?_)))
  rintro k1 a w ⟨z2, z3, h, HF, HT⟩
  rcases k1 with _ | k1
  cases h
  rw [m_spec_l1New_L0] at h
  refine ?_
  refine wp_seq (wp_seq (wc_text (wm HF rfl rfl rfl fun a HF => ?_)))
  refine wm HF rfl rfl rfl fun a HF => ?_
  refine wc_lenR HF nS Try.underlying79 rfl rfl rfl fun a HF => ?_
  refine wc_bin HF nS rfl rfl b_lt rfl rfl fun a HF => ?_
  refine wm HF rfl rfl rfl fun a HF => ?_
  by_cases hb1 : z3 < (x0.length : Int)
  have h := ifp hb1 h
  refine wc_move HF nS rfl (HF.wy rfl rfl rfl rfl (decide_eq_true hb1)) rfl fun a HF => ?_
  refine wc_bin HF nS rfl rfl b_lt (HF.wy rfl rfl rfl rfl (decide_eq_true hb1)) rfl fun a HF => ?_
  refine wc_pick (b := true) HF nS rfl (decide_eq_true hb1) rfl rfl rfl fun a HF => ?_
  refine wc_end (then_n ?_)
  by_cases hb2 : z3 < 4000
  have h := ifp hb2 h
  refine wp_if (b' := true) HF rfl (decide_eq_true hb2) ?_
  refine wp_skip (then_n (wp_seq (wp_block (wc_text (wm HF rfl rfl rfl fun a HF => ?_)))))
  obtain ⟨hg2, h⟩ := grd h
  refine wc_bin HF nS rfl rfl (b_mul hg2) rfl rfl fun a HF => ?_
  refine wm HF rfl rfl rfl fun a HF => ?_
  refine wm HF rfl rfl rfl fun a HF => ?_
  obtain ⟨e1, hx2, h⟩ := obs h
  obtain ⟨b1, o1, ha1⟩ := (HT.ro hr_x0).any.addr hx2
  refine wc_ixaddr HF nS el79 rfl ha1 ((HT.ro hr_x0).any).neq rfl hx2 rfl rfl fun a HF => ?_
  have hc1 := (HT.ro hr_x0).any.flatAt ha1 hx2
  refine wc_load HF rfl sc5 (hc1.get 0 rfl) rfl rfl fun a HF => ?_
  refine wc_cvu HF nS Try.underlying3 Try.underlying5 rfl rfl rfl fun a HF => ?_
  obtain ⟨hg3, h⟩ := grd h
  refine wc_bin HF nS rfl rfl (b_add hg3) rfl rfl fun a HF => ?_
  obtain ⟨hg4, h⟩ := grd h
  refine wc_bin HF nS rfl rfl (b_add hg4) rfl rfl fun a HF => ?_
  refine wc_bin HF nS rfl rfl b_and rfl rfl fun a HF => ?_
  refine wa HF rfl rfl rfl fun a HF => ?_
  refine wc_end (blk_n (then_n (wc_text (wm HF rfl rfl rfl fun a HF => ?_))))
  obtain ⟨hg5, h⟩ := grd h
  refine wc_bin HF nS rfl rfl (b_add hg5) rfl rfl fun a HF => ?_
  refine wa HF rfl rfl rfl fun a HF => ?_
  exact wc_end (then_n ⟨k1, Nat.lt_succ_self k1, bits .and .i64 (((z2 * 131) + (e1.toNat : Int)) + 7) 1073741823, z3 + 1, h, (HF.keep (HF.keep (HF.keep HF.nil rfl) rfl) rfl), HT⟩)
  have h := ifn hb2 h
  refine wp_if (b' := false) HF rfl (decide_eq_false hb2) ?_
  refine wp_exit ?_
  refine then_x (then_x (?_))
  refine blk_x ?_
  obtain rfl := Option.some.inj h
  exact then_n ⟨(HF.keep (HF.keep HF.nil rfl) rfl), HT⟩
  have h := ifn hb1 h
  refine wc_skip HF nS (HF.wn rfl rfl rfl rfl (decide_eq_false hb1)) rfl fun a HF => ?_
  refine wc_skip HF nS (HF.wn rfl rfl rfl rfl (decide_eq_false hb1)) rfl fun a HF => ?_
  refine wc_pick (b := false) HF nS rfl (decide_eq_false hb1) rfl rfl rfl fun a HF => ?_
  refine wc_end (then_n (wp_if (b' := false) HF rfl rfl ?_))
  refine wp_exit ?_
  refine then_x (then_x (?_))
  refine blk_x ?_
  obtain rfl := Option.some.inj h
  exact then_n ⟨(HF.keep (HF.keep HF.nil rfl) rfl), HT⟩
  rintro a w ⟨HF, HT⟩
  refine ?_
  refine wp_seq (wc_text (wm HF rfl rfl rfl fun a HF => ?_))
  refine wm HF rfl rfl rfl fun a HF => ?_
  refine wc_build (cs := #[.slice a_x0 x0.length c_x0, .int .i64 0, .int .i64 z1]) HF nS bd142 rfl rfl rfl rfl fun a HF => ?_
  refine wc_box (cs := [.slice a_x0 x0.length c_x0, .int .i64 0, .int .i64 z1]) HF HT rfl rfl rfl rfl (fun p1 w HT hb => ⟨nS, fun a HF => ?_⟩)
  refine wa HF rfl rfl rfl fun a HF => ?_
  refine wc_end (then_n (wp_ret ?_))
  have hj1 := Option.some.inj h
  obtain ⟨rfl, hj2⟩ := Prod.mk.inj hj1
  subst hj2
  refine bp_ret HF (res_one rfl HF rfl) ?_
  exact ⟨p1, rfl, HT⟩

def m_spec_l1Once (fuel : Nat) (x0_0 : List UInt8) (x0_1 : Int) (x0_2 : Int) (x1 : Int) : Option (Bool × Int × Int) :=
  bind3 (m_spec_l1Below fuel x0_0 x0_1 x0_2 x1) fun y1 y2 y3 =>
  some (decide (y1 = 0), y2, y3)

set_option maxRecDepth 100000 in
set_option maxHeartbeats 4000000 in
theorem w_spec_l1Once (fuel : Nat) {x0_0 : List UInt8} {x0_1 : Int} {x0_2 : Int} {x1 : Int} {a_x0_0 : Option Addr} {n_x0_0 c_x0_0 : Nat} {p_0 : Nat} {r0 : Bool} {x0_1' : Int} {x0_2' : Int} {F : Foot} {w0 : World} (h : m_spec_l1Once fuel x0_0 x0_1 x0_2 x1 = some (r0, x0_1', x0_2')) (hA : StF w0 F [Box p_0 [.slice a_x0_0 n_x0_0 c_x0_0, .int .i64 x0_1, .int .i64 x0_2]]) (hr_x0_0 : RdT (fun b => ¬ F b) w0 (rowT x0_0) (.slice a_x0_0 n_x0_0 c_x0_0)) :
    Calls Try.prog 86 #[.pointer (some ⟨p_0, 0, none⟩), .int .i64 x1] w0 fun e w => e = .returned (.bool r0) ∧ St w0 F w [Box p_0 [.slice a_x0_0 n_x0_0 c_x0_0, .int .i64 x0_1', .int .i64 x0_2']] := by
  have HT0 := St.init hA
  obtain rfl := hr_x0_0.neq
  have HT : St w0 F w0 [Box p_0 [.slice a_x0_0 x0_0.length c_x0_0, .int .i64 x0_1, .int .i64 x0_2]] := St.init hA
  rw [m_spec_l1Once] at h
  refine calls_fr (n := 9) [.pointer (some ⟨p_0, 0, none⟩), .int .i64 x1] Try.func86 rfl rfl rfl fun a HF => ?_
  have HT : St w0 F w0 [Box p_0 [.slice a_x0_0 x0_0.length c_x0_0, .int .i64 x0_1, .int .i64 x0_2]] := HT
  refine wp_seq (wc_text (wa HF rfl rfl rfl fun a HF => ?_))
  refine wc_end (then_n (wp_seq (wc_text (wm HF rfl rfl rfl fun a HF => ?_))))
  refine wm HF rfl rfl rfl fun a HF => ?_
  obtain ⟨y1, y2, y3, hx1, h⟩ := obs3 h
  obtain ⟨F1, hAF1, hFF1, hbackF1, hroF1, hownF1, hownAF1⟩ := St.handR2 (A := [Box p_0 [.slice a_x0_0 x0_0.length c_x0_0, .int .i64 x0_1, .int .i64 x0_2]]) HT
  refine wc_call HF cf90 rfl (w_spec_l1Below fuel hx1 hAF1 (hroF1 hr_x0_0)) rfl rfl ?_
  rintro e w ⟨rfl, hE⟩
  have HT := hbackF1 _ _ hE
  have HT : St w0 F w [Box p_0 [.slice a_x0_0 x0_0.length c_x0_0, .int .i64 y2, .int .i64 y3]] := HT
  refine ⟨_, rfl, nS, fun a HF => ?_⟩
  refine wc_bin HF nS rfl rfl b_eq rfl rfl fun a HF => ?_
  refine wa HF rfl rfl rfl fun a HF => ?_
  refine wc_end (then_n (wp_ret ?_))
  have hj1 := Option.some.inj h
  obtain ⟨rfl, hj2⟩ := Prod.mk.inj hj1
  obtain ⟨rfl, hj3⟩ := Prod.mk.inj hj2
  subst hj3
  refine bp_ret HF (res_one rfl HF rfl) ?_
  exact ⟨rfl, HT⟩

def m_spec_l1PickInt (fuel : Nat) (x0_0 : List UInt8) (x0_1 : Int) (x0_2 : Int) (x1 : List Int) : Option (Int × Int × Int) :=
  bind3 (m_spec_l1Below fuel x0_0 x0_1 x0_2 (x1.length : Int)) fun y1 y2 y3 =>
  (at? x1 y1).bind fun e1 =>
  some (e1, y2, y3)

set_option maxRecDepth 100000 in
set_option maxHeartbeats 4000000 in
theorem w_spec_l1PickInt (fuel : Nat) {x0_0 : List UInt8} {x0_1 : Int} {x0_2 : Int} {x1 : List Int} {a_x0_0 : Option Addr} {n_x0_0 c_x0_0 : Nat} {a_x1 : Option Addr} {n_x1 c_x1 : Nat} {p_0 : Nat} {r0 : Int} {x0_1' : Int} {x0_2' : Int} {F : Foot} {w0 : World} (h : m_spec_l1PickInt fuel x0_0 x0_1 x0_2 x1 = some (r0, x0_1', x0_2')) (hA : StF w0 F [Box p_0 [.slice a_x0_0 n_x0_0 c_x0_0, .int .i64 x0_1, .int .i64 x0_2]]) (hr_x0_0 : RdT (fun b => ¬ F b) w0 (rowT x0_0) (.slice a_x0_0 n_x0_0 c_x0_0)) (hr_x1 : RdT (fun b => ¬ F b) w0 (rowT x1) (.slice a_x1 n_x1 c_x1)) :
    Calls Try.prog 115 #[.pointer (some ⟨p_0, 0, none⟩), .slice a_x1 n_x1 c_x1] w0 fun e w => e = .returned (.int .i64 r0) ∧ St w0 F w [Box p_0 [.slice a_x0_0 n_x0_0 c_x0_0, .int .i64 x0_1', .int .i64 x0_2']] := by
  have HT0 := St.init hA
  obtain rfl := hr_x0_0.neq
  obtain rfl := hr_x1.neq
  have HT : St w0 F w0 [Box p_0 [.slice a_x0_0 x0_0.length c_x0_0, .int .i64 x0_1, .int .i64 x0_2]] := St.init hA
  rw [m_spec_l1PickInt] at h
  refine calls_fr (n := 12) [.pointer (some ⟨p_0, 0, none⟩), .slice a_x1 x1.length c_x1] Try.func115 rfl rfl rfl fun a HF => ?_
  have HT : St w0 F w0 [Box p_0 [.slice a_x0_0 x0_0.length c_x0_0, .int .i64 x0_1, .int .i64 x0_2]] := HT
  refine wp_seq (wc_text (wa HF rfl rfl rfl fun a HF => ?_))
  refine wc_end (then_n (wp_seq (wc_text (wm HF rfl rfl rfl fun a HF => ?_))))
  refine wm HF rfl rfl rfl fun a HF => ?_
  refine wm HF rfl rfl rfl fun a HF => ?_
  refine wc_lenR HF nS Try.underlying22 rfl rfl rfl fun a HF => ?_
  obtain ⟨y1, y2, y3, hx1, h⟩ := obs3 h
  obtain ⟨F1, hAF1, hFF1, hbackF1, hroF1, hownF1, hownAF1⟩ := St.handR2 (A := [Box p_0 [.slice a_x0_0 x0_0.length c_x0_0, .int .i64 x0_1, .int .i64 x0_2]]) HT
  refine wc_call HF cf90 rfl (w_spec_l1Below fuel hx1 hAF1 (hroF1 hr_x0_0)) rfl rfl ?_
  rintro e w ⟨rfl, hE⟩
  have HT := hbackF1 _ _ hE
  have HT : St w0 F w [Box p_0 [.slice a_x0_0 x0_0.length c_x0_0, .int .i64 y2, .int .i64 y3]] := HT
  refine ⟨_, rfl, nS, fun a HF => ?_⟩
  obtain ⟨e1, hx2, h⟩ := obs h
  obtain ⟨b1, o1, ha1⟩ := (HT.ro hr_x1).any.addr hx2
  refine wc_ixaddr HF nS el22 rfl ha1 ((HT.ro hr_x1).any).neq rfl hx2 rfl rfl fun a HF => ?_
  have hc1 := (HT.ro hr_x1).any.flatAt ha1 hx2
  refine wc_load HF rfl sc3 (hc1.get 0 rfl) rfl rfl fun a HF => ?_
  refine wa HF rfl rfl rfl fun a HF => ?_
  refine wc_end (then_n (wp_ret ?_))
  have hj1 := Option.some.inj h
  obtain ⟨rfl, hj2⟩ := Prod.mk.inj hj1
  obtain ⟨rfl, hj3⟩ := Prod.mk.inj hj2
  subst hj3
  refine bp_ret HF (res_one rfl HF rfl) ?_
  exact ⟨rfl, HT⟩
end Go.Proofs.Ytknghnmcckjjbaa
