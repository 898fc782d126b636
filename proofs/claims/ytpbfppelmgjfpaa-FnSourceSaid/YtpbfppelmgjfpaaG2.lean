/- Walks of functions, by program: spec.ShowOp, spec.l6Split, spec.ReadOp, laws.FnExactReadOp, impl.opens, impl.DepthAt, impl.isBalanced, impl.CodeOk, impl.lines, impl.ReadCode, laws.eqOpS, laws.heldOpS, laws.markOpS, spec.l5Skip, spec.CodeOk, spec.l6Lines, spec.ReadCode, laws.FnExactReadCode, impl.HasFork$1, slices.IndexFunc[[]impl.Op,impl.Op]@102, slices.ContainsFunc[[]impl.Op,impl.Op]@102, impl.HasFork, impl.Touches, impl.KidOk, impl.ProgOk. -/
import Derived.Test.YtpbfppelmgjfpaaTy
import Derived.Test.YtpbfppelmgjfpaaG1
namespace Go.Proofs.Ytpbfppelmgjfpaa
open Go Go.RowKit
set_option linter.unusedVariables false
set_option linter.unusedSimpArgs false
def m_spec_ShowOp (fuel : Nat) (x0_0 : Int) (x0_1 : Int) (x0_2 : Int) (x0_3 : Int) : Option Str :=
  (m_spec_OpOk fuel x0_0 x0_1 x0_2 x0_3).bind fun y1 =>
  if y1 = true then
    (m_spec_l6Words fuel ).bind fun y2 =>
    (at? y2 x0_0).bind fun e1 =>
    (m_spec_l6Args fuel x0_0).bind fun y3 =>
    (
      if 0 < y3 then
        if ((e1.s.length + [32].length : Nat) : Int) ≤ 9223372036854775807 then
          (m_spec_Dec fuel x0_1).bind fun y4 =>
          if (((e1.s ++ [32]).length + y4.length : Nat) : Int) ≤ 9223372036854775807 then
            some ((e1.s ++ [32]) ++ y4)
          else none
        else none
      else
      some e1.s).bind fun z1 =>
    (
      if 1 < y3 then
        if ((z1.length + [32].length : Nat) : Int) ≤ 9223372036854775807 then
          (m_spec_Dec fuel x0_2).bind fun y5 =>
          if (((z1 ++ [32]).length + y5.length : Nat) : Int) ≤ 9223372036854775807 then
            some ((z1 ++ [32]) ++ y5)
          else none
        else none
      else
      some z1).bind fun z2 =>
    (
      if 2 < y3 then
        if ((z2.length + [32].length : Nat) : Int) ≤ 9223372036854775807 then
          (m_spec_Dec fuel x0_3).bind fun y6 =>
          if (((z2 ++ [32]).length + y6.length : Nat) : Int) ≤ 9223372036854775807 then
            some ((z2 ++ [32]) ++ y6)
          else none
        else none
      else
      some z2).bind fun z3 =>
    some z3
  else
  some []

set_option maxRecDepth 100000 in
set_option maxHeartbeats 4000000 in
theorem w_spec_ShowOp (fuel : Nat) {x0_0 : Int} {x0_1 : Int} {x0_2 : Int} {x0_3 : Int} {r0 : Str} {w0 : World} (h : m_spec_ShowOp fuel x0_0 x0_1 x0_2 x0_3 = some r0) :
    Calls Try.prog 10 #[.agg #[.int .i64 x0_0, .int .i64 x0_1, .int .i64 x0_2, .int .i64 x0_3]] w0 fun e w => e = .returned (sv r0) ∧ St w0 (fun _ => False) w [] := by
  have HT : St w0 (fun _ => False) w0 [] := St.init0
  rw [m_spec_ShowOp] at h
  refine calls_fr (n := 41) [.agg #[.int .i64 x0_0, .int .i64 x0_1, .int .i64 x0_2, .int .i64 x0_3]] Try.func10 rfl rfl rfl (fun a HF => ?_)
  have HT : St w0 (fun _ => False) w0 [] := HT
  refine wp_seq ?_
  refine wc_text ?_
  refine wc_box (cs := [.int .i64 x0_0, .int .i64 x0_1, .int .i64 x0_2, .int .i64 x0_3]) HF HT rfl rfl rfl rfl (fun p1 w HT hb => ⟨nS, fun a HF => ?_⟩)
  refine wc_assign HF nS rfl rfl rfl (fun a HF => ?_)
  refine wc_end ?_
  refine then_n ?_
  refine wp_seq ?_
  refine wp_seq ?_
  refine wc_text ?_
  refine wc_loadA (vs := [.int .i64 x0_0, .int .i64 x0_1, .int .i64 x0_2, .int .i64 x0_3]) HF rfl ag25 rfl ((HT.boxAt 0 rfl).part 0 4) rfl rfl (fun a HF => ?_)
  obtain ⟨y1, hx1, h⟩ := obs h
  refine wc_call HF cf40 rfl (w_spec_OpOk fuel hx1) rfl rfl ?_
  rintro e w ⟨rfl, hE⟩
  have hb := hE.below
  have HT := HT.pure hE
  have HT : St w0 (fun _ => False) w [Box p1 [.int .i64 x0_0, .int .i64 x0_1, .int .i64 x0_2, .int .i64 x0_3]] := HT
  refine ⟨_, rfl, nS, fun a HF => ?_⟩
  refine wc_not HF nS rfl rfl rfl (fun a HF => ?_)
  refine wc_end ?_
  refine then_n ?_
  by_cases hb1 : y1 = true
  have h := (if_pos hb1).symm.trans h
  refine wp_if (b' := false) HF rfl (notT hb1) ?_
  refine wp_skip ?_
  refine then_n ?_
  refine wp_seq ?_
  refine wp_region_can [(1, false), (2, false), (0, false), (3, true), (4, true), (5, true)] (fun w' => w'.cell? ⟨p1, 0, none⟩ = some (.int .i64 x0_0) ∧ True) (by kernel_rfl) (by kernel_rfl) ?_
  have HT := HT.drew
  refine wc_faddr HF (fun _ => ⟨(HT.boxAt 0 rfl).get 0 rfl, trivial⟩) rfl fl25_0 rfl rfl (fun a HF => ?_)
  refine wc_loadS HF ⟨(HT.boxAt 0 rfl).get 0 rfl, trivial⟩ rfl sc3 (fun w hS => hS.1) rfl rfl (fun a HF => ?_)
  obtain ⟨y2, hx2, h⟩ := obs h
  refine wc_call HF cf41 rfl (w_spec_l6Words fuel hx2) rfl rfl ?_
  rintro e w ⟨a1, n1, c1, rfl, hE⟩
  have hb := hE.below
  have HT := HT.pure hE
  obtain rfl := (HT.rdAt 0 rfl).neq
  have HT : St w0 (fun _ => False) w [Own 9 (rowT y2) (.slice a1 y2.length c1), Box p1 [.int .i64 x0_0, .int .i64 x0_1, .int .i64 x0_2, .int .i64 x0_3]] := HT
  refine ⟨_, rfl, (fun _ => ⟨(HT.boxAt 1 rfl).get 0 rfl, trivial⟩), fun a HF => ?_⟩
  obtain ⟨e1, hx3, h⟩ := obs h
  obtain ⟨b1, o1, ha1⟩ := (HT.rdAt 0 rfl).addr hx3
  refine wc_ixaddr HF nS el62 rfl ha1 ((HT.rdAt 0 rfl)).neq rfl hx3 rfl rfl (fun a HF => ?_)
  have hc1 := (HT.rdAt 0 rfl).flatAt ha1 hx3
  refine wc_load HF rfl sc9 (hc1.get 0 rfl) rfl rfl (fun a HF => ?_)
  refine wc_assign HF nS rfl rfl rfl (fun a HF => ?_)
  refine wc_endN ?_
  refine then_n ?_
  refine wp_seq ?_
  refine wc_text ?_
  refine wc_faddr HF nS rfl fl25_0 rfl rfl (fun a HF => ?_)
  refine wc_load HF rfl sc3 ((HT.boxAt 1 rfl).get 0 rfl) rfl rfl (fun a HF => ?_)
  obtain ⟨y3, hx4, h⟩ := obs h
  refine wc_call HF cf42 rfl (w_spec_l6Args fuel hx4) rfl rfl ?_
  rintro e w ⟨rfl, hE⟩
  have hb := hE.below
  have HT := HT.pure hE
  have HT : St w0 (fun _ => False) w [Own 9 (rowT y2) (.slice a1 y2.length c1), Box p1 [.int .i64 x0_0, .int .i64 x0_1, .int .i64 x0_2, .int .i64 x0_3]] := HT
  refine ⟨_, rfl, nS, fun a HF => ?_⟩
  refine wc_assign HF nS rfl rfl rfl (fun a HF => ?_)
  refine wc_end ?_
  refine then_n ?_
  obtain ⟨z1, hx5, h⟩ := obs h
  refine wp_cut (fun a w => Fr a 41 [(1, .pointer (some ⟨p1, 0, none⟩)), (3, sv z1), (4, .int .i64 y3)] ∧ St w0 (fun _ => False) w [Box p1 [.int .i64 x0_0, .int .i64 x0_1, .int .i64 x0_2, .int .i64 x0_3]]) ?_ ?_
  have hk1 := h
  have h := hx5
  refine wp_seq ?_
  refine wc_text ?_
  refine wc_move HF nS rfl rfl rfl (fun a HF => ?_)
  refine wc_bin HF nS rfl rfl b_gt rfl rfl (fun a HF => ?_)
  refine wc_end ?_
  refine then_n ?_
  by_cases hb2 : 0 < y3
  have h := (if_pos hb2).symm.trans h
  refine wp_if (b' := true) HF rfl (decide_eq_true hb2) ?_
  refine wc_text ?_
  refine wc_move HF nS rfl rfl rfl (fun a HF => ?_)
  obtain ⟨hg1, h⟩ := grd h
  refine wc_bin HF nS rfl rfl (b_cat hg1) rfl rfl (fun a HF => ?_)
  refine wc_faddr HF nS rfl fl25_1 rfl rfl (fun a HF => ?_)
  refine wc_load HF rfl sc3 ((HT.boxAt 1 rfl).get 1 rfl) rfl rfl (fun a HF => ?_)
  obtain ⟨y4, hx6, h⟩ := obs h
  refine wc_call HF cf43 rfl (w_spec_Dec fuel hx6) rfl rfl ?_
  rintro e w ⟨rfl, hE⟩
  have hb := hE.below
  have HT := HT.pure hE
  have HT : St w0 (fun _ => False) w [Own 9 (rowT y2) (.slice a1 y2.length c1), Box p1 [.int .i64 x0_0, .int .i64 x0_1, .int .i64 x0_2, .int .i64 x0_3]] := HT
  refine ⟨_, rfl, nS, fun a HF => ?_⟩
  obtain ⟨hg2, h⟩ := grd h
  refine wc_bin HF nS rfl rfl (b_cat hg2) rfl rfl (fun a HF => ?_)
  refine wc_assign HF nS rfl rfl rfl (fun a HF => ?_)
  refine wc_end ?_
  have HT := HT.p1.t1
  obtain rfl := Option.some.inj h
  exact then_n ⟨(HF.keep (HF.keep (HF.keep HF.nil rfl) rfl) rfl), HT⟩
  have h := (if_neg hb2).symm.trans h
  refine wp_if (b' := false) HF rfl (decide_eq_false hb2) ?_
  refine wp_skip ?_
  have HT := HT.p1.t1
  obtain rfl := Option.some.inj h
  exact then_n ⟨(HF.keep (HF.keep (HF.keep HF.nil rfl) rfl) rfl), HT⟩
  rintro a w ⟨HF, HT⟩
  refine ?_
  obtain ⟨z2, hx7, h⟩ := obs h
  refine wp_cut (fun a w => Fr a 41 [(1, .pointer (some ⟨p1, 0, none⟩)), (3, sv z2), (4, .int .i64 y3)] ∧ St w0 (fun _ => False) w [Box p1 [.int .i64 x0_0, .int .i64 x0_1, .int .i64 x0_2, .int .i64 x0_3]]) ?_ ?_
  have hk1 := h
  have h := hx7
  refine wp_seq ?_
  refine wc_text ?_
  refine wc_move HF nS rfl rfl rfl (fun a HF => ?_)
  refine wc_bin HF nS rfl rfl b_gt rfl rfl (fun a HF => ?_)
  refine wc_end ?_
  refine then_n ?_
  by_cases hb3 : 1 < y3
  have h := (if_pos hb3).symm.trans h
  refine wp_if (b' := true) HF rfl (decide_eq_true hb3) ?_
  refine wc_text ?_
  refine wc_move HF nS rfl rfl rfl (fun a HF => ?_)
  obtain ⟨hg3, h⟩ := grd h
  refine wc_bin HF nS rfl rfl (b_cat hg3) rfl rfl (fun a HF => ?_)
  refine wc_faddr HF nS rfl fl25_2 rfl rfl (fun a HF => ?_)
  refine wc_load HF rfl sc3 ((HT.boxAt 0 rfl).get 2 rfl) rfl rfl (fun a HF => ?_)
  obtain ⟨y5, hx8, h⟩ := obs h
  refine wc_call HF cf43 rfl (w_spec_Dec fuel hx8) rfl rfl ?_
  rintro e w ⟨rfl, hE⟩
  have hb := hE.below
  have HT := HT.pure hE
  have HT : St w0 (fun _ => False) w [Box p1 [.int .i64 x0_0, .int .i64 x0_1, .int .i64 x0_2, .int .i64 x0_3]] := HT
  refine ⟨_, rfl, nS, fun a HF => ?_⟩
  obtain ⟨hg4, h⟩ := grd h
  refine wc_bin HF nS rfl rfl (b_cat hg4) rfl rfl (fun a HF => ?_)
  refine wc_assign HF nS rfl rfl rfl (fun a HF => ?_)
  refine wc_end ?_
  obtain rfl := Option.some.inj h
  exact then_n ⟨(HF.keep (HF.keep (HF.keep HF.nil rfl) rfl) rfl), HT⟩
  have h := (if_neg hb3).symm.trans h
  refine wp_if (b' := false) HF rfl (decide_eq_false hb3) ?_
  refine wp_skip ?_
  obtain rfl := Option.some.inj h
  exact then_n ⟨(HF.keep (HF.keep (HF.keep HF.nil rfl) rfl) rfl), HT⟩
  rintro a w ⟨HF, HT⟩
  refine ?_
  obtain ⟨z3, hx9, h⟩ := obs h
  refine wp_cut (fun a w => Fr a 41 [(3, sv z3)] ∧ St w0 (fun _ => False) w []) ?_ ?_
  have hk1 := h
  have h := hx9
  refine wp_seq ?_
  refine wc_text ?_
  refine wc_move HF nS rfl rfl rfl (fun a HF => ?_)
  refine wc_bin HF nS rfl rfl b_gt rfl rfl (fun a HF => ?_)
  refine wc_end ?_
  refine then_n ?_
  by_cases hb4 : 2 < y3
  have h := (if_pos hb4).symm.trans h
  refine wp_if (b' := true) HF rfl (decide_eq_true hb4) ?_
  refine wc_text ?_
  refine wc_move HF nS rfl rfl rfl (fun a HF => ?_)
  obtain ⟨hg5, h⟩ := grd h
  refine wc_bin HF nS rfl rfl (b_cat hg5) rfl rfl (fun a HF => ?_)
  refine wc_faddr HF nS rfl fl25_3 rfl rfl (fun a HF => ?_)
  refine wc_load HF rfl sc3 ((HT.boxAt 0 rfl).get 3 rfl) rfl rfl (fun a HF => ?_)
  obtain ⟨y6, hx10, h⟩ := obs h
  refine wc_call HF cf43 rfl (w_spec_Dec fuel hx10) rfl rfl ?_
  rintro e w ⟨rfl, hE⟩
  have hb := hE.below
  have HT := HT.pure hE
  have HT : St w0 (fun _ => False) w [Box p1 [.int .i64 x0_0, .int .i64 x0_1, .int .i64 x0_2, .int .i64 x0_3]] := HT
  refine ⟨_, rfl, nS, fun a HF => ?_⟩
  obtain ⟨hg6, h⟩ := grd h
  refine wc_bin HF nS rfl rfl (b_cat hg6) rfl rfl (fun a HF => ?_)
  refine wc_assign HF nS rfl rfl rfl (fun a HF => ?_)
  refine wc_end ?_
  have HT := HT.t0
  obtain rfl := Option.some.inj h
  exact then_n ⟨(HF.keep HF.nil rfl), HT⟩
  have h := (if_neg hb4).symm.trans h
  refine wp_if (b' := false) HF rfl (decide_eq_false hb4) ?_
  refine wp_skip ?_
  have HT := HT.t0
  obtain rfl := Option.some.inj h
  exact then_n ⟨(HF.keep HF.nil rfl), HT⟩
  rintro a w ⟨HF, HT⟩
  refine ?_
  refine wp_seq ?_
  refine wc_text ?_
  refine wc_move HF nS rfl rfl rfl (fun a HF => ?_)
  refine wc_assign HF nS rfl rfl rfl (fun a HF => ?_)
  refine wc_end ?_
  refine then_n ?_
  refine wp_ret ?_
  obtain rfl := Option.some.inj h
  refine bp_ret HF (res_one rfl HF rfl) ?_
  exact ⟨rfl, HT⟩
  have h := (if_neg hb1).symm.trans h
  refine wp_if (b' := true) HF rfl (notF (Bool.eq_false_iff.2 hb1)) ?_
  refine wp_seq ?_
  refine wc_text ?_
  refine wc_assign HF nS rfl rfl rfl (fun a HF => ?_)
  refine wc_end ?_
  refine then_n ?_
  refine wp_ret ?_
  obtain rfl := Option.some.inj h
  refine then_r (?_)
  refine bp_ret HF (res_one rfl HF rfl) ?_
  have HT := HT.t0
  exact ⟨rfl, HT⟩

def m_spec_l6Split_L0 (fuel : Nat) (x0 : Str) : Nat → UInt8 → (List SE) → Int → Int → Option (List SE × Int)
  | 0, _, _, _, _ => none
  | k1 + 1, z3, z4, z5, z6 =>
    if z6 < (x0.length : Int) then
      bind3 (
        (at? x0 z6).bind fun c4 =>
        if (c4.toNat : Int) = (z3.toNat : Int) then
          if 0 ≤ (z5 : Int) ∧ (z5 : Int) ≤ z6 ∧ z6 ≤ (x0.length : Int) then
            if z4.length + 1 ≤ 17179869184 then
              if in64 (z6 + 1) then
                some (z3, z4 ++ ([(⟨sub x0 z5 z6⟩ : SE)] : List SE), z6 + 1)
              else none
            else none
          else none
        else
        some (z3, z4, z5)) fun z7 z8 z9 =>
      if in64 (z6 + 1) then
        m_spec_l6Split_L0 fuel x0 k1 z7 z8 z9 (z6 + 1)
      else none
    else
    some (z4, z5)

def m_spec_l6Split (fuel : Nat) (x0 : Str) (x1 : UInt8) : Option (List SE) :=
  bind2 (m_spec_l6Split_L0 fuel x0 fuel x1 ([] : List SE) 0 0) fun z1 z2 =>
  if 0 ≤ (z2 : Int) ∧ (z2 : Int) ≤ (x0.length : Int) ∧ (x0.length : Int) ≤ (x0.length : Int) then
    if z1.length + 1 ≤ 17179869184 then
      some (z1 ++ ([(⟨sub x0 z2 (x0.length : Int)⟩ : SE)] : List SE))
    else none
  else none

set_option maxRecDepth 100000 in
set_option maxHeartbeats 4000000 in
theorem w_spec_l6Split (fuel : Nat) {x0 : Str} {x1 : UInt8} {r0 : List SE} {w0 : World} (h : m_spec_l6Split fuel x0 x1 = some r0) :
    Calls Try.prog 48 #[sv x0, .int .u8 (x1.toNat : Int)] w0 fun e w => ∃ a_r0 n_r0 c_r0, e = .returned (.slice a_r0 n_r0 c_r0) ∧ St w0 (fun _ => False) w [Own 9 (rowT r0) (.slice a_r0 n_r0 c_r0)] := by
  have HT : St w0 (fun _ => False) w0 [] := St.init0
  rw [m_spec_l6Split] at h
  refine calls_fr (n := 35) [sv x0, .int .u8 (x1.toNat : Int)] Try.func48 rfl rfl rfl (fun a HF => ?_)
  have HT : St w0 (fun _ => False) w0 [] := HT
  refine wp_seq ?_
  refine wc_text ?_
  refine wc_assign HF nS rfl rfl rfl (fun a HF => ?_)
  refine wc_end ?_
  refine then_n ?_
  refine wp_seq ?_
  refine wc_text ?_
  refine wc_bslice (l := ([] : List SE)) (cs := []) (A := []) HF HT bs62_0 rfl rfl (gives_flat rfl) rfl (by decide) rfl rfl (fun p1 w HT hb  => ⟨nS, fun a HF => ?_⟩)
  refine wc_assign HF nS rfl rfl rfl (fun a HF => ?_)
  refine wc_end ?_
  refine then_n ?_
  refine wp_seq ?_
  refine wc_text ?_
  refine wc_assign HF nS rfl rfl rfl (fun a HF => ?_)
  refine wc_end ?_
  refine then_n ?_
  obtain ⟨z1, z2, hx1, h⟩ := obs2 h
  refine wp_cut (fun a w => ∃ a1 n1 c1, Fr a 35 [(0, sv x0), (5, .slice a1 n1 c1), (6, .int .i64 z2)] ∧ St w0 (fun _ => False) w [Own 9 (rowT z1) (.slice a1 n1 c1)]) ?_ ?_
  have hk1 := h
  have h := hx1
  refine wp_seq ?_
  refine wc_text ?_
  refine wc_assign HF nS rfl rfl rfl (fun a HF => ?_)
  refine wc_end ?_
  refine then_n ?_
  refine wp_block ?_
  refine wp_loopN (fun k1 a w => ∃ z3 z4 z5 z6 a2 n2 c2, m_spec_l6Split_L0 fuel x0 k1 z3 z4 z5 z6 = some (z1, z2) ∧ Fr a 35 [(0, sv x0), (1, .int .u8 (z3.toNat : Int)), (5, .slice a2 n2 c2), (6, .int .i64 z5), (7, .int .i64 z6)] ∧ St w0 (fun _ => False) w [Own 9 (rowT z4) (.slice a2 n2 c2)]) fuel ⟨x1, ([] : List SE), 0, 0, (some ⟨p1, 0, none⟩), 0, 0, h, (HF.keep (HF.keep (HF.keep (HF.keep (HF.keep HF.nil rfl) rfl) rfl) rfl) rfl), HT⟩ ?_
  rintro k1 a w ⟨z3, z4, z5, z6, a2, n2, c2, h, HF, HT⟩
  rcases k1 with _ | k1
  cases h
  rw [m_spec_l6Split_L0] at h
  obtain rfl := (HT.rdAt 0 rfl).neq
  refine ?_
  refine wp_seq ?_
  refine wp_seq ?_
  refine wc_text ?_
  refine wc_move HF nS rfl rfl rfl (fun a HF => ?_)
  refine wc_move HF nS rfl rfl rfl (fun a HF => ?_)
  refine wc_lenS (ats := #[]) HF nS Try.underlying9 rfl rfl rfl (fun a HF => ?_)
  refine wc_bin HF nS rfl rfl b_lt rfl rfl (fun a HF => ?_)
  refine wc_end ?_
  refine then_n ?_
  by_cases hb1 : z6 < (x0.length : Int)
  have h := (if_pos hb1).symm.trans h
  refine wp_if (b' := true) HF rfl (decide_eq_true hb1) ?_
  refine wp_skip ?_
  refine then_n ?_
  obtain ⟨z7, z8, z9, hx2, h⟩ := obs3 h
  refine wp_cut (fun a w => ∃ a3 n3 c3, Fr a 35 [(0, sv x0), (1, .int .u8 (z7.toNat : Int)), (5, .slice a3 n3 c3), (6, .int .i64 z9), (7, .int .i64 z6)] ∧ St w0 (fun _ => False) w [Own 9 (rowT z8) (.slice a3 n3 c3)]) ?_ ?_
  have hk2 := h
  have h := hx2
  refine wp_block ?_
  refine wp_seq ?_
  refine wc_text ?_
  refine wc_move HF nS rfl rfl rfl (fun a HF => ?_)
  refine wc_move HF nS rfl rfl rfl (fun a HF => ?_)
  obtain ⟨c4, hx3, h⟩ := obs h
  refine wc_index HF nS Try.underlying9 rfl rfl hx3 rfl rfl (fun a HF => ?_)
  refine wc_move HF nS rfl rfl rfl (fun a HF => ?_)
  refine wc_bin HF nS rfl rfl b_eq rfl rfl (fun a HF => ?_)
  refine wc_end ?_
  refine then_n ?_
  by_cases hb2 : (c4.toNat : Int) = (z3.toNat : Int)
  have h := (if_pos hb2).symm.trans h
  refine wp_if (b' := true) HF rfl (decide_eq_true hb2) ?_
  refine wp_seq ?_
  refine wc_text ?_
  refine wc_move HF nS rfl rfl rfl (fun a HF => ?_)
  refine wc_move HF nS rfl rfl rfl (fun a HF => ?_)
  refine wc_move HF nS rfl rfl rfl (fun a HF => ?_)
  refine wc_move HF nS rfl rfl rfl (fun a HF => ?_)
  obtain ⟨hg1, h⟩ := grd h
  refine wc_slsLH HF nS Try.underlying9 rfl rfl rfl hg1 rfl rfl (fun a HF => ?_)
  refine wc_bslice (l := ([(⟨sub x0 z5 z6⟩ : SE)] : List SE)) (cs := [sv (sub x0 z5 z6)]) (A := []) HF HT bs62_1 rfl rfl (gives_flat rfl) rfl (by decide) rfl rfl (fun p2 w HT hb  => ⟨nS, fun a HF => ?_⟩)
  obtain ⟨hg2, h⟩ := grd h
  have HT := HT.p1
  refine wc_append HF HT el62 rfl rfl (Nat.zero_lt_succ _) hg2 rfl rfl rfl (fun a4 c5 w HT => ⟨nS, fun a HF => ?_⟩)
  refine wc_assign HF nS rfl rfl rfl (fun a HF => ?_)
  refine wc_end ?_
  refine then_n ?_
  refine wc_text ?_
  refine wc_move HF nS rfl rfl rfl (fun a HF => ?_)
  obtain ⟨hg3, h⟩ := grd h
  refine wc_bin HF nS rfl rfl (b_add hg3) rfl rfl (fun a HF => ?_)
  refine wc_assign HF nS rfl rfl rfl (fun a HF => ?_)
  refine wc_end ?_
  refine blk_n ?_
  have hj1 := Option.some.inj h
  obtain ⟨hi1, hj2⟩ := Prod.mk.inj hj1
  subst hi1
  obtain ⟨hi2, hj3⟩ := Prod.mk.inj hj2
  subst hi2
  subst hj3
  exact then_n ⟨a4, (z4 ++ ([(⟨sub x0 z5 z6⟩ : SE)] : List SE)).length, c5, (HF.keep (HF.keep (HF.keep (HF.keep (HF.keep HF.nil rfl) rfl) rfl) rfl) rfl), HT⟩
  have h := (if_neg hb2).symm.trans h
  refine wp_if (b' := false) HF rfl (decide_eq_false hb2) ?_
  refine wp_skip ?_
  refine blk_n ?_
  have hj4 := Option.some.inj h
  obtain ⟨hi4, hj5⟩ := Prod.mk.inj hj4
  subst hi4
  obtain ⟨hi5, hj6⟩ := Prod.mk.inj hj5
  subst hi5
  subst hj6
  exact then_n ⟨a2, z4.length, c2, (HF.keep (HF.keep (HF.keep (HF.keep (HF.keep HF.nil rfl) rfl) rfl) rfl) rfl), HT⟩
  rintro a w ⟨a3, n3, c3, HF, HT⟩
  obtain rfl := (HT.rdAt 0 rfl).neq
  refine ?_
  refine wc_text ?_
  refine wc_move HF nS rfl rfl rfl (fun a HF => ?_)
  obtain ⟨hg4, h⟩ := grd h
  refine wc_bin HF nS rfl rfl (b_add hg4) rfl rfl (fun a HF => ?_)
  refine wc_assign HF nS rfl rfl rfl (fun a HF => ?_)
  refine wc_end ?_
  exact then_n ⟨k1, Nat.lt_succ_self k1, z7, z8, z9, z6 + 1, a3, z8.length, c3, h, (HF.keep (HF.keep (HF.keep (HF.keep (HF.keep HF.nil rfl) rfl) rfl) rfl) rfl), HT⟩
  have h := (if_neg hb1).symm.trans h
  refine wp_if (b' := false) HF rfl (decide_eq_false hb1) ?_
  refine wp_exit ?_
  refine then_x (then_x (?_))
  refine blk_x ?_
  have hj7 := Option.some.inj h
  obtain ⟨hi7, hj8⟩ := Prod.mk.inj hj7
  subst hi7
  subst hj8
  exact then_n ⟨a2, z4.length, c2, (HF.keep (HF.keep (HF.keep HF.nil rfl) rfl) rfl), HT⟩
  rintro a w ⟨a1, n1, c1, HF, HT⟩
  obtain rfl := (HT.rdAt 0 rfl).neq
  refine ?_
  refine wp_seq ?_
  refine wc_text ?_
  refine wc_move HF nS rfl rfl rfl (fun a HF => ?_)
  refine wc_move HF nS rfl rfl rfl (fun a HF => ?_)
  refine wc_move HF nS rfl rfl rfl (fun a HF => ?_)
  obtain ⟨hg5, h⟩ := grd h
  refine wc_slsL HF nS Try.underlying9 rfl rfl hg5 rfl rfl (fun a HF => ?_)
  refine wc_bslice (l := ([(⟨sub x0 z2 (x0.length : Int)⟩ : SE)] : List SE)) (cs := [sv (sub x0 z2 (x0.length : Int))]) (A := []) HF HT bs62_1 rfl rfl (gives_flat rfl) rfl (by decide) rfl rfl (fun p3 w HT hb  => ⟨nS, fun a HF => ?_⟩)
  obtain ⟨hg6, h⟩ := grd h
  have HT := HT.p1
  refine wc_append HF HT el62 rfl rfl (Nat.zero_lt_succ _) hg6 rfl rfl rfl (fun a5 c6 w HT => ⟨nS, fun a HF => ?_⟩)
  refine wc_assign HF nS rfl rfl rfl (fun a HF => ?_)
  refine wc_end ?_
  refine then_n ?_
  refine wp_ret ?_
  obtain rfl := Option.some.inj h
  refine bp_ret HF (res_one rfl HF rfl) ?_
  exact ⟨a5, (z1 ++ ([(⟨sub x0 z2 (x0.length : Int)⟩ : SE)] : List SE)).length, c6, rfl, HT⟩

def m_spec_ReadOp_L0 (fuel : Nat) (y1 : List SE) (y2 : List SE) : Nat → Int → Int → Option Int
  | 0, _, _ => none
  | k1 + 1, z2, z3 =>
    if z3 < (y2.length : Int) then
      (
        (at? y2 z3).bind fun e1 =>
        (at? y1 0).bind fun e2 =>
        if e1.s = e2.s then
          some z3
        else
        some z2).bind fun z4 =>
      if in64 (z3 + 1) then
        m_spec_ReadOp_L0 fuel y1 y2 k1 z4 (z3 + 1)
      else none
    else
    some z2

def m_spec_ReadOp_L1 (fuel : Nat) (y1 : List SE) : Nat → Int → Int → Int → Int → Option (Lp (Int × Int × Int) (Int × Int × Int × Int × Bool))
  | 0, _, _, _, _ => none
  | k2 + 1, z8, z9, z10, z11 =>
    if z11 < (y1.length : Int) then
      (
        (at? y1 z11).bind fun e3 =>
        bind2 (m_spec_ReadDec fuel e3.s) fun y4 y5 =>
        if y5 = true then
          if z11 = 1 then
            some (.brk (y4, z9, z10))
          else
          if z11 = 2 then
            some (.brk (z8, y4, z10))
          else
          some (.brk (z8, z9, y4))
        else
        some (.ret (0, 0, 0, 0, false))).bind <| contM <| un3 fun z12 z13 z14 =>
      if in64 (z11 + 1) then
        m_spec_ReadOp_L1 fuel y1 k2 z12 z13 z14 (z11 + 1)
      else none
    else
    some (.brk (z8, z9, z10))

def m_spec_ReadOp (fuel : Nat) (x0 : Str) : Option (Int × Int × Int × Int × Bool) :=
  (m_spec_l6Split fuel x0 (32 : UInt8)).bind fun y1 =>
  (m_spec_l6Words fuel ).bind fun y2 =>
  (m_spec_ReadOp_L0 fuel y1 y2 fuel 0 1).bind fun z1 =>
  if z1 = 0 then
    some (0, 0, 0, 0, false)
  else
  (m_spec_l6Args fuel z1).bind fun y3 =>
  if in64 (1 + y3) then
    if (y1.length : Int) = (1 + y3) then
      (m_spec_ReadOp_L1 fuel y1 fuel 0 0 0 1).bind <| contL <| un3 fun z5 z6 z7 =>
      (m_spec_ShowOp fuel z1 z5 z6 z7).bind fun y6 =>
      if y6 = x0 then
        some (z1, z5, z6, z7, true)
      else
      some (0, 0, 0, 0, false)
    else
    some (0, 0, 0, 0, false)
  else none

set_option maxRecDepth 100000 in
set_option maxHeartbeats 4000000 in
theorem w_spec_ReadOp (fuel : Nat) {x0 : Str} {r0_0 : Int} {r0_1 : Int} {r0_2 : Int} {r0_3 : Int} {r1 : Bool} {w0 : World} (h : m_spec_ReadOp fuel x0 = some (r0_0, r0_1, r0_2, r0_3, r1)) :
    Calls Try.prog 13 #[sv x0] w0 fun e w => e = .returned (.tuple #[.agg #[.int .i64 r0_0, .int .i64 r0_1, .int .i64 r0_2, .int .i64 r0_3], .bool r1]) ∧ St w0 (fun _ => False) w [] := by
  have HT : St w0 (fun _ => False) w0 [] := St.init0
  rw [m_spec_ReadOp] at h
  refine calls_fr (n := 78) [sv x0] Try.func13 rfl rfl rfl (fun a HF => ?_)
  have HT : St w0 (fun _ => False) w0 [] := HT
  refine wp_seq ?_
  refine wc_text ?_
  refine wc_alloc (cs := [.int .i64 0, .int .i64 0, .int .i64 0, .int .i64 0]) HF HT zr25 rfl rfl rfl (fun p1 w HT hb => ⟨nS, fun a HF => ?_⟩)
  refine wc_assign HF nS rfl rfl rfl (fun a HF => ?_)
  refine wc_end ?_
  refine then_n ?_
  refine wp_seq ?_
  refine wc_text ?_
  refine wc_move HF nS rfl rfl rfl (fun a HF => ?_)
  obtain ⟨y1, hx1, h⟩ := obs h
  refine wc_call HF cf48 rfl (w_spec_l6Split (x1 := (32 : UInt8)) fuel hx1) rfl rfl ?_
  rintro e w ⟨a1, n1, c1, rfl, hE⟩
  have hb := hE.below
  have HT := HT.pure hE
  obtain rfl := (HT.rdAt 0 rfl).neq
  have HT : St w0 (fun _ => False) w [Own 9 (rowT y1) (.slice a1 y1.length c1), Box p1 [.int .i64 0, .int .i64 0, .int .i64 0, .int .i64 0]] := HT
  refine ⟨_, rfl, nS, fun a HF => ?_⟩
  refine wc_assign HF nS rfl rfl rfl (fun a HF => ?_)
  refine wc_end ?_
  refine then_n ?_
  refine wp_seq ?_
  refine wc_text ?_
  refine wc_build (cs := #[.int .i64 0, .int .i64 0, .int .i64 0, .int .i64 0]) HF nS bd25 rfl rfl rfl rfl (fun a HF => ?_)
  refine wc_alloc (cs := [.int .i64 0, .int .i64 0, .int .i64 0, .int .i64 0]) HF HT zr25 rfl rfl rfl (fun p2 w HT hb => ⟨nS, fun a HF => ?_⟩)
  refine wc_storeB (cs' := [.int .i64 0, .int .i64 0, .int .i64 0, .int .i64 0]) HF HT rfl rfl (fun w => (ag25 w).2) rfl rfl rfl rfl rfl (fun w HT => ⟨nS, ?_⟩)
  refine wc_end ?_
  refine then_n ?_
  refine wp_seq ?_
  refine wc_text ?_
  obtain ⟨y2, hx2, h⟩ := obs h
  refine wc_call HF cf41 rfl (w_spec_l6Words fuel hx2) rfl rfl ?_
  rintro e w ⟨a2, n2, c2, rfl, hE⟩
  have hb := hE.below
  have HT := HT.pure hE
  obtain rfl := (HT.rdAt 0 rfl).neq
  have HT : St w0 (fun _ => False) w [Own 9 (rowT y2) (.slice a2 y2.length c2), Box p2 [.int .i64 0, .int .i64 0, .int .i64 0, .int .i64 0], Own 9 (rowT y1) (.slice a1 y1.length c1), Box p1 [.int .i64 0, .int .i64 0, .int .i64 0, .int .i64 0]] := HT
  refine ⟨_, rfl, nS, fun a HF => ?_⟩
  refine wc_assign HF nS rfl rfl rfl (fun a HF => ?_)
  refine wc_end ?_
  refine then_n ?_
  obtain ⟨z1, hx3, h⟩ := obs h
  refine wp_cut (fun a w => Fr a 78 [(0, sv x0), (2, .pointer (some ⟨p1, 0, none⟩)), (4, .slice a1 y1.length c1), (5, .pointer (some ⟨p2, 0, none⟩))] ∧ St w0 (fun _ => False) w [Box p1 [.int .i64 0, .int .i64 0, .int .i64 0, .int .i64 0], Own 9 (rowT y1) (.slice a1 y1.length c1), Box p2 [.int .i64 z1, .int .i64 0, .int .i64 0, .int .i64 0]]) ?_ ?_
  have hk1 := h
  have h := hx3
  refine wp_seq ?_
  refine wc_text ?_
  refine wc_assign HF nS rfl rfl rfl (fun a HF => ?_)
  refine wc_end ?_
  refine then_n ?_
  refine wp_block ?_
  have HT := HT.p1.p2.p3
  refine wp_loopN (fun k1 a w => ∃ z2 z3, m_spec_ReadOp_L0 fuel y1 y2 k1 z2 z3 = some z1 ∧ Fr a 78 [(0, sv x0), (2, .pointer (some ⟨p1, 0, none⟩)), (4, .slice a1 y1.length c1), (5, .pointer (some ⟨p2, 0, none⟩)), (6, .slice a2 y2.length c2), (7, .int .i64 z3)] ∧ St w0 (fun _ => False) w [Box p1 [.int .i64 0, .int .i64 0, .int .i64 0, .int .i64 0], Own 9 (rowT y1) (.slice a1 y1.length c1), Box p2 [.int .i64 z2, .int .i64 0, .int .i64 0, .int .i64 0], Own 9 (rowT y2) (.slice a2 y2.length c2)]) fuel ⟨0, 1, h, (HF.keep (HF.keep (HF.keep (HF.keep (HF.keep (HF.keep HF.nil rfl) rfl) rfl) rfl) rfl) rfl), HT⟩ ?_
  rintro k1 a w ⟨z2, z3, h, HF, HT⟩
  rcases k1 with _ | k1
  cases h
  rw [m_spec_ReadOp_L0] at h
  refine ?_
  refine wp_seq ?_
  refine wp_seq ?_
  refine wc_text ?_
  refine wc_move HF nS rfl rfl rfl (fun a HF => ?_)
  refine wc_move HF nS rfl rfl rfl (fun a HF => ?_)
  refine wc_lenR HF nS Try.underlying62 rfl rfl rfl (fun a HF => ?_)
  refine wc_bin HF nS rfl rfl b_lt rfl rfl (fun a HF => ?_)
  refine wc_end ?_
  refine then_n ?_
  by_cases hb1 : z3 < (y2.length : Int)
  have h := (if_pos hb1).symm.trans h
  refine wp_if (b' := true) HF rfl (decide_eq_true hb1) ?_
  refine wp_skip ?_
  refine then_n ?_
  obtain ⟨z4, hx4, h⟩ := obs h
  refine wp_cut (fun a w => Fr a 78 [(0, sv x0), (2, .pointer (some ⟨p1, 0, none⟩)), (4, .slice a1 y1.length c1), (5, .pointer (some ⟨p2, 0, none⟩)), (6, .slice a2 y2.length c2), (7, .int .i64 z3)] ∧ St w0 (fun _ => False) w [Box p1 [.int .i64 0, .int .i64 0, .int .i64 0, .int .i64 0], Own 9 (rowT y1) (.slice a1 y1.length c1), Box p2 [.int .i64 z4, .int .i64 0, .int .i64 0, .int .i64 0], Own 9 (rowT y2) (.slice a2 y2.length c2)]) ?_ ?_
  have hk2 := h
  have h := hx4
  refine wp_block ?_
  refine wp_seq ?_
  refine wp_region_can [(0, true), (1, true), (2, true), (3, true), (4, true), (5, true), (6, true), (7, true)] (fun w' => True) (by kernel_rfl) (by kernel_rfl) ?_
  have HT := HT.drew
  refine wc_move HF nS rfl rfl rfl (fun a HF => ?_)
  refine wc_move HF nS rfl rfl rfl (fun a HF => ?_)
  obtain ⟨e1, hx5, h⟩ := obs h
  obtain ⟨b1, o1, ha1⟩ := (HT.rdAt 3 rfl).addr hx5
  refine wc_ixaddr HF nS el62 rfl ha1 ((HT.rdAt 3 rfl)).neq rfl hx5 rfl rfl (fun a HF => ?_)
  have hc1 := (HT.rdAt 3 rfl).flatAt ha1 hx5
  refine wc_load HF rfl sc9 (hc1.get 0 rfl) rfl rfl (fun a HF => ?_)
  refine wc_move HF nS rfl rfl rfl (fun a HF => ?_)
  obtain ⟨e2, hx6, h⟩ := obs h
  obtain ⟨b2, o2, ha2⟩ := (HT.rdAt 1 rfl).addr hx6
  refine wc_ixaddr HF nS el62 rfl ha2 ((HT.rdAt 1 rfl)).neq rfl hx6 rfl rfl (fun a HF => ?_)
  have hc2 := (HT.rdAt 1 rfl).flatAt ha2 hx6
  refine wc_load HF rfl sc9 (hc2.get 0 rfl) rfl rfl (fun a HF => ?_)
  refine wc_bin HF nS rfl rfl b_seq rfl rfl (fun a HF => ?_)
  refine wc_endN ?_
  refine then_n ?_
  by_cases hb2 : e1.s = e2.s
  have h := (if_pos hb2).symm.trans h
  refine wp_if (b' := true) HF rfl (decide_eq_true hb2) ?_
  refine wc_text ?_
  refine wc_move HF nS rfl rfl rfl (fun a HF => ?_)
  refine wc_faddr HF nS rfl fl25_0 rfl rfl (fun a HF => ?_)
  have HT := HT.p2
  refine wc_storeB (cs' := [.int .i64 z3, .int .i64 0, .int .i64 0, .int .i64 0]) HF HT rfl rfl (fun w => (sc3 w).2) rfl rfl rfl rfl rfl (fun w HT => ⟨nS, ?_⟩)
  refine wc_end ?_
  refine blk_n ?_
  have HT := HT.p3.p1.p3.p3
  obtain rfl := Option.some.inj h
  exact then_n ⟨(HF.keep (HF.keep (HF.keep (HF.keep (HF.keep (HF.keep HF.nil rfl) rfl) rfl) rfl) rfl) rfl), HT⟩
  have h := (if_neg hb2).symm.trans h
  refine wp_if (b' := false) HF rfl (decide_eq_false hb2) ?_
  refine wp_skip ?_
  refine blk_n ?_
  obtain rfl := Option.some.inj h
  exact then_n ⟨(HF.keep (HF.keep (HF.keep (HF.keep (HF.keep (HF.keep HF.nil rfl) rfl) rfl) rfl) rfl) rfl), HT⟩
  rintro a w ⟨HF, HT⟩
  refine ?_
  refine wc_text ?_
  refine wc_move HF nS rfl rfl rfl (fun a HF => ?_)
  obtain ⟨hg1, h⟩ := grd h
  refine wc_bin HF nS rfl rfl (b_add hg1) rfl rfl (fun a HF => ?_)
  refine wc_assign HF nS rfl rfl rfl (fun a HF => ?_)
  refine wc_end ?_
  exact then_n ⟨k1, Nat.lt_succ_self k1, z4, z3 + 1, h, (HF.keep (HF.keep (HF.keep (HF.keep (HF.keep (HF.keep HF.nil rfl) rfl) rfl) rfl) rfl) rfl), HT⟩
  have h := (if_neg hb1).symm.trans h
  refine wp_if (b' := false) HF rfl (decide_eq_false hb1) ?_
  refine wp_exit ?_
  refine then_x (then_x (?_))
  refine blk_x ?_
  have HT := HT.t3
  obtain rfl := Option.some.inj h
  exact then_n ⟨(HF.keep (HF.keep (HF.keep (HF.keep HF.nil rfl) rfl) rfl) rfl), HT⟩
  rintro a w ⟨HF, HT⟩
  refine ?_
  refine wp_seq ?_
  refine wp_seq ?_
  refine wc_text ?_
  refine wc_faddr HF nS rfl fl25_0 rfl rfl (fun a HF => ?_)
  refine wc_load HF rfl sc3 ((HT.boxAt 2 rfl).get 0 rfl) rfl rfl (fun a HF => ?_)
  refine wc_bin HF nS rfl rfl b_eq rfl rfl (fun a HF => ?_)
  refine wc_move HF nS rfl rfl rfl (fun a HF => ?_)
  by_cases hb3 : z1 = 0
  have h := (if_pos hb3).symm.trans h
  refine wc_skip HF nS (HF.wn rfl rfl rfl rfl (decide_eq_true hb3)) rfl (fun a HF => ?_)
  refine wc_skip HF nS (HF.wn rfl rfl rfl rfl (decide_eq_true hb3)) rfl (fun a HF => ?_)
  refine wc_skip HF nS (HF.wn rfl rfl rfl rfl (decide_eq_true hb3)) rfl (fun a HF => ?_)
  refine wc_skip HF nS (HF.wn rfl rfl rfl rfl (decide_eq_true hb3)) rfl (fun a HF => ?_)
  refine wc_skip HF nS (HF.wn rfl rfl rfl rfl (decide_eq_true hb3)) rfl (fun a HF => ?_)
  refine wc_skip HF nS (HF.wn rfl rfl rfl rfl (decide_eq_true hb3)) rfl (fun a HF => ?_)
  refine wc_skip HF nS (HF.wn rfl rfl rfl rfl (decide_eq_true hb3)) rfl (fun a HF => ?_)
  refine wc_pick (b := true) HF nS rfl (decide_eq_true hb3) rfl rfl rfl (fun a HF => ?_)
  refine wc_end ?_
  refine then_n ?_
  refine wp_if (b' := true) HF rfl rfl ?_
  refine wp_seq ?_
  refine wc_text ?_
  refine wc_build (cs := #[.int .i64 0, .int .i64 0, .int .i64 0, .int .i64 0]) HF nS bd25 rfl rfl rfl rfl (fun a HF => ?_)
  refine wc_storeB (cs' := [.int .i64 0, .int .i64 0, .int .i64 0, .int .i64 0]) HF HT rfl rfl (fun w => (ag25 w).2) rfl rfl rfl rfl rfl (fun w HT => ⟨nS, ?_⟩)
  refine wc_assign HF nS rfl rfl rfl (fun a HF => ?_)
  refine wc_end ?_
  refine then_n ?_
  refine wp_ret ?_
  have hj1 := Option.some.inj h
  obtain ⟨hi1, hj2⟩ := Prod.mk.inj hj1
  subst hi1
  obtain ⟨hi2, hj3⟩ := Prod.mk.inj hj2
  subst hi2
  obtain ⟨hi3, hj4⟩ := Prod.mk.inj hj3
  subst hi3
  obtain ⟨hi4, hj5⟩ := Prod.mk.inj hj4
  subst hi4
  subst hj5
  refine then_r (?_)
  refine bp_ret HF (res_cell_tmp (vs := [.int .i64 0, .int .i64 0, .int .i64 0, .int .i64 0]) rfl HF rfl ag25 rfl (HT.boxAt 0 rfl) rfl) ?_
  have HT := HT.t0
  exact ⟨rfl, HT⟩
  have h := (if_neg hb3).symm.trans h
  refine wc_move HF nS rfl (HF.wy rfl rfl rfl rfl (decide_eq_false hb3)) rfl (fun a HF => ?_)
  refine wc_lenR HF nS Try.underlying62 rfl (HF.wy rfl rfl rfl rfl (decide_eq_false hb3)) rfl (fun a HF => ?_)
  refine wc_faddr HF nS rfl fl25_0 (HF.wy rfl rfl rfl rfl (decide_eq_false hb3)) rfl (fun a HF => ?_)
  refine wc_load HF rfl sc3 ((HT.boxAt 2 rfl).get 0 rfl) (HF.wy rfl rfl rfl rfl (decide_eq_false hb3)) rfl (fun a HF => ?_)
  obtain ⟨y3, hx7, h⟩ := obs h
  refine wc_call HF cf42 rfl (w_spec_l6Args fuel hx7) (HF.wy rfl rfl rfl rfl (decide_eq_false hb3)) rfl ?_
  rintro e w ⟨rfl, hE⟩
  have hb := hE.below
  have HT := HT.pure hE
  have HT : St w0 (fun _ => False) w [Box p1 [.int .i64 0, .int .i64 0, .int .i64 0, .int .i64 0], Own 9 (rowT y1) (.slice a1 y1.length c1), Box p2 [.int .i64 z1, .int .i64 0, .int .i64 0, .int .i64 0]] := HT
  refine ⟨_, rfl, nS, fun a HF => ?_⟩
  obtain ⟨hg2, h⟩ := grd h
  refine wc_bin HF nS rfl rfl (b_add hg2) (HF.wy rfl rfl rfl rfl (decide_eq_false hb3)) rfl (fun a HF => ?_)
  refine wc_bin HF nS rfl rfl b_ne (HF.wy rfl rfl rfl rfl (decide_eq_false hb3)) rfl (fun a HF => ?_)
  refine wc_pick (b := false) HF nS rfl (decide_eq_false hb3) rfl rfl rfl (fun a HF => ?_)
  refine wc_end ?_
  refine then_n ?_
  by_cases hb4 : (y1.length : Int) = (1 + y3)
  have h := (if_pos hb4).symm.trans h
  refine wp_if (b' := false) HF rfl (notT (decide_eq_true hb4)) ?_
  refine wp_skip ?_
  refine then_n ?_
  obtain ⟨q3, hx8, h⟩ := obs h
  refine wp_cut (fun a w => ∃ z5 z6 z7, q3 = .brk (z5, z6, z7) ∧ Fr a 78 [(0, sv x0), (2, .pointer (some ⟨p1, 0, none⟩)), (5, .pointer (some ⟨p2, 0, none⟩))] ∧ St w0 (fun _ => False) w [Box p1 [.int .i64 0, .int .i64 0, .int .i64 0, .int .i64 0], Box p2 [.int .i64 z1, .int .i64 z5, .int .i64 z6, .int .i64 z7]]) ?_ ?_
  have hk1 := h
  have h := hx8
  refine wp_seq ?_
  refine wc_text ?_
  refine wc_assign HF nS rfl rfl rfl (fun a HF => ?_)
  refine wc_end ?_
  refine then_n ?_
  refine wp_block ?_
  refine wp_loopN (fun k2 a w => ∃ z8 z9 z10 z11, m_spec_ReadOp_L1 fuel y1 k2 z8 z9 z10 z11 = some q3 ∧ Fr a 78 [(0, sv x0), (2, .pointer (some ⟨p1, 0, none⟩)), (4, .slice a1 y1.length c1), (5, .pointer (some ⟨p2, 0, none⟩)), (8, .int .i64 z11)] ∧ St w0 (fun _ => False) w [Box p1 [.int .i64 0, .int .i64 0, .int .i64 0, .int .i64 0], Own 9 (rowT y1) (.slice a1 y1.length c1), Box p2 [.int .i64 z1, .int .i64 z8, .int .i64 z9, .int .i64 z10]]) fuel ⟨0, 0, 0, 1, h, (HF.keep (HF.keep (HF.keep (HF.keep (HF.keep HF.nil rfl) rfl) rfl) rfl) rfl), HT⟩ ?_
  rintro k2 a w ⟨z8, z9, z10, z11, h, HF, HT⟩
  rcases k2 with _ | k2
  cases h
  rw [m_spec_ReadOp_L1] at h
  refine ?_
  refine wp_seq ?_
  refine wp_seq ?_
  refine wc_text ?_
  refine wc_move HF nS rfl rfl rfl (fun a HF => ?_)
  refine wc_move HF nS rfl rfl rfl (fun a HF => ?_)
  refine wc_lenR HF nS Try.underlying62 rfl rfl rfl (fun a HF => ?_)
  refine wc_bin HF nS rfl rfl b_lt rfl rfl (fun a HF => ?_)
  refine wc_end ?_
  refine then_n ?_
  by_cases hb5 : z11 < (y1.length : Int)
  have h := (if_pos hb5).symm.trans h
  refine wp_if (b' := true) HF rfl (decide_eq_true hb5) ?_
  refine wp_skip ?_
  refine then_n ?_
  obtain ⟨q4, hx9, h⟩ := obs h
  refine wp_cut (fun a w => ∃ z12 z13 z14, q4 = .brk (z12, z13, z14) ∧ Fr a 78 [(0, sv x0), (2, .pointer (some ⟨p1, 0, none⟩)), (4, .slice a1 y1.length c1), (5, .pointer (some ⟨p2, 0, none⟩)), (8, .int .i64 z11)] ∧ St w0 (fun _ => False) w [Box p1 [.int .i64 0, .int .i64 0, .int .i64 0, .int .i64 0], Own 9 (rowT y1) (.slice a1 y1.length c1), Box p2 [.int .i64 z1, .int .i64 z12, .int .i64 z13, .int .i64 z14]]) ?_ ?_
  have hk2 := h
  have h := hx9
  refine wp_block ?_
  refine wp_seq ?_
  refine wc_text ?_
  refine wc_move HF nS rfl rfl rfl (fun a HF => ?_)
  refine wc_move HF nS rfl rfl rfl (fun a HF => ?_)
  obtain ⟨e3, hx10, h⟩ := obs h
  obtain ⟨b3, o3, ha3⟩ := (HT.rdAt 1 rfl).addr hx10
  refine wc_ixaddr HF nS el62 rfl ha3 ((HT.rdAt 1 rfl)).neq rfl hx10 rfl rfl (fun a HF => ?_)
  have hc3 := (HT.rdAt 1 rfl).flatAt ha3 hx10
  refine wc_load HF rfl sc9 (hc3.get 0 rfl) rfl rfl (fun a HF => ?_)
  obtain ⟨y4, y5, hx11, h⟩ := obs2 h
  refine wc_call HF cf49 rfl (w_spec_ReadDec fuel hx11) rfl rfl ?_
  rintro e w ⟨rfl, hE⟩
  have hb := hE.below
  have HT := HT.pure hE
  have HT : St w0 (fun _ => False) w [Box p1 [.int .i64 0, .int .i64 0, .int .i64 0, .int .i64 0], Own 9 (rowT y1) (.slice a1 y1.length c1), Box p2 [.int .i64 z1, .int .i64 z8, .int .i64 z9, .int .i64 z10]] := HT
  refine ⟨_, rfl, nS, fun a HF => ?_⟩
  refine wc_move HF nS rfl rfl rfl (fun a HF => ?_)
  refine wc_extract (v := .int .i64 y4) HF nS rfl rfl rfl rfl (fun a HF => ?_)
  refine wc_extract (v := .bool y5) HF nS rfl rfl rfl rfl (fun a HF => ?_)
  refine wc_assign HF nS rfl rfl rfl (fun a HF => ?_)
  refine wc_assign HF nS rfl rfl rfl (fun a HF => ?_)
  refine wc_end ?_
  refine then_n ?_
  refine wp_seq ?_
  refine wp_seq ?_
  refine wc_text ?_
  refine wc_move HF nS rfl rfl rfl (fun a HF => ?_)
  refine wc_not HF nS rfl rfl rfl (fun a HF => ?_)
  refine wc_end ?_
  refine then_n ?_
  by_cases hb6 : y5 = true
  have h := (if_pos hb6).symm.trans h
  refine wp_if (b' := false) HF rfl (notT hb6) ?_
  refine wp_skip ?_
  refine then_n ?_
  refine wp_seq ?_
  refine wc_text ?_
  refine wc_move HF nS rfl rfl rfl (fun a HF => ?_)
  refine wc_end ?_
  refine then_n ?_
  refine wp_block ?_
  refine wp_seq ?_
  refine wc_text ?_
  refine wc_bin HF nS rfl rfl b_eq rfl rfl (fun a HF => ?_)
  refine wc_assign HF nS rfl rfl rfl (fun a HF => ?_)
  refine wc_end ?_
  refine then_n ?_
  by_cases hb7 : z11 = 1
  have h := (if_pos hb7).symm.trans h
  refine wp_if (b' := true) HF rfl (decide_eq_true hb7) ?_
  refine wc_text ?_
  refine wc_move HF nS rfl rfl rfl (fun a HF => ?_)
  refine wc_faddr HF nS rfl fl25_1 rfl rfl (fun a HF => ?_)
  have HT := HT.p2
  refine wc_storeB (cs' := [.int .i64 z1, .int .i64 y4, .int .i64 z9, .int .i64 z10]) HF HT rfl rfl (fun w => (sc3 w).2) rfl rfl rfl rfl rfl (fun w HT => ⟨nS, ?_⟩)
  refine wc_end ?_
  refine blk_n ?_
  refine blk_n ?_
  have HT := HT.p2.p2
  exact then_n ⟨y4, z9, z10, (Option.some.inj h).symm, (HF.keep (HF.keep (HF.keep (HF.keep (HF.keep HF.nil rfl) rfl) rfl) rfl) rfl), HT⟩
  have h := (if_neg hb7).symm.trans h
  refine wp_if (b' := false) HF rfl (decide_eq_false hb7) ?_
  refine wp_seq ?_
  refine wc_text ?_
  refine wc_bin HF nS rfl rfl b_eq rfl rfl (fun a HF => ?_)
  refine wc_assign HF nS rfl rfl rfl (fun a HF => ?_)
  refine wc_end ?_
  refine then_n ?_
  by_cases hb8 : z11 = 2
  have h := (if_pos hb8).symm.trans h
  refine wp_if (b' := true) HF rfl (decide_eq_true hb8) ?_
  refine wc_text ?_
  refine wc_move HF nS rfl rfl rfl (fun a HF => ?_)
  refine wc_faddr HF nS rfl fl25_2 rfl rfl (fun a HF => ?_)
  have HT := HT.p2
  refine wc_storeB (cs' := [.int .i64 z1, .int .i64 z8, .int .i64 y4, .int .i64 z10]) HF HT rfl rfl (fun w => (sc3 w).2) rfl rfl rfl rfl rfl (fun w HT => ⟨nS, ?_⟩)
  refine wc_end ?_
  refine blk_n ?_
  refine blk_n ?_
  have HT := HT.p2.p2
  exact then_n ⟨z8, y4, z10, (Option.some.inj h).symm, (HF.keep (HF.keep (HF.keep (HF.keep (HF.keep HF.nil rfl) rfl) rfl) rfl) rfl), HT⟩
  have h := (if_neg hb8).symm.trans h
  refine wp_if (b' := false) HF rfl (decide_eq_false hb8) ?_
  refine wc_text ?_
  refine wc_move HF nS rfl rfl rfl (fun a HF => ?_)
  refine wc_faddr HF nS rfl fl25_3 rfl rfl (fun a HF => ?_)
  have HT := HT.p2
  refine wc_storeB (cs' := [.int .i64 z1, .int .i64 z8, .int .i64 z9, .int .i64 y4]) HF HT rfl rfl (fun w => (sc3 w).2) rfl rfl rfl rfl rfl (fun w HT => ⟨nS, ?_⟩)
  refine wc_end ?_
  refine blk_n ?_
  refine blk_n ?_
  have HT := HT.p2.p2
  exact then_n ⟨z8, z9, y4, (Option.some.inj h).symm, (HF.keep (HF.keep (HF.keep (HF.keep (HF.keep HF.nil rfl) rfl) rfl) rfl) rfl), HT⟩
  have h := (if_neg hb6).symm.trans h
  refine wp_if (b' := true) HF rfl (notF (Bool.eq_false_iff.2 hb6)) ?_
  refine wp_seq ?_
  refine wc_text ?_
  refine wc_build (cs := #[.int .i64 0, .int .i64 0, .int .i64 0, .int .i64 0]) HF nS bd25 rfl rfl rfl rfl (fun a HF => ?_)
  refine wc_storeB (cs' := [.int .i64 0, .int .i64 0, .int .i64 0, .int .i64 0]) HF HT rfl rfl (fun w => (ag25 w).2) rfl rfl rfl rfl rfl (fun w HT => ⟨nS, ?_⟩)
  refine wc_assign HF nS rfl rfl rfl (fun a HF => ?_)
  refine wc_end ?_
  refine then_n ?_
  refine wp_ret ?_
  obtain rfl := Option.some.inj h
  have h := retM hk2
  obtain rfl := Option.some.inj h
  have h := retL hk1
  have hj6 := Option.some.inj h
  obtain ⟨hi6, hj7⟩ := Prod.mk.inj hj6
  subst hi6
  obtain ⟨hi7, hj8⟩ := Prod.mk.inj hj7
  subst hi7
  obtain ⟨hi8, hj9⟩ := Prod.mk.inj hj8
  subst hi8
  obtain ⟨hi9, hj10⟩ := Prod.mk.inj hj9
  subst hi9
  subst hj10
  refine then_r (blk_r (then_r (then_r (blk_r (then_r (?_))))))
  refine bp_ret HF (res_cell_tmp (vs := [.int .i64 0, .int .i64 0, .int .i64 0, .int .i64 0]) rfl HF rfl ag25 rfl (HT.boxAt 0 rfl) rfl) ?_
  have HT := HT.t0
  exact ⟨rfl, HT⟩
  rintro a w ⟨z12, z13, z14, rfl, HF, HT⟩
  have h := brkM3 h
  refine ?_
  refine wc_text ?_
  refine wc_move HF nS rfl rfl rfl (fun a HF => ?_)
  obtain ⟨hg3, h⟩ := grd h
  refine wc_bin HF nS rfl rfl (b_add hg3) rfl rfl (fun a HF => ?_)
  refine wc_assign HF nS rfl rfl rfl (fun a HF => ?_)
  refine wc_end ?_
  exact then_n ⟨k2, Nat.lt_succ_self k2, z12, z13, z14, z11 + 1, h, (HF.keep (HF.keep (HF.keep (HF.keep (HF.keep HF.nil rfl) rfl) rfl) rfl) rfl), HT⟩
  have h := (if_neg hb5).symm.trans h
  refine wp_if (b' := false) HF rfl (decide_eq_false hb5) ?_
  refine wp_exit ?_
  refine then_x (then_x (?_))
  refine blk_x ?_
  have HT := HT.p2.p1.t2
  exact then_n ⟨z8, z9, z10, (Option.some.inj h).symm, (HF.keep (HF.keep (HF.keep HF.nil rfl) rfl) rfl), HT⟩
  rintro a w ⟨z5, z6, z7, rfl, HF, HT⟩
  have h := brkL3 h
  refine ?_
  refine wp_seq ?_
  refine wp_seq ?_
  refine wc_text ?_
  refine wc_loadA (vs := [.int .i64 z1, .int .i64 z5, .int .i64 z6, .int .i64 z7]) HF rfl ag25 rfl ((HT.boxAt 1 rfl).part 0 4) rfl rfl (fun a HF => ?_)
  obtain ⟨y6, hx12, h⟩ := obs h
  refine wc_call HF cf10 rfl (w_spec_ShowOp fuel hx12) rfl rfl ?_
  rintro e w ⟨rfl, hE⟩
  have hb := hE.below
  have HT := HT.pure hE
  have HT : St w0 (fun _ => False) w [Box p1 [.int .i64 0, .int .i64 0, .int .i64 0, .int .i64 0], Box p2 [.int .i64 z1, .int .i64 z5, .int .i64 z6, .int .i64 z7]] := HT
  refine ⟨_, rfl, nS, fun a HF => ?_⟩
  refine wc_move HF nS rfl rfl rfl (fun a HF => ?_)
  refine wc_bin HF nS rfl rfl b_sne rfl rfl (fun a HF => ?_)
  refine wc_end ?_
  refine then_n ?_
  by_cases hb9 : y6 = x0
  have h := (if_pos hb9).symm.trans h
  refine wp_if (b' := false) HF rfl (notT (decide_eq_true hb9)) ?_
  refine wp_skip ?_
  refine then_n ?_
  refine wp_seq ?_
  refine wc_text ?_
  refine wc_loadA (vs := [.int .i64 z1, .int .i64 z5, .int .i64 z6, .int .i64 z7]) HF rfl ag25 rfl ((HT.boxAt 1 rfl).part 0 4) rfl rfl (fun a HF => ?_)
  refine wc_storeB (cs' := [.int .i64 z1, .int .i64 z5, .int .i64 z6, .int .i64 z7]) HF HT rfl rfl (fun w => (ag25 w).2) rfl rfl rfl rfl rfl (fun w HT => ⟨nS, ?_⟩)
  refine wc_assign HF nS rfl rfl rfl (fun a HF => ?_)
  refine wc_end ?_
  refine then_n ?_
  refine wp_ret ?_
  have hj11 := Option.some.inj h
  obtain ⟨hi11, hj12⟩ := Prod.mk.inj hj11
  subst hi11
  obtain ⟨hi12, hj13⟩ := Prod.mk.inj hj12
  subst hi12
  obtain ⟨hi13, hj14⟩ := Prod.mk.inj hj13
  subst hi13
  obtain ⟨hi14, hj15⟩ := Prod.mk.inj hj14
  subst hi14
  subst hj15
  refine bp_ret HF (res_cell_tmp (vs := [.int .i64 z1, .int .i64 z5, .int .i64 z6, .int .i64 z7]) rfl HF rfl ag25 rfl (HT.boxAt 0 rfl) rfl) ?_
  have HT := HT.t0
  exact ⟨rfl, HT⟩
  have h := (if_neg hb9).symm.trans h
  refine wp_if (b' := true) HF rfl (notF (decide_eq_false hb9)) ?_
  refine wp_seq ?_
  refine wc_text ?_
  refine wc_build (cs := #[.int .i64 0, .int .i64 0, .int .i64 0, .int .i64 0]) HF nS bd25 rfl rfl rfl rfl (fun a HF => ?_)
  refine wc_storeB (cs' := [.int .i64 0, .int .i64 0, .int .i64 0, .int .i64 0]) HF HT rfl rfl (fun w => (ag25 w).2) rfl rfl rfl rfl rfl (fun w HT => ⟨nS, ?_⟩)
  refine wc_assign HF nS rfl rfl rfl (fun a HF => ?_)
  refine wc_end ?_
  refine then_n ?_
  refine wp_ret ?_
  have hj16 := Option.some.inj h
  obtain ⟨hi16, hj17⟩ := Prod.mk.inj hj16
  subst hi16
  obtain ⟨hi17, hj18⟩ := Prod.mk.inj hj17
  subst hi17
  obtain ⟨hi18, hj19⟩ := Prod.mk.inj hj18
  subst hi18
  obtain ⟨hi19, hj20⟩ := Prod.mk.inj hj19
  subst hi19
  subst hj20
  refine then_r (?_)
  refine bp_ret HF (res_cell_tmp (vs := [.int .i64 0, .int .i64 0, .int .i64 0, .int .i64 0]) rfl HF rfl ag25 rfl (HT.boxAt 0 rfl) rfl) ?_
  have HT := HT.t0
  exact ⟨rfl, HT⟩
  have h := (if_neg hb4).symm.trans h
  refine wp_if (b' := true) HF rfl (notF (decide_eq_false hb4)) ?_
  refine wp_seq ?_
  refine wc_text ?_
  refine wc_build (cs := #[.int .i64 0, .int .i64 0, .int .i64 0, .int .i64 0]) HF nS bd25 rfl rfl rfl rfl (fun a HF => ?_)
  refine wc_storeB (cs' := [.int .i64 0, .int .i64 0, .int .i64 0, .int .i64 0]) HF HT rfl rfl (fun w => (ag25 w).2) rfl rfl rfl rfl rfl (fun w HT => ⟨nS, ?_⟩)
  refine wc_assign HF nS rfl rfl rfl (fun a HF => ?_)
  refine wc_end ?_
  refine then_n ?_
  refine wp_ret ?_
  have hj21 := Option.some.inj h
  obtain ⟨hi21, hj22⟩ := Prod.mk.inj hj21
  subst hi21
  obtain ⟨hi22, hj23⟩ := Prod.mk.inj hj22
  subst hi22
  obtain ⟨hi23, hj24⟩ := Prod.mk.inj hj23
  subst hi23
  obtain ⟨hi24, hj25⟩ := Prod.mk.inj hj24
  subst hi24
  subst hj25
  refine then_r (?_)
  refine bp_ret HF (res_cell_tmp (vs := [.int .i64 0, .int .i64 0, .int .i64 0, .int .i64 0]) rfl HF rfl ag25 rfl (HT.boxAt 0 rfl) rfl) ?_
  have HT := HT.t0
  exact ⟨rfl, HT⟩

def m_impl_opens (fuel : Nat) (x0_0 : Int) (x0_1 : Int) (x0_2 : Int) (x0_3 : Int) : Option Int :=
  if x0_0 = 8 then
    some 1
  else
  if x0_0 = 9 then
    some (-1)
  else
  some 0

set_option maxRecDepth 100000 in
set_option maxHeartbeats 4000000 in
theorem w_impl_opens (fuel : Nat) {x0_0 : Int} {x0_1 : Int} {x0_2 : Int} {x0_3 : Int} {r0 : Int} {w0 : World} (h : m_impl_opens fuel x0_0 x0_1 x0_2 x0_3 = some r0) :
    Calls Try.prog 99 #[.agg #[.int .i64 x0_0, .int .i64 x0_1, .int .i64 x0_2, .int .i64 x0_3]] w0 fun e w => e = .returned (.int .i64 r0) ∧ St w0 (fun _ => False) w [] := by
  have HT : St w0 (fun _ => False) w0 [] := St.init0
  rw [m_impl_opens] at h
  refine calls_fr (n := 9) [.agg #[.int .i64 x0_0, .int .i64 x0_1, .int .i64 x0_2, .int .i64 x0_3]] Try.func99 rfl rfl rfl (fun a HF => ?_)
  have HT : St w0 (fun _ => False) w0 [] := HT
  refine wp_seq ?_
  refine wc_text ?_
  refine wc_box (cs := [.int .i64 x0_0, .int .i64 x0_1, .int .i64 x0_2, .int .i64 x0_3]) HF HT rfl rfl rfl rfl (fun p1 w HT hb => ⟨nS, fun a HF => ?_⟩)
  refine wc_assign HF nS rfl rfl rfl (fun a HF => ?_)
  refine wc_end ?_
  refine then_n ?_
  refine wp_seq ?_
  refine wp_seq ?_
  refine wc_text ?_
  refine wc_faddr HF nS rfl fl25_0 rfl rfl (fun a HF => ?_)
  refine wc_load HF rfl sc3 ((HT.boxAt 0 rfl).get 0 rfl) rfl rfl (fun a HF => ?_)
  refine wc_end ?_
  refine then_n ?_
  refine wp_block ?_
  refine wp_seq ?_
  refine wc_text ?_
  refine wc_bin HF nS rfl rfl b_eq rfl rfl (fun a HF => ?_)
  refine wc_assign HF nS rfl rfl rfl (fun a HF => ?_)
  refine wc_end ?_
  refine then_n ?_
  by_cases hb1 : x0_0 = 8
  have h := (if_pos hb1).symm.trans h
  refine wp_if (b' := true) HF rfl (decide_eq_true hb1) ?_
  refine wp_seq ?_
  refine wc_text ?_
  refine wc_assign HF nS rfl rfl rfl (fun a HF => ?_)
  refine wc_end ?_
  refine then_n ?_
  refine wp_ret ?_
  obtain rfl := Option.some.inj h
  refine blk_r (then_r (?_))
  refine bp_ret HF (res_one rfl HF rfl) ?_
  have HT := HT.t0
  exact ⟨rfl, HT⟩
  have h := (if_neg hb1).symm.trans h
  refine wp_if (b' := false) HF rfl (decide_eq_false hb1) ?_
  refine wp_seq ?_
  refine wc_text ?_
  refine wc_bin HF nS rfl rfl b_eq rfl rfl (fun a HF => ?_)
  refine wc_assign HF nS rfl rfl rfl (fun a HF => ?_)
  refine wc_end ?_
  refine then_n ?_
  by_cases hb2 : x0_0 = 9
  have h := (if_pos hb2).symm.trans h
  refine wp_if (b' := true) HF rfl (decide_eq_true hb2) ?_
  refine wp_seq ?_
  refine wc_text ?_
  refine wc_assign HF nS rfl rfl rfl (fun a HF => ?_)
  refine wc_end ?_
  refine then_n ?_
  refine wp_ret ?_
  obtain rfl := Option.some.inj h
  refine blk_r (then_r (?_))
  refine bp_ret HF (res_one rfl HF rfl) ?_
  have HT := HT.t0
  exact ⟨rfl, HT⟩
  have h := (if_neg hb2).symm.trans h
  refine wp_if (b' := false) HF rfl (decide_eq_false hb2) ?_
  refine wp_skip ?_
  refine blk_n ?_
  refine then_n ?_
  refine wp_seq ?_
  refine wc_text ?_
  refine wc_assign HF nS rfl rfl rfl (fun a HF => ?_)
  refine wc_end ?_
  refine then_n ?_
  refine wp_ret ?_
  obtain rfl := Option.some.inj h
  refine bp_ret HF (res_one rfl HF rfl) ?_
  have HT := HT.t0
  exact ⟨rfl, HT⟩

def m_impl_DepthAt_L0 (fuel : Nat) (x0 : List I4) (x1 : Int) : Nat → Int → Int → Option Int
  | 0, _, _ => none
  | k1 + 1, z2, z3 =>
    if z3 < (x0.length : Int) then
      (
        (at? x0 z3).bind fun e1 =>
        if z3 < x1 then
          (m_impl_opens fuel e1.a e1.b e1.c e1.d).bind fun y1 =>
          if in64 (z2 + y1) then
            some (z2 + y1)
          else none
        else
        some z2).bind fun z4 =>
      if in64 (z3 + 1) then
        m_impl_DepthAt_L0 fuel x0 x1 k1 z4 (z3 + 1)
      else none
    else
    some z2

def m_impl_DepthAt (fuel : Nat) (x0 : List I4) (x1 : Int) : Option Int :=
  (m_impl_DepthAt_L0 fuel x0 x1 fuel 0 0).bind fun z1 =>
  some z1

set_option maxRecDepth 100000 in
set_option maxHeartbeats 4000000 in
theorem w_impl_DepthAt (fuel : Nat) {x0 : List I4} {x1 : Int} {a_x0 : Option Addr} {n_x0 c_x0 : Nat} {r0 : Int} {w0 : World} (h : m_impl_DepthAt fuel x0 x1 = some r0) (hr_x0 : RdT (fun b => ¬ False) w0 (rowT x0) (.slice a_x0 n_x0 c_x0)) :
    Calls Try.prog 84 #[.slice a_x0 n_x0 c_x0, .int .i64 x1] w0 fun e w => e = .returned (.int .i64 r0) ∧ St w0 (fun _ => False) w [] := by
  obtain rfl := hr_x0.neq
  have HT : St w0 (fun _ => False) w0 [] := St.init0
  rw [m_impl_DepthAt] at h
  refine calls_fr (n := 24) [.slice a_x0 x0.length c_x0, .int .i64 x1] Try.func84 rfl rfl rfl (fun a HF => ?_)
  have HT : St w0 (fun _ => False) w0 [] := HT
  refine wp_seq ?_
  refine wc_text ?_
  refine wc_assign HF nS rfl rfl rfl (fun a HF => ?_)
  refine wc_end ?_
  refine then_n ?_
  refine wp_seq ?_
  refine wc_text ?_
  refine wc_assign HF nS rfl rfl rfl (fun a HF => ?_)
  refine wc_end ?_
  refine then_n ?_
  obtain ⟨z1, hx1, h⟩ := obs h
  refine wp_cut (fun a w => Fr a 24 [(5, .int .i64 z1)] ∧ St w0 (fun _ => False) w []) ?_ ?_
  have hk1 := h
  have h := hx1
  refine wp_seq ?_
  refine wc_text ?_
  refine wc_move HF nS rfl rfl rfl (fun a HF => ?_)
  refine wc_lenR HF nS Try.underlying35 rfl rfl rfl (fun a HF => ?_)
  refine wc_move HF nS rfl rfl rfl (fun a HF => ?_)
  refine wc_end ?_
  refine then_n ?_
  refine wp_block ?_
  refine wp_loopN (fun k1 a w => ∃ z2 z3, m_impl_DepthAt_L0 fuel x0 x1 k1 z2 z3 = some z1 ∧ Fr a 24 [(1, .int .i64 x1), (5, .int .i64 z2), (8, .slice a_x0 x0.length c_x0), (9, .int .i64 (x0.length : Int)), (10, .int .i64 z3)] ∧ St w0 (fun _ => False) w []) fuel ⟨0, 0, h, (HF.keep (HF.keep (HF.keep (HF.keep (HF.keep HF.nil rfl) rfl) rfl) rfl) rfl), HT⟩ ?_
  rintro k1 a w ⟨z2, z3, h, HF, HT⟩
  rcases k1 with _ | k1
  cases h
  rw [m_impl_DepthAt_L0] at h
  refine ?_
  refine wp_seq ?_
  refine wc_text ?_
  refine wc_bin HF nS rfl rfl b_lt rfl rfl (fun a HF => ?_)
  refine wc_end ?_
  refine then_n ?_
  refine wp_seq ?_
  by_cases hb1 : z3 < (x0.length : Int)
  have h := (if_pos hb1).symm.trans h
  refine wp_if (b' := true) HF rfl (decide_eq_true hb1) ?_
  refine wp_skip ?_
  refine then_n ?_
  obtain ⟨z4, hx2, h⟩ := obs h
  refine wp_cut (fun a w => Fr a 24 [(1, .int .i64 x1), (5, .int .i64 z4), (8, .slice a_x0 x0.length c_x0), (9, .int .i64 (x0.length : Int)), (10, .int .i64 z3)] ∧ St w0 (fun _ => False) w []) ?_ ?_
  have hk2 := h
  have h := hx2
  refine wp_block ?_
  refine wp_seq ?_
  refine wc_text ?_
  refine wc_move HF nS rfl rfl rfl (fun a HF => ?_)
  obtain ⟨e1, hx3, h⟩ := obs h
  obtain ⟨b1, o1, ha1⟩ := (HT.ro hr_x0).any.addr hx3
  refine wc_ixaddr HF nS el35 rfl ha1 ((HT.ro hr_x0).any).neq rfl hx3 rfl rfl (fun a HF => ?_)
  have hc1 := (HT.ro hr_x0).any.flatAt ha1 hx3
  refine wc_loadA (vs := [.int .i64 e1.a, .int .i64 e1.b, .int .i64 e1.c, .int .i64 e1.d]) HF rfl ag25 rfl (hc1.part 0 4) rfl rfl (fun a HF => ?_)
  refine wc_alloc (cs := [.int .i64 0, .int .i64 0, .int .i64 0, .int .i64 0]) HF HT zr25 rfl rfl rfl (fun p1 w HT hb => ⟨nS, fun a HF => ?_⟩)
  refine wc_assign HF nS rfl rfl rfl (fun a HF => ?_)
  refine wc_storeB (cs' := [.int .i64 e1.a, .int .i64 e1.b, .int .i64 e1.c, .int .i64 e1.d]) HF HT rfl rfl (fun w => (ag25 w).2) rfl rfl rfl rfl rfl (fun w HT => ⟨nS, ?_⟩)
  refine wc_end ?_
  refine then_n ?_
  refine wp_seq ?_
  refine wc_text ?_
  refine wc_move HF nS rfl rfl rfl (fun a HF => ?_)
  refine wc_move HF nS rfl rfl rfl (fun a HF => ?_)
  refine wc_bin HF nS rfl rfl b_lt rfl rfl (fun a HF => ?_)
  refine wc_end ?_
  refine then_n ?_
  by_cases hb2 : z3 < x1
  have h := (if_pos hb2).symm.trans h
  refine wp_if (b' := true) HF rfl (decide_eq_true hb2) ?_
  refine wc_text ?_
  refine wc_move HF nS rfl rfl rfl (fun a HF => ?_)
  refine wc_loadA (vs := [.int .i64 e1.a, .int .i64 e1.b, .int .i64 e1.c, .int .i64 e1.d]) HF rfl ag25 rfl ((HT.boxAt 0 rfl).part 0 4) rfl rfl (fun a HF => ?_)
  obtain ⟨y1, hx4, h⟩ := obs h
  refine wc_call HF cf99 rfl (w_impl_opens fuel hx4) rfl rfl ?_
  rintro e w ⟨rfl, hE⟩
  have hb := hE.below
  have HT := HT.pure hE
  have HT : St w0 (fun _ => False) w [Box p1 [.int .i64 e1.a, .int .i64 e1.b, .int .i64 e1.c, .int .i64 e1.d]] := HT
  refine ⟨_, rfl, nS, fun a HF => ?_⟩
  obtain ⟨hg1, h⟩ := grd h
  refine wc_bin HF nS rfl rfl (b_add hg1) rfl rfl (fun a HF => ?_)
  refine wc_assign HF nS rfl rfl rfl (fun a HF => ?_)
  refine wc_end ?_
  refine blk_n ?_
  have HT := HT.t0
  obtain rfl := Option.some.inj h
  exact then_n ⟨(HF.keep (HF.keep (HF.keep (HF.keep (HF.keep HF.nil rfl) rfl) rfl) rfl) rfl), HT⟩
  have h := (if_neg hb2).symm.trans h
  refine wp_if (b' := false) HF rfl (decide_eq_false hb2) ?_
  refine wp_skip ?_
  refine blk_n ?_
  have HT := HT.t0
  obtain rfl := Option.some.inj h
  exact then_n ⟨(HF.keep (HF.keep (HF.keep (HF.keep (HF.keep HF.nil rfl) rfl) rfl) rfl) rfl), HT⟩
  rintro a w ⟨HF, HT⟩
  refine ?_
  refine wc_text ?_
  obtain ⟨hg2, h⟩ := grd h
  refine wc_bin HF nS rfl rfl (b_add hg2) rfl rfl (fun a HF => ?_)
  refine wc_move HF nS rfl rfl rfl (fun a HF => ?_)
  refine wc_end ?_
  exact then_n ⟨k1, Nat.lt_succ_self k1, z4, z3 + 1, h, (HF.keep (HF.keep (HF.keep (HF.keep (HF.keep HF.nil rfl) rfl) rfl) rfl) rfl), HT⟩
  have h := (if_neg hb1).symm.trans h
  refine wp_if (b' := false) HF rfl (decide_eq_false hb1) ?_
  refine wp_exit ?_
  refine then_x (then_x (?_))
  refine blk_x ?_
  obtain rfl := Option.some.inj h
  exact then_n ⟨(HF.keep HF.nil rfl), HT⟩
  rintro a w ⟨HF, HT⟩
  refine ?_
  refine wp_seq ?_
  refine wc_text ?_
  refine wc_move HF nS rfl rfl rfl (fun a HF => ?_)
  refine wc_assign HF nS rfl rfl rfl (fun a HF => ?_)
  refine wc_end ?_
  refine then_n ?_
  refine wp_ret ?_
  obtain rfl := Option.some.inj h
  refine bp_ret HF (res_one rfl HF rfl) ?_
  exact ⟨rfl, HT⟩

def m_impl_isBalanced_L0 (fuel : Nat) (x0 : List I4) : Nat → Int → Int → Option (Lp Int Bool)
  | 0, _, _ => none
  | k1 + 1, z2, z3 =>
    if z3 < (x0.length : Int) then
      (at? x0 z3).bind fun e1 =>
      (m_impl_opens fuel e1.a e1.b e1.c e1.d).bind fun y1 =>
      if in64 (z2 + y1) then
        if (z2 + y1) < 0 then
          some (.ret false)
        else
        if in64 (z3 + 1) then
          m_impl_isBalanced_L0 fuel x0 k1 (z2 + y1) (z3 + 1)
        else none
      else none
    else
    some (.brk z2)

def m_impl_isBalanced (fuel : Nat) (x0 : List I4) : Option Bool :=
  (m_impl_isBalanced_L0 fuel x0 fuel 0 0).bind <| contL <| un1 fun z1 =>
  some (decide (z1 = 0))

set_option maxRecDepth 100000 in
set_option maxHeartbeats 4000000 in
theorem w_impl_isBalanced (fuel : Nat) {x0 : List I4} {a_x0 : Option Addr} {n_x0 c_x0 : Nat} {r0 : Bool} {w0 : World} (h : m_impl_isBalanced fuel x0 = some r0) (hr_x0 : RdT (fun b => ¬ False) w0 (rowT x0) (.slice a_x0 n_x0 c_x0)) :
    Calls Try.prog 83 #[.slice a_x0 n_x0 c_x0] w0 fun e w => e = .returned (.bool r0) ∧ St w0 (fun _ => False) w [] := by
  obtain rfl := hr_x0.neq
  have HT : St w0 (fun _ => False) w0 [] := St.init0
  rw [m_impl_isBalanced] at h
  refine calls_fr (n := 21) [.slice a_x0 x0.length c_x0] Try.func83 rfl rfl rfl (fun a HF => ?_)
  have HT : St w0 (fun _ => False) w0 [] := HT
  refine wp_seq ?_
  refine wc_text ?_
  refine wc_assign HF nS rfl rfl rfl (fun a HF => ?_)
  refine wc_end ?_
  refine then_n ?_
  refine wp_seq ?_
  refine wc_text ?_
  refine wc_assign HF nS rfl rfl rfl (fun a HF => ?_)
  refine wc_end ?_
  refine then_n ?_
  obtain ⟨q1, hx1, h⟩ := obs h
  refine wp_cut (fun a w => ∃ z1, q1 = .brk z1 ∧ Fr a 21 [(3, .int .i64 z1)] ∧ St w0 (fun _ => False) w []) ?_ ?_
  have hk1 := h
  have h := hx1
  refine wp_seq ?_
  refine wc_text ?_
  refine wc_move HF nS rfl rfl rfl (fun a HF => ?_)
  refine wc_lenR HF nS Try.underlying35 rfl rfl rfl (fun a HF => ?_)
  refine wc_move HF nS rfl rfl rfl (fun a HF => ?_)
  refine wc_end ?_
  refine then_n ?_
  refine wp_block ?_
  refine wp_loopN (fun k1 a w => ∃ z2 z3, m_impl_isBalanced_L0 fuel x0 k1 z2 z3 = some q1 ∧ Fr a 21 [(3, .int .i64 z2), (6, .slice a_x0 x0.length c_x0), (7, .int .i64 (x0.length : Int)), (8, .int .i64 z3)] ∧ St w0 (fun _ => False) w []) fuel ⟨0, 0, h, (HF.keep (HF.keep (HF.keep (HF.keep HF.nil rfl) rfl) rfl) rfl), HT⟩ ?_
  rintro k1 a w ⟨z2, z3, h, HF, HT⟩
  rcases k1 with _ | k1
  cases h
  rw [m_impl_isBalanced_L0] at h
  refine ?_
  refine wp_seq ?_
  refine wc_text ?_
  refine wc_bin HF nS rfl rfl b_lt rfl rfl (fun a HF => ?_)
  refine wc_end ?_
  refine then_n ?_
  refine wp_seq ?_
  by_cases hb1 : z3 < (x0.length : Int)
  have h := (if_pos hb1).symm.trans h
  refine wp_if (b' := true) HF rfl (decide_eq_true hb1) ?_
  refine wp_skip ?_
  refine then_n ?_
  refine wp_seq ?_
  refine wp_block ?_
  refine wp_seq ?_
  refine wc_text ?_
  obtain ⟨e1, hx2, h⟩ := obs h
  obtain ⟨b1, o1, ha1⟩ := (HT.ro hr_x0).any.addr hx2
  refine wc_ixaddr HF nS el35 rfl ha1 ((HT.ro hr_x0).any).neq rfl hx2 rfl rfl (fun a HF => ?_)
  have hc1 := (HT.ro hr_x0).any.flatAt ha1 hx2
  refine wc_loadA (vs := [.int .i64 e1.a, .int .i64 e1.b, .int .i64 e1.c, .int .i64 e1.d]) HF rfl ag25 rfl (hc1.part 0 4) rfl rfl (fun a HF => ?_)
  refine wc_alloc (cs := [.int .i64 0, .int .i64 0, .int .i64 0, .int .i64 0]) HF HT zr25 rfl rfl rfl (fun p1 w HT hb => ⟨nS, fun a HF => ?_⟩)
  refine wc_storeB (cs' := [.int .i64 e1.a, .int .i64 e1.b, .int .i64 e1.c, .int .i64 e1.d]) HF HT rfl rfl (fun w => (ag25 w).2) rfl rfl rfl rfl rfl (fun w HT => ⟨nS, ?_⟩)
  refine wc_end ?_
  refine then_n ?_
  refine wp_seq ?_
  refine wc_text ?_
  refine wc_move HF nS rfl rfl rfl (fun a HF => ?_)
  refine wc_loadA (vs := [.int .i64 e1.a, .int .i64 e1.b, .int .i64 e1.c, .int .i64 e1.d]) HF rfl ag25 rfl ((HT.boxAt 0 rfl).part 0 4) rfl rfl (fun a HF => ?_)
  obtain ⟨y1, hx3, h⟩ := obs h
  refine wc_call HF cf99 rfl (w_impl_opens fuel hx3) rfl rfl ?_
  rintro e w ⟨rfl, hE⟩
  have hb := hE.below
  have HT := HT.pure hE
  have HT : St w0 (fun _ => False) w [Box p1 [.int .i64 e1.a, .int .i64 e1.b, .int .i64 e1.c, .int .i64 e1.d]] := HT
  refine ⟨_, rfl, nS, fun a HF => ?_⟩
  obtain ⟨hg1, h⟩ := grd h
  refine wc_bin HF nS rfl rfl (b_add hg1) rfl rfl (fun a HF => ?_)
  refine wc_assign HF nS rfl rfl rfl (fun a HF => ?_)
  refine wc_end ?_
  refine then_n ?_
  refine wp_seq ?_
  refine wc_text ?_
  refine wc_move HF nS rfl rfl rfl (fun a HF => ?_)
  refine wc_bin HF nS rfl rfl b_lt rfl rfl (fun a HF => ?_)
  refine wc_end ?_
  refine then_n ?_
  by_cases hb2 : (z2 + y1) < 0
  have h := (if_pos hb2).symm.trans h
  refine wp_if (b' := true) HF rfl (decide_eq_true hb2) ?_
  refine wp_seq ?_
  refine wc_text ?_
  refine wc_assign HF nS rfl rfl rfl (fun a HF => ?_)
  refine wc_end ?_
  refine then_n ?_
  refine wp_ret ?_
  obtain rfl := Option.some.inj h
  have h := retL hk1
  obtain rfl := Option.some.inj h
  refine blk_r (then_r (then_r (blk_r (then_r (?_)))))
  refine bp_ret HF (res_one rfl HF rfl) ?_
  have HT := HT.t0
  exact ⟨rfl, HT⟩
  have h := (if_neg hb2).symm.trans h
  refine wp_if (b' := false) HF rfl (decide_eq_false hb2) ?_
  refine wp_skip ?_
  refine blk_n ?_
  refine then_n ?_
  refine wc_text ?_
  obtain ⟨hg2, h⟩ := grd h
  refine wc_bin HF nS rfl rfl (b_add hg2) rfl rfl (fun a HF => ?_)
  refine wc_move HF nS rfl rfl rfl (fun a HF => ?_)
  refine wc_end ?_
  have HT := HT.t0
  exact then_n ⟨k1, Nat.lt_succ_self k1, z2 + y1, z3 + 1, h, (HF.keep (HF.keep (HF.keep (HF.keep HF.nil rfl) rfl) rfl) rfl), HT⟩
  have h := (if_neg hb1).symm.trans h
  refine wp_if (b' := false) HF rfl (decide_eq_false hb1) ?_
  refine wp_exit ?_
  refine then_x (then_x (?_))
  refine blk_x ?_
  exact then_n ⟨z2, (Option.some.inj h).symm, (HF.keep HF.nil rfl), HT⟩
  rintro a w ⟨z1, rfl, HF, HT⟩
  have h := brkL1u h
  refine ?_
  refine wp_seq ?_
  refine wc_text ?_
  refine wc_move HF nS rfl rfl rfl (fun a HF => ?_)
  refine wc_bin HF nS rfl rfl b_eq rfl rfl (fun a HF => ?_)
  refine wc_assign HF nS rfl rfl rfl (fun a HF => ?_)
  refine wc_end ?_
  refine then_n ?_
  refine wp_ret ?_
  obtain rfl := Option.some.inj h
  refine bp_ret HF (res_one rfl HF rfl) ?_
  exact ⟨rfl, HT⟩

def m_impl_CodeOk_L0 (fuel : Nat) (x0 : List I4) : Nat → Int → Int → Option (Lp Unit Bool)
  | 0, _, _ => none
  | k1 + 1, z1, z2 =>
    if z2 < (x0.length : Int) then
      (
        (at? x0 z2).bind fun e1 =>
        (m_impl_OpOk fuel e1.a e1.b e1.c e1.d).bind fun y2 =>
        if y2 = true then
          if e1.a = 7 then
            if in64 (z2 + 1) then
              if in64 ((z2 + 1) + e1.c) then
                if (x0.length : Int) < ((z2 + 1) + e1.c) then
                  some (.ret false)
                else
                if in64 (z2 + 1) then
                  if in64 (z2 + 1) then
                    if in64 ((z2 + 1) + e1.c) then
                      if 0 ≤ (z2 + 1 : Int) ∧ (z2 + 1 : Int) ≤ ((z2 + 1) + e1.c) ∧ ((z2 + 1) + e1.c) ≤ (x0.length : Int) then
                        (m_impl_isBalanced fuel (subl x0 (z2 + 1) ((z2 + 1) + e1.c))).bind fun y3 =>
                        if y3 = true then
                          some (.brk z1)
                        else
                        some (.ret false)
                      else none
                    else none
                  else none
                else none
              else none
            else none
          else
          if e1.a = 11 then
            if in64 (z1 + 1) then
              if 1 < (z1 + 1) then
                some (.ret false)
              else
              (m_impl_DepthAt fuel x0 z2).bind fun y4 =>
              if y4 = 0 then
                some (.brk (z1 + 1))
              else
              some (.ret false)
            else none
          else
          some (.brk z1)
        else
        some (.ret false)).bind <| contM <| un1 fun z3 =>
      if in64 (z2 + 1) then
        m_impl_CodeOk_L0 fuel x0 k1 z3 (z2 + 1)
      else none
    else
    some (.brk ())

def m_impl_CodeOk (fuel : Nat) (x0 : List I4) : Option Bool :=
  if 24 < (x0.length : Int) then
    some false
  else
  (m_impl_isBalanced fuel x0).bind fun y1 =>
  if y1 = true then
    (m_impl_CodeOk_L0 fuel x0 fuel 0 0).bind <| contL <| un1 fun _ =>
    some true
  else
  some false

set_option maxRecDepth 100000 in
set_option maxHeartbeats 4000000 in
theorem w_impl_CodeOk (fuel : Nat) {x0 : List I4} {a_x0 : Option Addr} {n_x0 c_x0 : Nat} {r0 : Bool} {w0 : World} (h : m_impl_CodeOk fuel x0 = some r0) (hr_x0 : RdT (fun b => ¬ False) w0 (rowT x0) (.slice a_x0 n_x0 c_x0)) :
    Calls Try.prog 53 #[.slice a_x0 n_x0 c_x0] w0 fun e w => e = .returned (.bool r0) ∧ St w0 (fun _ => False) w [] := by
  obtain rfl := hr_x0.neq
  have HT : St w0 (fun _ => False) w0 [] := St.init0
  rw [m_impl_CodeOk] at h
  refine calls_fr (n := 62) [.slice a_x0 x0.length c_x0] Try.func53 rfl rfl rfl (fun a HF => ?_)
  have HT : St w0 (fun _ => False) w0 [] := HT
  refine wp_seq ?_
  refine wc_text ?_
  refine wc_assign HF nS rfl rfl rfl (fun a HF => ?_)
  refine wc_end ?_
  refine then_n ?_
  refine wp_seq ?_
  refine wp_seq ?_
  refine wc_text ?_
  refine wc_move HF nS rfl rfl rfl (fun a HF => ?_)
  refine wc_lenR HF nS Try.underlying35 rfl rfl rfl (fun a HF => ?_)
  refine wc_bin HF nS rfl rfl b_gt rfl rfl (fun a HF => ?_)
  refine wc_move HF nS rfl rfl rfl (fun a HF => ?_)
  by_cases hb1 : 24 < (x0.length : Int)
  have h := (if_pos hb1).symm.trans h
  refine wc_skip HF nS (HF.wn rfl rfl rfl rfl (decide_eq_true hb1)) rfl (fun a HF => ?_)
  refine wc_skip HF nS (HF.wn rfl rfl rfl rfl (decide_eq_true hb1)) rfl (fun a HF => ?_)
  refine wc_skip HF nS (HF.wn rfl rfl rfl rfl (decide_eq_true hb1)) rfl (fun a HF => ?_)
  refine wc_pick (b := true) HF nS rfl (decide_eq_true hb1) rfl rfl rfl (fun a HF => ?_)
  refine wc_end ?_
  refine then_n ?_
  refine wp_if (b' := true) HF rfl rfl ?_
  refine wp_seq ?_
  refine wc_text ?_
  refine wc_assign HF nS rfl rfl rfl (fun a HF => ?_)
  refine wc_end ?_
  refine then_n ?_
  refine wp_ret ?_
  obtain rfl := Option.some.inj h
  refine then_r (?_)
  refine bp_ret HF (res_one rfl HF rfl) ?_
  exact ⟨rfl, HT⟩
  have h := (if_neg hb1).symm.trans h
  refine wc_move HF nS rfl (HF.wy rfl rfl rfl rfl (decide_eq_false hb1)) rfl (fun a HF => ?_)
  obtain ⟨y1, hx1, h⟩ := obs h
  refine wc_call HF cf83 rfl (w_impl_isBalanced fuel hx1 (HT.ro hr_x0).any) (HF.wy rfl rfl rfl rfl (decide_eq_false hb1)) rfl ?_
  rintro e w ⟨rfl, hE⟩
  have hb := hE.below
  have HT := HT.pure hE
  have HT : St w0 (fun _ => False) w [] := HT
  refine ⟨_, rfl, nS, fun a HF => ?_⟩
  refine wc_not HF nS rfl (HF.wy rfl rfl rfl rfl (decide_eq_false hb1)) rfl (fun a HF => ?_)
  refine wc_pick (b := false) HF nS rfl (decide_eq_false hb1) rfl rfl rfl (fun a HF => ?_)
  refine wc_end ?_
  refine then_n ?_
  by_cases hb2 : y1 = true
  have h := (if_pos hb2).symm.trans h
  refine wp_if (b' := false) HF rfl (notT hb2) ?_
  refine wp_skip ?_
  refine then_n ?_
  refine wp_seq ?_
  refine wc_text ?_
  refine wc_assign HF nS rfl rfl rfl (fun a HF => ?_)
  refine wc_end ?_
  refine then_n ?_
  obtain ⟨q1, hx2, h⟩ := obs h
  refine wp_cut (fun a w => q1 = .brk () ∧ Fr a 62 [] ∧ St w0 (fun _ => False) w []) ?_ ?_
  have hk1 := h
  have h := hx2
  refine wp_seq ?_
  refine wc_text ?_
  refine wc_move HF nS rfl rfl rfl (fun a HF => ?_)
  refine wc_lenR HF nS Try.underlying35 rfl rfl rfl (fun a HF => ?_)
  refine wc_move HF nS rfl rfl rfl (fun a HF => ?_)
  refine wc_end ?_
  refine then_n ?_
  refine wp_block ?_
  refine wp_loopN (fun k1 a w => ∃ z1 z2, m_impl_CodeOk_L0 fuel x0 k1 z1 z2 = some q1 ∧ Fr a 62 [(0, .slice a_x0 x0.length c_x0), (3, .int .i64 z1), (14, .slice a_x0 x0.length c_x0), (15, .int .i64 (x0.length : Int)), (16, .int .i64 z2)] ∧ St w0 (fun _ => False) w []) fuel ⟨0, 0, h, (HF.keep (HF.keep (HF.keep (HF.keep (HF.keep HF.nil rfl) rfl) rfl) rfl) rfl), HT⟩ ?_
  rintro k1 a w ⟨z1, z2, h, HF, HT⟩
  rcases k1 with _ | k1
  cases h
  rw [m_impl_CodeOk_L0] at h
  refine ?_
  refine wp_seq ?_
  refine wc_text ?_
  refine wc_bin HF nS rfl rfl b_lt rfl rfl (fun a HF => ?_)
  refine wc_end ?_
  refine then_n ?_
  refine wp_seq ?_
  by_cases hb3 : z2 < (x0.length : Int)
  have h := (if_pos hb3).symm.trans h
  refine wp_if (b' := true) HF rfl (decide_eq_true hb3) ?_
  refine wp_skip ?_
  refine then_n ?_
  obtain ⟨q2, hx3, h⟩ := obs h
  refine wp_cut (fun a w => ∃ z3, q2 = .brk z3 ∧ Fr a 62 [(0, .slice a_x0 x0.length c_x0), (3, .int .i64 z3), (14, .slice a_x0 x0.length c_x0), (15, .int .i64 (x0.length : Int)), (16, .int .i64 z2)] ∧ St w0 (fun _ => False) w []) ?_ ?_
  have hk2 := h
  have h := hx3
  refine wp_block ?_
  refine wp_seq ?_
  refine wc_text ?_
  refine wc_move HF nS rfl rfl rfl (fun a HF => ?_)
  obtain ⟨e1, hx4, h⟩ := obs h
  obtain ⟨b1, o1, ha1⟩ := (HT.ro hr_x0).any.addr hx4
  refine wc_ixaddr HF nS el35 rfl ha1 ((HT.ro hr_x0).any).neq rfl hx4 rfl rfl (fun a HF => ?_)
  have hc1 := (HT.ro hr_x0).any.flatAt ha1 hx4
  refine wc_loadA (vs := [.int .i64 e1.a, .int .i64 e1.b, .int .i64 e1.c, .int .i64 e1.d]) HF rfl ag25 rfl (hc1.part 0 4) rfl rfl (fun a HF => ?_)
  refine wc_alloc (cs := [.int .i64 0, .int .i64 0, .int .i64 0, .int .i64 0]) HF HT zr25 rfl rfl rfl (fun p1 w HT hb => ⟨nS, fun a HF => ?_⟩)
  refine wc_assign HF nS rfl rfl rfl (fun a HF => ?_)
  refine wc_storeB (cs' := [.int .i64 e1.a, .int .i64 e1.b, .int .i64 e1.c, .int .i64 e1.d]) HF HT rfl rfl (fun w => (ag25 w).2) rfl rfl rfl rfl rfl (fun w HT => ⟨nS, ?_⟩)
  refine wc_end ?_
  refine then_n ?_
  refine wp_seq ?_
  refine wp_seq ?_
  refine wc_text ?_
  refine wc_loadA (vs := [.int .i64 e1.a, .int .i64 e1.b, .int .i64 e1.c, .int .i64 e1.d]) HF rfl ag25 rfl ((HT.boxAt 0 rfl).part 0 4) rfl rfl (fun a HF => ?_)
  obtain ⟨y2, hx5, h⟩ := obs h
  refine wc_call HF cf44 rfl (w_impl_OpOk fuel hx5) rfl rfl ?_
  rintro e w ⟨rfl, hE⟩
  have hb := hE.below
  have HT := HT.pure hE
  have HT : St w0 (fun _ => False) w [Box p1 [.int .i64 e1.a, .int .i64 e1.b, .int .i64 e1.c, .int .i64 e1.d]] := HT
  refine ⟨_, rfl, nS, fun a HF => ?_⟩
  refine wc_not HF nS rfl rfl rfl (fun a HF => ?_)
  refine wc_end ?_
  refine then_n ?_
  by_cases hb4 : y2 = true
  have h := (if_pos hb4).symm.trans h
  refine wp_if (b' := false) HF rfl (notT hb4) ?_
  refine wp_skip ?_
  refine then_n ?_
  refine wp_seq ?_
  refine wc_text ?_
  refine wc_faddr HF nS rfl fl25_0 rfl rfl (fun a HF => ?_)
  refine wc_load HF rfl sc3 ((HT.boxAt 0 rfl).get 0 rfl) rfl rfl (fun a HF => ?_)
  refine wc_end ?_
  refine then_n ?_
  refine wp_block ?_
  refine wp_seq ?_
  refine wc_text ?_
  refine wc_bin HF nS rfl rfl b_eq rfl rfl (fun a HF => ?_)
  refine wc_assign HF nS rfl rfl rfl (fun a HF => ?_)
  refine wc_end ?_
  refine then_n ?_
  by_cases hb5 : e1.a = 7
  have h := (if_pos hb5).symm.trans h
  refine wp_if (b' := true) HF rfl (decide_eq_true hb5) ?_
  refine wp_seq ?_
  refine wc_text ?_
  refine wc_move HF nS rfl rfl rfl (fun a HF => ?_)
  obtain ⟨hg1, h⟩ := grd h
  refine wc_bin HF nS rfl rfl (b_add hg1) rfl rfl (fun a HF => ?_)
  refine wc_faddr HF nS rfl fl25_2 rfl rfl (fun a HF => ?_)
  refine wc_load HF rfl sc3 ((HT.boxAt 0 rfl).get 2 rfl) rfl rfl (fun a HF => ?_)
  obtain ⟨hg2, h⟩ := grd h
  refine wc_bin HF nS rfl rfl (b_add hg2) rfl rfl (fun a HF => ?_)
  refine wc_move HF nS rfl rfl rfl (fun a HF => ?_)
  refine wc_lenR HF nS Try.underlying35 rfl rfl rfl (fun a HF => ?_)
  refine wc_bin HF nS rfl rfl b_gt rfl rfl (fun a HF => ?_)
  refine wc_move HF nS rfl rfl rfl (fun a HF => ?_)
  by_cases hb6 : (x0.length : Int) < ((z2 + 1) + e1.c)
  have h := (if_pos hb6).symm.trans h
  refine wc_skip HF nS (HF.wn rfl rfl rfl rfl (decide_eq_true hb6)) rfl (fun a HF => ?_)
  refine wc_skip HF nS (HF.wn rfl rfl rfl rfl (decide_eq_true hb6)) rfl (fun a HF => ?_)
  refine wc_skip HF nS (HF.wn rfl rfl rfl rfl (decide_eq_true hb6)) rfl (fun a HF => ?_)
  refine wc_skip HF nS (HF.wn rfl rfl rfl rfl (decide_eq_true hb6)) rfl (fun a HF => ?_)
  refine wc_skip HF nS (HF.wn rfl rfl rfl rfl (decide_eq_true hb6)) rfl (fun a HF => ?_)
  refine wc_skip HF nS (HF.wn rfl rfl rfl rfl (decide_eq_true hb6)) rfl (fun a HF => ?_)
  refine wc_skip HF nS (HF.wn rfl rfl rfl rfl (decide_eq_true hb6)) rfl (fun a HF => ?_)
  refine wc_skip HF nS (HF.wn rfl rfl rfl rfl (decide_eq_true hb6)) rfl (fun a HF => ?_)
  refine wc_skip HF nS (HF.wn rfl rfl rfl rfl (decide_eq_true hb6)) rfl (fun a HF => ?_)
  refine wc_skip HF nS (HF.wn rfl rfl rfl rfl (decide_eq_true hb6)) rfl (fun a HF => ?_)
  refine wc_skip HF nS (HF.wn rfl rfl rfl rfl (decide_eq_true hb6)) rfl (fun a HF => ?_)
  refine wc_pick (b := true) HF nS rfl (decide_eq_true hb6) rfl rfl rfl (fun a HF => ?_)
  refine wc_end ?_
  refine then_n ?_
  refine wp_if (b' := true) HF rfl rfl ?_
  refine wp_seq ?_
  refine wc_text ?_
  refine wc_assign HF nS rfl rfl rfl (fun a HF => ?_)
  refine wc_end ?_
  refine then_n ?_
  refine wp_ret ?_
  obtain rfl := Option.some.inj h
  have h := retM hk2
  obtain rfl := Option.some.inj h
  have h := retL hk1
  obtain rfl := Option.some.inj h
  refine blk_r (blk_r (then_r (then_r (blk_r (then_r (?_))))))
  refine bp_ret HF (res_one rfl HF rfl) ?_
  have HT := HT.t0
  exact ⟨rfl, HT⟩
  have h := (if_neg hb6).symm.trans h
  refine wc_move HF nS rfl (HF.wy rfl rfl rfl rfl (decide_eq_false hb6)) rfl (fun a HF => ?_)
  refine wc_move HF nS rfl (HF.wy rfl rfl rfl rfl (decide_eq_false hb6)) rfl (fun a HF => ?_)
  obtain ⟨hg3, h⟩ := grd h
  refine wc_bin HF nS rfl rfl (b_add hg3) (HF.wy rfl rfl rfl rfl (decide_eq_false hb6)) rfl (fun a HF => ?_)
  refine wc_move HF nS rfl (HF.wy rfl rfl rfl rfl (decide_eq_false hb6)) rfl (fun a HF => ?_)
  obtain ⟨hg4, h⟩ := grd h
  refine wc_bin HF nS rfl rfl (b_add hg4) (HF.wy rfl rfl rfl rfl (decide_eq_false hb6)) rfl (fun a HF => ?_)
  refine wc_faddr HF nS rfl fl25_2 (HF.wy rfl rfl rfl rfl (decide_eq_false hb6)) rfl (fun a HF => ?_)
  refine wc_load HF rfl sc3 ((HT.boxAt 0 rfl).get 2 rfl) (HF.wy rfl rfl rfl rfl (decide_eq_false hb6)) rfl (fun a HF => ?_)
  obtain ⟨hg5, h⟩ := grd h
  refine wc_bin HF nS rfl rfl (b_add hg5) (HF.wy rfl rfl rfl rfl (decide_eq_false hb6)) rfl (fun a HF => ?_)
  obtain ⟨hg6, h⟩ := grd h
  obtain ⟨a1, c1, hr1, hcut⟩ := RdT.cutI hr_x0 (hg6 : 0 ≤ (z2 + 1 : Int) ∧ (z2 + 1 : Int) ≤ ((z2 + 1) + e1.c) ∧ ((z2 + 1) + e1.c) ≤ (x0.length : Int))
  refine wc_slrLH HF nS el35 rfl rfl rfl hcut (HF.wy rfl rfl rfl rfl (decide_eq_false hb6)) rfl (fun a HF => ?_)
  obtain ⟨y3, hx6, h⟩ := obs h
  refine wc_call HF cf83 rfl (w_impl_isBalanced fuel hx6 (HT.ro hr1).any) (HF.wy rfl rfl rfl rfl (decide_eq_false hb6)) rfl ?_
  rintro e w ⟨rfl, hE⟩
  have hb := hE.below
  have HT := HT.pure hE
  have HT : St w0 (fun _ => False) w [Box p1 [.int .i64 e1.a, .int .i64 e1.b, .int .i64 e1.c, .int .i64 e1.d]] := HT
  refine ⟨_, rfl, nS, fun a HF => ?_⟩
  refine wc_not HF nS rfl (HF.wy rfl rfl rfl rfl (decide_eq_false hb6)) rfl (fun a HF => ?_)
  refine wc_pick (b := false) HF nS rfl (decide_eq_false hb6) rfl rfl rfl (fun a HF => ?_)
  refine wc_end ?_
  refine then_n ?_
  by_cases hb7 : y3 = true
  have h := (if_pos hb7).symm.trans h
  refine wp_if (b' := false) HF rfl (notT hb7) ?_
  refine wp_skip ?_
  refine blk_n ?_
  refine blk_n ?_
  have HT := HT.t0
  exact then_n ⟨z1, (Option.some.inj h).symm, (HF.keep (HF.keep (HF.keep (HF.keep (HF.keep HF.nil rfl) rfl) rfl) rfl) rfl), HT⟩
  have h := (if_neg hb7).symm.trans h
  refine wp_if (b' := true) HF rfl (notF (Bool.eq_false_iff.2 hb7)) ?_
  refine wp_seq ?_
  refine wc_text ?_
  refine wc_assign HF nS rfl rfl rfl (fun a HF => ?_)
  refine wc_end ?_
  refine then_n ?_
  refine wp_ret ?_
  obtain rfl := Option.some.inj h
  have h := retM hk2
  obtain rfl := Option.some.inj h
  have h := retL hk1
  obtain rfl := Option.some.inj h
  refine blk_r (blk_r (then_r (then_r (blk_r (then_r (?_))))))
  refine bp_ret HF (res_one rfl HF rfl) ?_
  have HT := HT.t0
  exact ⟨rfl, HT⟩
  have h := (if_neg hb5).symm.trans h
  refine wp_if (b' := false) HF rfl (decide_eq_false hb5) ?_
  refine wp_seq ?_
  refine wc_text ?_
  refine wc_bin HF nS rfl rfl b_eq rfl rfl (fun a HF => ?_)
  refine wc_assign HF nS rfl rfl rfl (fun a HF => ?_)
  refine wc_end ?_
  refine then_n ?_
  by_cases hb8 : e1.a = 11
  have h := (if_pos hb8).symm.trans h
  refine wp_if (b' := true) HF rfl (decide_eq_true hb8) ?_
  refine wp_seq ?_
  refine wc_text ?_
  refine wc_move HF nS rfl rfl rfl (fun a HF => ?_)
  obtain ⟨hg7, h⟩ := grd h
  refine wc_bin HF nS rfl rfl (b_add hg7) rfl rfl (fun a HF => ?_)
  refine wc_assign HF nS rfl rfl rfl (fun a HF => ?_)
  refine wc_end ?_
  refine then_n ?_
  refine wp_seq ?_
  refine wc_text ?_
  refine wc_move HF nS rfl rfl rfl (fun a HF => ?_)
  refine wc_bin HF nS rfl rfl b_gt rfl rfl (fun a HF => ?_)
  refine wc_move HF nS rfl rfl rfl (fun a HF => ?_)
  by_cases hb9 : 1 < (z1 + 1)
  have h := (if_pos hb9).symm.trans h
  refine wc_skip HF nS (HF.wn rfl rfl rfl rfl (decide_eq_true hb9)) rfl (fun a HF => ?_)
  refine wc_skip HF nS (HF.wn rfl rfl rfl rfl (decide_eq_true hb9)) rfl (fun a HF => ?_)
  refine wc_skip HF nS (HF.wn rfl rfl rfl rfl (decide_eq_true hb9)) rfl (fun a HF => ?_)
  refine wc_skip HF nS (HF.wn rfl rfl rfl rfl (decide_eq_true hb9)) rfl (fun a HF => ?_)
  refine wc_pick (b := true) HF nS rfl (decide_eq_true hb9) rfl rfl rfl (fun a HF => ?_)
  refine wc_end ?_
  refine then_n ?_
  refine wp_if (b' := true) HF rfl rfl ?_
  refine wp_seq ?_
  refine wc_text ?_
  refine wc_assign HF nS rfl rfl rfl (fun a HF => ?_)
  refine wc_end ?_
  refine then_n ?_
  refine wp_ret ?_
  obtain rfl := Option.some.inj h
  have h := retM hk2
  obtain rfl := Option.some.inj h
  have h := retL hk1
  obtain rfl := Option.some.inj h
  refine blk_r (blk_r (then_r (then_r (blk_r (then_r (?_))))))
  refine bp_ret HF (res_one rfl HF rfl) ?_
  have HT := HT.t0
  exact ⟨rfl, HT⟩
  have h := (if_neg hb9).symm.trans h
  refine wc_move HF nS rfl (HF.wy rfl rfl rfl rfl (decide_eq_false hb9)) rfl (fun a HF => ?_)
  refine wc_move HF nS rfl (HF.wy rfl rfl rfl rfl (decide_eq_false hb9)) rfl (fun a HF => ?_)
  obtain ⟨y4, hx7, h⟩ := obs h
  refine wc_call HF cf84 rfl (w_impl_DepthAt fuel hx7 (HT.ro hr_x0).any) (HF.wy rfl rfl rfl rfl (decide_eq_false hb9)) rfl ?_
  rintro e w ⟨rfl, hE⟩
  have hb := hE.below
  have HT := HT.pure hE
  have HT : St w0 (fun _ => False) w [Box p1 [.int .i64 e1.a, .int .i64 e1.b, .int .i64 e1.c, .int .i64 e1.d]] := HT
  refine ⟨_, rfl, nS, fun a HF => ?_⟩
  refine wc_bin HF nS rfl rfl b_ne (HF.wy rfl rfl rfl rfl (decide_eq_false hb9)) rfl (fun a HF => ?_)
  refine wc_pick (b := false) HF nS rfl (decide_eq_false hb9) rfl rfl rfl (fun a HF => ?_)
  refine wc_end ?_
  refine then_n ?_
  by_cases hb10 : y4 = 0
  have h := (if_pos hb10).symm.trans h
  refine wp_if (b' := false) HF rfl (notT (decide_eq_true hb10)) ?_
  refine wp_skip ?_
  refine blk_n ?_
  refine blk_n ?_
  have HT := HT.t0
  exact then_n ⟨z1 + 1, (Option.some.inj h).symm, (HF.keep (HF.keep (HF.keep (HF.keep (HF.keep HF.nil rfl) rfl) rfl) rfl) rfl), HT⟩
  have h := (if_neg hb10).symm.trans h
  refine wp_if (b' := true) HF rfl (notF (decide_eq_false hb10)) ?_
  refine wp_seq ?_
  refine wc_text ?_
  refine wc_assign HF nS rfl rfl rfl (fun a HF => ?_)
  refine wc_end ?_
  refine then_n ?_
  refine wp_ret ?_
  obtain rfl := Option.some.inj h
  have h := retM hk2
  obtain rfl := Option.some.inj h
  have h := retL hk1
  obtain rfl := Option.some.inj h
  refine blk_r (blk_r (then_r (then_r (blk_r (then_r (?_))))))
  refine bp_ret HF (res_one rfl HF rfl) ?_
  have HT := HT.t0
  exact ⟨rfl, HT⟩
  have h := (if_neg hb8).symm.trans h
  refine wp_if (b' := false) HF rfl (decide_eq_false hb8) ?_
  refine wp_skip ?_
  refine blk_n ?_
  refine blk_n ?_
  have HT := HT.t0
  exact then_n ⟨z1, (Option.some.inj h).symm, (HF.keep (HF.keep (HF.keep (HF.keep (HF.keep HF.nil rfl) rfl) rfl) rfl) rfl), HT⟩
  have h := (if_neg hb4).symm.trans h
  refine wp_if (b' := true) HF rfl (notF (Bool.eq_false_iff.2 hb4)) ?_
  refine wp_seq ?_
  refine wc_text ?_
  refine wc_assign HF nS rfl rfl rfl (fun a HF => ?_)
  refine wc_end ?_
  refine then_n ?_
  refine wp_ret ?_
  obtain rfl := Option.some.inj h
  have h := retM hk2
  obtain rfl := Option.some.inj h
  have h := retL hk1
  obtain rfl := Option.some.inj h
  refine then_r (blk_r (then_r (then_r (blk_r (then_r (?_))))))
  refine bp_ret HF (res_one rfl HF rfl) ?_
  have HT := HT.t0
  exact ⟨rfl, HT⟩
  rintro a w ⟨z3, rfl, HF, HT⟩
  have h := brkM1u h
  refine ?_
  refine wc_text ?_
  obtain ⟨hg8, h⟩ := grd h
  refine wc_bin HF nS rfl rfl (b_add hg8) rfl rfl (fun a HF => ?_)
  refine wc_move HF nS rfl rfl rfl (fun a HF => ?_)
  refine wc_end ?_
  exact then_n ⟨k1, Nat.lt_succ_self k1, z3, z2 + 1, h, (HF.keep (HF.keep (HF.keep (HF.keep (HF.keep HF.nil rfl) rfl) rfl) rfl) rfl), HT⟩
  have h := (if_neg hb3).symm.trans h
  refine wp_if (b' := false) HF rfl (decide_eq_false hb3) ?_
  refine wp_exit ?_
  refine then_x (then_x (?_))
  refine blk_x ?_
  exact then_n ⟨(Option.some.inj h).symm, HF.nil, HT⟩
  rintro a w ⟨rfl, HF, HT⟩
  have h := brkL1u h
  refine ?_
  refine wp_seq ?_
  refine wc_text ?_
  refine wc_assign HF nS rfl rfl rfl (fun a HF => ?_)
  refine wc_end ?_
  refine then_n ?_
  refine wp_ret ?_
  obtain rfl := Option.some.inj h
  refine bp_ret HF (res_one rfl HF rfl) ?_
  exact ⟨rfl, HT⟩
  have h := (if_neg hb2).symm.trans h
  refine wp_if (b' := true) HF rfl (notF (Bool.eq_false_iff.2 hb2)) ?_
  refine wp_seq ?_
  refine wc_text ?_
  refine wc_assign HF nS rfl rfl rfl (fun a HF => ?_)
  refine wc_end ?_
  refine then_n ?_
  refine wp_ret ?_
  obtain rfl := Option.some.inj h
  refine then_r (?_)
  refine bp_ret HF (res_one rfl HF rfl) ?_
  exact ⟨rfl, HT⟩

def m_impl_lines (fuel : Nat) (x0 : Str) : Option (List SE × Bool) :=
  (m_impl_split fuel x0 (10 : UInt8)).bind fun y1 =>
  if in64 ((y1.length : Int) - 1) then
    (at? y1 ((y1.length : Int) - 1)).bind fun e1 =>
    if e1.s = [] then
      if in64 ((y1.length : Int) - 1) then
        if 0 ≤ ((y1.length : Int) - 1 : Int) ∧ ((y1.length : Int) - 1) ≤ (y1.length : Int) then
          some (subl y1 0 ((y1.length : Int) - 1), true)
        else none
      else none
    else
    some (([] : List SE), false)
  else none

set_option maxRecDepth 100000 in
set_option maxHeartbeats 4000000 in
theorem w_impl_lines (fuel : Nat) {x0 : Str} {r0 : List SE} {r1 : Bool} {w0 : World} (h : m_impl_lines fuel x0 = some (r0, r1)) :
    Calls Try.prog 55 #[sv x0] w0 fun e w => ∃ a_r0 n_r0 c_r0, e = .returned (.tuple #[.slice a_r0 n_r0 c_r0, .bool r1]) ∧ St w0 (fun _ => False) w [Own 9 (rowT r0) (.slice a_r0 n_r0 c_r0)] := by
  have HT : St w0 (fun _ => False) w0 [] := St.init0
  rw [m_impl_lines] at h
  refine calls_fr (n := 19) [sv x0] Try.func55 rfl rfl rfl (fun a HF => ?_)
  have HT : St w0 (fun _ => False) w0 [] := HT
  refine wp_seq ?_
  refine wc_text ?_
  refine wc_assign HF nS rfl rfl rfl (fun a HF => ?_)
  refine wc_assign HF nS rfl rfl rfl (fun a HF => ?_)
  refine wc_end ?_
  refine then_n ?_
  refine wp_seq ?_
  refine wc_text ?_
  refine wc_move HF nS rfl rfl rfl (fun a HF => ?_)
  obtain ⟨y1, hx1, h⟩ := obs h
  refine wc_call HF cf50 rfl (w_impl_split (x1 := (10 : UInt8)) fuel hx1) rfl rfl ?_
  rintro e w ⟨a1, n1, c1, rfl, hE⟩
  have hb := hE.below
  have HT := HT.pure hE
  obtain rfl := (HT.rdAt 0 rfl).neq
  have HT : St w0 (fun _ => False) w [Own 9 (rowT y1) (.slice a1 y1.length c1)] := HT
  refine ⟨_, rfl, nS, fun a HF => ?_⟩
  refine wc_assign HF nS rfl rfl rfl (fun a HF => ?_)
  refine wc_end ?_
  refine then_n ?_
  refine wp_seq ?_
  refine wp_seq ?_
  refine wc_text ?_
  refine wc_move HF nS rfl rfl rfl (fun a HF => ?_)
  refine wc_move HF nS rfl rfl rfl (fun a HF => ?_)
  refine wc_lenR HF nS Try.underlying62 rfl rfl rfl (fun a HF => ?_)
  obtain ⟨hg1, h⟩ := grd h
  refine wc_bin HF nS rfl rfl (b_sub hg1) rfl rfl (fun a HF => ?_)
  obtain ⟨e1, hx2, h⟩ := obs h
  obtain ⟨b1, o1, ha1⟩ := (HT.rdAt 0 rfl).addr hx2
  refine wc_ixaddr HF nS el62 rfl ha1 ((HT.rdAt 0 rfl)).neq rfl hx2 rfl rfl (fun a HF => ?_)
  have hc1 := (HT.rdAt 0 rfl).flatAt ha1 hx2
  refine wc_load HF rfl sc9 (hc1.get 0 rfl) rfl rfl (fun a HF => ?_)
  refine wc_bin HF nS rfl rfl b_sne rfl rfl (fun a HF => ?_)
  refine wc_end ?_
  refine then_n ?_
  by_cases hb1 : e1.s = []
  have h := (if_pos hb1).symm.trans h
  refine wp_if (b' := false) HF rfl (notT (decide_eq_true hb1)) ?_
  refine wp_skip ?_
  refine then_n ?_
  refine wp_seq ?_
  refine wc_text ?_
  refine wc_move HF nS rfl rfl rfl (fun a HF => ?_)
  refine wc_move HF nS rfl rfl rfl (fun a HF => ?_)
  refine wc_lenR HF nS Try.underlying62 rfl rfl rfl (fun a HF => ?_)
  obtain ⟨hg2, h⟩ := grd h
  refine wc_bin HF nS rfl rfl (b_sub hg2) rfl rfl (fun a HF => ?_)
  obtain ⟨hg3, h⟩ := grd h
  obtain ⟨HT, hcut⟩ := St.cutO HT hg3
  refine wc_slrH HF nS el62 rfl rfl hcut rfl rfl (fun a HF => ?_)
  refine wc_assign HF nS rfl rfl rfl (fun a HF => ?_)
  refine wc_assign HF nS rfl rfl rfl (fun a HF => ?_)
  refine wc_end ?_
  refine then_n ?_
  refine wp_ret ?_
  have hj1 := Option.some.inj h
  obtain ⟨hi1, hj2⟩ := Prod.mk.inj hj1
  subst hi1
  subst hj2
  refine bp_ret HF (res_two rfl HF rfl rfl) ?_
  exact ⟨a1, (subl y1 0 ((y1.length : Int) - 1)).length, c1, rfl, HT⟩
  have h := (if_neg hb1).symm.trans h
  refine wp_if (b' := true) HF rfl (notF (decide_eq_false hb1)) ?_
  refine wp_seq ?_
  refine wc_text ?_
  refine wc_assign HF nS rfl rfl rfl (fun a HF => ?_)
  refine wc_assign HF nS rfl rfl rfl (fun a HF => ?_)
  refine wc_end ?_
  refine then_n ?_
  refine wp_ret ?_
  have HT := HT.nilrow (E := SE) 9
  have hj3 := Option.some.inj h
  obtain ⟨hi3, hj4⟩ := Prod.mk.inj hj3
  subst hi3
  subst hj4
  refine then_r (?_)
  refine bp_ret HF (res_two rfl HF rfl rfl) ?_
  have HT := HT.t1
  exact ⟨none, 0, 0, rfl, HT⟩

def m_impl_ReadCode_L0 (fuel : Nat) (y1 : List SE) : Nat → (List I4) → Int → Option (Lp (List I4) (List I4 × Bool))
  | 0, _, _ => none
  | k1 + 1, z2, z3 =>
    if z3 < (y1.length : Int) then
      (at? y1 z3).bind fun e1 =>
      bind5 (m_impl_ReadOp fuel e1.s) fun y3 y4 y5 y6 y7 =>
      if y7 = true then
        if z2.length + 1 ≤ 17179869184 then
          if in64 (z3 + 1) then
            m_impl_ReadCode_L0 fuel y1 k1 (z2 ++ ([(⟨y3, y4, y5, y6⟩ : I4)] : List I4)) (z3 + 1)
          else none
        else none
      else
      some (.ret (([] : List I4), false))
    else
    some (.brk z2)

def m_impl_ReadCode (fuel : Nat) (x0 : Str) : Option (List I4 × Bool) :=
  bind2 (m_impl_lines fuel x0) fun y1 y2 =>
  if y2 = true then
    if 24 < (y1.length : Int) then
      some (([] : List I4), false)
    else
    (m_impl_ReadCode_L0 fuel y1 fuel ([] : List I4) 0).bind <| contL <| un1 fun z1 =>
    (m_impl_CodeOk fuel z1).bind fun y8 =>
    if y8 = true then
      some (z1, true)
    else
    some (([] : List I4), false)
  else
  some (([] : List I4), false)

set_option maxRecDepth 100000 in
set_option maxHeartbeats 4000000 in
theorem w_impl_ReadCode (fuel : Nat) {x0 : Str} {r0 : List I4} {r1 : Bool} {w0 : World} (h : m_impl_ReadCode fuel x0 = some (r0, r1)) :
    Calls Try.prog 22 #[sv x0] w0 fun e w => ∃ a_r0 n_r0 c_r0, e = .returned (.tuple #[.slice a_r0 n_r0 c_r0, .bool r1]) ∧ St w0 (fun _ => False) w [Own 25 (rowT r0) (.slice a_r0 n_r0 c_r0)] := by
  have HT : St w0 (fun _ => False) w0 [] := St.init0
  rw [m_impl_ReadCode] at h
  refine calls_fr (n := 46) [sv x0] Try.func22 rfl rfl rfl (fun a HF => ?_)
  have HT : St w0 (fun _ => False) w0 [] := HT
  refine wp_seq ?_
  refine wc_text ?_
  refine wc_assign HF nS rfl rfl rfl (fun a HF => ?_)
  refine wc_assign HF nS rfl rfl rfl (fun a HF => ?_)
  refine wc_end ?_
  refine then_n ?_
  refine wp_seq ?_
  refine wc_text ?_
  refine wc_move HF nS rfl rfl rfl (fun a HF => ?_)
  obtain ⟨y1, y2, hx1, h⟩ := obs2 h
  refine wc_call HF cf55 rfl (w_impl_lines fuel hx1) rfl rfl ?_
  rintro e w ⟨a1, n1, c1, rfl, hE⟩
  have hb := hE.below
  have HT := HT.pure hE
  obtain rfl := (HT.rdAt 0 rfl).neq
  have HT : St w0 (fun _ => False) w [Own 9 (rowT y1) (.slice a1 y1.length c1)] := HT
  refine ⟨_, rfl, nS, fun a HF => ?_⟩
  refine wc_move HF nS rfl rfl rfl (fun a HF => ?_)
  refine wc_extract (v := .slice a1 y1.length c1) HF nS rfl rfl rfl rfl (fun a HF => ?_)
  refine wc_extract (v := .bool y2) HF nS rfl rfl rfl rfl (fun a HF => ?_)
  refine wc_assign HF nS rfl rfl rfl (fun a HF => ?_)
  refine wc_assign HF nS rfl rfl rfl (fun a HF => ?_)
  refine wc_end ?_
  refine then_n ?_
  refine wp_seq ?_
  refine wp_seq ?_
  refine wc_text ?_
  refine wc_move HF nS rfl rfl rfl (fun a HF => ?_)
  refine wc_not HF nS rfl rfl rfl (fun a HF => ?_)
  refine wc_move HF nS rfl rfl rfl (fun a HF => ?_)
  by_cases hb1 : y2 = true
  have h := (if_pos hb1).symm.trans h
  refine wc_move HF nS rfl (HF.wy rfl rfl rfl rfl (notT hb1)) rfl (fun a HF => ?_)
  refine wc_lenR HF nS Try.underlying62 rfl (HF.wy rfl rfl rfl rfl (notT hb1)) rfl (fun a HF => ?_)
  refine wc_bin HF nS rfl rfl b_gt (HF.wy rfl rfl rfl rfl (notT hb1)) rfl (fun a HF => ?_)
  refine wc_pick (b := false) HF nS rfl (notT hb1) rfl rfl rfl (fun a HF => ?_)
  refine wc_end ?_
  refine then_n ?_
  by_cases hb2 : 24 < (y1.length : Int)
  have h := (if_pos hb2).symm.trans h
  refine wp_if (b' := true) HF rfl (decide_eq_true hb2) ?_
  refine wp_seq ?_
  refine wc_text ?_
  refine wc_assign HF nS rfl rfl rfl (fun a HF => ?_)
  refine wc_assign HF nS rfl rfl rfl (fun a HF => ?_)
  refine wc_end ?_
  refine then_n ?_
  refine wp_ret ?_
  have HT := HT.nilrow (E := I4) 25
  have hj1 := Option.some.inj h
  obtain ⟨hi1, hj2⟩ := Prod.mk.inj hj1
  subst hi1
  subst hj2
  refine then_r (?_)
  refine bp_ret HF (res_two rfl HF rfl rfl) ?_
  have HT := HT.t1
  exact ⟨none, 0, 0, rfl, HT⟩
  have h := (if_neg hb2).symm.trans h
  refine wp_if (b' := false) HF rfl (decide_eq_false hb2) ?_
  refine wp_skip ?_
  refine then_n ?_
  refine wp_seq ?_
  refine wc_text ?_
  refine wc_bslice (l := ([] : List I4)) (cs := []) (A := []) HF HT bs35_0 rfl rfl (gives_flat rfl) rfl (by decide) rfl rfl (fun p1 w HT hb  => ⟨nS, fun a HF => ?_⟩)
  refine wc_assign HF nS rfl rfl rfl (fun a HF => ?_)
  refine wc_end ?_
  refine then_n ?_
  obtain ⟨q1, hx2, h⟩ := obs h
  refine wp_cut (fun a w => ∃ z1 a2 n2 c2, q1 = .brk z1 ∧ Fr a 46 [(6, .slice a2 n2 c2)] ∧ St w0 (fun _ => False) w [Own 25 (rowT z1) (.slice a2 n2 c2)]) ?_ ?_
  have hk1 := h
  have h := hx2
  refine wp_seq ?_
  refine wc_text ?_
  refine wc_move HF nS rfl rfl rfl (fun a HF => ?_)
  refine wc_lenR HF nS Try.underlying62 rfl rfl rfl (fun a HF => ?_)
  refine wc_move HF nS rfl rfl rfl (fun a HF => ?_)
  refine wc_end ?_
  refine then_n ?_
  refine wp_block ?_
  refine wp_loopN (fun k1 a w => ∃ z2 z3 a3 n3 c3, m_impl_ReadCode_L0 fuel y1 k1 z2 z3 = some q1 ∧ Fr a 46 [(6, .slice a3 n3 c3), (24, .slice a1 y1.length c1), (25, .int .i64 (y1.length : Int)), (26, .int .i64 z3)] ∧ St w0 (fun _ => False) w [Own 25 (rowT z2) (.slice a3 n3 c3), Own 9 (rowT y1) (.slice a1 y1.length c1)]) fuel ⟨([] : List I4), 0, (some ⟨p1, 0, none⟩), 0, 0, h, (HF.keep (HF.keep (HF.keep (HF.keep HF.nil rfl) rfl) rfl) rfl), HT⟩ ?_
  rintro k1 a w ⟨z2, z3, a3, n3, c3, h, HF, HT⟩
  rcases k1 with _ | k1
  cases h
  rw [m_impl_ReadCode_L0] at h
  obtain rfl := (HT.rdAt 0 rfl).neq
  refine ?_
  refine wp_seq ?_
  refine wc_text ?_
  refine wc_bin HF nS rfl rfl b_lt rfl rfl (fun a HF => ?_)
  refine wc_end ?_
  refine then_n ?_
  refine wp_seq ?_
  by_cases hb3 : z3 < (y1.length : Int)
  have h := (if_pos hb3).symm.trans h
  refine wp_if (b' := true) HF rfl (decide_eq_true hb3) ?_
  refine wp_skip ?_
  refine then_n ?_
  refine wp_seq ?_
  refine wp_block ?_
  refine wp_seq ?_
  refine wc_text ?_
  obtain ⟨e1, hx3, h⟩ := obs h
  obtain ⟨b1, o1, ha1⟩ := (HT.rdAt 1 rfl).addr hx3
  refine wc_ixaddr HF nS el62 rfl ha1 ((HT.rdAt 1 rfl)).neq rfl hx3 rfl rfl (fun a HF => ?_)
  have hc1 := (HT.rdAt 1 rfl).flatAt ha1 hx3
  refine wc_load HF rfl sc9 (hc1.get 0 rfl) rfl rfl (fun a HF => ?_)
  refine wc_assign HF nS rfl rfl rfl (fun a HF => ?_)
  refine wc_end ?_
  refine then_n ?_
  refine wp_seq ?_
  refine wc_text ?_
  refine wc_move HF nS rfl rfl rfl (fun a HF => ?_)
  obtain ⟨y3, y4, y5, y6, y7, hx4, h⟩ := obs5 h
  refine wc_call HF cf14 rfl (w_impl_ReadOp fuel hx4) rfl rfl ?_
  rintro e w ⟨rfl, hE⟩
  have hb := hE.below
  have HT := HT.pure hE
  have HT : St w0 (fun _ => False) w [Own 25 (rowT z2) (.slice a3 z2.length c3), Own 9 (rowT y1) (.slice a1 y1.length c1)] := HT
  refine ⟨_, rfl, nS, fun a HF => ?_⟩
  refine wc_move HF nS rfl rfl rfl (fun a HF => ?_)
  refine wc_extract (v := .agg #[.int .i64 y3, .int .i64 y4, .int .i64 y5, .int .i64 y6]) HF nS rfl rfl rfl rfl (fun a HF => ?_)
  refine wc_extract (v := .bool y7) HF nS rfl rfl rfl rfl (fun a HF => ?_)
  refine wc_alloc (cs := [.int .i64 0, .int .i64 0, .int .i64 0, .int .i64 0]) HF HT zr25 rfl rfl rfl (fun p2 w HT hb => ⟨nS, fun a HF => ?_⟩)
  refine wc_storeB (cs' := [.int .i64 y3, .int .i64 y4, .int .i64 y5, .int .i64 y6]) HF HT rfl rfl (fun w => (ag25 w).2) rfl rfl rfl rfl rfl (fun w HT => ⟨nS, ?_⟩)
  refine wc_assign HF nS rfl rfl rfl (fun a HF => ?_)
  refine wc_end ?_
  refine then_n ?_
  refine wp_seq ?_
  refine wp_seq ?_
  refine wc_text ?_
  refine wc_move HF nS rfl rfl rfl (fun a HF => ?_)
  refine wc_not HF nS rfl rfl rfl (fun a HF => ?_)
  refine wc_end ?_
  refine then_n ?_
  by_cases hb4 : y7 = true
  have h := (if_pos hb4).symm.trans h
  refine wp_if (b' := false) HF rfl (notT hb4) ?_
  refine wp_skip ?_
  refine then_n ?_
  refine wc_text ?_
  refine wc_move HF nS rfl rfl rfl (fun a HF => ?_)
  refine wc_loadA (vs := [.int .i64 y3, .int .i64 y4, .int .i64 y5, .int .i64 y6]) HF rfl ag25 rfl ((HT.boxAt 0 rfl).part 0 4) rfl rfl (fun a HF => ?_)
  refine wc_bslice (l := ([(⟨y3, y4, y5, y6⟩ : I4)] : List I4)) (cs := [.int .i64 y3, .int .i64 y4, .int .i64 y5, .int .i64 y6]) (A := []) HF HT bs35_1 rfl rfl (gives_flat rfl) rfl (by decide) rfl rfl (fun p3 w HT hb  => ⟨nS, fun a HF => ?_⟩)
  obtain ⟨hg1, h⟩ := grd h
  have HT := HT.p2
  refine wc_append HF HT el35 rfl rfl (Nat.zero_lt_succ _) hg1 rfl rfl rfl (fun a4 c4 w HT => ⟨nS, fun a HF => ?_⟩)
  refine wc_assign HF nS rfl rfl rfl (fun a HF => ?_)
  refine wc_end ?_
  refine blk_n ?_
  refine then_n ?_
  refine wc_text ?_
  obtain ⟨hg2, h⟩ := grd h
  refine wc_bin HF nS rfl rfl (b_add hg2) rfl rfl (fun a HF => ?_)
  refine wc_move HF nS rfl rfl rfl (fun a HF => ?_)
  refine wc_end ?_
  have HT := HT.p2.p1.t2
  exact then_n ⟨k1, Nat.lt_succ_self k1, z2 ++ ([(⟨y3, y4, y5, y6⟩ : I4)] : List I4), z3 + 1, a4, (z2 ++ ([(⟨y3, y4, y5, y6⟩ : I4)] : List I4)).length, c4, h, (HF.keep (HF.keep (HF.keep (HF.keep HF.nil rfl) rfl) rfl) rfl), HT⟩
  have h := (if_neg hb4).symm.trans h
  refine wp_if (b' := true) HF rfl (notF (Bool.eq_false_iff.2 hb4)) ?_
  refine wp_seq ?_
  refine wc_text ?_
  refine wc_assign HF nS rfl rfl rfl (fun a HF => ?_)
  refine wc_assign HF nS rfl rfl rfl (fun a HF => ?_)
  refine wc_end ?_
  refine then_n ?_
  refine wp_ret ?_
  have HT := HT.nilrow (E := I4) 25
  obtain rfl := Option.some.inj h
  have h := retL hk1
  have hj3 := Option.some.inj h
  obtain ⟨hi3, hj4⟩ := Prod.mk.inj hj3
  subst hi3
  subst hj4
  refine then_r (blk_r (then_r (then_r (blk_r (then_r (?_))))))
  refine bp_ret HF (res_two rfl HF rfl rfl) ?_
  have HT := HT.t1
  exact ⟨none, 0, 0, rfl, HT⟩
  have h := (if_neg hb3).symm.trans h
  refine wp_if (b' := false) HF rfl (decide_eq_false hb3) ?_
  refine wp_exit ?_
  refine then_x (then_x (?_))
  refine blk_x ?_
  have HT := HT.t1
  exact then_n ⟨z2, a3, z2.length, c3, (Option.some.inj h).symm, (HF.keep HF.nil rfl), HT⟩
  rintro a w ⟨z1, a2, n2, c2, rfl, HF, HT⟩
  have h := brkL1u h
  obtain rfl := (HT.rdAt 0 rfl).neq
  refine ?_
  refine wp_seq ?_
  refine wp_seq ?_
  refine wc_text ?_
  refine wc_move HF nS rfl rfl rfl (fun a HF => ?_)
  obtain ⟨y8, hx5, h⟩ := obs h
  refine wc_call HF cf53 rfl (w_impl_CodeOk fuel hx5 (HT.rdAt 0 rfl)) rfl rfl ?_
  rintro e w ⟨rfl, hE⟩
  have hb := hE.below
  have HT := HT.pure hE
  have HT : St w0 (fun _ => False) w [Own 25 (rowT z1) (.slice a2 z1.length c2)] := HT
  refine ⟨_, rfl, nS, fun a HF => ?_⟩
  refine wc_not HF nS rfl rfl rfl (fun a HF => ?_)
  refine wc_end ?_
  refine then_n ?_
  by_cases hb5 : y8 = true
  have h := (if_pos hb5).symm.trans h
  refine wp_if (b' := false) HF rfl (notT hb5) ?_
  refine wp_skip ?_
  refine then_n ?_
  refine wp_seq ?_
  refine wc_text ?_
  refine wc_move HF nS rfl rfl rfl (fun a HF => ?_)
  refine wc_assign HF nS rfl rfl rfl (fun a HF => ?_)
  refine wc_assign HF nS rfl rfl rfl (fun a HF => ?_)
  refine wc_end ?_
  refine then_n ?_
  refine wp_ret ?_
  have hj5 := Option.some.inj h
  obtain ⟨hi5, hj6⟩ := Prod.mk.inj hj5
  subst hi5
  subst hj6
  refine bp_ret HF (res_two rfl HF rfl rfl) ?_
  exact ⟨a2, z1.length, c2, rfl, HT⟩
  have h := (if_neg hb5).symm.trans h
  refine wp_if (b' := true) HF rfl (notF (Bool.eq_false_iff.2 hb5)) ?_
  refine wp_seq ?_
  refine wc_text ?_
  refine wc_assign HF nS rfl rfl rfl (fun a HF => ?_)
  refine wc_assign HF nS rfl rfl rfl (fun a HF => ?_)
  refine wc_end ?_
  refine then_n ?_
  refine wp_ret ?_
  have HT := HT.nilrow (E := I4) 25
  have hj7 := Option.some.inj h
  obtain ⟨hi7, hj8⟩ := Prod.mk.inj hj7
  subst hi7
  subst hj8
  refine then_r (?_)
  refine bp_ret HF (res_two rfl HF rfl rfl) ?_
  have HT := HT.t1
  exact ⟨none, 0, 0, rfl, HT⟩
  have h := (if_neg hb1).symm.trans h
  refine wc_skip HF nS (HF.wn rfl rfl rfl rfl (notF (Bool.eq_false_iff.2 hb1))) rfl (fun a HF => ?_)
  refine wc_skip HF nS (HF.wn rfl rfl rfl rfl (notF (Bool.eq_false_iff.2 hb1))) rfl (fun a HF => ?_)
  refine wc_skip HF nS (HF.wn rfl rfl rfl rfl (notF (Bool.eq_false_iff.2 hb1))) rfl (fun a HF => ?_)
  refine wc_pick (b := true) HF nS rfl (notF (Bool.eq_false_iff.2 hb1)) rfl rfl rfl (fun a HF => ?_)
  refine wc_end ?_
  refine then_n ?_
  refine wp_if (b' := true) HF rfl rfl ?_
  refine wp_seq ?_
  refine wc_text ?_
  refine wc_assign HF nS rfl rfl rfl (fun a HF => ?_)
  refine wc_assign HF nS rfl rfl rfl (fun a HF => ?_)
  refine wc_end ?_
  refine then_n ?_
  refine wp_ret ?_
  have HT := HT.nilrow (E := I4) 25
  have hj9 := Option.some.inj h
  obtain ⟨hi9, hj10⟩ := Prod.mk.inj hj9
  subst hi9
  subst hj10
  refine then_r (?_)
  refine bp_ret HF (res_two rfl HF rfl rfl) ?_
  have HT := HT.t1
  exact ⟨none, 0, 0, rfl, HT⟩

def m_spec_l5Skip_L0 (fuel : Nat) (x0 : List I4) (x1 : Int) (e1 : I4) : Nat → Int → Int → Option (Lp Int Bool)
  | 0, _, _ => none
  | k1 + 1, z2, z3 =>
    if z3 < ((x1 + 1) + e1.c) then
      (
        (
          (at? x0 z3).bind fun e2 =>
          if e2.a = 8 then
            if in64 (z2 + 1) then
              some (z2 + 1)
            else none
          else
          some z2).bind fun z5 =>
        (
          (at? x0 z3).bind fun e3 =>
          if e3.a = 9 then
            if in64 (z5 - 1) then
              some (z5 - 1)
            else none
          else
          some z5).bind fun z6 =>
        if z6 < 0 then
          some (.ret false)
        else
        some (.brk z6)).bind <| contM <| un1 fun z4 =>
      if in64 (z3 + 1) then
        m_spec_l5Skip_L0 fuel x0 x1 e1 k1 z4 (z3 + 1)
      else none
    else
    some (.brk z2)

def m_spec_l5Skip (fuel : Nat) (x0 : List I4) (x1 : Int) : Option Bool :=
  if in64 (x1 + 1) then
    (at? x0 x1).bind fun e1 =>
    if in64 ((x1 + 1) + e1.c) then
      if (x0.length : Int) < ((x1 + 1) + e1.c) then
        some false
      else
      (
        if in64 (x1 + 1) then
          m_spec_l5Skip_L0 fuel x0 x1 e1 fuel 0 (x1 + 1)
        else none).bind <| contL <| un1 fun z1 =>
      some (decide (z1 = 0))
    else none
  else none

set_option maxRecDepth 100000 in
set_option maxHeartbeats 4000000 in
theorem w_spec_l5Skip (fuel : Nat) {x0 : List I4} {x1 : Int} {a_x0 : Option Addr} {n_x0 c_x0 : Nat} {r0 : Bool} {w0 : World} (h : m_spec_l5Skip fuel x0 x1 = some r0) (hr_x0 : RdT (fun b => ¬ False) w0 (rowT x0) (.slice a_x0 n_x0 c_x0)) :
    Calls Try.prog 82 #[.slice a_x0 n_x0 c_x0, .int .i64 x1] w0 fun e w => e = .returned (.bool r0) ∧ St w0 (fun _ => False) w [] := by
  obtain rfl := hr_x0.neq
  have HT : St w0 (fun _ => False) w0 [] := St.init0
  rw [m_spec_l5Skip] at h
  refine calls_fr (n := 47) [.slice a_x0 x0.length c_x0, .int .i64 x1] Try.func82 rfl rfl rfl (fun a HF => ?_)
  have HT : St w0 (fun _ => False) w0 [] := HT
  refine wp_seq ?_
  refine wc_text ?_
  refine wc_assign HF nS rfl rfl rfl (fun a HF => ?_)
  refine wc_end ?_
  refine then_n ?_
  refine wp_seq ?_
  refine wc_text ?_
  refine wc_move HF nS rfl rfl rfl (fun a HF => ?_)
  obtain ⟨hg1, h⟩ := grd h
  refine wc_bin HF nS rfl rfl (b_add hg1) rfl rfl (fun a HF => ?_)
  refine wc_move HF nS rfl rfl rfl (fun a HF => ?_)
  refine wc_move HF nS rfl rfl rfl (fun a HF => ?_)
  obtain ⟨e1, hx1, h⟩ := obs h
  obtain ⟨b1, o1, ha1⟩ := (HT.ro hr_x0).any.addr hx1
  refine wc_ixaddr HF nS el35 rfl ha1 ((HT.ro hr_x0).any).neq rfl hx1 rfl rfl (fun a HF => ?_)
  refine wc_faddr HF nS rfl fl25_2 rfl rfl (fun a HF => ?_)
  have hc1 := (HT.ro hr_x0).any.flatAt ha1 hx1
  refine wc_load HF rfl sc3 (hc1.get 2 rfl) rfl rfl (fun a HF => ?_)
  obtain ⟨hg2, h⟩ := grd h
  refine wc_bin HF nS rfl rfl (b_add hg2) rfl rfl (fun a HF => ?_)
  refine wc_assign HF nS rfl rfl rfl (fun a HF => ?_)
  refine wc_end ?_
  refine then_n ?_
  refine wp_seq ?_
  refine wp_seq ?_
  refine wc_text ?_
  refine wc_move HF nS rfl rfl rfl (fun a HF => ?_)
  refine wc_move HF nS rfl rfl rfl (fun a HF => ?_)
  refine wc_lenR HF nS Try.underlying35 rfl rfl rfl (fun a HF => ?_)
  refine wc_bin HF nS rfl rfl b_gt rfl rfl (fun a HF => ?_)
  refine wc_end ?_
  refine then_n ?_
  by_cases hb1 : (x0.length : Int) < ((x1 + 1) + e1.c)
  have h := (if_pos hb1).symm.trans h
  refine wp_if (b' := true) HF rfl (decide_eq_true hb1) ?_
  refine wp_seq ?_
  refine wc_text ?_
  refine wc_assign HF nS rfl rfl rfl (fun a HF => ?_)
  refine wc_end ?_
  refine then_n ?_
  refine wp_ret ?_
  obtain rfl := Option.some.inj h
  refine then_r (?_)
  refine bp_ret HF (res_one rfl HF rfl) ?_
  exact ⟨rfl, HT⟩
  have h := (if_neg hb1).symm.trans h
  refine wp_if (b' := false) HF rfl (decide_eq_false hb1) ?_
  refine wp_skip ?_
  refine then_n ?_
  refine wp_seq ?_
  refine wc_text ?_
  refine wc_assign HF nS rfl rfl rfl (fun a HF => ?_)
  refine wc_end ?_
  refine then_n ?_
  obtain ⟨q1, hx2, h⟩ := obs h
  refine wp_cut (fun a w => ∃ z1, q1 = .brk z1 ∧ Fr a 47 [(6, .int .i64 z1)] ∧ St w0 (fun _ => False) w []) ?_ ?_
  have hk1 := h
  have h := hx2
  refine wp_seq ?_
  refine wc_text ?_
  refine wc_move HF nS rfl rfl rfl (fun a HF => ?_)
  obtain ⟨hg3, h⟩ := grd h
  refine wc_bin HF nS rfl rfl (b_add hg3) rfl rfl (fun a HF => ?_)
  refine wc_assign HF nS rfl rfl rfl (fun a HF => ?_)
  refine wc_end ?_
  refine then_n ?_
  refine wp_block ?_
  refine wp_loopN (fun k1 a w => ∃ z2 z3, m_spec_l5Skip_L0 fuel x0 x1 e1 k1 z2 z3 = some q1 ∧ Fr a 47 [(0, .slice a_x0 x0.length c_x0), (5, .int .i64 ((x1 + 1) + e1.c)), (6, .int .i64 z2), (7, .int .i64 z3)] ∧ St w0 (fun _ => False) w []) fuel ⟨0, x1 + 1, h, (HF.keep (HF.keep (HF.keep (HF.keep HF.nil rfl) rfl) rfl) rfl), HT⟩ ?_
  rintro k1 a w ⟨z2, z3, h, HF, HT⟩
  rcases k1 with _ | k1
  cases h
  rw [m_spec_l5Skip_L0] at h
  refine ?_
  refine wp_seq ?_
  refine wp_seq ?_
  refine wc_text ?_
  refine wc_move HF nS rfl rfl rfl (fun a HF => ?_)
  refine wc_move HF nS rfl rfl rfl (fun a HF => ?_)
  refine wc_bin HF nS rfl rfl b_lt rfl rfl (fun a HF => ?_)
  refine wc_end ?_
  refine then_n ?_
  by_cases hb2 : z3 < ((x1 + 1) + e1.c)
  have h := (if_pos hb2).symm.trans h
  refine wp_if (b' := true) HF rfl (decide_eq_true hb2) ?_
  refine wp_skip ?_
  refine then_n ?_
  obtain ⟨q2, hx3, h⟩ := obs h
  refine wp_cut (fun a w => ∃ z4, q2 = .brk z4 ∧ Fr a 47 [(0, .slice a_x0 x0.length c_x0), (5, .int .i64 ((x1 + 1) + e1.c)), (6, .int .i64 z4), (7, .int .i64 z3)] ∧ St w0 (fun _ => False) w []) ?_ ?_
  have hk2 := h
  have h := hx3
  refine wp_block ?_
  obtain ⟨z5, hx4, h⟩ := obs h
  refine wp_cut (fun a w => Fr a 47 [(0, .slice a_x0 x0.length c_x0), (5, .int .i64 ((x1 + 1) + e1.c)), (6, .int .i64 z5), (7, .int .i64 z3)] ∧ St w0 (fun _ => False) w []) ?_ ?_
  have hk3 := h
  have h := hx4
  refine wp_seq ?_
  refine wc_text ?_
  refine wc_move HF nS rfl rfl rfl (fun a HF => ?_)
  refine wc_move HF nS rfl rfl rfl (fun a HF => ?_)
  obtain ⟨e2, hx5, h⟩ := obs h
  refine wc_ixaddr HF nS el35 rfl ha1 ((HT.ro hr_x0).any).neq rfl hx5 rfl rfl (fun a HF => ?_)
  refine wc_faddr HF nS rfl fl25_0 rfl rfl (fun a HF => ?_)
  have hc2 := (HT.ro hr_x0).any.flatAt ha1 hx5
  refine wc_load HF rfl sc3 (hc2.get 0 rfl) rfl rfl (fun a HF => ?_)
  refine wc_bin HF nS rfl rfl b_eq rfl rfl (fun a HF => ?_)
  refine wc_end ?_
  refine then_n ?_
  by_cases hb3 : e2.a = 8
  have h := (if_pos hb3).symm.trans h
  refine wp_if (b' := true) HF rfl (decide_eq_true hb3) ?_
  refine wc_text ?_
  refine wc_move HF nS rfl rfl rfl (fun a HF => ?_)
  obtain ⟨hg4, h⟩ := grd h
  refine wc_bin HF nS rfl rfl (b_add hg4) rfl rfl (fun a HF => ?_)
  refine wc_assign HF nS rfl rfl rfl (fun a HF => ?_)
  refine wc_end ?_
  obtain rfl := Option.some.inj h
  exact then_n ⟨(HF.keep (HF.keep (HF.keep (HF.keep HF.nil rfl) rfl) rfl) rfl), HT⟩
  have h := (if_neg hb3).symm.trans h
  refine wp_if (b' := false) HF rfl (decide_eq_false hb3) ?_
  refine wp_skip ?_
  obtain rfl := Option.some.inj h
  exact then_n ⟨(HF.keep (HF.keep (HF.keep (HF.keep HF.nil rfl) rfl) rfl) rfl), HT⟩
  rintro a w ⟨HF, HT⟩
  refine ?_
  obtain ⟨z6, hx6, h⟩ := obs h
  refine wp_cut (fun a w => Fr a 47 [(0, .slice a_x0 x0.length c_x0), (5, .int .i64 ((x1 + 1) + e1.c)), (6, .int .i64 z6), (7, .int .i64 z3)] ∧ St w0 (fun _ => False) w []) ?_ ?_
  have hk3 := h
  have h := hx6
  refine wp_seq ?_
  refine wc_text ?_
  refine wc_move HF nS rfl rfl rfl (fun a HF => ?_)
  refine wc_move HF nS rfl rfl rfl (fun a HF => ?_)
  obtain ⟨e3, hx7, h⟩ := obs h
  refine wc_ixaddr HF nS el35 rfl ha1 ((HT.ro hr_x0).any).neq rfl hx7 rfl rfl (fun a HF => ?_)
  refine wc_faddr HF nS rfl fl25_0 rfl rfl (fun a HF => ?_)
  have hc3 := (HT.ro hr_x0).any.flatAt ha1 hx7
  refine wc_load HF rfl sc3 (hc3.get 0 rfl) rfl rfl (fun a HF => ?_)
  refine wc_bin HF nS rfl rfl b_eq rfl rfl (fun a HF => ?_)
  refine wc_end ?_
  refine then_n ?_
  by_cases hb4 : e3.a = 9
  have h := (if_pos hb4).symm.trans h
  refine wp_if (b' := true) HF rfl (decide_eq_true hb4) ?_
  refine wc_text ?_
  refine wc_move HF nS rfl rfl rfl (fun a HF => ?_)
  obtain ⟨hg5, h⟩ := grd h
  refine wc_bin HF nS rfl rfl (b_sub hg5) rfl rfl (fun a HF => ?_)
  refine wc_assign HF nS rfl rfl rfl (fun a HF => ?_)
  refine wc_end ?_
  obtain rfl := Option.some.inj h
  exact then_n ⟨(HF.keep (HF.keep (HF.keep (HF.keep HF.nil rfl) rfl) rfl) rfl), HT⟩
  have h := (if_neg hb4).symm.trans h
  refine wp_if (b' := false) HF rfl (decide_eq_false hb4) ?_
  refine wp_skip ?_
  obtain rfl := Option.some.inj h
  exact then_n ⟨(HF.keep (HF.keep (HF.keep (HF.keep HF.nil rfl) rfl) rfl) rfl), HT⟩
  rintro a w ⟨HF, HT⟩
  refine ?_
  refine wp_seq ?_
  refine wc_text ?_
  refine wc_move HF nS rfl rfl rfl (fun a HF => ?_)
  refine wc_bin HF nS rfl rfl b_lt rfl rfl (fun a HF => ?_)
  refine wc_end ?_
  refine then_n ?_
  by_cases hb5 : z6 < 0
  have h := (if_pos hb5).symm.trans h
  refine wp_if (b' := true) HF rfl (decide_eq_true hb5) ?_
  refine wp_seq ?_
  refine wc_text ?_
  refine wc_assign HF nS rfl rfl rfl (fun a HF => ?_)
  refine wc_end ?_
  refine then_n ?_
  refine wp_ret ?_
  obtain rfl := Option.some.inj h
  have h := retM hk2
  obtain rfl := Option.some.inj h
  have h := retL hk1
  obtain rfl := Option.some.inj h
  refine blk_r (then_r (then_r (blk_r (then_r (?_)))))
  refine bp_ret HF (res_one rfl HF rfl) ?_
  exact ⟨rfl, HT⟩
  have h := (if_neg hb5).symm.trans h
  refine wp_if (b' := false) HF rfl (decide_eq_false hb5) ?_
  refine wp_skip ?_
  refine blk_n ?_
  exact then_n ⟨z6, (Option.some.inj h).symm, (HF.keep (HF.keep (HF.keep (HF.keep HF.nil rfl) rfl) rfl) rfl), HT⟩
  rintro a w ⟨z4, rfl, HF, HT⟩
  have h := brkM1u h
  refine ?_
  refine wc_text ?_
  refine wc_move HF nS rfl rfl rfl (fun a HF => ?_)
  obtain ⟨hg6, h⟩ := grd h
  refine wc_bin HF nS rfl rfl (b_add hg6) rfl rfl (fun a HF => ?_)
  refine wc_assign HF nS rfl rfl rfl (fun a HF => ?_)
  refine wc_end ?_
  exact then_n ⟨k1, Nat.lt_succ_self k1, z4, z3 + 1, h, (HF.keep (HF.keep (HF.keep (HF.keep HF.nil rfl) rfl) rfl) rfl), HT⟩
  have h := (if_neg hb2).symm.trans h
  refine wp_if (b' := false) HF rfl (decide_eq_false hb2) ?_
  refine wp_exit ?_
  refine then_x (then_x (?_))
  refine blk_x ?_
  exact then_n ⟨z2, (Option.some.inj h).symm, (HF.keep HF.nil rfl), HT⟩
  rintro a w ⟨z1, rfl, HF, HT⟩
  have h := brkL1u h
  refine ?_
  refine wp_seq ?_
  refine wc_text ?_
  refine wc_move HF nS rfl rfl rfl (fun a HF => ?_)
  refine wc_bin HF nS rfl rfl b_eq rfl rfl (fun a HF => ?_)
  refine wc_assign HF nS rfl rfl rfl (fun a HF => ?_)
  refine wc_end ?_
  refine then_n ?_
  refine wp_ret ?_
  obtain rfl := Option.some.inj h
  refine bp_ret HF (res_one rfl HF rfl) ?_
  exact ⟨rfl, HT⟩

def m_spec_CodeOk_L0 (fuel : Nat) (x0 : List I4) : Nat → Int → Int → Int → Option (Lp Int Bool)
  | 0, _, _, _ => none
  | k1 + 1, z2, z3, z4 =>
    if z4 < (x0.length : Int) then
      (
        (at? x0 z4).bind fun e1 =>
        (m_spec_OpOk fuel e1.a e1.b e1.c e1.d).bind fun y1 =>
        if y1 = true then
          (
            if e1.a = 8 then
              if in64 (z2 + 1) then
                some (.brk (z2 + 1, z3))
              else none
            else
            if e1.a = 9 then
              if in64 (z2 - 1) then
                some (.brk (z2 - 1, z3))
              else none
            else
            if e1.a = 7 then
              (m_spec_l5Skip fuel x0 z4).bind fun y2 =>
              if y2 = true then
                some (.brk (z2, z3))
              else
              some (.ret false)
            else
            if e1.a = 11 then
              if in64 (z3 + 1) then
                if 0 < z2 then
                  some (.ret false)
                else
                if 1 < (z3 + 1) then
                  some (.ret false)
                else
                some (.brk (z2, z3 + 1))
              else none
            else
            some (.brk (z2, z3))).bind <| contM <| un2 fun z7 z8 =>
          if z7 < 0 then
            some (.ret false)
          else
          some (.brk (z7, z8))
        else
        some (.ret false)).bind <| contM <| un2 fun z5 z6 =>
      if in64 (z4 + 1) then
        m_spec_CodeOk_L0 fuel x0 k1 z5 z6 (z4 + 1)
      else none
    else
    some (.brk z2)

def m_spec_CodeOk (fuel : Nat) (x0 : List I4) : Option Bool :=
  if 24 < (x0.length : Int) then
    some false
  else
  (m_spec_CodeOk_L0 fuel x0 fuel 0 0 0).bind <| contL <| un1 fun z1 =>
  some (decide (z1 = 0))

set_option maxRecDepth 100000 in
set_option maxHeartbeats 4000000 in
theorem w_spec_CodeOk (fuel : Nat) {x0 : List I4} {a_x0 : Option Addr} {n_x0 c_x0 : Nat} {r0 : Bool} {w0 : World} (h : m_spec_CodeOk fuel x0 = some r0) (hr_x0 : RdT (fun b => ¬ False) w0 (rowT x0) (.slice a_x0 n_x0 c_x0)) :
    Calls Try.prog 52 #[.slice a_x0 n_x0 c_x0] w0 fun e w => e = .returned (.bool r0) ∧ St w0 (fun _ => False) w [] := by
  obtain rfl := hr_x0.neq
  have HT : St w0 (fun _ => False) w0 [] := St.init0
  rw [m_spec_CodeOk] at h
  refine calls_fr (n := 54) [.slice a_x0 x0.length c_x0] Try.func52 rfl rfl rfl (fun a HF => ?_)
  have HT : St w0 (fun _ => False) w0 [] := HT
  refine wp_seq ?_
  refine wc_text ?_
  refine wc_assign HF nS rfl rfl rfl (fun a HF => ?_)
  refine wc_end ?_
  refine then_n ?_
  refine wp_seq ?_
  refine wp_seq ?_
  refine wc_text ?_
  refine wc_move HF nS rfl rfl rfl (fun a HF => ?_)
  refine wc_lenR HF nS Try.underlying35 rfl rfl rfl (fun a HF => ?_)
  refine wc_bin HF nS rfl rfl b_gt rfl rfl (fun a HF => ?_)
  refine wc_end ?_
  refine then_n ?_
  by_cases hb1 : 24 < (x0.length : Int)
  have h := (if_pos hb1).symm.trans h
  refine wp_if (b' := true) HF rfl (decide_eq_true hb1) ?_
  refine wp_seq ?_
  refine wc_text ?_
  refine wc_assign HF nS rfl rfl rfl (fun a HF => ?_)
  refine wc_end ?_
  refine then_n ?_
  refine wp_ret ?_
  obtain rfl := Option.some.inj h
  refine then_r (?_)
  refine bp_ret HF (res_one rfl HF rfl) ?_
  exact ⟨rfl, HT⟩
  have h := (if_neg hb1).symm.trans h
  refine wp_if (b' := false) HF rfl (decide_eq_false hb1) ?_
  refine wp_skip ?_
  refine then_n ?_
  refine wp_seq ?_
  refine wc_text ?_
  refine wc_assign HF nS rfl rfl rfl (fun a HF => ?_)
  refine wc_end ?_
  refine then_n ?_
  refine wp_seq ?_
  refine wc_text ?_
  refine wc_assign HF nS rfl rfl rfl (fun a HF => ?_)
  refine wc_end ?_
  refine then_n ?_
  obtain ⟨q1, hx1, h⟩ := obs h
  refine wp_cut (fun a w => ∃ z1, q1 = .brk z1 ∧ Fr a 54 [(3, .int .i64 z1)] ∧ St w0 (fun _ => False) w []) ?_ ?_
  have hk1 := h
  have h := hx1
  refine wp_seq ?_
  refine wc_text ?_
  refine wc_assign HF nS rfl rfl rfl (fun a HF => ?_)
  refine wc_end ?_
  refine then_n ?_
  refine wp_block ?_
  refine wp_loopN (fun k1 a w => ∃ z2 z3 z4, m_spec_CodeOk_L0 fuel x0 k1 z2 z3 z4 = some q1 ∧ Fr a 54 [(0, .slice a_x0 x0.length c_x0), (3, .int .i64 z2), (4, .int .i64 z3), (5, .int .i64 z4)] ∧ St w0 (fun _ => False) w []) fuel ⟨0, 0, 0, h, (HF.keep (HF.keep (HF.keep (HF.keep HF.nil rfl) rfl) rfl) rfl), HT⟩ ?_
  rintro k1 a w ⟨z2, z3, z4, h, HF, HT⟩
  rcases k1 with _ | k1
  cases h
  rw [m_spec_CodeOk_L0] at h
  refine ?_
  refine wp_seq ?_
  refine wp_seq ?_
  refine wc_text ?_
  refine wc_move HF nS rfl rfl rfl (fun a HF => ?_)
  refine wc_move HF nS rfl rfl rfl (fun a HF => ?_)
  refine wc_lenR HF nS Try.underlying35 rfl rfl rfl (fun a HF => ?_)
  refine wc_bin HF nS rfl rfl b_lt rfl rfl (fun a HF => ?_)
  refine wc_end ?_
  refine then_n ?_
  by_cases hb2 : z4 < (x0.length : Int)
  have h := (if_pos hb2).symm.trans h
  refine wp_if (b' := true) HF rfl (decide_eq_true hb2) ?_
  refine wp_skip ?_
  refine then_n ?_
  obtain ⟨q2, hx2, h⟩ := obs h
  refine wp_cut (fun a w => ∃ z5 z6, q2 = .brk (z5, z6) ∧ Fr a 54 [(0, .slice a_x0 x0.length c_x0), (3, .int .i64 z5), (4, .int .i64 z6), (5, .int .i64 z4)] ∧ St w0 (fun _ => False) w []) ?_ ?_
  have hk2 := h
  have h := hx2
  refine wp_block ?_
  refine wp_seq ?_
  refine wp_seq ?_
  refine wc_text ?_
  refine wc_move HF nS rfl rfl rfl (fun a HF => ?_)
  refine wc_move HF nS rfl rfl rfl (fun a HF => ?_)
  obtain ⟨e1, hx3, h⟩ := obs h
  obtain ⟨b1, o1, ha1⟩ := (HT.ro hr_x0).any.addr hx3
  refine wc_ixaddr HF nS el35 rfl ha1 ((HT.ro hr_x0).any).neq rfl hx3 rfl rfl (fun a HF => ?_)
  have hc1 := (HT.ro hr_x0).any.flatAt ha1 hx3
  refine wc_loadA (vs := [.int .i64 e1.a, .int .i64 e1.b, .int .i64 e1.c, .int .i64 e1.d]) HF rfl ag25 rfl (hc1.part 0 4) rfl rfl (fun a HF => ?_)
  obtain ⟨y1, hx4, h⟩ := obs h
  refine wc_call HF cf40 rfl (w_spec_OpOk fuel hx4) rfl rfl ?_
  rintro e w ⟨rfl, hE⟩
  have hb := hE.below
  have HT := HT.pure hE
  have HT : St w0 (fun _ => False) w [] := HT
  refine ⟨_, rfl, nS, fun a HF => ?_⟩
  refine wc_not HF nS rfl rfl rfl (fun a HF => ?_)
  refine wc_end ?_
  refine then_n ?_
  by_cases hb3 : y1 = true
  have h := (if_pos hb3).symm.trans h
  refine wp_if (b' := false) HF rfl (notT hb3) ?_
  refine wp_skip ?_
  refine then_n ?_
  obtain ⟨q3, hx5, h⟩ := obs h
  refine wp_cut (fun a w => ∃ z7 z8, q3 = .brk (z7, z8) ∧ Fr a 54 [(0, .slice a_x0 x0.length c_x0), (3, .int .i64 z7), (4, .int .i64 z8), (5, .int .i64 z4)] ∧ St w0 (fun _ => False) w []) ?_ ?_
  have hk3 := h
  have h := hx5
  refine wp_seq ?_
  refine wc_text ?_
  refine wc_move HF nS rfl rfl rfl (fun a HF => ?_)
  refine wc_move HF nS rfl rfl rfl (fun a HF => ?_)
  refine wc_ixaddr HF nS el35 rfl ha1 ((HT.ro hr_x0).any).neq rfl hx3 rfl rfl (fun a HF => ?_)
  refine wc_faddr HF nS rfl fl25_0 rfl rfl (fun a HF => ?_)
  have hc2 := (HT.ro hr_x0).any.flatAt ha1 hx3
  refine wc_load HF rfl sc3 (hc2.get 0 rfl) rfl rfl (fun a HF => ?_)
  refine wc_end ?_
  refine then_n ?_
  refine wp_block ?_
  refine wp_seq ?_
  refine wc_text ?_
  refine wc_bin HF nS rfl rfl b_eq rfl rfl (fun a HF => ?_)
  refine wc_assign HF nS rfl rfl rfl (fun a HF => ?_)
  refine wc_end ?_
  refine then_n ?_
  by_cases hb4 : e1.a = 8
  have h := (if_pos hb4).symm.trans h
  refine wp_if (b' := true) HF rfl (decide_eq_true hb4) ?_
  refine wc_text ?_
  refine wc_move HF nS rfl rfl rfl (fun a HF => ?_)
  obtain ⟨hg1, h⟩ := grd h
  refine wc_bin HF nS rfl rfl (b_add hg1) rfl rfl (fun a HF => ?_)
  refine wc_assign HF nS rfl rfl rfl (fun a HF => ?_)
  refine wc_end ?_
  refine blk_n ?_
  exact then_n ⟨z2 + 1, z3, (Option.some.inj h).symm, (HF.keep (HF.keep (HF.keep (HF.keep HF.nil rfl) rfl) rfl) rfl), HT⟩
  have h := (if_neg hb4).symm.trans h
  refine wp_if (b' := false) HF rfl (decide_eq_false hb4) ?_
  refine wp_seq ?_
  refine wc_text ?_
  refine wc_bin HF nS rfl rfl b_eq rfl rfl (fun a HF => ?_)
  refine wc_assign HF nS rfl rfl rfl (fun a HF => ?_)
  refine wc_end ?_
  refine then_n ?_
  by_cases hb5 : e1.a = 9
  have h := (if_pos hb5).symm.trans h
  refine wp_if (b' := true) HF rfl (decide_eq_true hb5) ?_
  refine wc_text ?_
  refine wc_move HF nS rfl rfl rfl (fun a HF => ?_)
  obtain ⟨hg2, h⟩ := grd h
  refine wc_bin HF nS rfl rfl (b_sub hg2) rfl rfl (fun a HF => ?_)
  refine wc_assign HF nS rfl rfl rfl (fun a HF => ?_)
  refine wc_end ?_
  refine blk_n ?_
  exact then_n ⟨z2 - 1, z3, (Option.some.inj h).symm, (HF.keep (HF.keep (HF.keep (HF.keep HF.nil rfl) rfl) rfl) rfl), HT⟩
  have h := (if_neg hb5).symm.trans h
  refine wp_if (b' := false) HF rfl (decide_eq_false hb5) ?_
  refine wp_seq ?_
  refine wc_text ?_
  refine wc_bin HF nS rfl rfl b_eq rfl rfl (fun a HF => ?_)
  refine wc_assign HF nS rfl rfl rfl (fun a HF => ?_)
  refine wc_end ?_
  refine then_n ?_
  by_cases hb6 : e1.a = 7
  have h := (if_pos hb6).symm.trans h
  refine wp_if (b' := true) HF rfl (decide_eq_true hb6) ?_
  refine wp_seq ?_
  refine wc_text ?_
  refine wc_move HF nS rfl rfl rfl (fun a HF => ?_)
  refine wc_move HF nS rfl rfl rfl (fun a HF => ?_)
  obtain ⟨y2, hx6, h⟩ := obs h
  refine wc_call HF cf82 rfl (w_spec_l5Skip fuel hx6 (HT.ro hr_x0).any) rfl rfl ?_
  rintro e w ⟨rfl, hE⟩
  have hb := hE.below
  have HT := HT.pure hE
  have HT : St w0 (fun _ => False) w [] := HT
  refine ⟨_, rfl, nS, fun a HF => ?_⟩
  refine wc_not HF nS rfl rfl rfl (fun a HF => ?_)
  refine wc_end ?_
  refine then_n ?_
  by_cases hb7 : y2 = true
  have h := (if_pos hb7).symm.trans h
  refine wp_if (b' := false) HF rfl (notT hb7) ?_
  refine wp_skip ?_
  refine blk_n ?_
  exact then_n ⟨z2, z3, (Option.some.inj h).symm, (HF.keep (HF.keep (HF.keep (HF.keep HF.nil rfl) rfl) rfl) rfl), HT⟩
  have h := (if_neg hb7).symm.trans h
  refine wp_if (b' := true) HF rfl (notF (Bool.eq_false_iff.2 hb7)) ?_
  refine wp_seq ?_
  refine wc_text ?_
  refine wc_assign HF nS rfl rfl rfl (fun a HF => ?_)
  refine wc_end ?_
  refine then_n ?_
  refine wp_ret ?_
  obtain rfl := Option.some.inj h
  have h := retM hk3
  obtain rfl := Option.some.inj h
  have h := retM hk2
  obtain rfl := Option.some.inj h
  have h := retL hk1
  obtain rfl := Option.some.inj h
  refine blk_r (then_r (blk_r (then_r (then_r (blk_r (then_r (?_)))))))
  refine bp_ret HF (res_one rfl HF rfl) ?_
  exact ⟨rfl, HT⟩
  have h := (if_neg hb6).symm.trans h
  refine wp_if (b' := false) HF rfl (decide_eq_false hb6) ?_
  refine wp_seq ?_
  refine wc_text ?_
  refine wc_bin HF nS rfl rfl b_eq rfl rfl (fun a HF => ?_)
  refine wc_assign HF nS rfl rfl rfl (fun a HF => ?_)
  refine wc_end ?_
  refine then_n ?_
  by_cases hb8 : e1.a = 11
  have h := (if_pos hb8).symm.trans h
  refine wp_if (b' := true) HF rfl (decide_eq_true hb8) ?_
  refine wp_seq ?_
  refine wc_text ?_
  refine wc_move HF nS rfl rfl rfl (fun a HF => ?_)
  obtain ⟨hg3, h⟩ := grd h
  refine wc_bin HF nS rfl rfl (b_add hg3) rfl rfl (fun a HF => ?_)
  refine wc_assign HF nS rfl rfl rfl (fun a HF => ?_)
  refine wc_end ?_
  refine then_n ?_
  refine wp_seq ?_
  refine wc_text ?_
  refine wc_move HF nS rfl rfl rfl (fun a HF => ?_)
  refine wc_bin HF nS rfl rfl b_gt rfl rfl (fun a HF => ?_)
  refine wc_move HF nS rfl rfl rfl (fun a HF => ?_)
  by_cases hb9 : 0 < z2
  have h := (if_pos hb9).symm.trans h
  refine wc_skip HF nS (HF.wn rfl rfl rfl rfl (decide_eq_true hb9)) rfl (fun a HF => ?_)
  refine wc_skip HF nS (HF.wn rfl rfl rfl rfl (decide_eq_true hb9)) rfl (fun a HF => ?_)
  refine wc_pick (b := true) HF nS rfl (decide_eq_true hb9) rfl rfl rfl (fun a HF => ?_)
  refine wc_end ?_
  refine then_n ?_
  refine wp_if (b' := true) HF rfl rfl ?_
  refine wp_seq ?_
  refine wc_text ?_
  refine wc_assign HF nS rfl rfl rfl (fun a HF => ?_)
  refine wc_end ?_
  refine then_n ?_
  refine wp_ret ?_
  obtain rfl := Option.some.inj h
  have h := retM hk3
  obtain rfl := Option.some.inj h
  have h := retM hk2
  obtain rfl := Option.some.inj h
  have h := retL hk1
  obtain rfl := Option.some.inj h
  refine blk_r (then_r (blk_r (then_r (then_r (blk_r (then_r (?_)))))))
  refine bp_ret HF (res_one rfl HF rfl) ?_
  exact ⟨rfl, HT⟩
  have h := (if_neg hb9).symm.trans h
  refine wc_move HF nS rfl (HF.wy rfl rfl rfl rfl (decide_eq_false hb9)) rfl (fun a HF => ?_)
  refine wc_bin HF nS rfl rfl b_gt (HF.wy rfl rfl rfl rfl (decide_eq_false hb9)) rfl (fun a HF => ?_)
  refine wc_pick (b := false) HF nS rfl (decide_eq_false hb9) rfl rfl rfl (fun a HF => ?_)
  refine wc_end ?_
  refine then_n ?_
  by_cases hb10 : 1 < (z3 + 1)
  have h := (if_pos hb10).symm.trans h
  refine wp_if (b' := true) HF rfl (decide_eq_true hb10) ?_
  refine wp_seq ?_
  refine wc_text ?_
  refine wc_assign HF nS rfl rfl rfl (fun a HF => ?_)
  refine wc_end ?_
  refine then_n ?_
  refine wp_ret ?_
  obtain rfl := Option.some.inj h
  have h := retM hk3
  obtain rfl := Option.some.inj h
  have h := retM hk2
  obtain rfl := Option.some.inj h
  have h := retL hk1
  obtain rfl := Option.some.inj h
  refine blk_r (then_r (blk_r (then_r (then_r (blk_r (then_r (?_)))))))
  refine bp_ret HF (res_one rfl HF rfl) ?_
  exact ⟨rfl, HT⟩
  have h := (if_neg hb10).symm.trans h
  refine wp_if (b' := false) HF rfl (decide_eq_false hb10) ?_
  refine wp_skip ?_
  refine blk_n ?_
  exact then_n ⟨z2, z3 + 1, (Option.some.inj h).symm, (HF.keep (HF.keep (HF.keep (HF.keep HF.nil rfl) rfl) rfl) rfl), HT⟩
  have h := (if_neg hb8).symm.trans h
  refine wp_if (b' := false) HF rfl (decide_eq_false hb8) ?_
  refine wp_skip ?_
  refine blk_n ?_
  exact then_n ⟨z2, z3, (Option.some.inj h).symm, (HF.keep (HF.keep (HF.keep (HF.keep HF.nil rfl) rfl) rfl) rfl), HT⟩
  rintro a w ⟨z7, z8, rfl, HF, HT⟩
  have h := brkM2 h
  refine ?_
  refine wp_seq ?_
  refine wc_text ?_
  refine wc_move HF nS rfl rfl rfl (fun a HF => ?_)
  refine wc_bin HF nS rfl rfl b_lt rfl rfl (fun a HF => ?_)
  refine wc_end ?_
  refine then_n ?_
  by_cases hb11 : z7 < 0
  have h := (if_pos hb11).symm.trans h
  refine wp_if (b' := true) HF rfl (decide_eq_true hb11) ?_
  refine wp_seq ?_
  refine wc_text ?_
  refine wc_assign HF nS rfl rfl rfl (fun a HF => ?_)
  refine wc_end ?_
  refine then_n ?_
  refine wp_ret ?_
  obtain rfl := Option.some.inj h
  have h := retM hk2
  obtain rfl := Option.some.inj h
  have h := retL hk1
  obtain rfl := Option.some.inj h
  refine blk_r (then_r (then_r (blk_r (then_r (?_)))))
  refine bp_ret HF (res_one rfl HF rfl) ?_
  exact ⟨rfl, HT⟩
  have h := (if_neg hb11).symm.trans h
  refine wp_if (b' := false) HF rfl (decide_eq_false hb11) ?_
  refine wp_skip ?_
  refine blk_n ?_
  exact then_n ⟨z7, z8, (Option.some.inj h).symm, (HF.keep (HF.keep (HF.keep (HF.keep HF.nil rfl) rfl) rfl) rfl), HT⟩
  have h := (if_neg hb3).symm.trans h
  refine wp_if (b' := true) HF rfl (notF (Bool.eq_false_iff.2 hb3)) ?_
  refine wp_seq ?_
  refine wc_text ?_
  refine wc_assign HF nS rfl rfl rfl (fun a HF => ?_)
  refine wc_end ?_
  refine then_n ?_
  refine wp_ret ?_
  obtain rfl := Option.some.inj h
  have h := retM hk2
  obtain rfl := Option.some.inj h
  have h := retL hk1
  obtain rfl := Option.some.inj h
  refine then_r (blk_r (then_r (then_r (blk_r (then_r (?_))))))
  refine bp_ret HF (res_one rfl HF rfl) ?_
  exact ⟨rfl, HT⟩
  rintro a w ⟨z5, z6, rfl, HF, HT⟩
  have h := brkM2 h
  refine ?_
  refine wc_text ?_
  refine wc_move HF nS rfl rfl rfl (fun a HF => ?_)
  obtain ⟨hg4, h⟩ := grd h
  refine wc_bin HF nS rfl rfl (b_add hg4) rfl rfl (fun a HF => ?_)
  refine wc_assign HF nS rfl rfl rfl (fun a HF => ?_)
  refine wc_end ?_
  exact then_n ⟨k1, Nat.lt_succ_self k1, z5, z6, z4 + 1, h, (HF.keep (HF.keep (HF.keep (HF.keep HF.nil rfl) rfl) rfl) rfl), HT⟩
  have h := (if_neg hb2).symm.trans h
  refine wp_if (b' := false) HF rfl (decide_eq_false hb2) ?_
  refine wp_exit ?_
  refine then_x (then_x (?_))
  refine blk_x ?_
  exact then_n ⟨z2, (Option.some.inj h).symm, (HF.keep HF.nil rfl), HT⟩
  rintro a w ⟨z1, rfl, HF, HT⟩
  have h := brkL1u h
  refine ?_
  refine wp_seq ?_
  refine wc_text ?_
  refine wc_move HF nS rfl rfl rfl (fun a HF => ?_)
  refine wc_bin HF nS rfl rfl b_eq rfl rfl (fun a HF => ?_)
  refine wc_assign HF nS rfl rfl rfl (fun a HF => ?_)
  refine wc_end ?_
  refine then_n ?_
  refine wp_ret ?_
  obtain rfl := Option.some.inj h
  refine bp_ret HF (res_one rfl HF rfl) ?_
  exact ⟨rfl, HT⟩

def m_spec_l6Lines_L0 (fuel : Nat) (x0 : List SE) : Nat → (List I4) → Int → Option (Lp (List I4) (List I4 × Bool))
  | 0, _, _ => none
  | k1 + 1, z2, z3 =>
    if z3 < (x0.length : Int) then
      (at? x0 z3).bind fun e1 =>
      bind5 (m_spec_ReadOp fuel e1.s) fun y1 y2 y3 y4 y5 =>
      if y5 = true then
        if z2.length + 1 ≤ 17179869184 then
          if in64 (z3 + 1) then
            m_spec_l6Lines_L0 fuel x0 k1 (z2 ++ ([(⟨y1, y2, y3, y4⟩ : I4)] : List I4)) (z3 + 1)
          else none
        else none
      else
      some (.ret (([] : List I4), false))
    else
    some (.brk z2)

def m_spec_l6Lines (fuel : Nat) (x0 : List SE) : Option (List I4 × Bool) :=
  (m_spec_l6Lines_L0 fuel x0 fuel ([] : List I4) 0).bind <| contL <| un1 fun z1 =>
  some (z1, true)

set_option maxRecDepth 100000 in
set_option maxHeartbeats 4000000 in
theorem w_spec_l6Lines (fuel : Nat) {x0 : List SE} {a_x0 : Option Addr} {n_x0 c_x0 : Nat} {r0 : List I4} {r1 : Bool} {w0 : World} (h : m_spec_l6Lines fuel x0 = some (r0, r1)) (hr_x0 : RdT (fun b => ¬ False) w0 (rowT x0) (.slice a_x0 n_x0 c_x0)) :
    Calls Try.prog 54 #[.slice a_x0 n_x0 c_x0] w0 fun e w => ∃ a_r0 n_r0 c_r0, e = .returned (.tuple #[.slice a_r0 n_r0 c_r0, .bool r1]) ∧ St w0 (fun _ => False) w [Own 25 (rowT r0) (.slice a_r0 n_r0 c_r0)] := by
  obtain rfl := hr_x0.neq
  have HT : St w0 (fun _ => False) w0 [] := St.init0
  rw [m_spec_l6Lines] at h
  refine calls_fr (n := 31) [.slice a_x0 x0.length c_x0] Try.func54 rfl rfl rfl (fun a HF => ?_)
  have HT : St w0 (fun _ => False) w0 [] := HT
  refine wp_seq ?_
  refine wc_text ?_
  refine wc_assign HF nS rfl rfl rfl (fun a HF => ?_)
  refine wc_assign HF nS rfl rfl rfl (fun a HF => ?_)
  refine wc_end ?_
  refine then_n ?_
  refine wp_seq ?_
  refine wc_text ?_
  refine wc_bslice (l := ([] : List I4)) (cs := []) (A := []) HF HT bs35_0 rfl rfl (gives_flat rfl) rfl (by decide) rfl rfl (fun p1 w HT hb  => ⟨nS, fun a HF => ?_⟩)
  refine wc_assign HF nS rfl rfl rfl (fun a HF => ?_)
  refine wc_end ?_
  refine then_n ?_
  obtain ⟨q1, hx1, h⟩ := obs h
  refine wp_cut (fun a w => ∃ z1 a1 n1 c1, q1 = .brk z1 ∧ Fr a 31 [(4, .slice a1 n1 c1)] ∧ St w0 (fun _ => False) w [Own 25 (rowT z1) (.slice a1 n1 c1)]) ?_ ?_
  have hk1 := h
  have h := hx1
  refine wp_seq ?_
  refine wc_text ?_
  refine wc_assign HF nS rfl rfl rfl (fun a HF => ?_)
  refine wc_end ?_
  refine then_n ?_
  refine wp_block ?_
  refine wp_loopN (fun k1 a w => ∃ z2 z3 a2 n2 c2, m_spec_l6Lines_L0 fuel x0 k1 z2 z3 = some q1 ∧ Fr a 31 [(0, .slice a_x0 x0.length c_x0), (4, .slice a2 n2 c2), (5, .int .i64 z3)] ∧ St w0 (fun _ => False) w [Own 25 (rowT z2) (.slice a2 n2 c2)]) fuel ⟨([] : List I4), 0, (some ⟨p1, 0, none⟩), 0, 0, h, (HF.keep (HF.keep (HF.keep HF.nil rfl) rfl) rfl), HT⟩ ?_
  rintro k1 a w ⟨z2, z3, a2, n2, c2, h, HF, HT⟩
  rcases k1 with _ | k1
  cases h
  rw [m_spec_l6Lines_L0] at h
  obtain rfl := (HT.rdAt 0 rfl).neq
  refine ?_
  refine wp_seq ?_
  refine wp_seq ?_
  refine wc_text ?_
  refine wc_move HF nS rfl rfl rfl (fun a HF => ?_)
  refine wc_move HF nS rfl rfl rfl (fun a HF => ?_)
  refine wc_lenR HF nS Try.underlying62 rfl rfl rfl (fun a HF => ?_)
  refine wc_bin HF nS rfl rfl b_lt rfl rfl (fun a HF => ?_)
  refine wc_end ?_
  refine then_n ?_
  by_cases hb1 : z3 < (x0.length : Int)
  have h := (if_pos hb1).symm.trans h
  refine wp_if (b' := true) HF rfl (decide_eq_true hb1) ?_
  refine wp_skip ?_
  refine then_n ?_
  refine wp_seq ?_
  refine wp_block ?_
  refine wp_seq ?_
  refine wc_text ?_
  refine wc_move HF nS rfl rfl rfl (fun a HF => ?_)
  refine wc_move HF nS rfl rfl rfl (fun a HF => ?_)
  obtain ⟨e1, hx2, h⟩ := obs h
  obtain ⟨b1, o1, ha1⟩ := (HT.ro hr_x0).any.addr hx2
  refine wc_ixaddr HF nS el62 rfl ha1 ((HT.ro hr_x0).any).neq rfl hx2 rfl rfl (fun a HF => ?_)
  have hc1 := (HT.ro hr_x0).any.flatAt ha1 hx2
  refine wc_load HF rfl sc9 (hc1.get 0 rfl) rfl rfl (fun a HF => ?_)
  obtain ⟨y1, y2, y3, y4, y5, hx3, h⟩ := obs5 h
  refine wc_call HF cf13 rfl (w_spec_ReadOp fuel hx3) rfl rfl ?_
  rintro e w ⟨rfl, hE⟩
  have hb := hE.below
  have HT := HT.pure hE
  have HT : St w0 (fun _ => False) w [Own 25 (rowT z2) (.slice a2 z2.length c2)] := HT
  refine ⟨_, rfl, nS, fun a HF => ?_⟩
  refine wc_move HF nS rfl rfl rfl (fun a HF => ?_)
  refine wc_extract (v := .agg #[.int .i64 y1, .int .i64 y2, .int .i64 y3, .int .i64 y4]) HF nS rfl rfl rfl rfl (fun a HF => ?_)
  refine wc_extract (v := .bool y5) HF nS rfl rfl rfl rfl (fun a HF => ?_)
  refine wc_alloc (cs := [.int .i64 0, .int .i64 0, .int .i64 0, .int .i64 0]) HF HT zr25 rfl rfl rfl (fun p2 w HT hb => ⟨nS, fun a HF => ?_⟩)
  refine wc_storeB (cs' := [.int .i64 y1, .int .i64 y2, .int .i64 y3, .int .i64 y4]) HF HT rfl rfl (fun w => (ag25 w).2) rfl rfl rfl rfl rfl (fun w HT => ⟨nS, ?_⟩)
  refine wc_assign HF nS rfl rfl rfl (fun a HF => ?_)
  refine wc_end ?_
  refine then_n ?_
  refine wp_seq ?_
  refine wp_seq ?_
  refine wc_text ?_
  refine wc_move HF nS rfl rfl rfl (fun a HF => ?_)
  refine wc_not HF nS rfl rfl rfl (fun a HF => ?_)
  refine wc_end ?_
  refine then_n ?_
  by_cases hb2 : y5 = true
  have h := (if_pos hb2).symm.trans h
  refine wp_if (b' := false) HF rfl (notT hb2) ?_
  refine wp_skip ?_
  refine then_n ?_
  refine wc_text ?_
  refine wc_move HF nS rfl rfl rfl (fun a HF => ?_)
  refine wc_loadA (vs := [.int .i64 y1, .int .i64 y2, .int .i64 y3, .int .i64 y4]) HF rfl ag25 rfl ((HT.boxAt 0 rfl).part 0 4) rfl rfl (fun a HF => ?_)
  refine wc_bslice (l := ([(⟨y1, y2, y3, y4⟩ : I4)] : List I4)) (cs := [.int .i64 y1, .int .i64 y2, .int .i64 y3, .int .i64 y4]) (A := []) HF HT bs35_1 rfl rfl (gives_flat rfl) rfl (by decide) rfl rfl (fun p3 w HT hb  => ⟨nS, fun a HF => ?_⟩)
  obtain ⟨hg1, h⟩ := grd h
  have HT := HT.p2
  refine wc_append HF HT el35 rfl rfl (Nat.zero_lt_succ _) hg1 rfl rfl rfl (fun a3 c3 w HT => ⟨nS, fun a HF => ?_⟩)
  refine wc_assign HF nS rfl rfl rfl (fun a HF => ?_)
  refine wc_end ?_
  refine blk_n ?_
  refine then_n ?_
  refine wc_text ?_
  refine wc_move HF nS rfl rfl rfl (fun a HF => ?_)
  obtain ⟨hg2, h⟩ := grd h
  refine wc_bin HF nS rfl rfl (b_add hg2) rfl rfl (fun a HF => ?_)
  refine wc_assign HF nS rfl rfl rfl (fun a HF => ?_)
  refine wc_end ?_
  have HT := HT.t1
  exact then_n ⟨k1, Nat.lt_succ_self k1, z2 ++ ([(⟨y1, y2, y3, y4⟩ : I4)] : List I4), z3 + 1, a3, (z2 ++ ([(⟨y1, y2, y3, y4⟩ : I4)] : List I4)).length, c3, h, (HF.keep (HF.keep (HF.keep HF.nil rfl) rfl) rfl), HT⟩
  have h := (if_neg hb2).symm.trans h
  refine wp_if (b' := true) HF rfl (notF (Bool.eq_false_iff.2 hb2)) ?_
  refine wp_seq ?_
  refine wc_text ?_
  refine wc_bslice (l := ([] : List I4)) (cs := []) (A := []) HF HT bs35_0 rfl rfl (gives_flat rfl) rfl (by decide) rfl rfl (fun p4 w HT hb  => ⟨nS, fun a HF => ?_⟩)
  refine wc_assign HF nS rfl rfl rfl (fun a HF => ?_)
  refine wc_assign HF nS rfl rfl rfl (fun a HF => ?_)
  refine wc_end ?_
  refine then_n ?_
  refine wp_ret ?_
  obtain rfl := Option.some.inj h
  have h := retL hk1
  have hj1 := Option.some.inj h
  obtain ⟨hi1, hj2⟩ := Prod.mk.inj hj1
  subst hi1
  subst hj2
  refine then_r (blk_r (then_r (then_r (blk_r (then_r (?_))))))
  refine bp_ret HF (res_two rfl HF rfl rfl) ?_
  have HT := HT.t1
  exact ⟨(some ⟨p4, 0, none⟩), 0, 0, rfl, HT⟩
  have h := (if_neg hb1).symm.trans h
  refine wp_if (b' := false) HF rfl (decide_eq_false hb1) ?_
  refine wp_exit ?_
  refine then_x (then_x (?_))
  refine blk_x ?_
  exact then_n ⟨z2, a2, z2.length, c2, (Option.some.inj h).symm, (HF.keep HF.nil rfl), HT⟩
  rintro a w ⟨z1, a1, n1, c1, rfl, HF, HT⟩
  have h := brkL1u h
  obtain rfl := (HT.rdAt 0 rfl).neq
  refine ?_
  refine wp_seq ?_
  refine wc_text ?_
  refine wc_move HF nS rfl rfl rfl (fun a HF => ?_)
  refine wc_assign HF nS rfl rfl rfl (fun a HF => ?_)
  refine wc_assign HF nS rfl rfl rfl (fun a HF => ?_)
  refine wc_end ?_
  refine then_n ?_
  refine wp_ret ?_
  have hj3 := Option.some.inj h
  obtain ⟨hi3, hj4⟩ := Prod.mk.inj hj3
  subst hi3
  subst hj4
  refine bp_ret HF (res_two rfl HF rfl rfl) ?_
  exact ⟨a1, z1.length, c1, rfl, HT⟩

def m_spec_ReadCode (fuel : Nat) (x0 : Str) : Option (List I4 × Bool) :=
  if x0 = [] then
    some (([] : List I4), true)
  else
  if in64 ((x0.length : Int) - 1) then
    (at? x0 ((x0.length : Int) - 1)).bind fun c1 =>
    if (c1.toNat : Int) = 10 then
      if in64 ((x0.length : Int) - 1) then
        if 0 ≤ (0 : Int) ∧ (0 : Int) ≤ ((x0.length : Int) - 1) ∧ ((x0.length : Int) - 1) ≤ (x0.length : Int) then
          (m_spec_l6Split fuel (sub x0 0 ((x0.length : Int) - 1)) (10 : UInt8)).bind fun y1 =>
          if 24 < (y1.length : Int) then
            some (([] : List I4), false)
          else
          bind2 (m_spec_l6Lines fuel y1) fun y2 y3 =>
          if y3 = true then
            (m_spec_CodeOk fuel y2).bind fun y4 =>
            if y4 = true then
              some (y2, true)
            else
            some (([] : List I4), false)
          else
          some (([] : List I4), false)
        else none
      else none
    else
    some (([] : List I4), false)
  else none

set_option maxRecDepth 100000 in
set_option maxHeartbeats 4000000 in
theorem w_spec_ReadCode (fuel : Nat) {x0 : Str} {r0 : List I4} {r1 : Bool} {w0 : World} (h : m_spec_ReadCode fuel x0 = some (r0, r1)) :
    Calls Try.prog 21 #[sv x0] w0 fun e w => ∃ a_r0 n_r0 c_r0, e = .returned (.tuple #[.slice a_r0 n_r0 c_r0, .bool r1]) ∧ St w0 (fun _ => False) w [Own 25 (rowT r0) (.slice a_r0 n_r0 c_r0)] := by
  have HT : St w0 (fun _ => False) w0 [] := St.init0
  rw [m_spec_ReadCode] at h
  refine calls_fr (n := 41) [sv x0] Try.func21 rfl rfl rfl (fun a HF => ?_)
  have HT : St w0 (fun _ => False) w0 [] := HT
  refine wp_seq ?_
  refine wc_text ?_
  refine wc_assign HF nS rfl rfl rfl (fun a HF => ?_)
  refine wc_assign HF nS rfl rfl rfl (fun a HF => ?_)
  refine wc_end ?_
  refine then_n ?_
  refine wp_seq ?_
  refine wp_seq ?_
  refine wc_text ?_
  refine wc_move HF nS rfl rfl rfl (fun a HF => ?_)
  refine wc_bin HF nS rfl rfl b_seq rfl rfl (fun a HF => ?_)
  refine wc_end ?_
  refine then_n ?_
  by_cases hb1 : x0 = []
  have h := (if_pos hb1).symm.trans h
  refine wp_if (b' := true) HF rfl (decide_eq_true hb1) ?_
  refine wp_seq ?_
  refine wc_text ?_
  refine wc_bslice (l := ([] : List I4)) (cs := []) (A := []) HF HT bs35_0 rfl rfl (gives_flat rfl) rfl (by decide) rfl rfl (fun p1 w HT hb  => ⟨nS, fun a HF => ?_⟩)
  refine wc_assign HF nS rfl rfl rfl (fun a HF => ?_)
  refine wc_assign HF nS rfl rfl rfl (fun a HF => ?_)
  refine wc_end ?_
  refine then_n ?_
  refine wp_ret ?_
  have hj1 := Option.some.inj h
  obtain ⟨hi1, hj2⟩ := Prod.mk.inj hj1
  subst hi1
  subst hj2
  refine then_r (?_)
  refine bp_ret HF (res_two rfl HF rfl rfl) ?_
  exact ⟨(some ⟨p1, 0, none⟩), 0, 0, rfl, HT⟩
  have h := (if_neg hb1).symm.trans h
  refine wp_if (b' := false) HF rfl (decide_eq_false hb1) ?_
  refine wp_skip ?_
  refine then_n ?_
  refine wp_seq ?_
  refine wp_seq ?_
  refine wc_text ?_
  refine wc_move HF nS rfl rfl rfl (fun a HF => ?_)
  refine wc_move HF nS rfl rfl rfl (fun a HF => ?_)
  refine wc_lenS (ats := #[]) HF nS Try.underlying9 rfl rfl rfl (fun a HF => ?_)
  obtain ⟨hg1, h⟩ := grd h
  refine wc_bin HF nS rfl rfl (b_sub hg1) rfl rfl (fun a HF => ?_)
  obtain ⟨c1, hx1, h⟩ := obs h
  refine wc_index HF nS Try.underlying9 rfl rfl hx1 rfl rfl (fun a HF => ?_)
  refine wc_bin HF nS rfl rfl b_ne rfl rfl (fun a HF => ?_)
  refine wc_end ?_
  refine then_n ?_
  by_cases hb2 : (c1.toNat : Int) = 10
  have h := (if_pos hb2).symm.trans h
  refine wp_if (b' := false) HF rfl (notT (decide_eq_true hb2)) ?_
  refine wp_skip ?_
  refine then_n ?_
  refine wp_seq ?_
  refine wc_text ?_
  refine wc_move HF nS rfl rfl rfl (fun a HF => ?_)
  refine wc_move HF nS rfl rfl rfl (fun a HF => ?_)
  refine wc_lenS (ats := #[]) HF nS Try.underlying9 rfl rfl rfl (fun a HF => ?_)
  obtain ⟨hg2, h⟩ := grd h
  refine wc_bin HF nS rfl rfl (b_sub hg2) rfl rfl (fun a HF => ?_)
  obtain ⟨hg3, h⟩ := grd h
  refine wc_slsH HF nS Try.underlying9 rfl rfl hg3 rfl rfl (fun a HF => ?_)
  obtain ⟨y1, hx2, h⟩ := obs h
  refine wc_call HF cf48 rfl (w_spec_l6Split (x1 := (10 : UInt8)) fuel hx2) rfl rfl ?_
  rintro e w ⟨a1, n1, c2, rfl, hE⟩
  have hb := hE.below
  have HT := HT.pure hE
  obtain rfl := (HT.rdAt 0 rfl).neq
  have HT : St w0 (fun _ => False) w [Own 9 (rowT y1) (.slice a1 y1.length c2)] := HT
  refine ⟨_, rfl, nS, fun a HF => ?_⟩
  refine wc_assign HF nS rfl rfl rfl (fun a HF => ?_)
  refine wc_end ?_
  refine then_n ?_
  refine wp_seq ?_
  refine wp_seq ?_
  refine wc_text ?_
  refine wc_move HF nS rfl rfl rfl (fun a HF => ?_)
  refine wc_lenR HF nS Try.underlying62 rfl rfl rfl (fun a HF => ?_)
  refine wc_bin HF nS rfl rfl b_gt rfl rfl (fun a HF => ?_)
  refine wc_end ?_
  refine then_n ?_
  by_cases hb3 : 24 < (y1.length : Int)
  have h := (if_pos hb3).symm.trans h
  refine wp_if (b' := true) HF rfl (decide_eq_true hb3) ?_
  refine wp_seq ?_
  refine wc_text ?_
  refine wc_bslice (l := ([] : List I4)) (cs := []) (A := []) HF HT bs35_0 rfl rfl (gives_flat rfl) rfl (by decide) rfl rfl (fun p2 w HT hb  => ⟨nS, fun a HF => ?_⟩)
  refine wc_assign HF nS rfl rfl rfl (fun a HF => ?_)
  refine wc_assign HF nS rfl rfl rfl (fun a HF => ?_)
  refine wc_end ?_
  refine then_n ?_
  refine wp_ret ?_
  have hj3 := Option.some.inj h
  obtain ⟨hi3, hj4⟩ := Prod.mk.inj hj3
  subst hi3
  subst hj4
  refine then_r (?_)
  refine bp_ret HF (res_two rfl HF rfl rfl) ?_
  have HT := HT.t1
  exact ⟨(some ⟨p2, 0, none⟩), 0, 0, rfl, HT⟩
  have h := (if_neg hb3).symm.trans h
  refine wp_if (b' := false) HF rfl (decide_eq_false hb3) ?_
  refine wp_skip ?_
  refine then_n ?_
  refine wp_seq ?_
  refine wc_text ?_
  refine wc_move HF nS rfl rfl rfl (fun a HF => ?_)
  obtain ⟨y2, y3, hx3, h⟩ := obs2 h
  refine wc_call HF cf54 rfl (w_spec_l6Lines fuel hx3 (HT.rdAt 0 rfl)) rfl rfl ?_
  rintro e w ⟨a2, n2, c3, rfl, hE⟩
  have hb := hE.below
  have HT := HT.pure hE
  obtain rfl := (HT.rdAt 0 rfl).neq
  have HT : St w0 (fun _ => False) w [Own 25 (rowT y2) (.slice a2 y2.length c3), Own 9 (rowT y1) (.slice a1 y1.length c2)] := HT
  refine ⟨_, rfl, nS, fun a HF => ?_⟩
  refine wc_move HF nS rfl rfl rfl (fun a HF => ?_)
  refine wc_extract (v := .slice a2 y2.length c3) HF nS rfl rfl rfl rfl (fun a HF => ?_)
  refine wc_extract (v := .bool y3) HF nS rfl rfl rfl rfl (fun a HF => ?_)
  refine wc_assign HF nS rfl rfl rfl (fun a HF => ?_)
  refine wc_assign HF nS rfl rfl rfl (fun a HF => ?_)
  refine wc_end ?_
  refine then_n ?_
  refine wp_seq ?_
  refine wp_seq ?_
  refine wc_text ?_
  refine wc_move HF nS rfl rfl rfl (fun a HF => ?_)
  refine wc_not HF nS rfl rfl rfl (fun a HF => ?_)
  refine wc_move HF nS rfl rfl rfl (fun a HF => ?_)
  by_cases hb4 : y3 = true
  have h := (if_pos hb4).symm.trans h
  refine wc_move HF nS rfl (HF.wy rfl rfl rfl rfl (notT hb4)) rfl (fun a HF => ?_)
  obtain ⟨y4, hx4, h⟩ := obs h
  refine wc_call HF cf52 rfl (w_spec_CodeOk fuel hx4 (HT.rdAt 0 rfl)) (HF.wy rfl rfl rfl rfl (notT hb4)) rfl ?_
  rintro e w ⟨rfl, hE⟩
  have hb := hE.below
  have HT := HT.pure hE
  have HT : St w0 (fun _ => False) w [Own 25 (rowT y2) (.slice a2 y2.length c3), Own 9 (rowT y1) (.slice a1 y1.length c2)] := HT
  refine ⟨_, rfl, nS, fun a HF => ?_⟩
  refine wc_not HF nS rfl (HF.wy rfl rfl rfl rfl (notT hb4)) rfl (fun a HF => ?_)
  refine wc_pick (b := false) HF nS rfl (notT hb4) rfl rfl rfl (fun a HF => ?_)
  refine wc_end ?_
  refine then_n ?_
  by_cases hb5 : y4 = true
  have h := (if_pos hb5).symm.trans h
  refine wp_if (b' := false) HF rfl (notT hb5) ?_
  refine wp_skip ?_
  refine then_n ?_
  refine wp_seq ?_
  refine wc_text ?_
  refine wc_move HF nS rfl rfl rfl (fun a HF => ?_)
  refine wc_assign HF nS rfl rfl rfl (fun a HF => ?_)
  refine wc_assign HF nS rfl rfl rfl (fun a HF => ?_)
  refine wc_end ?_
  refine then_n ?_
  refine wp_ret ?_
  have hj5 := Option.some.inj h
  obtain ⟨hi5, hj6⟩ := Prod.mk.inj hj5
  subst hi5
  subst hj6
  refine bp_ret HF (res_two rfl HF rfl rfl) ?_
  have HT := HT.t1
  exact ⟨a2, y2.length, c3, rfl, HT⟩
  have h := (if_neg hb5).symm.trans h
  refine wp_if (b' := true) HF rfl (notF (Bool.eq_false_iff.2 hb5)) ?_
  refine wp_seq ?_
  refine wc_text ?_
  refine wc_bslice (l := ([] : List I4)) (cs := []) (A := []) HF HT bs35_0 rfl rfl (gives_flat rfl) rfl (by decide) rfl rfl (fun p3 w HT hb  => ⟨nS, fun a HF => ?_⟩)
  refine wc_assign HF nS rfl rfl rfl (fun a HF => ?_)
  refine wc_assign HF nS rfl rfl rfl (fun a HF => ?_)
  refine wc_end ?_
  refine then_n ?_
  refine wp_ret ?_
  have hj7 := Option.some.inj h
  obtain ⟨hi7, hj8⟩ := Prod.mk.inj hj7
  subst hi7
  subst hj8
  refine then_r (?_)
  refine bp_ret HF (res_two rfl HF rfl rfl) ?_
  have HT := HT.t1
  exact ⟨(some ⟨p3, 0, none⟩), 0, 0, rfl, HT⟩
  have h := (if_neg hb4).symm.trans h
  refine wc_skip HF nS (HF.wn rfl rfl rfl rfl (notF (Bool.eq_false_iff.2 hb4))) rfl (fun a HF => ?_)
  refine wc_skip HF nS (HF.wn rfl rfl rfl rfl (notF (Bool.eq_false_iff.2 hb4))) rfl (fun a HF => ?_)
  refine wc_skip HF nS (HF.wn rfl rfl rfl rfl (notF (Bool.eq_false_iff.2 hb4))) rfl (fun a HF => ?_)
  refine wc_pick (b := true) HF nS rfl (notF (Bool.eq_false_iff.2 hb4)) rfl rfl rfl (fun a HF => ?_)
  refine wc_end ?_
  refine then_n ?_
  refine wp_if (b' := true) HF rfl rfl ?_
  refine wp_seq ?_
  refine wc_text ?_
  refine wc_bslice (l := ([] : List I4)) (cs := []) (A := []) HF HT bs35_0 rfl rfl (gives_flat rfl) rfl (by decide) rfl rfl (fun p4 w HT hb  => ⟨nS, fun a HF => ?_⟩)
  refine wc_assign HF nS rfl rfl rfl (fun a HF => ?_)
  refine wc_assign HF nS rfl rfl rfl (fun a HF => ?_)
  refine wc_end ?_
  refine then_n ?_
  refine wp_ret ?_
  have hj9 := Option.some.inj h
  obtain ⟨hi9, hj10⟩ := Prod.mk.inj hj9
  subst hi9
  subst hj10
  refine then_r (?_)
  refine bp_ret HF (res_two rfl HF rfl rfl) ?_
  have HT := HT.t1
  exact ⟨(some ⟨p4, 0, none⟩), 0, 0, rfl, HT⟩
  have h := (if_neg hb2).symm.trans h
  refine wp_if (b' := true) HF rfl (notF (decide_eq_false hb2)) ?_
  refine wp_seq ?_
  refine wc_text ?_
  refine wc_bslice (l := ([] : List I4)) (cs := []) (A := []) HF HT bs35_0 rfl rfl (gives_flat rfl) rfl (by decide) rfl rfl (fun p5 w HT hb  => ⟨nS, fun a HF => ?_⟩)
  refine wc_assign HF nS rfl rfl rfl (fun a HF => ?_)
  refine wc_assign HF nS rfl rfl rfl (fun a HF => ?_)
  refine wc_end ?_
  refine then_n ?_
  refine wp_ret ?_
  have hj11 := Option.some.inj h
  obtain ⟨hi11, hj12⟩ := Prod.mk.inj hj11
  subst hi11
  subst hj12
  refine then_r (?_)
  refine bp_ret HF (res_two rfl HF rfl rfl) ?_
  exact ⟨(some ⟨p5, 0, none⟩), 0, 0, rfl, HT⟩

def m_impl_HasFork_1 (fuel : Nat) (x0_0 : Int) (x0_1 : Int) (x0_2 : Int) (x0_3 : Int) : Option Bool :=
  some (decide (x0_0 = 11))

set_option maxRecDepth 100000 in
set_option maxHeartbeats 4000000 in
theorem w_impl_HasFork_1 (fuel : Nat) {x0_0 : Int} {x0_1 : Int} {x0_2 : Int} {x0_3 : Int} {r0 : Bool} {w0 : World} (h : m_impl_HasFork_1 fuel x0_0 x0_1 x0_2 x0_3 = some r0) :
    Calls Try.prog 102 #[.agg #[.int .i64 x0_0, .int .i64 x0_1, .int .i64 x0_2, .int .i64 x0_3]] w0 fun e w => e = .returned (.bool r0) ∧ St w0 (fun _ => False) w [] := by
  have HT : St w0 (fun _ => False) w0 [] := St.init0
  rw [m_impl_HasFork_1] at h
  refine calls_fr (n := 6) [.agg #[.int .i64 x0_0, .int .i64 x0_1, .int .i64 x0_2, .int .i64 x0_3]] Try.func102 rfl rfl rfl (fun a HF => ?_)
  have HT : St w0 (fun _ => False) w0 [] := HT
  refine wp_seq ?_
  refine wc_text ?_
  refine wc_box (cs := [.int .i64 x0_0, .int .i64 x0_1, .int .i64 x0_2, .int .i64 x0_3]) HF HT rfl rfl rfl rfl (fun p1 w HT hb => ⟨nS, fun a HF => ?_⟩)
  refine wc_assign HF nS rfl rfl rfl (fun a HF => ?_)
  refine wc_end ?_
  refine then_n ?_
  refine wp_seq ?_
  refine wc_text ?_
  refine wc_faddr HF nS rfl fl25_0 rfl rfl (fun a HF => ?_)
  refine wc_load HF rfl sc3 ((HT.boxAt 0 rfl).get 0 rfl) rfl rfl (fun a HF => ?_)
  refine wc_bin HF nS rfl rfl b_eq rfl rfl (fun a HF => ?_)
  refine wc_assign HF nS rfl rfl rfl (fun a HF => ?_)
  refine wc_end ?_
  refine then_n ?_
  refine wp_ret ?_
  obtain rfl := Option.some.inj h
  refine bp_ret HF (res_one rfl HF rfl) ?_
  have HT := HT.t0
  exact ⟨rfl, HT⟩

def m_slices_IndexFunc___impl_Op_impl_Op__102_L0 (fuel : Nat) (x0 : List I4) : Nat → Int → Option (Lp Unit Int)
  | 0, _ => none
  | k1 + 1, z1 =>
    if z1 < (x0.length : Int) then
      (at? x0 z1).bind fun e1 =>
      (m_impl_HasFork_1 fuel e1.a e1.b e1.c e1.d).bind fun y1 =>
      if y1 = true then
        some (.ret z1)
      else
      if in64 (z1 + 1) then
        m_slices_IndexFunc___impl_Op_impl_Op__102_L0 fuel x0 k1 (z1 + 1)
      else none
    else
    some (.brk ())

def m_slices_IndexFunc___impl_Op_impl_Op__102 (fuel : Nat) (x0 : List I4) : Option Int :=
  (m_slices_IndexFunc___impl_Op_impl_Op__102_L0 fuel x0 fuel 0).bind <| contL <| un1 fun _ =>
  some (-1)

set_option maxRecDepth 100000 in
set_option maxHeartbeats 4000000 in
theorem w_slices_IndexFunc___impl_Op_impl_Op__102 (fuel : Nat) {x0 : List I4} {a_x0 : Option Addr} {n_x0 c_x0 : Nat} {r0 : Int} {w0 : World} (h : m_slices_IndexFunc___impl_Op_impl_Op__102 fuel x0 = some r0) (hr_x0 : RdT (fun b => ¬ False) w0 (rowT x0) (.slice a_x0 n_x0 c_x0)) :
    Calls Try.prog 105 #[.slice a_x0 n_x0 c_x0, .func (.func 102) #[] #[]] w0 fun e w => e = .returned (.int .i64 r0) ∧ St w0 (fun _ => False) w [] := by
  obtain rfl := hr_x0.neq
  have HT : St w0 (fun _ => False) w0 [] := St.init0
  rw [m_slices_IndexFunc___impl_Op_impl_Op__102] at h
  refine calls_fr (n := 19) [.slice a_x0 x0.length c_x0, .func (.func 102) #[] #[]] Try.func105 rfl rfl rfl (fun a HF => ?_)
  have HT : St w0 (fun _ => False) w0 [] := HT
  refine wp_seq ?_
  refine wc_text ?_
  refine wc_assign HF nS rfl rfl rfl (fun a HF => ?_)
  refine wc_end ?_
  refine then_n ?_
  obtain ⟨q1, hx1, h⟩ := obs h
  refine wp_cut (fun a w => q1 = .brk () ∧ Fr a 19 [] ∧ St w0 (fun _ => False) w []) ?_ ?_
  have hk1 := h
  have h := hx1
  refine wp_seq ?_
  refine wc_text ?_
  refine wc_move HF nS rfl rfl rfl (fun a HF => ?_)
  refine wc_lenR HF nS Try.underlying35 rfl rfl rfl (fun a HF => ?_)
  refine wc_move HF nS rfl rfl rfl (fun a HF => ?_)
  refine wc_end ?_
  refine then_n ?_
  refine wp_block ?_
  refine wp_loopN (fun k1 a w => ∃ z1, m_slices_IndexFunc___impl_Op_impl_Op__102_L0 fuel x0 k1 z1 = some q1 ∧ Fr a 19 [(0, .slice a_x0 x0.length c_x0), (1, .func (.func 102) #[] #[]), (7, .int .i64 (x0.length : Int)), (8, .int .i64 z1)] ∧ St w0 (fun _ => False) w []) fuel ⟨0, h, (HF.keep (HF.keep (HF.keep (HF.keep HF.nil rfl) rfl) rfl) rfl), HT⟩ ?_
  rintro k1 a w ⟨z1, h, HF, HT⟩
  rcases k1 with _ | k1
  cases h
  rw [m_slices_IndexFunc___impl_Op_impl_Op__102_L0] at h
  refine ?_
  refine wp_seq ?_
  refine wc_text ?_
  refine wc_bin HF nS rfl rfl b_lt rfl rfl (fun a HF => ?_)
  refine wc_end ?_
  refine then_n ?_
  refine wp_seq ?_
  by_cases hb1 : z1 < (x0.length : Int)
  have h := (if_pos hb1).symm.trans h
  refine wp_if (b' := true) HF rfl (decide_eq_true hb1) ?_
  refine wp_skip ?_
  refine then_n ?_
  refine wp_seq ?_
  refine wp_block ?_
  refine wp_seq ?_
  refine wc_text ?_
  refine wc_move HF nS rfl rfl rfl (fun a HF => ?_)
  refine wc_assign HF nS rfl rfl rfl (fun a HF => ?_)
  refine wc_end ?_
  refine then_n ?_
  refine wp_seq ?_
  refine wc_text ?_
  refine wc_move HF nS rfl rfl rfl (fun a HF => ?_)
  refine wc_move HF nS rfl rfl rfl (fun a HF => ?_)
  refine wc_move HF nS rfl rfl rfl (fun a HF => ?_)
  obtain ⟨e1, hx2, h⟩ := obs h
  obtain ⟨b1, o1, ha1⟩ := (HT.ro hr_x0).any.addr hx2
  refine wc_ixaddr HF nS el35 rfl ha1 ((HT.ro hr_x0).any).neq rfl hx2 rfl rfl (fun a HF => ?_)
  have hc1 := (HT.ro hr_x0).any.flatAt ha1 hx2
  refine wc_loadA (vs := [.int .i64 e1.a, .int .i64 e1.b, .int .i64 e1.c, .int .i64 e1.d]) HF rfl ag25 rfl (hc1.part 0 4) rfl rfl (fun a HF => ?_)
  obtain ⟨y1, hx3, h⟩ := obs h
  refine wc_callv HF cf102 rfl rfl (w_impl_HasFork_1 fuel hx3) rfl rfl ?_
  rintro e w ⟨rfl, hE⟩
  have hb := hE.below
  have HT := HT.pure hE
  have HT : St w0 (fun _ => False) w [] := HT
  refine ⟨_, rfl, nS, fun a HF => ?_⟩
  refine wc_end ?_
  refine then_n ?_
  by_cases hb2 : y1 = true
  have h := (if_pos hb2).symm.trans h
  refine wp_if (b' := true) HF rfl hb2 ?_
  refine wp_seq ?_
  refine wc_text ?_
  refine wc_move HF nS rfl rfl rfl (fun a HF => ?_)
  refine wc_assign HF nS rfl rfl rfl (fun a HF => ?_)
  refine wc_end ?_
  refine then_n ?_
  refine wp_ret ?_
  obtain rfl := Option.some.inj h
  have h := retL hk1
  obtain rfl := Option.some.inj h
  refine blk_r (then_r (then_r (blk_r (then_r (?_)))))
  refine bp_ret HF (res_one rfl HF rfl) ?_
  exact ⟨rfl, HT⟩
  have h := (if_neg hb2).symm.trans h
  refine wp_if (b' := false) HF rfl (Bool.eq_false_iff.2 hb2) ?_
  refine wp_skip ?_
  refine blk_n ?_
  refine then_n ?_
  refine wc_text ?_
  obtain ⟨hg1, h⟩ := grd h
  refine wc_bin HF nS rfl rfl (b_add hg1) rfl rfl (fun a HF => ?_)
  refine wc_move HF nS rfl rfl rfl (fun a HF => ?_)
  refine wc_end ?_
  exact then_n ⟨k1, Nat.lt_succ_self k1, z1 + 1, h, (HF.keep (HF.keep (HF.keep (HF.keep HF.nil rfl) rfl) rfl) rfl), HT⟩
  have h := (if_neg hb1).symm.trans h
  refine wp_if (b' := false) HF rfl (decide_eq_false hb1) ?_
  refine wp_exit ?_
  refine then_x (then_x (?_))
  refine blk_x ?_
  exact then_n ⟨(Option.some.inj h).symm, HF.nil, HT⟩
  rintro a w ⟨rfl, HF, HT⟩
  have h := brkL1u h
  refine ?_
  refine wp_seq ?_
  refine wc_text ?_
  refine wc_assign HF nS rfl rfl rfl (fun a HF => ?_)
  refine wc_end ?_
  refine then_n ?_
  refine wp_ret ?_
  obtain rfl := Option.some.inj h
  refine bp_ret HF (res_one rfl HF rfl) ?_
  exact ⟨rfl, HT⟩

def m_slices_ContainsFunc___impl_Op_impl_Op__102 (fuel : Nat) (x0 : List I4) : Option Bool :=
  (m_slices_IndexFunc___impl_Op_impl_Op__102 fuel x0).bind fun y1 =>
  some (decide (0 ≤ y1))

set_option maxRecDepth 100000 in
set_option maxHeartbeats 4000000 in
theorem w_slices_ContainsFunc___impl_Op_impl_Op__102 (fuel : Nat) {x0 : List I4} {a_x0 : Option Addr} {n_x0 c_x0 : Nat} {r0 : Bool} {w0 : World} (h : m_slices_ContainsFunc___impl_Op_impl_Op__102 fuel x0 = some r0) (hr_x0 : RdT (fun b => ¬ False) w0 (rowT x0) (.slice a_x0 n_x0 c_x0)) :
    Calls Try.prog 101 #[.slice a_x0 n_x0 c_x0, .func (.func 102) #[] #[]] w0 fun e w => e = .returned (.bool r0) ∧ St w0 (fun _ => False) w [] := by
  obtain rfl := hr_x0.neq
  have HT : St w0 (fun _ => False) w0 [] := St.init0
  rw [m_slices_ContainsFunc___impl_Op_impl_Op__102] at h
  refine calls_fr (n := 9) [.slice a_x0 x0.length c_x0, .func (.func 102) #[] #[]] Try.func101 rfl rfl rfl (fun a HF => ?_)
  have HT : St w0 (fun _ => False) w0 [] := HT
  refine wp_seq ?_
  refine wc_text ?_
  refine wc_assign HF nS rfl rfl rfl (fun a HF => ?_)
  refine wc_end ?_
  refine then_n ?_
  refine wp_seq ?_
  refine wc_text ?_
  refine wc_move HF nS rfl rfl rfl (fun a HF => ?_)
  refine wc_move HF nS rfl rfl rfl (fun a HF => ?_)
  obtain ⟨y1, hx1, h⟩ := obs h
  refine wc_call HF cf105 rfl (w_slices_IndexFunc___impl_Op_impl_Op__102 fuel hx1 (HT.ro hr_x0).any) rfl rfl ?_
  rintro e w ⟨rfl, hE⟩
  have hb := hE.below
  have HT := HT.pure hE
  have HT : St w0 (fun _ => False) w [] := HT
  refine ⟨_, rfl, nS, fun a HF => ?_⟩
  refine wc_bin HF nS rfl rfl b_ge rfl rfl (fun a HF => ?_)
  refine wc_assign HF nS rfl rfl rfl (fun a HF => ?_)
  refine wc_end ?_
  refine then_n ?_
  refine wp_ret ?_
  obtain rfl := Option.some.inj h
  refine bp_ret HF (res_one rfl HF rfl) ?_
  exact ⟨rfl, HT⟩

def m_impl_HasFork (fuel : Nat) (x0 : List I4) : Option Bool :=
  (m_slices_ContainsFunc___impl_Op_impl_Op__102 fuel x0).bind fun y1 =>
  some y1

set_option maxRecDepth 100000 in
set_option maxHeartbeats 4000000 in
theorem w_impl_HasFork (fuel : Nat) {x0 : List I4} {a_x0 : Option Addr} {n_x0 c_x0 : Nat} {r0 : Bool} {w0 : World} (h : m_impl_HasFork fuel x0 = some r0) (hr_x0 : RdT (fun b => ¬ False) w0 (rowT x0) (.slice a_x0 n_x0 c_x0)) :
    Calls Try.prog 88 #[.slice a_x0 n_x0 c_x0] w0 fun e w => e = .returned (.bool r0) ∧ St w0 (fun _ => False) w [] := by
  obtain rfl := hr_x0.neq
  have HT : St w0 (fun _ => False) w0 [] := St.init0
  rw [m_impl_HasFork] at h
  refine calls_fr (n := 5) [.slice a_x0 x0.length c_x0] Try.func88 rfl rfl rfl (fun a HF => ?_)
  have HT : St w0 (fun _ => False) w0 [] := HT
  refine wp_seq ?_
  refine wc_text ?_
  refine wc_assign HF nS rfl rfl rfl (fun a HF => ?_)
  refine wc_end ?_
  refine then_n ?_
  refine wp_seq ?_
  refine wc_text ?_
  refine wc_move HF nS rfl rfl rfl (fun a HF => ?_)
  obtain ⟨y1, hx1, h⟩ := obs h
  refine wc_call HF cf101 rfl (w_slices_ContainsFunc___impl_Op_impl_Op__102 fuel hx1 (HT.ro hr_x0).any) rfl rfl ?_
  rintro e w ⟨rfl, hE⟩
  have hb := hE.below
  have HT := HT.pure hE
  have HT : St w0 (fun _ => False) w [] := HT
  refine ⟨_, rfl, nS, fun a HF => ?_⟩
  refine wc_assign HF nS rfl rfl rfl (fun a HF => ?_)
  refine wc_end ?_
  refine then_n ?_
  refine wp_ret ?_
  obtain rfl := Option.some.inj h
  refine bp_ret HF (res_one rfl HF rfl) ?_
  exact ⟨rfl, HT⟩

def m_impl_Touches (fuel : Nat) (x0_0 : Int) (x0_1 : Int) (x0_2 : Int) (x0_3 : Int) : Option Int :=
  (m_impl_OpOk fuel x0_0 x0_1 x0_2 x0_3).bind fun y1 =>
  if y1 = true then
    (
      (
        if x0_0 = 5 then
          some (decide (x0_0 = 5))
        else
        some (decide (x0_0 = 6))).bind fun z1 =>
      if z1 = true then
        some (.ret 1)
      else
      (
        if x0_0 = 12 then
          some (decide (x0_0 = 12))
        else
        if x0_0 = 13 then
          some (decide (x0_0 = 13))
        else
        if x0_0 = 14 then
          some (decide (x0_0 = 14))
        else
        if x0_0 = 15 then
          some (decide (x0_0 = 15))
        else
        some (decide (x0_0 = 16))).bind fun z2 =>
      if z2 = true then
        some (.ret 2)
      else
      some (.brk ())).bind <| contL <| un1 fun _ =>
    some 0
  else
  some 0

set_option maxRecDepth 100000 in
set_option maxHeartbeats 4000000 in
theorem w_impl_Touches (fuel : Nat) {x0_0 : Int} {x0_1 : Int} {x0_2 : Int} {x0_3 : Int} {r0 : Int} {w0 : World} (h : m_impl_Touches fuel x0_0 x0_1 x0_2 x0_3 = some r0) :
    Calls Try.prog 100 #[.agg #[.int .i64 x0_0, .int .i64 x0_1, .int .i64 x0_2, .int .i64 x0_3]] w0 fun e w => e = .returned (.int .i64 r0) ∧ St w0 (fun _ => False) w [] := by
  have HT : St w0 (fun _ => False) w0 [] := St.init0
  rw [m_impl_Touches] at h
  refine calls_fr (n := 17) [.agg #[.int .i64 x0_0, .int .i64 x0_1, .int .i64 x0_2, .int .i64 x0_3]] Try.func100 rfl rfl rfl (fun a HF => ?_)
  have HT : St w0 (fun _ => False) w0 [] := HT
  refine wp_seq ?_
  refine wc_text ?_
  refine wc_box (cs := [.int .i64 x0_0, .int .i64 x0_1, .int .i64 x0_2, .int .i64 x0_3]) HF HT rfl rfl rfl rfl (fun p1 w HT hb => ⟨nS, fun a HF => ?_⟩)
  refine wc_assign HF nS rfl rfl rfl (fun a HF => ?_)
  refine wc_end ?_
  refine then_n ?_
  refine wp_seq ?_
  refine wp_seq ?_
  refine wc_text ?_
  refine wc_loadA (vs := [.int .i64 x0_0, .int .i64 x0_1, .int .i64 x0_2, .int .i64 x0_3]) HF rfl ag25 rfl ((HT.boxAt 0 rfl).part 0 4) rfl rfl (fun a HF => ?_)
  obtain ⟨y1, hx1, h⟩ := obs h
  refine wc_call HF cf44 rfl (w_impl_OpOk fuel hx1) rfl rfl ?_
  rintro e w ⟨rfl, hE⟩
  have hb := hE.below
  have HT := HT.pure hE
  have HT : St w0 (fun _ => False) w [Box p1 [.int .i64 x0_0, .int .i64 x0_1, .int .i64 x0_2, .int .i64 x0_3]] := HT
  refine ⟨_, rfl, nS, fun a HF => ?_⟩
  refine wc_not HF nS rfl rfl rfl (fun a HF => ?_)
  refine wc_end ?_
  refine then_n ?_
  by_cases hb1 : y1 = true
  have h := (if_pos hb1).symm.trans h
  refine wp_if (b' := false) HF rfl (notT hb1) ?_
  refine wp_skip ?_
  refine then_n ?_
  obtain ⟨q1, hx2, h⟩ := obs h
  refine wp_cut (fun a w => q1 = .brk () ∧ Fr a 17 [] ∧ St w0 (fun _ => False) w []) ?_ ?_
  have hk1 := h
  have h := hx2
  refine wp_seq ?_
  refine wc_text ?_
  refine wc_faddr HF nS rfl fl25_0 rfl rfl (fun a HF => ?_)
  refine wc_load HF rfl sc3 ((HT.boxAt 0 rfl).get 0 rfl) rfl rfl (fun a HF => ?_)
  refine wc_end ?_
  refine then_n ?_
  refine wp_block ?_
  obtain ⟨z1, hx3, h⟩ := obs h
  refine wp_cut (fun a w => Fr a 17 [(7, .int .i64 x0_0), (8, .bool z1)] ∧ St w0 (fun _ => False) w []) ?_ ?_
  have hk2 := h
  have h := hx3
  refine wp_seq ?_
  refine wc_text ?_
  refine wc_bin HF nS rfl rfl b_eq rfl rfl (fun a HF => ?_)
  refine wc_assign HF nS rfl rfl rfl (fun a HF => ?_)
  refine wc_end ?_
  refine then_n ?_
  by_cases hb2 : x0_0 = 5
  have h := (if_pos hb2).symm.trans h
  refine wp_if (b' := true) HF rfl (decide_eq_true hb2) ?_
  refine wp_skip ?_
  have HT := HT.t0
  obtain rfl := Option.some.inj h
  exact then_n ⟨(HF.keep (HF.keep HF.nil rfl) rfl), HT⟩
  have h := (if_neg hb2).symm.trans h
  refine wp_if (b' := false) HF rfl (decide_eq_false hb2) ?_
  refine wc_text ?_
  refine wc_bin HF nS rfl rfl b_eq rfl rfl (fun a HF => ?_)
  refine wc_assign HF nS rfl rfl rfl (fun a HF => ?_)
  refine wc_end ?_
  have HT := HT.t0
  obtain rfl := Option.some.inj h
  exact then_n ⟨(HF.keep (HF.keep HF.nil rfl) rfl), HT⟩
  rintro a w ⟨HF, HT⟩
  refine ?_
  by_cases hb3 : z1 = true
  have h := (if_pos hb3).symm.trans h
  refine wp_if (b' := true) HF rfl hb3 ?_
  refine wp_seq ?_
  refine wc_text ?_
  refine wc_assign HF nS rfl rfl rfl (fun a HF => ?_)
  refine wc_end ?_
  refine then_n ?_
  refine wp_ret ?_
  obtain rfl := Option.some.inj h
  have h := retL hk1
  obtain rfl := Option.some.inj h
  refine blk_r (then_r (?_))
  refine bp_ret HF (res_one rfl HF rfl) ?_
  exact ⟨rfl, HT⟩
  have h := (if_neg hb3).symm.trans h
  refine wp_if (b' := false) HF rfl (Bool.eq_false_iff.2 hb3) ?_
  obtain ⟨z2, hx4, h⟩ := obs h
  refine wp_cut (fun a w => Fr a 17 [(11, .bool z2)] ∧ St w0 (fun _ => False) w []) ?_ ?_
  have hk2 := h
  have h := hx4
  refine wp_seq ?_
  refine wc_text ?_
  refine wc_bin HF nS rfl rfl b_eq rfl rfl (fun a HF => ?_)
  refine wc_assign HF nS rfl rfl rfl (fun a HF => ?_)
  refine wc_end ?_
  refine then_n ?_
  by_cases hb4 : x0_0 = 12
  have h := (if_pos hb4).symm.trans h
  refine wp_if (b' := true) HF rfl (decide_eq_true hb4) ?_
  refine wp_skip ?_
  obtain rfl := Option.some.inj h
  exact then_n ⟨(HF.keep HF.nil rfl), HT⟩
  have h := (if_neg hb4).symm.trans h
  refine wp_if (b' := false) HF rfl (decide_eq_false hb4) ?_
  refine wp_seq ?_
  refine wc_text ?_
  refine wc_bin HF nS rfl rfl b_eq rfl rfl (fun a HF => ?_)
  refine wc_assign HF nS rfl rfl rfl (fun a HF => ?_)
  refine wc_end ?_
  refine then_n ?_
  by_cases hb5 : x0_0 = 13
  have h := (if_pos hb5).symm.trans h
  refine wp_if (b' := true) HF rfl (decide_eq_true hb5) ?_
  refine wp_skip ?_
  obtain rfl := Option.some.inj h
  exact then_n ⟨(HF.keep HF.nil rfl), HT⟩
  have h := (if_neg hb5).symm.trans h
  refine wp_if (b' := false) HF rfl (decide_eq_false hb5) ?_
  refine wp_seq ?_
  refine wc_text ?_
  refine wc_bin HF nS rfl rfl b_eq rfl rfl (fun a HF => ?_)
  refine wc_assign HF nS rfl rfl rfl (fun a HF => ?_)
  refine wc_end ?_
  refine then_n ?_
  by_cases hb6 : x0_0 = 14
  have h := (if_pos hb6).symm.trans h
  refine wp_if (b' := true) HF rfl (decide_eq_true hb6) ?_
  refine wp_skip ?_
  obtain rfl := Option.some.inj h
  exact then_n ⟨(HF.keep HF.nil rfl), HT⟩
  have h := (if_neg hb6).symm.trans h
  refine wp_if (b' := false) HF rfl (decide_eq_false hb6) ?_
  refine wp_seq ?_
  refine wc_text ?_
  refine wc_bin HF nS rfl rfl b_eq rfl rfl (fun a HF => ?_)
  refine wc_assign HF nS rfl rfl rfl (fun a HF => ?_)
  refine wc_end ?_
  refine then_n ?_
  by_cases hb7 : x0_0 = 15
  have h := (if_pos hb7).symm.trans h
  refine wp_if (b' := true) HF rfl (decide_eq_true hb7) ?_
  refine wp_skip ?_
  obtain rfl := Option.some.inj h
  exact then_n ⟨(HF.keep HF.nil rfl), HT⟩
  have h := (if_neg hb7).symm.trans h
  refine wp_if (b' := false) HF rfl (decide_eq_false hb7) ?_
  refine wc_text ?_
  refine wc_bin HF nS rfl rfl b_eq rfl rfl (fun a HF => ?_)
  refine wc_assign HF nS rfl rfl rfl (fun a HF => ?_)
  refine wc_end ?_
  obtain rfl := Option.some.inj h
  exact then_n ⟨(HF.keep HF.nil rfl), HT⟩
  rintro a w ⟨HF, HT⟩
  refine ?_
  by_cases hb8 : z2 = true
  have h := (if_pos hb8).symm.trans h
  refine wp_if (b' := true) HF rfl hb8 ?_
  refine wp_seq ?_
  refine wc_text ?_
  refine wc_assign HF nS rfl rfl rfl (fun a HF => ?_)
  refine wc_end ?_
  refine then_n ?_
  refine wp_ret ?_
  obtain rfl := Option.some.inj h
  have h := retL hk1
  obtain rfl := Option.some.inj h
  refine blk_r (then_r (?_))
  refine bp_ret HF (res_one rfl HF rfl) ?_
  exact ⟨rfl, HT⟩
  have h := (if_neg hb8).symm.trans h
  refine wp_if (b' := false) HF rfl (Bool.eq_false_iff.2 hb8) ?_
  refine wp_skip ?_
  refine blk_n ?_
  exact then_n ⟨(Option.some.inj h).symm, HF.nil, HT⟩
  rintro a w ⟨rfl, HF, HT⟩
  have h := brkL1u h
  refine ?_
  refine wp_seq ?_
  refine wc_text ?_
  refine wc_assign HF nS rfl rfl rfl (fun a HF => ?_)
  refine wc_end ?_
  refine then_n ?_
  refine wp_ret ?_
  obtain rfl := Option.some.inj h
  refine bp_ret HF (res_one rfl HF rfl) ?_
  exact ⟨rfl, HT⟩
  have h := (if_neg hb1).symm.trans h
  refine wp_if (b' := true) HF rfl (notF (Bool.eq_false_iff.2 hb1)) ?_
  refine wp_seq ?_
  refine wc_text ?_
  refine wc_assign HF nS rfl rfl rfl (fun a HF => ?_)
  refine wc_end ?_
  refine then_n ?_
  refine wp_ret ?_
  obtain rfl := Option.some.inj h
  refine then_r (?_)
  refine bp_ret HF (res_one rfl HF rfl) ?_
  have HT := HT.t0
  exact ⟨rfl, HT⟩

def m_impl_KidOk_L0 (fuel : Nat) (x0 : List I4) : Nat → Int → Option (Lp Unit Bool)
  | 0, _ => none
  | k1 + 1, z1 =>
    if z1 < (x0.length : Int) then
      (at? x0 z1).bind fun e1 =>
      if e1.a = 11 then
        some (.ret false)
      else
      (m_impl_Touches fuel e1.a e1.b e1.c e1.d).bind fun y1 =>
      if y1 = 2 then
        some (.ret false)
      else
      if in64 (z1 + 1) then
        m_impl_KidOk_L0 fuel x0 k1 (z1 + 1)
      else none
    else
    some (.brk ())

def m_impl_KidOk (fuel : Nat) (x0 : List I4) : Option Bool :=
  (m_impl_KidOk_L0 fuel x0 fuel 0).bind <| contL <| un1 fun _ =>
  (m_impl_CodeOk fuel x0).bind fun y2 =>
  some y2

set_option maxRecDepth 100000 in
set_option maxHeartbeats 4000000 in
theorem w_impl_KidOk (fuel : Nat) {x0 : List I4} {a_x0 : Option Addr} {n_x0 c_x0 : Nat} {r0 : Bool} {w0 : World} (h : m_impl_KidOk fuel x0 = some r0) (hr_x0 : RdT (fun b => ¬ False) w0 (rowT x0) (.slice a_x0 n_x0 c_x0)) :
    Calls Try.prog 87 #[.slice a_x0 n_x0 c_x0] w0 fun e w => e = .returned (.bool r0) ∧ St w0 (fun _ => False) w [] := by
  obtain rfl := hr_x0.neq
  have HT : St w0 (fun _ => False) w0 [] := St.init0
  rw [m_impl_KidOk] at h
  refine calls_fr (n := 22) [.slice a_x0 x0.length c_x0] Try.func87 rfl rfl rfl (fun a HF => ?_)
  have HT : St w0 (fun _ => False) w0 [] := HT
  refine wp_seq ?_
  refine wc_text ?_
  refine wc_assign HF nS rfl rfl rfl (fun a HF => ?_)
  refine wc_end ?_
  refine then_n ?_
  obtain ⟨q1, hx1, h⟩ := obs h
  refine wp_cut (fun a w => q1 = .brk () ∧ Fr a 22 [(0, .slice a_x0 x0.length c_x0)] ∧ St w0 (fun _ => False) w []) ?_ ?_
  have hk1 := h
  have h := hx1
  refine wp_seq ?_
  refine wc_text ?_
  refine wc_move HF nS rfl rfl rfl (fun a HF => ?_)
  refine wc_lenR HF nS Try.underlying35 rfl rfl rfl (fun a HF => ?_)
  refine wc_move HF nS rfl rfl rfl (fun a HF => ?_)
  refine wc_end ?_
  refine then_n ?_
  refine wp_block ?_
  refine wp_loopN (fun k1 a w => ∃ z1, m_impl_KidOk_L0 fuel x0 k1 z1 = some q1 ∧ Fr a 22 [(0, .slice a_x0 x0.length c_x0), (5, .slice a_x0 x0.length c_x0), (6, .int .i64 (x0.length : Int)), (7, .int .i64 z1)] ∧ St w0 (fun _ => False) w []) fuel ⟨0, h, (HF.keep (HF.keep (HF.keep (HF.keep HF.nil rfl) rfl) rfl) rfl), HT⟩ ?_
  rintro k1 a w ⟨z1, h, HF, HT⟩
  rcases k1 with _ | k1
  cases h
  rw [m_impl_KidOk_L0] at h
  refine ?_
  refine wp_seq ?_
  refine wc_text ?_
  refine wc_bin HF nS rfl rfl b_lt rfl rfl (fun a HF => ?_)
  refine wc_end ?_
  refine then_n ?_
  refine wp_seq ?_
  by_cases hb1 : z1 < (x0.length : Int)
  have h := (if_pos hb1).symm.trans h
  refine wp_if (b' := true) HF rfl (decide_eq_true hb1) ?_
  refine wp_skip ?_
  refine then_n ?_
  refine wp_seq ?_
  refine wp_block ?_
  refine wp_seq ?_
  refine wc_text ?_
  obtain ⟨e1, hx2, h⟩ := obs h
  obtain ⟨b1, o1, ha1⟩ := (HT.ro hr_x0).any.addr hx2
  refine wc_ixaddr HF nS el35 rfl ha1 ((HT.ro hr_x0).any).neq rfl hx2 rfl rfl (fun a HF => ?_)
  have hc1 := (HT.ro hr_x0).any.flatAt ha1 hx2
  refine wc_loadA (vs := [.int .i64 e1.a, .int .i64 e1.b, .int .i64 e1.c, .int .i64 e1.d]) HF rfl ag25 rfl (hc1.part 0 4) rfl rfl (fun a HF => ?_)
  refine wc_alloc (cs := [.int .i64 0, .int .i64 0, .int .i64 0, .int .i64 0]) HF HT zr25 rfl rfl rfl (fun p1 w HT hb => ⟨nS, fun a HF => ?_⟩)
  refine wc_storeB (cs' := [.int .i64 e1.a, .int .i64 e1.b, .int .i64 e1.c, .int .i64 e1.d]) HF HT rfl rfl (fun w => (ag25 w).2) rfl rfl rfl rfl rfl (fun w HT => ⟨nS, ?_⟩)
  refine wc_end ?_
  refine then_n ?_
  refine wp_seq ?_
  refine wc_text ?_
  refine wc_faddr HF nS rfl fl25_0 rfl rfl (fun a HF => ?_)
  refine wc_load HF rfl sc3 ((HT.boxAt 0 rfl).get 0 rfl) rfl rfl (fun a HF => ?_)
  refine wc_bin HF nS rfl rfl b_eq rfl rfl (fun a HF => ?_)
  refine wc_move HF nS rfl rfl rfl (fun a HF => ?_)
  by_cases hb2 : e1.a = 11
  have h := (if_pos hb2).symm.trans h
  refine wc_skip HF nS (HF.wn rfl rfl rfl rfl (decide_eq_true hb2)) rfl (fun a HF => ?_)
  refine wc_skip HF nS (HF.wn rfl rfl rfl rfl (decide_eq_true hb2)) rfl (fun a HF => ?_)
  refine wc_skip HF nS (HF.wn rfl rfl rfl rfl (decide_eq_true hb2)) rfl (fun a HF => ?_)
  refine wc_pick (b := true) HF nS rfl (decide_eq_true hb2) rfl rfl rfl (fun a HF => ?_)
  refine wc_end ?_
  refine then_n ?_
  refine wp_if (b' := true) HF rfl rfl ?_
  refine wp_seq ?_
  refine wc_text ?_
  refine wc_assign HF nS rfl rfl rfl (fun a HF => ?_)
  refine wc_end ?_
  refine then_n ?_
  refine wp_ret ?_
  obtain rfl := Option.some.inj h
  have h := retL hk1
  obtain rfl := Option.some.inj h
  refine blk_r (then_r (then_r (blk_r (then_r (?_)))))
  refine bp_ret HF (res_one rfl HF rfl) ?_
  have HT := HT.t0
  exact ⟨rfl, HT⟩
  have h := (if_neg hb2).symm.trans h
  refine wc_loadA (vs := [.int .i64 e1.a, .int .i64 e1.b, .int .i64 e1.c, .int .i64 e1.d]) HF rfl ag25 rfl ((HT.boxAt 0 rfl).part 0 4) (HF.wy rfl rfl rfl rfl (decide_eq_false hb2)) rfl (fun a HF => ?_)
  obtain ⟨y1, hx3, h⟩ := obs h
  refine wc_call HF cf100 rfl (w_impl_Touches fuel hx3) (HF.wy rfl rfl rfl rfl (decide_eq_false hb2)) rfl ?_
  rintro e w ⟨rfl, hE⟩
  have hb := hE.below
  have HT := HT.pure hE
  have HT : St w0 (fun _ => False) w [Box p1 [.int .i64 e1.a, .int .i64 e1.b, .int .i64 e1.c, .int .i64 e1.d]] := HT
  refine ⟨_, rfl, nS, fun a HF => ?_⟩
  refine wc_bin HF nS rfl rfl b_eq (HF.wy rfl rfl rfl rfl (decide_eq_false hb2)) rfl (fun a HF => ?_)
  refine wc_pick (b := false) HF nS rfl (decide_eq_false hb2) rfl rfl rfl (fun a HF => ?_)
  refine wc_end ?_
  refine then_n ?_
  by_cases hb3 : y1 = 2
  have h := (if_pos hb3).symm.trans h
  refine wp_if (b' := true) HF rfl (decide_eq_true hb3) ?_
  refine wp_seq ?_
  refine wc_text ?_
  refine wc_assign HF nS rfl rfl rfl (fun a HF => ?_)
  refine wc_end ?_
  refine then_n ?_
  refine wp_ret ?_
  obtain rfl := Option.some.inj h
  have h := retL hk1
  obtain rfl := Option.some.inj h
  refine blk_r (then_r (then_r (blk_r (then_r (?_)))))
  refine bp_ret HF (res_one rfl HF rfl) ?_
  have HT := HT.t0
  exact ⟨rfl, HT⟩
  have h := (if_neg hb3).symm.trans h
  refine wp_if (b' := false) HF rfl (decide_eq_false hb3) ?_
  refine wp_skip ?_
  refine blk_n ?_
  refine then_n ?_
  refine wc_text ?_
  obtain ⟨hg1, h⟩ := grd h
  refine wc_bin HF nS rfl rfl (b_add hg1) rfl rfl (fun a HF => ?_)
  refine wc_move HF nS rfl rfl rfl (fun a HF => ?_)
  refine wc_end ?_
  have HT := HT.t0
  exact then_n ⟨k1, Nat.lt_succ_self k1, z1 + 1, h, (HF.keep (HF.keep (HF.keep (HF.keep HF.nil rfl) rfl) rfl) rfl), HT⟩
  have h := (if_neg hb1).symm.trans h
  refine wp_if (b' := false) HF rfl (decide_eq_false hb1) ?_
  refine wp_exit ?_
  refine then_x (then_x (?_))
  refine blk_x ?_
  exact then_n ⟨(Option.some.inj h).symm, (HF.keep HF.nil rfl), HT⟩
  rintro a w ⟨rfl, HF, HT⟩
  have h := brkL1u h
  refine ?_
  refine wp_seq ?_
  refine wc_text ?_
  refine wc_move HF nS rfl rfl rfl (fun a HF => ?_)
  obtain ⟨y2, hx4, h⟩ := obs h
  refine wc_call HF cf53 rfl (w_impl_CodeOk fuel hx4 (HT.ro hr_x0).any) rfl rfl ?_
  rintro e w ⟨rfl, hE⟩
  have hb := hE.below
  have HT := HT.pure hE
  have HT : St w0 (fun _ => False) w [] := HT
  refine ⟨_, rfl, nS, fun a HF => ?_⟩
  refine wc_assign HF nS rfl rfl rfl (fun a HF => ?_)
  refine wc_end ?_
  refine then_n ?_
  refine wp_ret ?_
  obtain rfl := Option.some.inj h
  refine bp_ret HF (res_one rfl HF rfl) ?_
  exact ⟨rfl, HT⟩

def m_impl_ProgOk_L0 (fuel : Nat) (x0_1 : List KidD) : Nat → Int → Option (Lp Unit Bool)
  | 0, _ => none
  | k1 + 1, z1 =>
    if z1 < (x0_1.length : Int) then
      (at? x0_1 z1).bind fun e1 =>
      (m_impl_KidOk fuel e1.code).bind fun y1 =>
      if y1 = true then
        if in64 (z1 + 1) then
          m_impl_ProgOk_L0 fuel x0_1 k1 (z1 + 1)
        else none
      else
      some (.ret false)
    else
    some (.brk ())

def m_impl_ProgOk (fuel : Nat) (x0_0 : List I4) (x0_1 : List KidD) : Option Bool :=
  (m_impl_ProgOk_L0 fuel x0_1 fuel 0).bind <| contL <| un1 fun _ =>
  (m_impl_CodeOk fuel x0_0).bind fun y2 =>
  if y2 = true then
    if (x0_1.length : Int) ≤ 3 then
      (m_impl_HasFork fuel x0_0).bind fun y3 =>
      some (y3 == (decide (0 < (x0_1.length : Int))))
    else
    some false
  else
  some false

set_option maxRecDepth 100000 in
set_option maxHeartbeats 4000000 in
theorem w_impl_ProgOk (fuel : Nat) {x0_0 : List I4} {x0_1 : List KidD} {a_x0_0 : Option Addr} {n_x0_0 c_x0_0 : Nat} {a_x0_1 : Option Addr} {n_x0_1 c_x0_1 : Nat} {r0 : Bool} {w0 : World} (h : m_impl_ProgOk fuel x0_0 x0_1 = some r0) (hr_x0_0 : RdT (fun b => ¬ False) w0 (rowT x0_0) (.slice a_x0_0 n_x0_0 c_x0_0)) (hr_x0_1 : RdT (fun b => ¬ False) w0 (rowT x0_1) (.slice a_x0_1 n_x0_1 c_x0_1)) :
    Calls Try.prog 58 #[.agg #[.slice a_x0_0 n_x0_0 c_x0_0, .slice a_x0_1 n_x0_1 c_x0_1]] w0 fun e w => e = .returned (.bool r0) ∧ St w0 (fun _ => False) w [] := by
  obtain rfl := hr_x0_0.neq
  obtain rfl := hr_x0_1.neq
  have HT : St w0 (fun _ => False) w0 [] := St.init0
  rw [m_impl_ProgOk] at h
  refine calls_fr (n := 36) [.agg #[.slice a_x0_0 x0_0.length c_x0_0, .slice a_x0_1 x0_1.length c_x0_1]] Try.func58 rfl rfl rfl (fun a HF => ?_)
  have HT : St w0 (fun _ => False) w0 [] := HT
  refine wp_seq ?_
  refine wc_text ?_
  refine wc_box (cs := [.slice a_x0_0 x0_0.length c_x0_0, .slice a_x0_1 x0_1.length c_x0_1]) HF HT rfl rfl rfl rfl (fun p1 w HT hb => ⟨nS, fun a HF => ?_⟩)
  refine wc_assign HF nS rfl rfl rfl (fun a HF => ?_)
  refine wc_end ?_
  refine then_n ?_
  obtain ⟨q1, hx1, h⟩ := obs h
  refine wp_cut (fun a w => q1 = .brk () ∧ Fr a 36 [(1, .pointer (some ⟨p1, 0, none⟩))] ∧ St w0 (fun _ => False) w [Box p1 [.slice a_x0_0 x0_0.length c_x0_0, .slice a_x0_1 x0_1.length c_x0_1]]) ?_ ?_
  have hk1 := h
  have h := hx1
  refine wp_seq ?_
  refine wc_text ?_
  refine wc_faddr HF nS rfl fl49_1 rfl rfl (fun a HF => ?_)
  refine wc_load HF rfl sc47 ((HT.boxAt 0 rfl).get 1 rfl) rfl rfl (fun a HF => ?_)
  refine wc_lenR HF nS Try.underlying47 rfl rfl rfl (fun a HF => ?_)
  refine wc_move HF nS rfl rfl rfl (fun a HF => ?_)
  refine wc_end ?_
  refine then_n ?_
  refine wp_block ?_
  refine wp_loopN (fun k1 a w => ∃ z1, m_impl_ProgOk_L0 fuel x0_1 k1 z1 = some q1 ∧ Fr a 36 [(1, .pointer (some ⟨p1, 0, none⟩)), (6, .slice a_x0_1 x0_1.length c_x0_1), (7, .int .i64 (x0_1.length : Int)), (8, .int .i64 z1)] ∧ St w0 (fun _ => False) w [Box p1 [.slice a_x0_0 x0_0.length c_x0_0, .slice a_x0_1 x0_1.length c_x0_1]]) fuel ⟨0, h, (HF.keep (HF.keep (HF.keep (HF.keep HF.nil rfl) rfl) rfl) rfl), HT⟩ ?_
  rintro k1 a w ⟨z1, h, HF, HT⟩
  rcases k1 with _ | k1
  cases h
  rw [m_impl_ProgOk_L0] at h
  refine ?_
  refine wp_seq ?_
  refine wc_text ?_
  refine wc_bin HF nS rfl rfl b_lt rfl rfl (fun a HF => ?_)
  refine wc_end ?_
  refine then_n ?_
  refine wp_seq ?_
  by_cases hb1 : z1 < (x0_1.length : Int)
  have h := (if_pos hb1).symm.trans h
  refine wp_if (b' := true) HF rfl (decide_eq_true hb1) ?_
  refine wp_skip ?_
  refine then_n ?_
  refine wp_seq ?_
  refine wp_block ?_
  refine wp_seq ?_
  refine wc_text ?_
  obtain ⟨e1, hx2, h⟩ := obs h
  obtain ⟨b1, o1, ha1⟩ := (HT.ro hr_x0_1).any.addr hx2
  refine wc_ixaddr HF nS el47 rfl ha1 ((HT.ro hr_x0_1).any).neq rfl hx2 rfl rfl (fun a HF => ?_)
  obtain ⟨_, hP1, hc1, hr1⟩ := hr_x0_1.elemAt ha1 hx2
  obtain ⟨a1, c1, rfl, hr2⟩ := cells_Kid hr1
  have hc2 := HT.roLd hP1 hc1
  refine wc_loadA (vs := [.slice a1 e1.code.length c1]) HF rfl ag77 rfl (hc2.part 0 1) rfl rfl (fun a HF => ?_)
  refine wc_alloc (cs := [.slice none 0 0]) HF HT zr77 rfl rfl rfl (fun p2 w HT hb => ⟨nS, fun a HF => ?_⟩)
  refine wc_storeB (cs' := [.slice a1 e1.code.length c1]) HF HT rfl rfl (fun w => (ag77 w).2) rfl rfl rfl rfl rfl (fun w HT => ⟨nS, ?_⟩)
  refine wc_end ?_
  refine then_n ?_
  refine wp_seq ?_
  refine wc_text ?_
  refine wc_faddr HF nS rfl fl77_0 rfl rfl (fun a HF => ?_)
  refine wc_load HF rfl sc35 ((HT.boxAt 0 rfl).get 0 rfl) rfl rfl (fun a HF => ?_)
  obtain ⟨y1, hx3, h⟩ := obs h
  refine wc_call HF cf87 rfl (w_impl_KidOk fuel hx3 (HT.ro hr2).any) rfl rfl ?_
  rintro e w ⟨rfl, hE⟩
  have hb := hE.below
  have HT := HT.pure hE
  have HT : St w0 (fun _ => False) w [Box p2 [.slice a1 e1.code.length c1], Box p1 [.slice a_x0_0 x0_0.length c_x0_0, .slice a_x0_1 x0_1.length c_x0_1]] := HT
  refine ⟨_, rfl, nS, fun a HF => ?_⟩
  refine wc_not HF nS rfl rfl rfl (fun a HF => ?_)
  refine wc_end ?_
  refine then_n ?_
  by_cases hb2 : y1 = true
  have h := (if_pos hb2).symm.trans h
  refine wp_if (b' := false) HF rfl (notT hb2) ?_
  refine wp_skip ?_
  refine blk_n ?_
  refine then_n ?_
  refine wc_text ?_
  obtain ⟨hg1, h⟩ := grd h
  refine wc_bin HF nS rfl rfl (b_add hg1) rfl rfl (fun a HF => ?_)
  refine wc_move HF nS rfl rfl rfl (fun a HF => ?_)
  refine wc_end ?_
  have HT := HT.p1.t1
  exact then_n ⟨k1, Nat.lt_succ_self k1, z1 + 1, h, (HF.keep (HF.keep (HF.keep (HF.keep HF.nil rfl) rfl) rfl) rfl), HT⟩
  have h := (if_neg hb2).symm.trans h
  refine wp_if (b' := true) HF rfl (notF (Bool.eq_false_iff.2 hb2)) ?_
  refine wp_seq ?_
  refine wc_text ?_
  refine wc_assign HF nS rfl rfl rfl (fun a HF => ?_)
  refine wc_end ?_
  refine then_n ?_
  refine wp_ret ?_
  obtain rfl := Option.some.inj h
  have h := retL hk1
  obtain rfl := Option.some.inj h
  refine blk_r (then_r (then_r (blk_r (then_r (?_)))))
  refine bp_ret HF (res_one rfl HF rfl) ?_
  have HT := HT.t0
  exact ⟨rfl, HT⟩
  have h := (if_neg hb1).symm.trans h
  refine wp_if (b' := false) HF rfl (decide_eq_false hb1) ?_
  refine wp_exit ?_
  refine then_x (then_x (?_))
  refine blk_x ?_
  exact then_n ⟨(Option.some.inj h).symm, (HF.keep HF.nil rfl), HT⟩
  rintro a w ⟨rfl, HF, HT⟩
  have h := brkL1u h
  refine ?_
  refine wp_seq ?_
  refine wp_region_can [(0, true), (1, true), (2, false), (3, true), (4, true), (5, true), (6, true), (7, true), (8, true), (9, true), (10, true), (11, true), (13, false), (14, false), (15, false), (16, false), (12, false), (17, true), (18, true), (19, true)] (fun w' => w'.cell? ⟨p1, 1, none⟩ = some (.slice a_x0_1 x0_1.length c_x0_1) ∧ True) (by kernel_rfl) (by kernel_rfl) ?_
  have HT := HT.drew
  refine wc_faddr HF nS rfl fl49_0 rfl rfl (fun a HF => ?_)
  refine wc_load HF rfl sc35 ((HT.boxAt 0 rfl).get 0 rfl) rfl rfl (fun a HF => ?_)
  obtain ⟨y2, hx4, h⟩ := obs h
  refine wc_call HF cf53 rfl (w_impl_CodeOk fuel hx4 (HT.ro hr_x0_0).any) rfl rfl ?_
  rintro e w ⟨rfl, hE⟩
  have hb := hE.below
  have HT := HT.pure hE
  have HT : St w0 (fun _ => False) w [Box p1 [.slice a_x0_0 x0_0.length c_x0_0, .slice a_x0_1 x0_1.length c_x0_1]] := HT
  refine ⟨_, rfl, (fun _ => ⟨(HT.boxAt 0 rfl).get 1 rfl, trivial⟩), fun a HF => ?_⟩
  refine wc_move HF nS rfl rfl rfl (fun a HF => ?_)
  by_cases hb3 : y2 = true
  have h := (if_pos hb3).symm.trans h
  refine wc_faddr HF nS rfl fl49_1 (HF.wy rfl rfl rfl rfl hb3) rfl (fun a HF => ?_)
  refine wc_load HF rfl sc47 ((HT.boxAt 0 rfl).get 1 rfl) (HF.wy rfl rfl rfl rfl hb3) rfl (fun a HF => ?_)
  refine wc_lenR HF nS Try.underlying47 rfl (HF.wy rfl rfl rfl rfl hb3) rfl (fun a HF => ?_)
  refine wc_bin HF nS rfl rfl b_le (HF.wy rfl rfl rfl rfl hb3) rfl (fun a HF => ?_)
  refine wc_pick (b := true) HF nS rfl hb3 rfl rfl rfl (fun a HF => ?_)
  refine wc_move HF nS rfl rfl rfl (fun a HF => ?_)
  by_cases hb4 : (x0_1.length : Int) ≤ 3
  have h := (if_pos hb4).symm.trans h
  refine wc_faddr HF nS rfl fl49_0 (HF.wy rfl rfl rfl rfl (decide_eq_true hb4)) rfl (fun a HF => ?_)
  refine wc_load HF rfl sc35 ((HT.boxAt 0 rfl).get 0 rfl) (HF.wy rfl rfl rfl rfl (decide_eq_true hb4)) rfl (fun a HF => ?_)
  refine wc_faddr HF (fun _ => ⟨(HT.boxAt 0 rfl).get 1 rfl, trivial⟩) rfl fl49_1 (HF.wy rfl rfl rfl rfl (decide_eq_true hb4)) rfl (fun a HF => ?_)
  refine wc_loadS HF ⟨(HT.boxAt 0 rfl).get 1 rfl, trivial⟩ rfl sc47 (fun w hS => hS.1) (HF.wy rfl rfl rfl rfl (decide_eq_true hb4)) rfl (fun a HF => ?_)
  refine wc_lenR HF (fun _ => ⟨(HT.boxAt 0 rfl).get 1 rfl, trivial⟩) Try.underlying47 rfl (HF.wy rfl rfl rfl rfl (decide_eq_true hb4)) rfl (fun a HF => ?_)
  refine wc_bin HF (fun _ => ⟨(HT.boxAt 0 rfl).get 1 rfl, trivial⟩) rfl rfl b_gt (HF.wy rfl rfl rfl rfl (decide_eq_true hb4)) rfl (fun a HF => ?_)
  obtain ⟨y3, hx5, h⟩ := obs h
  refine wc_call HF cf88 rfl (w_impl_HasFork fuel hx5 (HT.ro hr_x0_0).any) (HF.wy rfl rfl rfl rfl (decide_eq_true hb4)) rfl ?_
  rintro e w ⟨rfl, hE⟩
  have hb := hE.below
  have HT := HT.pure hE
  have HT : St w0 (fun _ => False) w [Box p1 [.slice a_x0_0 x0_0.length c_x0_0, .slice a_x0_1 x0_1.length c_x0_1]] := HT
  refine ⟨_, rfl, (fun _ => ⟨(HT.boxAt 0 rfl).get 1 rfl, trivial⟩), fun a HF => ?_⟩
  refine wc_bin HF nS rfl rfl (b_beq Try.underlying4) (HF.wy rfl rfl rfl rfl (decide_eq_true hb4)) rfl (fun a HF => ?_)
  refine wc_pick (b := true) HF nS rfl (decide_eq_true hb4) rfl rfl rfl (fun a HF => ?_)
  refine wc_assign HF nS rfl rfl rfl (fun a HF => ?_)
  refine wc_endN ?_
  refine then_n ?_
  refine wp_ret ?_
  obtain rfl := Option.some.inj h
  refine bp_ret HF (res_one rfl HF rfl) ?_
  have HT := HT.t0
  exact ⟨rfl, HT⟩
  have h := (if_neg hb4).symm.trans h
  refine wc_skip HF nS (HF.wn rfl rfl rfl rfl (decide_eq_false hb4)) rfl (fun a HF => ?_)
  refine wc_skip HF nS (HF.wn rfl rfl rfl rfl (decide_eq_false hb4)) rfl (fun a HF => ?_)
  refine wc_skip HF (fun _ => ⟨(HT.boxAt 0 rfl).get 1 rfl, trivial⟩) (HF.wn rfl rfl rfl rfl (decide_eq_false hb4)) rfl (fun a HF => ?_)
  refine wc_skip HF (fun _ => ⟨(HT.boxAt 0 rfl).get 1 rfl, trivial⟩) (HF.wn rfl rfl rfl rfl (decide_eq_false hb4)) rfl (fun a HF => ?_)
  refine wc_skip HF (fun _ => ⟨(HT.boxAt 0 rfl).get 1 rfl, trivial⟩) (HF.wn rfl rfl rfl rfl (decide_eq_false hb4)) rfl (fun a HF => ?_)
  refine wc_skip HF (fun _ => ⟨(HT.boxAt 0 rfl).get 1 rfl, trivial⟩) (HF.wn rfl rfl rfl rfl (decide_eq_false hb4)) rfl (fun a HF => ?_)
  refine wc_skip HF (fun _ => ⟨(HT.boxAt 0 rfl).get 1 rfl, trivial⟩) (HF.wn rfl rfl rfl rfl (decide_eq_false hb4)) rfl (fun a HF => ?_)
  refine wc_skip HF nS (HF.wn rfl rfl rfl rfl (decide_eq_false hb4)) rfl (fun a HF => ?_)
  refine wc_pick (b := false) HF nS rfl (decide_eq_false hb4) rfl rfl rfl (fun a HF => ?_)
  refine wc_assign HF nS rfl rfl rfl (fun a HF => ?_)
  refine wc_endN ?_
  refine then_n ?_
  refine wp_ret ?_
  obtain rfl := Option.some.inj h
  refine bp_ret HF (res_one rfl HF rfl) ?_
  have HT := HT.t0
  exact ⟨rfl, HT⟩
  have h := (if_neg hb3).symm.trans h
  refine wc_skip HF nS (HF.wn rfl rfl rfl rfl (Bool.eq_false_iff.2 hb3)) rfl (fun a HF => ?_)
  refine wc_skip HF nS (HF.wn rfl rfl rfl rfl (Bool.eq_false_iff.2 hb3)) rfl (fun a HF => ?_)
  refine wc_skip HF nS (HF.wn rfl rfl rfl rfl (Bool.eq_false_iff.2 hb3)) rfl (fun a HF => ?_)
  refine wc_skip HF nS (HF.wn rfl rfl rfl rfl (Bool.eq_false_iff.2 hb3)) rfl (fun a HF => ?_)
  refine wc_pick (b := false) HF nS rfl (Bool.eq_false_iff.2 hb3) rfl rfl rfl (fun a HF => ?_)
  refine wc_move HF nS rfl rfl rfl (fun a HF => ?_)
  refine wc_skip HF nS (HF.wn rfl rfl rfl rfl rfl) rfl (fun a HF => ?_)
  refine wc_skip HF nS (HF.wn rfl rfl rfl rfl rfl) rfl (fun a HF => ?_)
  refine wc_skip HF (fun _ => ⟨(HT.boxAt 0 rfl).get 1 rfl, trivial⟩) (HF.wn rfl rfl rfl rfl rfl) rfl (fun a HF => ?_)
  refine wc_skip HF (fun _ => ⟨(HT.boxAt 0 rfl).get 1 rfl, trivial⟩) (HF.wn rfl rfl rfl rfl rfl) rfl (fun a HF => ?_)
  refine wc_skip HF (fun _ => ⟨(HT.boxAt 0 rfl).get 1 rfl, trivial⟩) (HF.wn rfl rfl rfl rfl rfl) rfl (fun a HF => ?_)
  refine wc_skip HF (fun _ => ⟨(HT.boxAt 0 rfl).get 1 rfl, trivial⟩) (HF.wn rfl rfl rfl rfl rfl) rfl (fun a HF => ?_)
  refine wc_skip HF (fun _ => ⟨(HT.boxAt 0 rfl).get 1 rfl, trivial⟩) (HF.wn rfl rfl rfl rfl rfl) rfl (fun a HF => ?_)
  refine wc_skip HF nS (HF.wn rfl rfl rfl rfl rfl) rfl (fun a HF => ?_)
  refine wc_pick (b := false) HF nS rfl rfl rfl rfl rfl (fun a HF => ?_)
  refine wc_assign HF nS rfl rfl rfl (fun a HF => ?_)
  refine wc_endN ?_
  refine then_n ?_
  refine wp_ret ?_
  obtain rfl := Option.some.inj h
  refine bp_ret HF (res_one rfl HF rfl) ?_
  have HT := HT.t0
  exact ⟨rfl, HT⟩
end Go.Proofs.Ytpbfppelmgjfpaa
