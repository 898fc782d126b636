/- Walks of functions, by program: impl.opens, impl.DepthAt, impl.within, impl.isCell, impl.isKey, impl.isReg, impl.isValue, impl.OpOk, impl.isBalanced, impl.CodeOk, impl.Touches, impl.KidOk, impl.areValues, impl.copyInts, impl.Calc, impl.EndOf, impl.copyThings, slices.Index[[]int,int], slices.Contains[[]int,int], impl.fullOrder, impl.touch. -/
import Derived.Test.YtknghnmcckjjbaaTy
namespace Go.Proofs.Ytknghnmcckjjbaa
open Go Go.RowKit
set_option linter.unusedVariables false
set_option linter.unusedSimpArgs false
def m_impl_opens (fuel : Nat) (x0_0 : Int) (x0_1 : Int) (x0_2 : Int) (x0_3 : Int) : Option Int :=
  if x0_0 = 8 then
    some 1
  else
  if x0_0 = 9 then
    some (-1)
  else
  some 0

set_option maxRecDepth 100000 in
set_option maxHeartbeats 4000000 in
theorem w_impl_opens (fuel : Nat) {x0_0 : Int} {x0_1 : Int} {x0_2 : Int} {x0_3 : Int} {r0 : Int} {w0 : World} (h : m_impl_opens fuel x0_0 x0_1 x0_2 x0_3 = some r0) :
    Calls Try.prog 123 #[.agg #[.int .i64 x0_0, .int .i64 x0_1, .int .i64 x0_2, .int .i64 x0_3]] w0 fun e w => e = .returned (.int .i64 r0) ∧ St w0 (fun _ => False) w [] := by
  have HT : St w0 (fun _ => False) w0 [] := St.init0
  rw [m_impl_opens] at h
  refine calls_fr (n := 9) [.agg #[.int .i64 x0_0, .int .i64 x0_1, .int .i64 x0_2, .int .i64 x0_3]] Try.func123 rfl rfl rfl (fun a HF => ?_)
  have HT : St w0 (fun _ => False) w0 [] := HT
  refine wp_seq ?_
  refine wc_text ?_
  refine wc_box (cs := [.int .i64 x0_0, .int .i64 x0_1, .int .i64 x0_2, .int .i64 x0_3]) HF HT rfl rfl rfl rfl (fun p1 w HT hb => ⟨nS, fun a HF => ?_⟩)
  refine wc_assign HF nS rfl rfl rfl (fun a HF => ?_)
  refine wc_end ?_
  refine then_n ?_
  refine wp_seq ?_
  refine wp_seq ?_
  refine wc_text ?_
  refine wc_faddr HF nS rfl fl85_0 rfl rfl (fun a HF => ?_)
  refine wc_load HF rfl sc3 ((HT.boxAt 0 rfl).get 0 rfl) rfl rfl (fun a HF => ?_)
  refine wc_end ?_
  refine then_n ?_
  refine wp_block ?_
  refine wp_seq ?_
  refine wc_text ?_
  refine wc_bin HF nS rfl rfl b_eq rfl rfl (fun a HF => ?_)
  refine wc_assign HF nS rfl rfl rfl (fun a HF => ?_)
  refine wc_end ?_
  refine then_n ?_
  by_cases hb1 : x0_0 = 8
  have h := (if_pos hb1).symm.trans h
  refine wp_if (b' := true) HF rfl (decide_eq_true hb1) ?_
  refine wp_seq ?_
  refine wc_text ?_
  refine wc_assign HF nS rfl rfl rfl (fun a HF => ?_)
  refine wc_end ?_
  refine then_n ?_
  refine wp_ret ?_
  obtain rfl := Option.some.inj h
  refine blk_r (then_r (?_))
  refine bp_ret HF (res_one rfl HF rfl) ?_
  have HT := HT.t0
  exact ⟨rfl, HT⟩
  have h := (if_neg hb1).symm.trans h
  refine wp_if (b' := false) HF rfl (decide_eq_false hb1) ?_
  refine wp_seq ?_
  refine wc_text ?_
  refine wc_bin HF nS rfl rfl b_eq rfl rfl (fun a HF => ?_)
  refine wc_assign HF nS rfl rfl rfl (fun a HF => ?_)
  refine wc_end ?_
  refine then_n ?_
  by_cases hb2 : x0_0 = 9
  have h := (if_pos hb2).symm.trans h
  refine wp_if (b' := true) HF rfl (decide_eq_true hb2) ?_
  refine wp_seq ?_
  refine wc_text ?_
  refine wc_assign HF nS rfl rfl rfl (fun a HF => ?_)
  refine wc_end ?_
  refine then_n ?_
  refine wp_ret ?_
  obtain rfl := Option.some.inj h
  refine blk_r (then_r (?_))
  refine bp_ret HF (res_one rfl HF rfl) ?_
  have HT := HT.t0
  exact ⟨rfl, HT⟩
  have h := (if_neg hb2).symm.trans h
  refine wp_if (b' := false) HF rfl (decide_eq_false hb2) ?_
  refine wp_skip ?_
  refine blk_n ?_
  refine then_n ?_
  refine wp_seq ?_
  refine wc_text ?_
  refine wc_assign HF nS rfl rfl rfl (fun a HF => ?_)
  refine wc_end ?_
  refine then_n ?_
  refine wp_ret ?_
  obtain rfl := Option.some.inj h
  refine bp_ret HF (res_one rfl HF rfl) ?_
  have HT := HT.t0
  exact ⟨rfl, HT⟩

def m_impl_DepthAt_L0 (fuel : Nat) (x0 : List I4) (x1 : Int) : Nat → Int → Int → Option Int
  | 0, _, _ => none
  | k1 + 1, z2, z3 =>
    if z3 < (x0.length : Int) then
      (
        (at? x0 z3).bind fun e1 =>
        if z3 < x1 then
          (m_impl_opens fuel e1.a e1.b e1.c e1.d).bind fun y1 =>
          if in64 (z2 + y1) then
            some (z2 + y1)
          else none
        else
        some z2).bind fun z4 =>
      if in64 (z3 + 1) then
        m_impl_DepthAt_L0 fuel x0 x1 k1 z4 (z3 + 1)
      else none
    else
    some z2

def m_impl_DepthAt (fuel : Nat) (x0 : List I4) (x1 : Int) : Option Int :=
  (m_impl_DepthAt_L0 fuel x0 x1 fuel 0 0).bind fun z1 =>
  some z1

set_option maxRecDepth 100000 in
set_option maxHeartbeats 4000000 in
theorem w_impl_DepthAt (fuel : Nat) {x0 : List I4} {x1 : Int} {a_x0 : Option Addr} {n_x0 c_x0 : Nat} {r0 : Int} {w0 : World} (h : m_impl_DepthAt fuel x0 x1 = some r0) (hr_x0 : RdT (fun b => ¬ False) w0 (rowT x0) (.slice a_x0 n_x0 c_x0)) :
    Calls Try.prog 122 #[.slice a_x0 n_x0 c_x0, .int .i64 x1] w0 fun e w => e = .returned (.int .i64 r0) ∧ St w0 (fun _ => False) w [] := by
  obtain rfl := hr_x0.neq
  have HT : St w0 (fun _ => False) w0 [] := St.init0
  rw [m_impl_DepthAt] at h
  refine calls_fr (n := 24) [.slice a_x0 x0.length c_x0, .int .i64 x1] Try.func122 rfl rfl rfl (fun a HF => ?_)
  have HT : St w0 (fun _ => False) w0 [] := HT
  refine wp_seq ?_
  refine wc_text ?_
  refine wc_assign HF nS rfl rfl rfl (fun a HF => ?_)
  refine wc_end ?_
  refine then_n ?_
  refine wp_seq ?_
  refine wc_text ?_
  refine wc_assign HF nS rfl rfl rfl (fun a HF => ?_)
  refine wc_end ?_
  refine then_n ?_
  obtain ⟨z1, hx1, h⟩ := obs h
  refine wp_cut (fun a w => Fr a 24 [(5, .int .i64 z1)] ∧ St w0 (fun _ => False) w []) ?_ ?_
  have hk1 := h
  have h := hx1
  refine wp_seq ?_
  refine wc_text ?_
  refine wc_move HF nS rfl rfl rfl (fun a HF => ?_)
  refine wc_lenR HF nS Try.underlying36 rfl rfl rfl (fun a HF => ?_)
  refine wc_move HF nS rfl rfl rfl (fun a HF => ?_)
  refine wc_end ?_
  refine then_n ?_
  refine wp_block ?_
  refine wp_loopN (fun k1 a w => ∃ z2 z3, m_impl_DepthAt_L0 fuel x0 x1 k1 z2 z3 = some z1 ∧ Fr a 24 [(1, .int .i64 x1), (5, .int .i64 z2), (8, .slice a_x0 x0.length c_x0), (9, .int .i64 (x0.length : Int)), (10, .int .i64 z3)] ∧ St w0 (fun _ => False) w []) fuel ⟨0, 0, h, (HF.keep (HF.keep (HF.keep (HF.keep (HF.keep HF.nil rfl) rfl) rfl) rfl) rfl), HT⟩ ?_
  rintro k1 a w ⟨z2, z3, h, HF, HT⟩
  rcases k1 with _ | k1
  cases h
  rw [m_impl_DepthAt_L0] at h
  refine ?_
  refine wp_seq ?_
  refine wc_text ?_
  refine wc_bin HF nS rfl rfl b_lt rfl rfl (fun a HF => ?_)
  refine wc_end ?_
  refine then_n ?_
  refine wp_seq ?_
  by_cases hb1 : z3 < (x0.length : Int)
  have h := (if_pos hb1).symm.trans h
  refine wp_if (b' := true) HF rfl (decide_eq_true hb1) ?_
  refine wp_skip ?_
  refine then_n ?_
  obtain ⟨z4, hx2, h⟩ := obs h
  refine wp_cut (fun a w => Fr a 24 [(1, .int .i64 x1), (5, .int .i64 z4), (8, .slice a_x0 x0.length c_x0), (9, .int .i64 (x0.length : Int)), (10, .int .i64 z3)] ∧ St w0 (fun _ => False) w []) ?_ ?_
  have hk2 := h
  have h := hx2
  refine wp_block ?_
  refine wp_seq ?_
  refine wc_text ?_
  refine wc_move HF nS rfl rfl rfl (fun a HF => ?_)
  obtain ⟨e1, hx3, h⟩ := obs h
  obtain ⟨b1, o1, ha1⟩ := (HT.ro hr_x0).any.addr hx3
  refine wc_ixaddr HF nS el36 rfl ha1 ((HT.ro hr_x0).any).neq rfl hx3 rfl rfl (fun a HF => ?_)
  have hc1 := (HT.ro hr_x0).any.flatAt ha1 hx3
  refine wc_loadA (vs := [.int .i64 e1.a, .int .i64 e1.b, .int .i64 e1.c, .int .i64 e1.d]) HF rfl ag85 rfl (hc1.part 0 4) rfl rfl (fun a HF => ?_)
  refine wc_alloc (cs := [.int .i64 0, .int .i64 0, .int .i64 0, .int .i64 0]) HF HT zr85 rfl rfl rfl (fun p1 w HT hb => ⟨nS, fun a HF => ?_⟩)
  refine wc_assign HF nS rfl rfl rfl (fun a HF => ?_)
  refine wc_storeB (cs' := [.int .i64 e1.a, .int .i64 e1.b, .int .i64 e1.c, .int .i64 e1.d]) HF HT rfl rfl (fun w => (ag85 w).2) rfl rfl rfl rfl rfl (fun w HT => ⟨nS, ?_⟩)
  refine wc_end ?_
  refine then_n ?_
  refine wp_seq ?_
  refine wc_text ?_
  refine wc_move HF nS rfl rfl rfl (fun a HF => ?_)
  refine wc_move HF nS rfl rfl rfl (fun a HF => ?_)
  refine wc_bin HF nS rfl rfl b_lt rfl rfl (fun a HF => ?_)
  refine wc_end ?_
  refine then_n ?_
  by_cases hb2 : z3 < x1
  have h := (if_pos hb2).symm.trans h
  refine wp_if (b' := true) HF rfl (decide_eq_true hb2) ?_
  refine wc_text ?_
  refine wc_move HF nS rfl rfl rfl (fun a HF => ?_)
  refine wc_loadA (vs := [.int .i64 e1.a, .int .i64 e1.b, .int .i64 e1.c, .int .i64 e1.d]) HF rfl ag85 rfl ((HT.boxAt 0 rfl).part 0 4) rfl rfl (fun a HF => ?_)
  obtain ⟨y1, hx4, h⟩ := obs h
  refine wc_call HF cf123 rfl (w_impl_opens fuel hx4) rfl rfl ?_
  rintro e w ⟨rfl, hE⟩
  have hb := hE.below
  have HT := HT.pure hE
  have HT : St w0 (fun _ => False) w [Box p1 [.int .i64 e1.a, .int .i64 e1.b, .int .i64 e1.c, .int .i64 e1.d]] := HT
  refine ⟨_, rfl, nS, fun a HF => ?_⟩
  obtain ⟨hg1, h⟩ := grd h
  refine wc_bin HF nS rfl rfl (b_add hg1) rfl rfl (fun a HF => ?_)
  refine wc_assign HF nS rfl rfl rfl (fun a HF => ?_)
  refine wc_end ?_
  refine blk_n ?_
  have HT := HT.t0
  obtain rfl := Option.some.inj h
  exact then_n ⟨(HF.keep (HF.keep (HF.keep (HF.keep (HF.keep HF.nil rfl) rfl) rfl) rfl) rfl), HT⟩
  have h := (if_neg hb2).symm.trans h
  refine wp_if (b' := false) HF rfl (decide_eq_false hb2) ?_
  refine wp_skip ?_
  refine blk_n ?_
  have HT := HT.t0
  obtain rfl := Option.some.inj h
  exact then_n ⟨(HF.keep (HF.keep (HF.keep (HF.keep (HF.keep HF.nil rfl) rfl) rfl) rfl) rfl), HT⟩
  rintro a w ⟨HF, HT⟩
  refine ?_
  refine wc_text ?_
  obtain ⟨hg2, h⟩ := grd h
  refine wc_bin HF nS rfl rfl (b_add hg2) rfl rfl (fun a HF => ?_)
  refine wc_move HF nS rfl rfl rfl (fun a HF => ?_)
  refine wc_end ?_
  exact then_n ⟨k1, Nat.lt_succ_self k1, z4, z3 + 1, h, (HF.keep (HF.keep (HF.keep (HF.keep (HF.keep HF.nil rfl) rfl) rfl) rfl) rfl), HT⟩
  have h := (if_neg hb1).symm.trans h
  refine wp_if (b' := false) HF rfl (decide_eq_false hb1) ?_
  refine wp_exit ?_
  refine then_x (then_x (?_))
  refine blk_x ?_
  obtain rfl := Option.some.inj h
  exact then_n ⟨(HF.keep HF.nil rfl), HT⟩
  rintro a w ⟨HF, HT⟩
  refine ?_
  refine wp_seq ?_
  refine wc_text ?_
  refine wc_move HF nS rfl rfl rfl (fun a HF => ?_)
  refine wc_assign HF nS rfl rfl rfl (fun a HF => ?_)
  refine wc_end ?_
  refine then_n ?_
  refine wp_ret ?_
  obtain rfl := Option.some.inj h
  refine bp_ret HF (res_one rfl HF rfl) ?_
  exact ⟨rfl, HT⟩

def m_impl_within (fuel : Nat) (x0 : Int) (x1 : Int) (x2 : Int) : Option Bool :=
  if x1 ≤ x0 then
    some (decide (x0 ≤ x2))
  else
  some false

set_option maxRecDepth 100000 in
set_option maxHeartbeats 4000000 in
theorem w_impl_within (fuel : Nat) {x0 : Int} {x1 : Int} {x2 : Int} {r0 : Bool} {w0 : World} (h : m_impl_within fuel x0 x1 x2 = some r0) :
    Calls Try.prog 98 #[.int .i64 x0, .int .i64 x1, .int .i64 x2] w0 fun e w => e = .returned (.bool r0) ∧ St w0 (fun _ => False) w [] := by
  have HT : St w0 (fun _ => False) w0 [] := St.init0
  rw [m_impl_within] at h
  refine calls_fr (n := 15) [.int .i64 x0, .int .i64 x1, .int .i64 x2] Try.func98 rfl rfl rfl (fun a HF => ?_)
  have HT : St w0 (fun _ => False) w0 [] := HT
  refine wp_seq ?_
  refine wc_text ?_
  refine wc_assign HF nS rfl rfl rfl (fun a HF => ?_)
  refine wc_end ?_
  refine then_n ?_
  refine wp_seq ?_
  refine wc_text ?_
  refine wc_move HF nS rfl rfl rfl (fun a HF => ?_)
  refine wc_move HF nS rfl rfl rfl (fun a HF => ?_)
  refine wc_bin HF nS rfl rfl b_ge rfl rfl (fun a HF => ?_)
  refine wc_move HF nS rfl rfl rfl (fun a HF => ?_)
  by_cases hb1 : x1 ≤ x0
  have h := (if_pos hb1).symm.trans h
  refine wc_move HF nS rfl (HF.wy rfl rfl rfl rfl (decide_eq_true hb1)) rfl (fun a HF => ?_)
  refine wc_move HF nS rfl (HF.wy rfl rfl rfl rfl (decide_eq_true hb1)) rfl (fun a HF => ?_)
  refine wc_bin HF nS rfl rfl b_le (HF.wy rfl rfl rfl rfl (decide_eq_true hb1)) rfl (fun a HF => ?_)
  refine wc_pick (b := true) HF nS rfl (decide_eq_true hb1) rfl rfl rfl (fun a HF => ?_)
  refine wc_assign HF nS rfl rfl rfl (fun a HF => ?_)
  refine wc_end ?_
  refine then_n ?_
  refine wp_ret ?_
  obtain rfl := Option.some.inj h
  refine bp_ret HF (res_one rfl HF rfl) ?_
  exact ⟨rfl, HT⟩
  have h := (if_neg hb1).symm.trans h
  refine wc_skip HF nS (HF.wn rfl rfl rfl rfl (decide_eq_false hb1)) rfl (fun a HF => ?_)
  refine wc_skip HF nS (HF.wn rfl rfl rfl rfl (decide_eq_false hb1)) rfl (fun a HF => ?_)
  refine wc_skip HF nS (HF.wn rfl rfl rfl rfl (decide_eq_false hb1)) rfl (fun a HF => ?_)
  refine wc_pick (b := false) HF nS rfl (decide_eq_false hb1) rfl rfl rfl (fun a HF => ?_)
  refine wc_assign HF nS rfl rfl rfl (fun a HF => ?_)
  refine wc_end ?_
  refine then_n ?_
  refine wp_ret ?_
  obtain rfl := Option.some.inj h
  refine bp_ret HF (res_one rfl HF rfl) ?_
  exact ⟨rfl, HT⟩

def m_impl_isCell (fuel : Nat) (x0 : Int) : Option Bool :=
  (m_impl_within fuel x0 0 7).bind fun y1 =>
  some y1

set_option maxRecDepth 100000 in
set_option maxHeartbeats 4000000 in
theorem w_impl_isCell (fuel : Nat) {x0 : Int} {r0 : Bool} {w0 : World} (h : m_impl_isCell fuel x0 = some r0) :
    Calls Try.prog 134 #[.int .i64 x0] w0 fun e w => e = .returned (.bool r0) ∧ St w0 (fun _ => False) w [] := by
  have HT : St w0 (fun _ => False) w0 [] := St.init0
  rw [m_impl_isCell] at h
  refine calls_fr (n := 5) [.int .i64 x0] Try.func134 rfl rfl rfl (fun a HF => ?_)
  have HT : St w0 (fun _ => False) w0 [] := HT
  refine wp_seq ?_
  refine wc_text ?_
  refine wc_assign HF nS rfl rfl rfl (fun a HF => ?_)
  refine wc_end ?_
  refine then_n ?_
  refine wp_seq ?_
  refine wc_text ?_
  refine wc_move HF nS rfl rfl rfl (fun a HF => ?_)
  obtain ⟨y1, hx1, h⟩ := obs h
  refine wc_call HF cf98 rfl (w_impl_within fuel hx1) rfl rfl ?_
  rintro e w ⟨rfl, hE⟩
  have hb := hE.below
  have HT := HT.pure hE
  have HT : St w0 (fun _ => False) w [] := HT
  refine ⟨_, rfl, nS, fun a HF => ?_⟩
  refine wc_assign HF nS rfl rfl rfl (fun a HF => ?_)
  refine wc_end ?_
  refine then_n ?_
  refine wp_ret ?_
  obtain rfl := Option.some.inj h
  refine bp_ret HF (res_one rfl HF rfl) ?_
  exact ⟨rfl, HT⟩

def m_impl_isKey (fuel : Nat) (x0 : Int) : Option Bool :=
  (m_impl_within fuel x0 0 7).bind fun y1 =>
  some y1

set_option maxRecDepth 100000 in
set_option maxHeartbeats 4000000 in
theorem w_impl_isKey (fuel : Nat) {x0 : Int} {r0 : Bool} {w0 : World} (h : m_impl_isKey fuel x0 = some r0) :
    Calls Try.prog 135 #[.int .i64 x0] w0 fun e w => e = .returned (.bool r0) ∧ St w0 (fun _ => False) w [] := by
  have HT : St w0 (fun _ => False) w0 [] := St.init0
  rw [m_impl_isKey] at h
  refine calls_fr (n := 5) [.int .i64 x0] Try.func135 rfl rfl rfl (fun a HF => ?_)
  have HT : St w0 (fun _ => False) w0 [] := HT
  refine wp_seq ?_
  refine wc_text ?_
  refine wc_assign HF nS rfl rfl rfl (fun a HF => ?_)
  refine wc_end ?_
  refine then_n ?_
  refine wp_seq ?_
  refine wc_text ?_
  refine wc_move HF nS rfl rfl rfl (fun a HF => ?_)
  obtain ⟨y1, hx1, h⟩ := obs h
  refine wc_call HF cf98 rfl (w_impl_within fuel hx1) rfl rfl ?_
  rintro e w ⟨rfl, hE⟩
  have hb := hE.below
  have HT := HT.pure hE
  have HT : St w0 (fun _ => False) w [] := HT
  refine ⟨_, rfl, nS, fun a HF => ?_⟩
  refine wc_assign HF nS rfl rfl rfl (fun a HF => ?_)
  refine wc_end ?_
  refine then_n ?_
  refine wp_ret ?_
  obtain rfl := Option.some.inj h
  refine bp_ret HF (res_one rfl HF rfl) ?_
  exact ⟨rfl, HT⟩

def m_impl_isReg (fuel : Nat) (x0 : Int) : Option Bool :=
  (m_impl_within fuel x0 0 3).bind fun y1 =>
  some y1

set_option maxRecDepth 100000 in
set_option maxHeartbeats 4000000 in
theorem w_impl_isReg (fuel : Nat) {x0 : Int} {r0 : Bool} {w0 : World} (h : m_impl_isReg fuel x0 = some r0) :
    Calls Try.prog 133 #[.int .i64 x0] w0 fun e w => e = .returned (.bool r0) ∧ St w0 (fun _ => False) w [] := by
  have HT : St w0 (fun _ => False) w0 [] := St.init0
  rw [m_impl_isReg] at h
  refine calls_fr (n := 5) [.int .i64 x0] Try.func133 rfl rfl rfl (fun a HF => ?_)
  have HT : St w0 (fun _ => False) w0 [] := HT
  refine wp_seq ?_
  refine wc_text ?_
  refine wc_assign HF nS rfl rfl rfl (fun a HF => ?_)
  refine wc_end ?_
  refine then_n ?_
  refine wp_seq ?_
  refine wc_text ?_
  refine wc_move HF nS rfl rfl rfl (fun a HF => ?_)
  obtain ⟨y1, hx1, h⟩ := obs h
  refine wc_call HF cf98 rfl (w_impl_within fuel hx1) rfl rfl ?_
  rintro e w ⟨rfl, hE⟩
  have hb := hE.below
  have HT := HT.pure hE
  have HT : St w0 (fun _ => False) w [] := HT
  refine ⟨_, rfl, nS, fun a HF => ?_⟩
  refine wc_assign HF nS rfl rfl rfl (fun a HF => ?_)
  refine wc_end ?_
  refine then_n ?_
  refine wp_ret ?_
  obtain rfl := Option.some.inj h
  refine bp_ret HF (res_one rfl HF rfl) ?_
  exact ⟨rfl, HT⟩

def m_impl_isValue (fuel : Nat) (x0 : Int) : Option Bool :=
  (m_impl_within fuel x0 0 65535).bind fun y1 =>
  some y1

set_option maxRecDepth 100000 in
set_option maxHeartbeats 4000000 in
theorem w_impl_isValue (fuel : Nat) {x0 : Int} {r0 : Bool} {w0 : World} (h : m_impl_isValue fuel x0 = some r0) :
    Calls Try.prog 64 #[.int .i64 x0] w0 fun e w => e = .returned (.bool r0) ∧ St w0 (fun _ => False) w [] := by
  have HT : St w0 (fun _ => False) w0 [] := St.init0
  rw [m_impl_isValue] at h
  refine calls_fr (n := 5) [.int .i64 x0] Try.func64 rfl rfl rfl (fun a HF => ?_)
  have HT : St w0 (fun _ => False) w0 [] := HT
  refine wp_seq ?_
  refine wc_text ?_
  refine wc_assign HF nS rfl rfl rfl (fun a HF => ?_)
  refine wc_end ?_
  refine then_n ?_
  refine wp_seq ?_
  refine wc_text ?_
  refine wc_move HF nS rfl rfl rfl (fun a HF => ?_)
  obtain ⟨y1, hx1, h⟩ := obs h
  refine wc_call HF cf98 rfl (w_impl_within fuel hx1) rfl rfl ?_
  rintro e w ⟨rfl, hE⟩
  have hb := hE.below
  have HT := HT.pure hE
  have HT : St w0 (fun _ => False) w [] := HT
  refine ⟨_, rfl, nS, fun a HF => ?_⟩
  refine wc_assign HF nS rfl rfl rfl (fun a HF => ?_)
  refine wc_end ?_
  refine then_n ?_
  refine wp_ret ?_
  obtain rfl := Option.some.inj h
  refine bp_ret HF (res_one rfl HF rfl) ?_
  exact ⟨rfl, HT⟩

def m_impl_OpOk (fuel : Nat) (x0_0 : Int) (x0_1 : Int) (x0_2 : Int) (x0_3 : Int) : Option Bool :=
  (
    if x0_0 = 1 then
      (m_impl_isReg fuel x0_1).bind fun y1 =>
      if y1 = true then
        (m_impl_isValue fuel x0_2).bind fun y2 =>
        if y2 = true then
          some (.ret (decide (x0_3 = 0)))
        else
        some (.ret false)
      else
      some (.ret false)
    else
    (
      if x0_0 = 2 then
        some (decide (x0_0 = 2))
      else
      if x0_0 = 3 then
        some (decide (x0_0 = 3))
      else
      some (decide (x0_0 = 4))).bind fun z1 =>
    if z1 = true then
      (m_impl_isReg fuel x0_1).bind fun y3 =>
      if y3 = true then
        (m_impl_isReg fuel x0_2).bind fun y4 =>
        if y4 = true then
          (m_impl_isReg fuel x0_3).bind fun y5 =>
          some (.ret y5)
        else
        some (.ret false)
      else
      some (.ret false)
    else
    if x0_0 = 5 then
      (m_impl_isReg fuel x0_1).bind fun y6 =>
      if y6 = true then
        (m_impl_isCell fuel x0_2).bind fun y7 =>
        if y7 = true then
          some (.ret (decide (x0_3 = 0)))
        else
        some (.ret false)
      else
      some (.ret false)
    else
    if x0_0 = 6 then
      (m_impl_isCell fuel x0_1).bind fun y8 =>
      if y8 = true then
        (m_impl_isReg fuel x0_2).bind fun y9 =>
        if y9 = true then
          some (.ret (decide (x0_3 = 0)))
        else
        some (.ret false)
      else
      some (.ret false)
    else
    if x0_0 = 7 then
      (m_impl_isReg fuel x0_1).bind fun y10 =>
      if y10 = true then
        (m_impl_within fuel x0_2 1 20).bind fun y11 =>
        if y11 = true then
          some (.ret (decide (x0_3 = 0)))
        else
        some (.ret false)
      else
      some (.ret false)
    else
    (
      if x0_0 = 8 then
        some (decide (x0_0 = 8))
      else
      if x0_0 = 15 then
        some (decide (x0_0 = 15))
      else
      some (decide (x0_0 = 16))).bind fun z2 =>
    if z2 = true then
      (m_impl_isReg fuel x0_1).bind fun y12 =>
      if y12 = true then
        if x0_2 = 0 then
          some (.ret (decide (x0_3 = 0)))
        else
        some (.ret false)
      else
      some (.ret false)
    else
    (
      if x0_0 = 9 then
        some (decide (x0_0 = 9))
      else
      if x0_0 = 10 then
        some (decide (x0_0 = 10))
      else
      some (decide (x0_0 = 11))).bind fun z3 =>
    if z3 = true then
      if x0_1 = 0 then
        if x0_2 = 0 then
          some (.ret (decide (x0_3 = 0)))
        else
        some (.ret false)
      else
      some (.ret false)
    else
    if x0_0 = 12 then
      (m_impl_isKey fuel x0_1).bind fun y13 =>
      if y13 = true then
        (m_impl_isReg fuel x0_2).bind fun y14 =>
        if y14 = true then
          (m_impl_isReg fuel x0_3).bind fun y15 =>
          some (.ret y15)
        else
        some (.ret false)
      else
      some (.ret false)
    else
    if x0_0 = 13 then
      (m_impl_isReg fuel x0_1).bind fun y16 =>
      if y16 = true then
        (m_impl_isKey fuel x0_2).bind fun y17 =>
        if y17 = true then
          some (.ret (decide (x0_3 = 0)))
        else
        some (.ret false)
      else
      some (.ret false)
    else
    if x0_0 = 14 then
      (m_impl_isKey fuel x0_1).bind fun y18 =>
      if y18 = true then
        (m_impl_isReg fuel x0_2).bind fun y19 =>
        if y19 = true then
          some (.ret (decide (x0_3 = 0)))
        else
        some (.ret false)
      else
      some (.ret false)
    else
    some (.brk ())).bind <| contL <| un1 fun _ =>
  some false

set_option maxRecDepth 100000 in
set_option maxHeartbeats 4000000 in
theorem w_impl_OpOk (fuel : Nat) {x0_0 : Int} {x0_1 : Int} {x0_2 : Int} {x0_3 : Int} {r0 : Bool} {w0 : World} (h : m_impl_OpOk fuel x0_0 x0_1 x0_2 x0_3 = some r0) :
    Calls Try.prog 120 #[.agg #[.int .i64 x0_0, .int .i64 x0_1, .int .i64 x0_2, .int .i64 x0_3]] w0 fun e w => e = .returned (.bool r0) ∧ St w0 (fun _ => False) w [] := by
  have HT : St w0 (fun _ => False) w0 [] := St.init0
  rw [m_impl_OpOk] at h
  refine calls_fr (n := 161) [.agg #[.int .i64 x0_0, .int .i64 x0_1, .int .i64 x0_2, .int .i64 x0_3]] Try.func120 rfl rfl rfl (fun a HF => ?_)
  have HT : St w0 (fun _ => False) w0 [] := HT
  refine wp_seq ?_
  refine wc_text ?_
  refine wc_box (cs := [.int .i64 x0_0, .int .i64 x0_1, .int .i64 x0_2, .int .i64 x0_3]) HF HT rfl rfl rfl rfl (fun p1 w HT hb => ⟨nS, fun a HF => ?_⟩)
  refine wc_assign HF nS rfl rfl rfl (fun a HF => ?_)
  refine wc_end ?_
  refine then_n ?_
  obtain ⟨q1, hx1, h⟩ := obs h
  refine wp_cut (fun a w => q1 = .brk () ∧ Fr a 161 [] ∧ St w0 (fun _ => False) w []) ?_ ?_
  have hk1 := h
  have h := hx1
  refine wp_seq ?_
  refine wc_text ?_
  refine wc_faddr HF nS rfl fl85_0 rfl rfl (fun a HF => ?_)
  refine wc_load HF rfl sc3 ((HT.boxAt 0 rfl).get 0 rfl) rfl rfl (fun a HF => ?_)
  refine wc_end ?_
  refine then_n ?_
  refine wp_block ?_
  refine wp_seq ?_
  refine wc_text ?_
  refine wc_bin HF nS rfl rfl b_eq rfl rfl (fun a HF => ?_)
  refine wc_assign HF nS rfl rfl rfl (fun a HF => ?_)
  refine wc_end ?_
  refine then_n ?_
  by_cases hb1 : x0_0 = 1
  have h := (if_pos hb1).symm.trans h
  refine wp_if (b' := true) HF rfl (decide_eq_true hb1) ?_
  refine wp_seq ?_
  refine wc_text ?_
  refine wc_faddr HF nS rfl fl85_1 rfl rfl (fun a HF => ?_)
  refine wc_load HF rfl sc3 ((HT.boxAt 0 rfl).get 1 rfl) rfl rfl (fun a HF => ?_)
  obtain ⟨y1, hx2, h⟩ := obs h
  refine wc_call HF cf133 rfl (w_impl_isReg fuel hx2) rfl rfl ?_
  rintro e w ⟨rfl, hE⟩
  have hb := hE.below
  have HT := HT.pure hE
  have HT : St w0 (fun _ => False) w [Box p1 [.int .i64 x0_0, .int .i64 x0_1, .int .i64 x0_2, .int .i64 x0_3]] := HT
  refine ⟨_, rfl, nS, fun a HF => ?_⟩
  refine wc_move HF nS rfl rfl rfl (fun a HF => ?_)
  by_cases hb2 : y1 = true
  have h := (if_pos hb2).symm.trans h
  refine wc_faddr HF nS rfl fl85_2 (HF.wy rfl rfl rfl rfl hb2) rfl (fun a HF => ?_)
  refine wc_load HF rfl sc3 ((HT.boxAt 0 rfl).get 2 rfl) (HF.wy rfl rfl rfl rfl hb2) rfl (fun a HF => ?_)
  obtain ⟨y2, hx3, h⟩ := obs h
  refine wc_call HF cf64 rfl (w_impl_isValue fuel hx3) (HF.wy rfl rfl rfl rfl hb2) rfl ?_
  rintro e w ⟨rfl, hE⟩
  have hb := hE.below
  have HT := HT.pure hE
  have HT : St w0 (fun _ => False) w [Box p1 [.int .i64 x0_0, .int .i64 x0_1, .int .i64 x0_2, .int .i64 x0_3]] := HT
  refine ⟨_, rfl, nS, fun a HF => ?_⟩
  refine wc_pick (b := true) HF nS rfl hb2 rfl rfl rfl (fun a HF => ?_)
  refine wc_move HF nS rfl rfl rfl (fun a HF => ?_)
  by_cases hb3 : y2 = true
  have h := (if_pos hb3).symm.trans h
  refine wc_faddr HF nS rfl fl85_3 (HF.wy rfl rfl rfl rfl hb3) rfl (fun a HF => ?_)
  refine wc_load HF rfl sc3 ((HT.boxAt 0 rfl).get 3 rfl) (HF.wy rfl rfl rfl rfl hb3) rfl (fun a HF => ?_)
  refine wc_bin HF nS rfl rfl b_eq (HF.wy rfl rfl rfl rfl hb3) rfl (fun a HF => ?_)
  refine wc_pick (b := true) HF nS rfl hb3 rfl rfl rfl (fun a HF => ?_)
  refine wc_assign HF nS rfl rfl rfl (fun a HF => ?_)
  refine wc_end ?_
  refine then_n ?_
  refine wp_ret ?_
  obtain rfl := Option.some.inj h
  have h := retL hk1
  obtain rfl := Option.some.inj h
  refine blk_r (then_r (?_))
  refine bp_ret HF (res_one rfl HF rfl) ?_
  have HT := HT.t0
  exact ⟨rfl, HT⟩
  have h := (if_neg hb3).symm.trans h
  refine wc_skip HF nS (HF.wn rfl rfl rfl rfl (Bool.eq_false_iff.2 hb3)) rfl (fun a HF => ?_)
  refine wc_skip HF nS (HF.wn rfl rfl rfl rfl (Bool.eq_false_iff.2 hb3)) rfl (fun a HF => ?_)
  refine wc_skip HF nS (HF.wn rfl rfl rfl rfl (Bool.eq_false_iff.2 hb3)) rfl (fun a HF => ?_)
  refine wc_pick (b := false) HF nS rfl (Bool.eq_false_iff.2 hb3) rfl rfl rfl (fun a HF => ?_)
  refine wc_assign HF nS rfl rfl rfl (fun a HF => ?_)
  refine wc_end ?_
  refine then_n ?_
  refine wp_ret ?_
  obtain rfl := Option.some.inj h
  have h := retL hk1
  obtain rfl := Option.some.inj h
  refine blk_r (then_r (?_))
  refine bp_ret HF (res_one rfl HF rfl) ?_
  have HT := HT.t0
  exact ⟨rfl, HT⟩
  have h := (if_neg hb2).symm.trans h
  refine wc_skip HF nS (HF.wn rfl rfl rfl rfl (Bool.eq_false_iff.2 hb2)) rfl (fun a HF => ?_)
  refine wc_skip HF nS (HF.wn rfl rfl rfl rfl (Bool.eq_false_iff.2 hb2)) rfl (fun a HF => ?_)
  refine wc_skip HF nS (HF.wn rfl rfl rfl rfl (Bool.eq_false_iff.2 hb2)) rfl (fun a HF => ?_)
  refine wc_pick (b := false) HF nS rfl (Bool.eq_false_iff.2 hb2) rfl rfl rfl (fun a HF => ?_)
  refine wc_move HF nS rfl rfl rfl (fun a HF => ?_)
  refine wc_skip HF nS (HF.wn rfl rfl rfl rfl rfl) rfl (fun a HF => ?_)
  refine wc_skip HF nS (HF.wn rfl rfl rfl rfl rfl) rfl (fun a HF => ?_)
  refine wc_skip HF nS (HF.wn rfl rfl rfl rfl rfl) rfl (fun a HF => ?_)
  refine wc_pick (b := false) HF nS rfl rfl rfl rfl rfl (fun a HF => ?_)
  refine wc_assign HF nS rfl rfl rfl (fun a HF => ?_)
  refine wc_end ?_
  refine then_n ?_
  refine wp_ret ?_
  obtain rfl := Option.some.inj h
  have h := retL hk1
  obtain rfl := Option.some.inj h
  refine blk_r (then_r (?_))
  refine bp_ret HF (res_one rfl HF rfl) ?_
  have HT := HT.t0
  exact ⟨rfl, HT⟩
  have h := (if_neg hb1).symm.trans h
  refine wp_if (b' := false) HF rfl (decide_eq_false hb1) ?_
  obtain ⟨z1, hx4, h⟩ := obs h
  refine wp_cut (fun a w => Fr a 161 [(1, .pointer (some ⟨p1, 0, none⟩)), (4, .int .i64 x0_0), (20, .bool z1)] ∧ St w0 (fun _ => False) w [Box p1 [.int .i64 x0_0, .int .i64 x0_1, .int .i64 x0_2, .int .i64 x0_3]]) ?_ ?_
  have hk2 := h
  have h := hx4
  refine wp_seq ?_
  refine wc_text ?_
  refine wc_bin HF nS rfl rfl b_eq rfl rfl (fun a HF => ?_)
  refine wc_assign HF nS rfl rfl rfl (fun a HF => ?_)
  refine wc_end ?_
  refine then_n ?_
  by_cases hb4 : x0_0 = 2
  have h := (if_pos hb4).symm.trans h
  refine wp_if (b' := true) HF rfl (decide_eq_true hb4) ?_
  refine wp_skip ?_
  obtain rfl := Option.some.inj h
  exact then_n ⟨(HF.keep (HF.keep (HF.keep HF.nil rfl) rfl) rfl), HT⟩
  have h := (if_neg hb4).symm.trans h
  refine wp_if (b' := false) HF rfl (decide_eq_false hb4) ?_
  refine wp_seq ?_
  refine wc_text ?_
  refine wc_bin HF nS rfl rfl b_eq rfl rfl (fun a HF => ?_)
  refine wc_assign HF nS rfl rfl rfl (fun a HF => ?_)
  refine wc_end ?_
  refine then_n ?_
  by_cases hb5 : x0_0 = 3
  have h := (if_pos hb5).symm.trans h
  refine wp_if (b' := true) HF rfl (decide_eq_true hb5) ?_
  refine wp_skip ?_
  obtain rfl := Option.some.inj h
  exact then_n ⟨(HF.keep (HF.keep (HF.keep HF.nil rfl) rfl) rfl), HT⟩
  have h := (if_neg hb5).symm.trans h
  refine wp_if (b' := false) HF rfl (decide_eq_false hb5) ?_
  refine wc_text ?_
  refine wc_bin HF nS rfl rfl b_eq rfl rfl (fun a HF => ?_)
  refine wc_assign HF nS rfl rfl rfl (fun a HF => ?_)
  refine wc_end ?_
  obtain rfl := Option.some.inj h
  exact then_n ⟨(HF.keep (HF.keep (HF.keep HF.nil rfl) rfl) rfl), HT⟩
  rintro a w ⟨HF, HT⟩
  refine ?_
  by_cases hb6 : z1 = true
  have h := (if_pos hb6).symm.trans h
  refine wp_if (b' := true) HF rfl hb6 ?_
  refine wp_seq ?_
  refine wc_text ?_
  refine wc_faddr HF nS rfl fl85_1 rfl rfl (fun a HF => ?_)
  refine wc_load HF rfl sc3 ((HT.boxAt 0 rfl).get 1 rfl) rfl rfl (fun a HF => ?_)
  obtain ⟨y3, hx5, h⟩ := obs h
  refine wc_call HF cf133 rfl (w_impl_isReg fuel hx5) rfl rfl ?_
  rintro e w ⟨rfl, hE⟩
  have hb := hE.below
  have HT := HT.pure hE
  have HT : St w0 (fun _ => False) w [Box p1 [.int .i64 x0_0, .int .i64 x0_1, .int .i64 x0_2, .int .i64 x0_3]] := HT
  refine ⟨_, rfl, nS, fun a HF => ?_⟩
  refine wc_move HF nS rfl rfl rfl (fun a HF => ?_)
  by_cases hb7 : y3 = true
  have h := (if_pos hb7).symm.trans h
  refine wc_faddr HF nS rfl fl85_2 (HF.wy rfl rfl rfl rfl hb7) rfl (fun a HF => ?_)
  refine wc_load HF rfl sc3 ((HT.boxAt 0 rfl).get 2 rfl) (HF.wy rfl rfl rfl rfl hb7) rfl (fun a HF => ?_)
  obtain ⟨y4, hx6, h⟩ := obs h
  refine wc_call HF cf133 rfl (w_impl_isReg fuel hx6) (HF.wy rfl rfl rfl rfl hb7) rfl ?_
  rintro e w ⟨rfl, hE⟩
  have hb := hE.below
  have HT := HT.pure hE
  have HT : St w0 (fun _ => False) w [Box p1 [.int .i64 x0_0, .int .i64 x0_1, .int .i64 x0_2, .int .i64 x0_3]] := HT
  refine ⟨_, rfl, nS, fun a HF => ?_⟩
  refine wc_pick (b := true) HF nS rfl hb7 rfl rfl rfl (fun a HF => ?_)
  refine wc_move HF nS rfl rfl rfl (fun a HF => ?_)
  by_cases hb8 : y4 = true
  have h := (if_pos hb8).symm.trans h
  refine wc_faddr HF nS rfl fl85_3 (HF.wy rfl rfl rfl rfl hb8) rfl (fun a HF => ?_)
  refine wc_load HF rfl sc3 ((HT.boxAt 0 rfl).get 3 rfl) (HF.wy rfl rfl rfl rfl hb8) rfl (fun a HF => ?_)
  obtain ⟨y5, hx7, h⟩ := obs h
  refine wc_call HF cf133 rfl (w_impl_isReg fuel hx7) (HF.wy rfl rfl rfl rfl hb8) rfl ?_
  rintro e w ⟨rfl, hE⟩
  have hb := hE.below
  have HT := HT.pure hE
  have HT : St w0 (fun _ => False) w [Box p1 [.int .i64 x0_0, .int .i64 x0_1, .int .i64 x0_2, .int .i64 x0_3]] := HT
  refine ⟨_, rfl, nS, fun a HF => ?_⟩
  refine wc_pick (b := true) HF nS rfl hb8 rfl rfl rfl (fun a HF => ?_)
  refine wc_assign HF nS rfl rfl rfl (fun a HF => ?_)
  refine wc_end ?_
  refine then_n ?_
  refine wp_ret ?_
  obtain rfl := Option.some.inj h
  have h := retL hk1
  obtain rfl := Option.some.inj h
  refine blk_r (then_r (?_))
  refine bp_ret HF (res_one rfl HF rfl) ?_
  have HT := HT.t0
  exact ⟨rfl, HT⟩
  have h := (if_neg hb8).symm.trans h
  refine wc_skip HF nS (HF.wn rfl rfl rfl rfl (Bool.eq_false_iff.2 hb8)) rfl (fun a HF => ?_)
  refine wc_skip HF nS (HF.wn rfl rfl rfl rfl (Bool.eq_false_iff.2 hb8)) rfl (fun a HF => ?_)
  refine wc_skip HF nS (HF.wn rfl rfl rfl rfl (Bool.eq_false_iff.2 hb8)) rfl (fun a HF => ?_)
  refine wc_pick (b := false) HF nS rfl (Bool.eq_false_iff.2 hb8) rfl rfl rfl (fun a HF => ?_)
  refine wc_assign HF nS rfl rfl rfl (fun a HF => ?_)
  refine wc_end ?_
  refine then_n ?_
  refine wp_ret ?_
  obtain rfl := Option.some.inj h
  have h := retL hk1
  obtain rfl := Option.some.inj h
  refine blk_r (then_r (?_))
  refine bp_ret HF (res_one rfl HF rfl) ?_
  have HT := HT.t0
  exact ⟨rfl, HT⟩
  have h := (if_neg hb7).symm.trans h
  refine wc_skip HF nS (HF.wn rfl rfl rfl rfl (Bool.eq_false_iff.2 hb7)) rfl (fun a HF => ?_)
  refine wc_skip HF nS (HF.wn rfl rfl rfl rfl (Bool.eq_false_iff.2 hb7)) rfl (fun a HF => ?_)
  refine wc_skip HF nS (HF.wn rfl rfl rfl rfl (Bool.eq_false_iff.2 hb7)) rfl (fun a HF => ?_)
  refine wc_pick (b := false) HF nS rfl (Bool.eq_false_iff.2 hb7) rfl rfl rfl (fun a HF => ?_)
  refine wc_move HF nS rfl rfl rfl (fun a HF => ?_)
  refine wc_skip HF nS (HF.wn rfl rfl rfl rfl rfl) rfl (fun a HF => ?_)
  refine wc_skip HF nS (HF.wn rfl rfl rfl rfl rfl) rfl (fun a HF => ?_)
  refine wc_skip HF nS (HF.wn rfl rfl rfl rfl rfl) rfl (fun a HF => ?_)
  refine wc_pick (b := false) HF nS rfl rfl rfl rfl rfl (fun a HF => ?_)
  refine wc_assign HF nS rfl rfl rfl (fun a HF => ?_)
  refine wc_end ?_
  refine then_n ?_
  refine wp_ret ?_
  obtain rfl := Option.some.inj h
  have h := retL hk1
  obtain rfl := Option.some.inj h
  refine blk_r (then_r (?_))
  refine bp_ret HF (res_one rfl HF rfl) ?_
  have HT := HT.t0
  exact ⟨rfl, HT⟩
  have h := (if_neg hb6).symm.trans h
  refine wp_if (b' := false) HF rfl (Bool.eq_false_iff.2 hb6) ?_
  refine wp_seq ?_
  refine wc_text ?_
  refine wc_bin HF nS rfl rfl b_eq rfl rfl (fun a HF => ?_)
  refine wc_assign HF nS rfl rfl rfl (fun a HF => ?_)
  refine wc_end ?_
  refine then_n ?_
  by_cases hb9 : x0_0 = 5
  have h := (if_pos hb9).symm.trans h
  refine wp_if (b' := true) HF rfl (decide_eq_true hb9) ?_
  refine wp_seq ?_
  refine wc_text ?_
  refine wc_faddr HF nS rfl fl85_1 rfl rfl (fun a HF => ?_)
  refine wc_load HF rfl sc3 ((HT.boxAt 0 rfl).get 1 rfl) rfl rfl (fun a HF => ?_)
  obtain ⟨y6, hx8, h⟩ := obs h
  refine wc_call HF cf133 rfl (w_impl_isReg fuel hx8) rfl rfl ?_
  rintro e w ⟨rfl, hE⟩
  have hb := hE.below
  have HT := HT.pure hE
  have HT : St w0 (fun _ => False) w [Box p1 [.int .i64 x0_0, .int .i64 x0_1, .int .i64 x0_2, .int .i64 x0_3]] := HT
  refine ⟨_, rfl, nS, fun a HF => ?_⟩
  refine wc_move HF nS rfl rfl rfl (fun a HF => ?_)
  by_cases hb10 : y6 = true
  have h := (if_pos hb10).symm.trans h
  refine wc_faddr HF nS rfl fl85_2 (HF.wy rfl rfl rfl rfl hb10) rfl (fun a HF => ?_)
  refine wc_load HF rfl sc3 ((HT.boxAt 0 rfl).get 2 rfl) (HF.wy rfl rfl rfl rfl hb10) rfl (fun a HF => ?_)
  obtain ⟨y7, hx9, h⟩ := obs h
  refine wc_call HF cf134 rfl (w_impl_isCell fuel hx9) (HF.wy rfl rfl rfl rfl hb10) rfl ?_
  rintro e w ⟨rfl, hE⟩
  have hb := hE.below
  have HT := HT.pure hE
  have HT : St w0 (fun _ => False) w [Box p1 [.int .i64 x0_0, .int .i64 x0_1, .int .i64 x0_2, .int .i64 x0_3]] := HT
  refine ⟨_, rfl, nS, fun a HF => ?_⟩
  refine wc_pick (b := true) HF nS rfl hb10 rfl rfl rfl (fun a HF => ?_)
  refine wc_move HF nS rfl rfl rfl (fun a HF => ?_)
  by_cases hb11 : y7 = true
  have h := (if_pos hb11).symm.trans h
  refine wc_faddr HF nS rfl fl85_3 (HF.wy rfl rfl rfl rfl hb11) rfl (fun a HF => ?_)
  refine wc_load HF rfl sc3 ((HT.boxAt 0 rfl).get 3 rfl) (HF.wy rfl rfl rfl rfl hb11) rfl (fun a HF => ?_)
  refine wc_bin HF nS rfl rfl b_eq (HF.wy rfl rfl rfl rfl hb11) rfl (fun a HF => ?_)
  refine wc_pick (b := true) HF nS rfl hb11 rfl rfl rfl (fun a HF => ?_)
  refine wc_assign HF nS rfl rfl rfl (fun a HF => ?_)
  refine wc_end ?_
  refine then_n ?_
  refine wp_ret ?_
  obtain rfl := Option.some.inj h
  have h := retL hk1
  obtain rfl := Option.some.inj h
  refine blk_r (then_r (?_))
  refine bp_ret HF (res_one rfl HF rfl) ?_
  have HT := HT.t0
  exact ⟨rfl, HT⟩
  have h := (if_neg hb11).symm.trans h
  refine wc_skip HF nS (HF.wn rfl rfl rfl rfl (Bool.eq_false_iff.2 hb11)) rfl (fun a HF => ?_)
  refine wc_skip HF nS (HF.wn rfl rfl rfl rfl (Bool.eq_false_iff.2 hb11)) rfl (fun a HF => ?_)
  refine wc_skip HF nS (HF.wn rfl rfl rfl rfl (Bool.eq_false_iff.2 hb11)) rfl (fun a HF => ?_)
  refine wc_pick (b := false) HF nS rfl (Bool.eq_false_iff.2 hb11) rfl rfl rfl (fun a HF => ?_)
  refine wc_assign HF nS rfl rfl rfl (fun a HF => ?_)
  refine wc_end ?_
  refine then_n ?_
  refine wp_ret ?_
  obtain rfl := Option.some.inj h
  have h := retL hk1
  obtain rfl := Option.some.inj h
  refine blk_r (then_r (?_))
  refine bp_ret HF (res_one rfl HF rfl) ?_
  have HT := HT.t0
  exact ⟨rfl, HT⟩
  have h := (if_neg hb10).symm.trans h
  refine wc_skip HF nS (HF.wn rfl rfl rfl rfl (Bool.eq_false_iff.2 hb10)) rfl (fun a HF => ?_)
  refine wc_skip HF nS (HF.wn rfl rfl rfl rfl (Bool.eq_false_iff.2 hb10)) rfl (fun a HF => ?_)
  refine wc_skip HF nS (HF.wn rfl rfl rfl rfl (Bool.eq_false_iff.2 hb10)) rfl (fun a HF => ?_)
  refine wc_pick (b := false) HF nS rfl (Bool.eq_false_iff.2 hb10) rfl rfl rfl (fun a HF => ?_)
  refine wc_move HF nS rfl rfl rfl (fun a HF => ?_)
  refine wc_skip HF nS (HF.wn rfl rfl rfl rfl rfl) rfl (fun a HF => ?_)
  refine wc_skip HF nS (HF.wn rfl rfl rfl rfl rfl) rfl (fun a HF => ?_)
  refine wc_skip HF nS (HF.wn rfl rfl rfl rfl rfl) rfl (fun a HF => ?_)
  refine wc_pick (b := false) HF nS rfl rfl rfl rfl rfl (fun a HF => ?_)
  refine wc_assign HF nS rfl rfl rfl (fun a HF => ?_)
  refine wc_end ?_
  refine then_n ?_
  refine wp_ret ?_
  obtain rfl := Option.some.inj h
  have h := retL hk1
  obtain rfl := Option.some.inj h
  refine blk_r (then_r (?_))
  refine bp_ret HF (res_one rfl HF rfl) ?_
  have HT := HT.t0
  exact ⟨rfl, HT⟩
  have h := (if_neg hb9).symm.trans h
  refine wp_if (b' := false) HF rfl (decide_eq_false hb9) ?_
  refine wp_seq ?_
  refine wc_text ?_
  refine wc_bin HF nS rfl rfl b_eq rfl rfl (fun a HF => ?_)
  refine wc_assign HF nS rfl rfl rfl (fun a HF => ?_)
  refine wc_end ?_
  refine then_n ?_
  by_cases hb12 : x0_0 = 6
  have h := (if_pos hb12).symm.trans h
  refine wp_if (b' := true) HF rfl (decide_eq_true hb12) ?_
  refine wp_seq ?_
  refine wc_text ?_
  refine wc_faddr HF nS rfl fl85_1 rfl rfl (fun a HF => ?_)
  refine wc_load HF rfl sc3 ((HT.boxAt 0 rfl).get 1 rfl) rfl rfl (fun a HF => ?_)
  obtain ⟨y8, hx10, h⟩ := obs h
  refine wc_call HF cf134 rfl (w_impl_isCell fuel hx10) rfl rfl ?_
  rintro e w ⟨rfl, hE⟩
  have hb := hE.below
  have HT := HT.pure hE
  have HT : St w0 (fun _ => False) w [Box p1 [.int .i64 x0_0, .int .i64 x0_1, .int .i64 x0_2, .int .i64 x0_3]] := HT
  refine ⟨_, rfl, nS, fun a HF => ?_⟩
  refine wc_move HF nS rfl rfl rfl (fun a HF => ?_)
  by_cases hb13 : y8 = true
  have h := (if_pos hb13).symm.trans h
  refine wc_faddr HF nS rfl fl85_2 (HF.wy rfl rfl rfl rfl hb13) rfl (fun a HF => ?_)
  refine wc_load HF rfl sc3 ((HT.boxAt 0 rfl).get 2 rfl) (HF.wy rfl rfl rfl rfl hb13) rfl (fun a HF => ?_)
  obtain ⟨y9, hx11, h⟩ := obs h
  refine wc_call HF cf133 rfl (w_impl_isReg fuel hx11) (HF.wy rfl rfl rfl rfl hb13) rfl ?_
  rintro e w ⟨rfl, hE⟩
  have hb := hE.below
  have HT := HT.pure hE
  have HT : St w0 (fun _ => False) w [Box p1 [.int .i64 x0_0, .int .i64 x0_1, .int .i64 x0_2, .int .i64 x0_3]] := HT
  refine ⟨_, rfl, nS, fun a HF => ?_⟩
  refine wc_pick (b := true) HF nS rfl hb13 rfl rfl rfl (fun a HF => ?_)
  refine wc_move HF nS rfl rfl rfl (fun a HF => ?_)
  by_cases hb14 : y9 = true
  have h := (if_pos hb14).symm.trans h
  refine wc_faddr HF nS rfl fl85_3 (HF.wy rfl rfl rfl rfl hb14) rfl (fun a HF => ?_)
  refine wc_load HF rfl sc3 ((HT.boxAt 0 rfl).get 3 rfl) (HF.wy rfl rfl rfl rfl hb14) rfl (fun a HF => ?_)
  refine wc_bin HF nS rfl rfl b_eq (HF.wy rfl rfl rfl rfl hb14) rfl (fun a HF => ?_)
  refine wc_pick (b := true) HF nS rfl hb14 rfl rfl rfl (fun a HF => ?_)
  refine wc_assign HF nS rfl rfl rfl (fun a HF => ?_)
  refine wc_end ?_
  refine then_n ?_
  refine wp_ret ?_
  obtain rfl := Option.some.inj h
  have h := retL hk1
  obtain rfl := Option.some.inj h
  refine blk_r (then_r (?_))
  refine bp_ret HF (res_one rfl HF rfl) ?_
  have HT := HT.t0
  exact ⟨rfl, HT⟩
  have h := (if_neg hb14).symm.trans h
  refine wc_skip HF nS (HF.wn rfl rfl rfl rfl (Bool.eq_false_iff.2 hb14)) rfl (fun a HF => ?_)
  refine wc_skip HF nS (HF.wn rfl rfl rfl rfl (Bool.eq_false_iff.2 hb14)) rfl (fun a HF => ?_)
  refine wc_skip HF nS (HF.wn rfl rfl rfl rfl (Bool.eq_false_iff.2 hb14)) rfl (fun a HF => ?_)
  refine wc_pick (b := false) HF nS rfl (Bool.eq_false_iff.2 hb14) rfl rfl rfl (fun a HF => ?_)
  refine wc_assign HF nS rfl rfl rfl (fun a HF => ?_)
  refine wc_end ?_
  refine then_n ?_
  refine wp_ret ?_
  obtain rfl := Option.some.inj h
  have h := retL hk1
  obtain rfl := Option.some.inj h
  refine blk_r (then_r (?_))
  refine bp_ret HF (res_one rfl HF rfl) ?_
  have HT := HT.t0
  exact ⟨rfl, HT⟩
  have h := (if_neg hb13).symm.trans h
  refine wc_skip HF nS (HF.wn rfl rfl rfl rfl (Bool.eq_false_iff.2 hb13)) rfl (fun a HF => ?_)
  refine wc_skip HF nS (HF.wn rfl rfl rfl rfl (Bool.eq_false_iff.2 hb13)) rfl (fun a HF => ?_)
  refine wc_skip HF nS (HF.wn rfl rfl rfl rfl (Bool.eq_false_iff.2 hb13)) rfl (fun a HF => ?_)
  refine wc_pick (b := false) HF nS rfl (Bool.eq_false_iff.2 hb13) rfl rfl rfl (fun a HF => ?_)
  refine wc_move HF nS rfl rfl rfl (fun a HF => ?_)
  refine wc_skip HF nS (HF.wn rfl rfl rfl rfl rfl) rfl (fun a HF => ?_)
  refine wc_skip HF nS (HF.wn rfl rfl rfl rfl rfl) rfl (fun a HF => ?_)
  refine wc_skip HF nS (HF.wn rfl rfl rfl rfl rfl) rfl (fun a HF => ?_)
  refine wc_pick (b := false) HF nS rfl rfl rfl rfl rfl (fun a HF => ?_)
  refine wc_assign HF nS rfl rfl rfl (fun a HF => ?_)
  refine wc_end ?_
  refine then_n ?_
  refine wp_ret ?_
  obtain rfl := Option.some.inj h
  have h := retL hk1
  obtain rfl := Option.some.inj h
  refine blk_r (then_r (?_))
  refine bp_ret HF (res_one rfl HF rfl) ?_
  have HT := HT.t0
  exact ⟨rfl, HT⟩
  have h := (if_neg hb12).symm.trans h
  refine wp_if (b' := false) HF rfl (decide_eq_false hb12) ?_
  refine wp_seq ?_
  refine wc_text ?_
  refine wc_bin HF nS rfl rfl b_eq rfl rfl (fun a HF => ?_)
  refine wc_assign HF nS rfl rfl rfl (fun a HF => ?_)
  refine wc_end ?_
  refine then_n ?_
  by_cases hb15 : x0_0 = 7
  have h := (if_pos hb15).symm.trans h
  refine wp_if (b' := true) HF rfl (decide_eq_true hb15) ?_
  refine wp_seq ?_
  refine wc_text ?_
  refine wc_faddr HF nS rfl fl85_1 rfl rfl (fun a HF => ?_)
  refine wc_load HF rfl sc3 ((HT.boxAt 0 rfl).get 1 rfl) rfl rfl (fun a HF => ?_)
  obtain ⟨y10, hx12, h⟩ := obs h
  refine wc_call HF cf133 rfl (w_impl_isReg fuel hx12) rfl rfl ?_
  rintro e w ⟨rfl, hE⟩
  have hb := hE.below
  have HT := HT.pure hE
  have HT : St w0 (fun _ => False) w [Box p1 [.int .i64 x0_0, .int .i64 x0_1, .int .i64 x0_2, .int .i64 x0_3]] := HT
  refine ⟨_, rfl, nS, fun a HF => ?_⟩
  refine wc_move HF nS rfl rfl rfl (fun a HF => ?_)
  by_cases hb16 : y10 = true
  have h := (if_pos hb16).symm.trans h
  refine wc_faddr HF nS rfl fl85_2 (HF.wy rfl rfl rfl rfl hb16) rfl (fun a HF => ?_)
  refine wc_load HF rfl sc3 ((HT.boxAt 0 rfl).get 2 rfl) (HF.wy rfl rfl rfl rfl hb16) rfl (fun a HF => ?_)
  obtain ⟨y11, hx13, h⟩ := obs h
  refine wc_call HF cf98 rfl (w_impl_within fuel hx13) (HF.wy rfl rfl rfl rfl hb16) rfl ?_
  rintro e w ⟨rfl, hE⟩
  have hb := hE.below
  have HT := HT.pure hE
  have HT : St w0 (fun _ => False) w [Box p1 [.int .i64 x0_0, .int .i64 x0_1, .int .i64 x0_2, .int .i64 x0_3]] := HT
  refine ⟨_, rfl, nS, fun a HF => ?_⟩
  refine wc_pick (b := true) HF nS rfl hb16 rfl rfl rfl (fun a HF => ?_)
  refine wc_move HF nS rfl rfl rfl (fun a HF => ?_)
  by_cases hb17 : y11 = true
  have h := (if_pos hb17).symm.trans h
  refine wc_faddr HF nS rfl fl85_3 (HF.wy rfl rfl rfl rfl hb17) rfl (fun a HF => ?_)
  refine wc_load HF rfl sc3 ((HT.boxAt 0 rfl).get 3 rfl) (HF.wy rfl rfl rfl rfl hb17) rfl (fun a HF => ?_)
  refine wc_bin HF nS rfl rfl b_eq (HF.wy rfl rfl rfl rfl hb17) rfl (fun a HF => ?_)
  refine wc_pick (b := true) HF nS rfl hb17 rfl rfl rfl (fun a HF => ?_)
  refine wc_assign HF nS rfl rfl rfl (fun a HF => ?_)
  refine wc_end ?_
  refine then_n ?_
  refine wp_ret ?_
  obtain rfl := Option.some.inj h
  have h := retL hk1
  obtain rfl := Option.some.inj h
  refine blk_r (then_r (?_))
  refine bp_ret HF (res_one rfl HF rfl) ?_
  have HT := HT.t0
  exact ⟨rfl, HT⟩
  have h := (if_neg hb17).symm.trans h
  refine wc_skip HF nS (HF.wn rfl rfl rfl rfl (Bool.eq_false_iff.2 hb17)) rfl (fun a HF => ?_)
  refine wc_skip HF nS (HF.wn rfl rfl rfl rfl (Bool.eq_false_iff.2 hb17)) rfl (fun a HF => ?_)
  refine wc_skip HF nS (HF.wn rfl rfl rfl rfl (Bool.eq_false_iff.2 hb17)) rfl (fun a HF => ?_)
  refine wc_pick (b := false) HF nS rfl (Bool.eq_false_iff.2 hb17) rfl rfl rfl (fun a HF => ?_)
  refine wc_assign HF nS rfl rfl rfl (fun a HF => ?_)
  refine wc_end ?_
  refine then_n ?_
  refine wp_ret ?_
  obtain rfl := Option.some.inj h
  have h := retL hk1
  obtain rfl := Option.some.inj h
  refine blk_r (then_r (?_))
  refine bp_ret HF (res_one rfl HF rfl) ?_
  have HT := HT.t0
  exact ⟨rfl, HT⟩
  have h := (if_neg hb16).symm.trans h
  refine wc_skip HF nS (HF.wn rfl rfl rfl rfl (Bool.eq_false_iff.2 hb16)) rfl (fun a HF => ?_)
  refine wc_skip HF nS (HF.wn rfl rfl rfl rfl (Bool.eq_false_iff.2 hb16)) rfl (fun a HF => ?_)
  refine wc_skip HF nS (HF.wn rfl rfl rfl rfl (Bool.eq_false_iff.2 hb16)) rfl (fun a HF => ?_)
  refine wc_pick (b := false) HF nS rfl (Bool.eq_false_iff.2 hb16) rfl rfl rfl (fun a HF => ?_)
  refine wc_move HF nS rfl rfl rfl (fun a HF => ?_)
  refine wc_skip HF nS (HF.wn rfl rfl rfl rfl rfl) rfl (fun a HF => ?_)
  refine wc_skip HF nS (HF.wn rfl rfl rfl rfl rfl) rfl (fun a HF => ?_)
  refine wc_skip HF nS (HF.wn rfl rfl rfl rfl rfl) rfl (fun a HF => ?_)
  refine wc_pick (b := false) HF nS rfl rfl rfl rfl rfl (fun a HF => ?_)
  refine wc_assign HF nS rfl rfl rfl (fun a HF => ?_)
  refine wc_end ?_
  refine then_n ?_
  refine wp_ret ?_
  obtain rfl := Option.some.inj h
  have h := retL hk1
  obtain rfl := Option.some.inj h
  refine blk_r (then_r (?_))
  refine bp_ret HF (res_one rfl HF rfl) ?_
  have HT := HT.t0
  exact ⟨rfl, HT⟩
  have h := (if_neg hb15).symm.trans h
  refine wp_if (b' := false) HF rfl (decide_eq_false hb15) ?_
  obtain ⟨z2, hx14, h⟩ := obs h
  refine wp_cut (fun a w => Fr a 161 [(1, .pointer (some ⟨p1, 0, none⟩)), (4, .int .i64 x0_0), (82, .bool z2)] ∧ St w0 (fun _ => False) w [Box p1 [.int .i64 x0_0, .int .i64 x0_1, .int .i64 x0_2, .int .i64 x0_3]]) ?_ ?_
  have hk2 := h
  have h := hx14
  refine wp_seq ?_
  refine wc_text ?_
  refine wc_bin HF nS rfl rfl b_eq rfl rfl (fun a HF => ?_)
  refine wc_assign HF nS rfl rfl rfl (fun a HF => ?_)
  refine wc_end ?_
  refine then_n ?_
  by_cases hb18 : x0_0 = 8
  have h := (if_pos hb18).symm.trans h
  refine wp_if (b' := true) HF rfl (decide_eq_true hb18) ?_
  refine wp_skip ?_
  obtain rfl := Option.some.inj h
  exact then_n ⟨(HF.keep (HF.keep (HF.keep HF.nil rfl) rfl) rfl), HT⟩
  have h := (if_neg hb18).symm.trans h
  refine wp_if (b' := false) HF rfl (decide_eq_false hb18) ?_
  refine wp_seq ?_
  refine wc_text ?_
  refine wc_bin HF nS rfl rfl b_eq rfl rfl (fun a HF => ?_)
  refine wc_assign HF nS rfl rfl rfl (fun a HF => ?_)
  refine wc_end ?_
  refine then_n ?_
  by_cases hb19 : x0_0 = 15
  have h := (if_pos hb19).symm.trans h
  refine wp_if (b' := true) HF rfl (decide_eq_true hb19) ?_
  refine wp_skip ?_
  obtain rfl := Option.some.inj h
  exact then_n ⟨(HF.keep (HF.keep (HF.keep HF.nil rfl) rfl) rfl), HT⟩
  have h := (if_neg hb19).symm.trans h
  refine wp_if (b' := false) HF rfl (decide_eq_false hb19) ?_
  refine wc_text ?_
  refine wc_bin HF nS rfl rfl b_eq rfl rfl (fun a HF => ?_)
  refine wc_assign HF nS rfl rfl rfl (fun a HF => ?_)
  refine wc_end ?_
  obtain rfl := Option.some.inj h
  exact then_n ⟨(HF.keep (HF.keep (HF.keep HF.nil rfl) rfl) rfl), HT⟩
  rintro a w ⟨HF, HT⟩
  refine ?_
  by_cases hb20 : z2 = true
  have h := (if_pos hb20).symm.trans h
  refine wp_if (b' := true) HF rfl hb20 ?_
  refine wp_seq ?_
  refine wc_text ?_
  refine wc_faddr HF nS rfl fl85_1 rfl rfl (fun a HF => ?_)
  refine wc_load HF rfl sc3 ((HT.boxAt 0 rfl).get 1 rfl) rfl rfl (fun a HF => ?_)
  obtain ⟨y12, hx15, h⟩ := obs h
  refine wc_call HF cf133 rfl (w_impl_isReg fuel hx15) rfl rfl ?_
  rintro e w ⟨rfl, hE⟩
  have hb := hE.below
  have HT := HT.pure hE
  have HT : St w0 (fun _ => False) w [Box p1 [.int .i64 x0_0, .int .i64 x0_1, .int .i64 x0_2, .int .i64 x0_3]] := HT
  refine ⟨_, rfl, nS, fun a HF => ?_⟩
  refine wc_move HF nS rfl rfl rfl (fun a HF => ?_)
  by_cases hb21 : y12 = true
  have h := (if_pos hb21).symm.trans h
  refine wc_faddr HF nS rfl fl85_2 (HF.wy rfl rfl rfl rfl hb21) rfl (fun a HF => ?_)
  refine wc_load HF rfl sc3 ((HT.boxAt 0 rfl).get 2 rfl) (HF.wy rfl rfl rfl rfl hb21) rfl (fun a HF => ?_)
  refine wc_bin HF nS rfl rfl b_eq (HF.wy rfl rfl rfl rfl hb21) rfl (fun a HF => ?_)
  refine wc_pick (b := true) HF nS rfl hb21 rfl rfl rfl (fun a HF => ?_)
  refine wc_move HF nS rfl rfl rfl (fun a HF => ?_)
  by_cases hb22 : x0_2 = 0
  have h := (if_pos hb22).symm.trans h
  refine wc_faddr HF nS rfl fl85_3 (HF.wy rfl rfl rfl rfl (decide_eq_true hb22)) rfl (fun a HF => ?_)
  refine wc_load HF rfl sc3 ((HT.boxAt 0 rfl).get 3 rfl) (HF.wy rfl rfl rfl rfl (decide_eq_true hb22)) rfl (fun a HF => ?_)
  refine wc_bin HF nS rfl rfl b_eq (HF.wy rfl rfl rfl rfl (decide_eq_true hb22)) rfl (fun a HF => ?_)
  refine wc_pick (b := true) HF nS rfl (decide_eq_true hb22) rfl rfl rfl (fun a HF => ?_)
  refine wc_assign HF nS rfl rfl rfl (fun a HF => ?_)
  refine wc_end ?_
  refine then_n ?_
  refine wp_ret ?_
  obtain rfl := Option.some.inj h
  have h := retL hk1
  obtain rfl := Option.some.inj h
  refine blk_r (then_r (?_))
  refine bp_ret HF (res_one rfl HF rfl) ?_
  have HT := HT.t0
  exact ⟨rfl, HT⟩
  have h := (if_neg hb22).symm.trans h
  refine wc_skip HF nS (HF.wn rfl rfl rfl rfl (decide_eq_false hb22)) rfl (fun a HF => ?_)
  refine wc_skip HF nS (HF.wn rfl rfl rfl rfl (decide_eq_false hb22)) rfl (fun a HF => ?_)
  refine wc_skip HF nS (HF.wn rfl rfl rfl rfl (decide_eq_false hb22)) rfl (fun a HF => ?_)
  refine wc_pick (b := false) HF nS rfl (decide_eq_false hb22) rfl rfl rfl (fun a HF => ?_)
  refine wc_assign HF nS rfl rfl rfl (fun a HF => ?_)
  refine wc_end ?_
  refine then_n ?_
  refine wp_ret ?_
  obtain rfl := Option.some.inj h
  have h := retL hk1
  obtain rfl := Option.some.inj h
  refine blk_r (then_r (?_))
  refine bp_ret HF (res_one rfl HF rfl) ?_
  have HT := HT.t0
  exact ⟨rfl, HT⟩
  have h := (if_neg hb21).symm.trans h
  refine wc_skip HF nS (HF.wn rfl rfl rfl rfl (Bool.eq_false_iff.2 hb21)) rfl (fun a HF => ?_)
  refine wc_skip HF nS (HF.wn rfl rfl rfl rfl (Bool.eq_false_iff.2 hb21)) rfl (fun a HF => ?_)
  refine wc_skip HF nS (HF.wn rfl rfl rfl rfl (Bool.eq_false_iff.2 hb21)) rfl (fun a HF => ?_)
  refine wc_pick (b := false) HF nS rfl (Bool.eq_false_iff.2 hb21) rfl rfl rfl (fun a HF => ?_)
  refine wc_move HF nS rfl rfl rfl (fun a HF => ?_)
  refine wc_skip HF nS (HF.wn rfl rfl rfl rfl rfl) rfl (fun a HF => ?_)
  refine wc_skip HF nS (HF.wn rfl rfl rfl rfl rfl) rfl (fun a HF => ?_)
  refine wc_skip HF nS (HF.wn rfl rfl rfl rfl rfl) rfl (fun a HF => ?_)
  refine wc_pick (b := false) HF nS rfl rfl rfl rfl rfl (fun a HF => ?_)
  refine wc_assign HF nS rfl rfl rfl (fun a HF => ?_)
  refine wc_end ?_
  refine then_n ?_
  refine wp_ret ?_
  obtain rfl := Option.some.inj h
  have h := retL hk1
  obtain rfl := Option.some.inj h
  refine blk_r (then_r (?_))
  refine bp_ret HF (res_one rfl HF rfl) ?_
  have HT := HT.t0
  exact ⟨rfl, HT⟩
  have h := (if_neg hb20).symm.trans h
  refine wp_if (b' := false) HF rfl (Bool.eq_false_iff.2 hb20) ?_
  obtain ⟨z3, hx16, h⟩ := obs h
  refine wp_cut (fun a w => Fr a 161 [(1, .pointer (some ⟨p1, 0, none⟩)), (4, .int .i64 x0_0), (99, .bool z3)] ∧ St w0 (fun _ => False) w [Box p1 [.int .i64 x0_0, .int .i64 x0_1, .int .i64 x0_2, .int .i64 x0_3]]) ?_ ?_
  have hk2 := h
  have h := hx16
  refine wp_seq ?_
  refine wc_text ?_
  refine wc_bin HF nS rfl rfl b_eq rfl rfl (fun a HF => ?_)
  refine wc_assign HF nS rfl rfl rfl (fun a HF => ?_)
  refine wc_end ?_
  refine then_n ?_
  by_cases hb23 : x0_0 = 9
  have h := (if_pos hb23).symm.trans h
  refine wp_if (b' := true) HF rfl (decide_eq_true hb23) ?_
  refine wp_skip ?_
  obtain rfl := Option.some.inj h
  exact then_n ⟨(HF.keep (HF.keep (HF.keep HF.nil rfl) rfl) rfl), HT⟩
  have h := (if_neg hb23).symm.trans h
  refine wp_if (b' := false) HF rfl (decide_eq_false hb23) ?_
  refine wp_seq ?_
  refine wc_text ?_
  refine wc_bin HF nS rfl rfl b_eq rfl rfl (fun a HF => ?_)
  refine wc_assign HF nS rfl rfl rfl (fun a HF => ?_)
  refine wc_end ?_
  refine then_n ?_
  by_cases hb24 : x0_0 = 10
  have h := (if_pos hb24).symm.trans h
  refine wp_if (b' := true) HF rfl (decide_eq_true hb24) ?_
  refine wp_skip ?_
  obtain rfl := Option.some.inj h
  exact then_n ⟨(HF.keep (HF.keep (HF.keep HF.nil rfl) rfl) rfl), HT⟩
  have h := (if_neg hb24).symm.trans h
  refine wp_if (b' := false) HF rfl (decide_eq_false hb24) ?_
  refine wc_text ?_
  refine wc_bin HF nS rfl rfl b_eq rfl rfl (fun a HF => ?_)
  refine wc_assign HF nS rfl rfl rfl (fun a HF => ?_)
  refine wc_end ?_
  obtain rfl := Option.some.inj h
  exact then_n ⟨(HF.keep (HF.keep (HF.keep HF.nil rfl) rfl) rfl), HT⟩
  rintro a w ⟨HF, HT⟩
  refine ?_
  by_cases hb25 : z3 = true
  have h := (if_pos hb25).symm.trans h
  refine wp_if (b' := true) HF rfl hb25 ?_
  refine wp_seq ?_
  refine wc_text ?_
  refine wc_faddr HF nS rfl fl85_1 rfl rfl (fun a HF => ?_)
  refine wc_load HF rfl sc3 ((HT.boxAt 0 rfl).get 1 rfl) rfl rfl (fun a HF => ?_)
  refine wc_bin HF nS rfl rfl b_eq rfl rfl (fun a HF => ?_)
  refine wc_move HF nS rfl rfl rfl (fun a HF => ?_)
  by_cases hb26 : x0_1 = 0
  have h := (if_pos hb26).symm.trans h
  refine wc_faddr HF nS rfl fl85_2 (HF.wy rfl rfl rfl rfl (decide_eq_true hb26)) rfl (fun a HF => ?_)
  refine wc_load HF rfl sc3 ((HT.boxAt 0 rfl).get 2 rfl) (HF.wy rfl rfl rfl rfl (decide_eq_true hb26)) rfl (fun a HF => ?_)
  refine wc_bin HF nS rfl rfl b_eq (HF.wy rfl rfl rfl rfl (decide_eq_true hb26)) rfl (fun a HF => ?_)
  refine wc_pick (b := true) HF nS rfl (decide_eq_true hb26) rfl rfl rfl (fun a HF => ?_)
  refine wc_move HF nS rfl rfl rfl (fun a HF => ?_)
  by_cases hb27 : x0_2 = 0
  have h := (if_pos hb27).symm.trans h
  refine wc_faddr HF nS rfl fl85_3 (HF.wy rfl rfl rfl rfl (decide_eq_true hb27)) rfl (fun a HF => ?_)
  refine wc_load HF rfl sc3 ((HT.boxAt 0 rfl).get 3 rfl) (HF.wy rfl rfl rfl rfl (decide_eq_true hb27)) rfl (fun a HF => ?_)
  refine wc_bin HF nS rfl rfl b_eq (HF.wy rfl rfl rfl rfl (decide_eq_true hb27)) rfl (fun a HF => ?_)
  refine wc_pick (b := true) HF nS rfl (decide_eq_true hb27) rfl rfl rfl (fun a HF => ?_)
  refine wc_assign HF nS rfl rfl rfl (fun a HF => ?_)
  refine wc_end ?_
  refine then_n ?_
  refine wp_ret ?_
  obtain rfl := Option.some.inj h
  have h := retL hk1
  obtain rfl := Option.some.inj h
  refine blk_r (then_r (?_))
  refine bp_ret HF (res_one rfl HF rfl) ?_
  have HT := HT.t0
  exact ⟨rfl, HT⟩
  have h := (if_neg hb27).symm.trans h
  refine wc_skip HF nS (HF.wn rfl rfl rfl rfl (decide_eq_false hb27)) rfl (fun a HF => ?_)
  refine wc_skip HF nS (HF.wn rfl rfl rfl rfl (decide_eq_false hb27)) rfl (fun a HF => ?_)
  refine wc_skip HF nS (HF.wn rfl rfl rfl rfl (decide_eq_false hb27)) rfl (fun a HF => ?_)
  refine wc_pick (b := false) HF nS rfl (decide_eq_false hb27) rfl rfl rfl (fun a HF => ?_)
  refine wc_assign HF nS rfl rfl rfl (fun a HF => ?_)
  refine wc_end ?_
  refine then_n ?_
  refine wp_ret ?_
  obtain rfl := Option.some.inj h
  have h := retL hk1
  obtain rfl := Option.some.inj h
  refine blk_r (then_r (?_))
  refine bp_ret HF (res_one rfl HF rfl) ?_
  have HT := HT.t0
  exact ⟨rfl, HT⟩
  have h := (if_neg hb26).symm.trans h
  refine wc_skip HF nS (HF.wn rfl rfl rfl rfl (decide_eq_false hb26)) rfl (fun a HF => ?_)
  refine wc_skip HF nS (HF.wn rfl rfl rfl rfl (decide_eq_false hb26)) rfl (fun a HF => ?_)
  refine wc_skip HF nS (HF.wn rfl rfl rfl rfl (decide_eq_false hb26)) rfl (fun a HF => ?_)
  refine wc_pick (b := false) HF nS rfl (decide_eq_false hb26) rfl rfl rfl (fun a HF => ?_)
  refine wc_move HF nS rfl rfl rfl (fun a HF => ?_)
  refine wc_skip HF nS (HF.wn rfl rfl rfl rfl rfl) rfl (fun a HF => ?_)
  refine wc_skip HF nS (HF.wn rfl rfl rfl rfl rfl) rfl (fun a HF => ?_)
  refine wc_skip HF nS (HF.wn rfl rfl rfl rfl rfl) rfl (fun a HF => ?_)
  refine wc_pick (b := false) HF nS rfl rfl rfl rfl rfl (fun a HF => ?_)
  refine wc_assign HF nS rfl rfl rfl (fun a HF => ?_)
  refine wc_end ?_
  refine then_n ?_
  refine wp_ret ?_
  obtain rfl := Option.some.inj h
  have h := retL hk1
  obtain rfl := Option.some.inj h
  refine blk_r (then_r (?_))
  refine bp_ret HF (res_one rfl HF rfl) ?_
  have HT := HT.t0
  exact ⟨rfl, HT⟩
  have h := (if_neg hb25).symm.trans h
  refine wp_if (b' := false) HF rfl (Bool.eq_false_iff.2 hb25) ?_
  refine wp_seq ?_
  refine wc_text ?_
  refine wc_bin HF nS rfl rfl b_eq rfl rfl (fun a HF => ?_)
  refine wc_assign HF nS rfl rfl rfl (fun a HF => ?_)
  refine wc_end ?_
  refine then_n ?_
  by_cases hb28 : x0_0 = 12
  have h := (if_pos hb28).symm.trans h
  refine wp_if (b' := true) HF rfl (decide_eq_true hb28) ?_
  refine wp_seq ?_
  refine wc_text ?_
  refine wc_faddr HF nS rfl fl85_1 rfl rfl (fun a HF => ?_)
  refine wc_load HF rfl sc3 ((HT.boxAt 0 rfl).get 1 rfl) rfl rfl (fun a HF => ?_)
  obtain ⟨y13, hx17, h⟩ := obs h
  refine wc_call HF cf135 rfl (w_impl_isKey fuel hx17) rfl rfl ?_
  rintro e w ⟨rfl, hE⟩
  have hb := hE.below
  have HT := HT.pure hE
  have HT : St w0 (fun _ => False) w [Box p1 [.int .i64 x0_0, .int .i64 x0_1, .int .i64 x0_2, .int .i64 x0_3]] := HT
  refine ⟨_, rfl, nS, fun a HF => ?_⟩
  refine wc_move HF nS rfl rfl rfl (fun a HF => ?_)
  by_cases hb29 : y13 = true
  have h := (if_pos hb29).symm.trans h
  refine wc_faddr HF nS rfl fl85_2 (HF.wy rfl rfl rfl rfl hb29) rfl (fun a HF => ?_)
  refine wc_load HF rfl sc3 ((HT.boxAt 0 rfl).get 2 rfl) (HF.wy rfl rfl rfl rfl hb29) rfl (fun a HF => ?_)
  obtain ⟨y14, hx18, h⟩ := obs h
  refine wc_call HF cf133 rfl (w_impl_isReg fuel hx18) (HF.wy rfl rfl rfl rfl hb29) rfl ?_
  rintro e w ⟨rfl, hE⟩
  have hb := hE.below
  have HT := HT.pure hE
  have HT : St w0 (fun _ => False) w [Box p1 [.int .i64 x0_0, .int .i64 x0_1, .int .i64 x0_2, .int .i64 x0_3]] := HT
  refine ⟨_, rfl, nS, fun a HF => ?_⟩
  refine wc_pick (b := true) HF nS rfl hb29 rfl rfl rfl (fun a HF => ?_)
  refine wc_move HF nS rfl rfl rfl (fun a HF => ?_)
  by_cases hb30 : y14 = true
  have h := (if_pos hb30).symm.trans h
  refine wc_faddr HF nS rfl fl85_3 (HF.wy rfl rfl rfl rfl hb30) rfl (fun a HF => ?_)
  refine wc_load HF rfl sc3 ((HT.boxAt 0 rfl).get 3 rfl) (HF.wy rfl rfl rfl rfl hb30) rfl (fun a HF => ?_)
  obtain ⟨y15, hx19, h⟩ := obs h
  refine wc_call HF cf133 rfl (w_impl_isReg fuel hx19) (HF.wy rfl rfl rfl rfl hb30) rfl ?_
  rintro e w ⟨rfl, hE⟩
  have hb := hE.below
  have HT := HT.pure hE
  have HT : St w0 (fun _ => False) w [Box p1 [.int .i64 x0_0, .int .i64 x0_1, .int .i64 x0_2, .int .i64 x0_3]] := HT
  refine ⟨_, rfl, nS, fun a HF => ?_⟩
  refine wc_pick (b := true) HF nS rfl hb30 rfl rfl rfl (fun a HF => ?_)
  refine wc_assign HF nS rfl rfl rfl (fun a HF => ?_)
  refine wc_end ?_
  refine then_n ?_
  refine wp_ret ?_
  obtain rfl := Option.some.inj h
  have h := retL hk1
  obtain rfl := Option.some.inj h
  refine blk_r (then_r (?_))
  refine bp_ret HF (res_one rfl HF rfl) ?_
  have HT := HT.t0
  exact ⟨rfl, HT⟩
  have h := (if_neg hb30).symm.trans h
  refine wc_skip HF nS (HF.wn rfl rfl rfl rfl (Bool.eq_false_iff.2 hb30)) rfl (fun a HF => ?_)
  refine wc_skip HF nS (HF.wn rfl rfl rfl rfl (Bool.eq_false_iff.2 hb30)) rfl (fun a HF => ?_)
  refine wc_skip HF nS (HF.wn rfl rfl rfl rfl (Bool.eq_false_iff.2 hb30)) rfl (fun a HF => ?_)
  refine wc_pick (b := false) HF nS rfl (Bool.eq_false_iff.2 hb30) rfl rfl rfl (fun a HF => ?_)
  refine wc_assign HF nS rfl rfl rfl (fun a HF => ?_)
  refine wc_end ?_
  refine then_n ?_
  refine wp_ret ?_
  obtain rfl := Option.some.inj h
  have h := retL hk1
  obtain rfl := Option.some.inj h
  refine blk_r (then_r (?_))
  refine bp_ret HF (res_one rfl HF rfl) ?_
  have HT := HT.t0
  exact ⟨rfl, HT⟩
  have h := (if_neg hb29).symm.trans h
  refine wc_skip HF nS (HF.wn rfl rfl rfl rfl (Bool.eq_false_iff.2 hb29)) rfl (fun a HF => ?_)
  refine wc_skip HF nS (HF.wn rfl rfl rfl rfl (Bool.eq_false_iff.2 hb29)) rfl (fun a HF => ?_)
  refine wc_skip HF nS (HF.wn rfl rfl rfl rfl (Bool.eq_false_iff.2 hb29)) rfl (fun a HF => ?_)
  refine wc_pick (b := false) HF nS rfl (Bool.eq_false_iff.2 hb29) rfl rfl rfl (fun a HF => ?_)
  refine wc_move HF nS rfl rfl rfl (fun a HF => ?_)
  refine wc_skip HF nS (HF.wn rfl rfl rfl rfl rfl) rfl (fun a HF => ?_)
  refine wc_skip HF nS (HF.wn rfl rfl rfl rfl rfl) rfl (fun a HF => ?_)
  refine wc_skip HF nS (HF.wn rfl rfl rfl rfl rfl) rfl (fun a HF => ?_)
  refine wc_pick (b := false) HF nS rfl rfl rfl rfl rfl (fun a HF => ?_)
  refine wc_assign HF nS rfl rfl rfl (fun a HF => ?_)
  refine wc_end ?_
  refine then_n ?_
  refine wp_ret ?_
  obtain rfl := Option.some.inj h
  have h := retL hk1
  obtain rfl := Option.some.inj h
  refine blk_r (then_r (?_))
  refine bp_ret HF (res_one rfl HF rfl) ?_
  have HT := HT.t0
  exact ⟨rfl, HT⟩
  have h := (if_neg hb28).symm.trans h
  refine wp_if (b' := false) HF rfl (decide_eq_false hb28) ?_
  refine wp_seq ?_
  refine wc_text ?_
  refine wc_bin HF nS rfl rfl b_eq rfl rfl (fun a HF => ?_)
  refine wc_assign HF nS rfl rfl rfl (fun a HF => ?_)
  refine wc_end ?_
  refine then_n ?_
  by_cases hb31 : x0_0 = 13
  have h := (if_pos hb31).symm.trans h
  refine wp_if (b' := true) HF rfl (decide_eq_true hb31) ?_
  refine wp_seq ?_
  refine wc_text ?_
  refine wc_faddr HF nS rfl fl85_1 rfl rfl (fun a HF => ?_)
  refine wc_load HF rfl sc3 ((HT.boxAt 0 rfl).get 1 rfl) rfl rfl (fun a HF => ?_)
  obtain ⟨y16, hx20, h⟩ := obs h
  refine wc_call HF cf133 rfl (w_impl_isReg fuel hx20) rfl rfl ?_
  rintro e w ⟨rfl, hE⟩
  have hb := hE.below
  have HT := HT.pure hE
  have HT : St w0 (fun _ => False) w [Box p1 [.int .i64 x0_0, .int .i64 x0_1, .int .i64 x0_2, .int .i64 x0_3]] := HT
  refine ⟨_, rfl, nS, fun a HF => ?_⟩
  refine wc_move HF nS rfl rfl rfl (fun a HF => ?_)
  by_cases hb32 : y16 = true
  have h := (if_pos hb32).symm.trans h
  refine wc_faddr HF nS rfl fl85_2 (HF.wy rfl rfl rfl rfl hb32) rfl (fun a HF => ?_)
  refine wc_load HF rfl sc3 ((HT.boxAt 0 rfl).get 2 rfl) (HF.wy rfl rfl rfl rfl hb32) rfl (fun a HF => ?_)
  obtain ⟨y17, hx21, h⟩ := obs h
  refine wc_call HF cf135 rfl (w_impl_isKey fuel hx21) (HF.wy rfl rfl rfl rfl hb32) rfl ?_
  rintro e w ⟨rfl, hE⟩
  have hb := hE.below
  have HT := HT.pure hE
  have HT : St w0 (fun _ => False) w [Box p1 [.int .i64 x0_0, .int .i64 x0_1, .int .i64 x0_2, .int .i64 x0_3]] := HT
  refine ⟨_, rfl, nS, fun a HF => ?_⟩
  refine wc_pick (b := true) HF nS rfl hb32 rfl rfl rfl (fun a HF => ?_)
  refine wc_move HF nS rfl rfl rfl (fun a HF => ?_)
  by_cases hb33 : y17 = true
  have h := (if_pos hb33).symm.trans h
  refine wc_faddr HF nS rfl fl85_3 (HF.wy rfl rfl rfl rfl hb33) rfl (fun a HF => ?_)
  refine wc_load HF rfl sc3 ((HT.boxAt 0 rfl).get 3 rfl) (HF.wy rfl rfl rfl rfl hb33) rfl (fun a HF => ?_)
  refine wc_bin HF nS rfl rfl b_eq (HF.wy rfl rfl rfl rfl hb33) rfl (fun a HF => ?_)
  refine wc_pick (b := true) HF nS rfl hb33 rfl rfl rfl (fun a HF => ?_)
  refine wc_assign HF nS rfl rfl rfl (fun a HF => ?_)
  refine wc_end ?_
  refine then_n ?_
  refine wp_ret ?_
  obtain rfl := Option.some.inj h
  have h := retL hk1
  obtain rfl := Option.some.inj h
  refine blk_r (then_r (?_))
  refine bp_ret HF (res_one rfl HF rfl) ?_
  have HT := HT.t0
  exact ⟨rfl, HT⟩
  have h := (if_neg hb33).symm.trans h
  refine wc_skip HF nS (HF.wn rfl rfl rfl rfl (Bool.eq_false_iff.2 hb33)) rfl (fun a HF => ?_)
  refine wc_skip HF nS (HF.wn rfl rfl rfl rfl (Bool.eq_false_iff.2 hb33)) rfl (fun a HF => ?_)
  refine wc_skip HF nS (HF.wn rfl rfl rfl rfl (Bool.eq_false_iff.2 hb33)) rfl (fun a HF => ?_)
  refine wc_pick (b := false) HF nS rfl (Bool.eq_false_iff.2 hb33) rfl rfl rfl (fun a HF => ?_)
  refine wc_assign HF nS rfl rfl rfl (fun a HF => ?_)
  refine wc_end ?_
  refine then_n ?_
  refine wp_ret ?_
  obtain rfl := Option.some.inj h
  have h := retL hk1
  obtain rfl := Option.some.inj h
  refine blk_r (then_r (?_))
  refine bp_ret HF (res_one rfl HF rfl) ?_
  have HT := HT.t0
  exact ⟨rfl, HT⟩
  have h := (if_neg hb32).symm.trans h
  refine wc_skip HF nS (HF.wn rfl rfl rfl rfl (Bool.eq_false_iff.2 hb32)) rfl (fun a HF => ?_)
  refine wc_skip HF nS (HF.wn rfl rfl rfl rfl (Bool.eq_false_iff.2 hb32)) rfl (fun a HF => ?_)
  refine wc_skip HF nS (HF.wn rfl rfl rfl rfl (Bool.eq_false_iff.2 hb32)) rfl (fun a HF => ?_)
  refine wc_pick (b := false) HF nS rfl (Bool.eq_false_iff.2 hb32) rfl rfl rfl (fun a HF => ?_)
  refine wc_move HF nS rfl rfl rfl (fun a HF => ?_)
  refine wc_skip HF nS (HF.wn rfl rfl rfl rfl rfl) rfl (fun a HF => ?_)
  refine wc_skip HF nS (HF.wn rfl rfl rfl rfl rfl) rfl (fun a HF => ?_)
  refine wc_skip HF nS (HF.wn rfl rfl rfl rfl rfl) rfl (fun a HF => ?_)
  refine wc_pick (b := false) HF nS rfl rfl rfl rfl rfl (fun a HF => ?_)
  refine wc_assign HF nS rfl rfl rfl (fun a HF => ?_)
  refine wc_end ?_
  refine then_n ?_
  refine wp_ret ?_
  obtain rfl := Option.some.inj h
  have h := retL hk1
  obtain rfl := Option.some.inj h
  refine blk_r (then_r (?_))
  refine bp_ret HF (res_one rfl HF rfl) ?_
  have HT := HT.t0
  exact ⟨rfl, HT⟩
  have h := (if_neg hb31).symm.trans h
  refine wp_if (b' := false) HF rfl (decide_eq_false hb31) ?_
  refine wp_seq ?_
  refine wc_text ?_
  refine wc_bin HF nS rfl rfl b_eq rfl rfl (fun a HF => ?_)
  refine wc_assign HF nS rfl rfl rfl (fun a HF => ?_)
  refine wc_end ?_
  refine then_n ?_
  by_cases hb34 : x0_0 = 14
  have h := (if_pos hb34).symm.trans h
  refine wp_if (b' := true) HF rfl (decide_eq_true hb34) ?_
  refine wp_seq ?_
  refine wc_text ?_
  refine wc_faddr HF nS rfl fl85_1 rfl rfl (fun a HF => ?_)
  refine wc_load HF rfl sc3 ((HT.boxAt 0 rfl).get 1 rfl) rfl rfl (fun a HF => ?_)
  obtain ⟨y18, hx22, h⟩ := obs h
  refine wc_call HF cf135 rfl (w_impl_isKey fuel hx22) rfl rfl ?_
  rintro e w ⟨rfl, hE⟩
  have hb := hE.below
  have HT := HT.pure hE
  have HT : St w0 (fun _ => False) w [Box p1 [.int .i64 x0_0, .int .i64 x0_1, .int .i64 x0_2, .int .i64 x0_3]] := HT
  refine ⟨_, rfl, nS, fun a HF => ?_⟩
  refine wc_move HF nS rfl rfl rfl (fun a HF => ?_)
  by_cases hb35 : y18 = true
  have h := (if_pos hb35).symm.trans h
  refine wc_faddr HF nS rfl fl85_2 (HF.wy rfl rfl rfl rfl hb35) rfl (fun a HF => ?_)
  refine wc_load HF rfl sc3 ((HT.boxAt 0 rfl).get 2 rfl) (HF.wy rfl rfl rfl rfl hb35) rfl (fun a HF => ?_)
  obtain ⟨y19, hx23, h⟩ := obs h
  refine wc_call HF cf133 rfl (w_impl_isReg fuel hx23) (HF.wy rfl rfl rfl rfl hb35) rfl ?_
  rintro e w ⟨rfl, hE⟩
  have hb := hE.below
  have HT := HT.pure hE
  have HT : St w0 (fun _ => False) w [Box p1 [.int .i64 x0_0, .int .i64 x0_1, .int .i64 x0_2, .int .i64 x0_3]] := HT
  refine ⟨_, rfl, nS, fun a HF => ?_⟩
  refine wc_pick (b := true) HF nS rfl hb35 rfl rfl rfl (fun a HF => ?_)
  refine wc_move HF nS rfl rfl rfl (fun a HF => ?_)
  by_cases hb36 : y19 = true
  have h := (if_pos hb36).symm.trans h
  refine wc_faddr HF nS rfl fl85_3 (HF.wy rfl rfl rfl rfl hb36) rfl (fun a HF => ?_)
  refine wc_load HF rfl sc3 ((HT.boxAt 0 rfl).get 3 rfl) (HF.wy rfl rfl rfl rfl hb36) rfl (fun a HF => ?_)
  refine wc_bin HF nS rfl rfl b_eq (HF.wy rfl rfl rfl rfl hb36) rfl (fun a HF => ?_)
  refine wc_pick (b := true) HF nS rfl hb36 rfl rfl rfl (fun a HF => ?_)
  refine wc_assign HF nS rfl rfl rfl (fun a HF => ?_)
  refine wc_end ?_
  refine then_n ?_
  refine wp_ret ?_
  obtain rfl := Option.some.inj h
  have h := retL hk1
  obtain rfl := Option.some.inj h
  refine blk_r (then_r (?_))
  refine bp_ret HF (res_one rfl HF rfl) ?_
  have HT := HT.t0
  exact ⟨rfl, HT⟩
  have h := (if_neg hb36).symm.trans h
  refine wc_skip HF nS (HF.wn rfl rfl rfl rfl (Bool.eq_false_iff.2 hb36)) rfl (fun a HF => ?_)
  refine wc_skip HF nS (HF.wn rfl rfl rfl rfl (Bool.eq_false_iff.2 hb36)) rfl (fun a HF => ?_)
  refine wc_skip HF nS (HF.wn rfl rfl rfl rfl (Bool.eq_false_iff.2 hb36)) rfl (fun a HF => ?_)
  refine wc_pick (b := false) HF nS rfl (Bool.eq_false_iff.2 hb36) rfl rfl rfl (fun a HF => ?_)
  refine wc_assign HF nS rfl rfl rfl (fun a HF => ?_)
  refine wc_end ?_
  refine then_n ?_
  refine wp_ret ?_
  obtain rfl := Option.some.inj h
  have h := retL hk1
  obtain rfl := Option.some.inj h
  refine blk_r (then_r (?_))
  refine bp_ret HF (res_one rfl HF rfl) ?_
  have HT := HT.t0
  exact ⟨rfl, HT⟩
  have h := (if_neg hb35).symm.trans h
  refine wc_skip HF nS (HF.wn rfl rfl rfl rfl (Bool.eq_false_iff.2 hb35)) rfl (fun a HF => ?_)
  refine wc_skip HF nS (HF.wn rfl rfl rfl rfl (Bool.eq_false_iff.2 hb35)) rfl (fun a HF => ?_)
  refine wc_skip HF nS (HF.wn rfl rfl rfl rfl (Bool.eq_false_iff.2 hb35)) rfl (fun a HF => ?_)
  refine wc_pick (b := false) HF nS rfl (Bool.eq_false_iff.2 hb35) rfl rfl rfl (fun a HF => ?_)
  refine wc_move HF nS rfl rfl rfl (fun a HF => ?_)
  refine wc_skip HF nS (HF.wn rfl rfl rfl rfl rfl) rfl (fun a HF => ?_)
  refine wc_skip HF nS (HF.wn rfl rfl rfl rfl rfl) rfl (fun a HF => ?_)
  refine wc_skip HF nS (HF.wn rfl rfl rfl rfl rfl) rfl (fun a HF => ?_)
  refine wc_pick (b := false) HF nS rfl rfl rfl rfl rfl (fun a HF => ?_)
  refine wc_assign HF nS rfl rfl rfl (fun a HF => ?_)
  refine wc_end ?_
  refine then_n ?_
  refine wp_ret ?_
  obtain rfl := Option.some.inj h
  have h := retL hk1
  obtain rfl := Option.some.inj h
  refine blk_r (then_r (?_))
  refine bp_ret HF (res_one rfl HF rfl) ?_
  have HT := HT.t0
  exact ⟨rfl, HT⟩
  have h := (if_neg hb34).symm.trans h
  refine wp_if (b' := false) HF rfl (decide_eq_false hb34) ?_
  refine wp_skip ?_
  refine blk_n ?_
  have HT := HT.t0
  exact then_n ⟨(Option.some.inj h).symm, HF.nil, HT⟩
  rintro a w ⟨rfl, HF, HT⟩
  have h := brkL1u h
  refine ?_
  refine wp_seq ?_
  refine wc_text ?_
  refine wc_assign HF nS rfl rfl rfl (fun a HF => ?_)
  refine wc_end ?_
  refine then_n ?_
  refine wp_ret ?_
  obtain rfl := Option.some.inj h
  refine bp_ret HF (res_one rfl HF rfl) ?_
  exact ⟨rfl, HT⟩

def m_impl_isBalanced_L0 (fuel : Nat) (x0 : List I4) : Nat → Int → Int → Option (Lp Int Bool)
  | 0, _, _ => none
  | k1 + 1, z2, z3 =>
    if z3 < (x0.length : Int) then
      (at? x0 z3).bind fun e1 =>
      (m_impl_opens fuel e1.a e1.b e1.c e1.d).bind fun y1 =>
      if in64 (z2 + y1) then
        if (z2 + y1) < 0 then
          some (.ret false)
        else
        if in64 (z3 + 1) then
          m_impl_isBalanced_L0 fuel x0 k1 (z2 + y1) (z3 + 1)
        else none
      else none
    else
    some (.brk z2)

def m_impl_isBalanced (fuel : Nat) (x0 : List I4) : Option Bool :=
  (m_impl_isBalanced_L0 fuel x0 fuel 0 0).bind <| contL <| un1 fun z1 =>
  some (decide (z1 = 0))

set_option maxRecDepth 100000 in
set_option maxHeartbeats 4000000 in
theorem w_impl_isBalanced (fuel : Nat) {x0 : List I4} {a_x0 : Option Addr} {n_x0 c_x0 : Nat} {r0 : Bool} {w0 : World} (h : m_impl_isBalanced fuel x0 = some r0) (hr_x0 : RdT (fun b => ¬ False) w0 (rowT x0) (.slice a_x0 n_x0 c_x0)) :
    Calls Try.prog 121 #[.slice a_x0 n_x0 c_x0] w0 fun e w => e = .returned (.bool r0) ∧ St w0 (fun _ => False) w [] := by
  obtain rfl := hr_x0.neq
  have HT : St w0 (fun _ => False) w0 [] := St.init0
  rw [m_impl_isBalanced] at h
  refine calls_fr (n := 21) [.slice a_x0 x0.length c_x0] Try.func121 rfl rfl rfl (fun a HF => ?_)
  have HT : St w0 (fun _ => False) w0 [] := HT
  refine wp_seq ?_
  refine wc_text ?_
  refine wc_assign HF nS rfl rfl rfl (fun a HF => ?_)
  refine wc_end ?_
  refine then_n ?_
  refine wp_seq ?_
  refine wc_text ?_
  refine wc_assign HF nS rfl rfl rfl (fun a HF => ?_)
  refine wc_end ?_
  refine then_n ?_
  obtain ⟨q1, hx1, h⟩ := obs h
  refine wp_cut (fun a w => ∃ z1, q1 = .brk z1 ∧ Fr a 21 [(3, .int .i64 z1)] ∧ St w0 (fun _ => False) w []) ?_ ?_
  have hk1 := h
  have h := hx1
  refine wp_seq ?_
  refine wc_text ?_
  refine wc_move HF nS rfl rfl rfl (fun a HF => ?_)
  refine wc_lenR HF nS Try.underlying36 rfl rfl rfl (fun a HF => ?_)
  refine wc_move HF nS rfl rfl rfl (fun a HF => ?_)
  refine wc_end ?_
  refine then_n ?_
  refine wp_block ?_
  refine wp_loopN (fun k1 a w => ∃ z2 z3, m_impl_isBalanced_L0 fuel x0 k1 z2 z3 = some q1 ∧ Fr a 21 [(3, .int .i64 z2), (6, .slice a_x0 x0.length c_x0), (7, .int .i64 (x0.length : Int)), (8, .int .i64 z3)] ∧ St w0 (fun _ => False) w []) fuel ⟨0, 0, h, (HF.keep (HF.keep (HF.keep (HF.keep HF.nil rfl) rfl) rfl) rfl), HT⟩ ?_
  rintro k1 a w ⟨z2, z3, h, HF, HT⟩
  rcases k1 with _ | k1
  cases h
  rw [m_impl_isBalanced_L0] at h
  refine ?_
  refine wp_seq ?_
  refine wc_text ?_
  refine wc_bin HF nS rfl rfl b_lt rfl rfl (fun a HF => ?_)
  refine wc_end ?_
  refine then_n ?_
  refine wp_seq ?_
  by_cases hb1 : z3 < (x0.length : Int)
  have h := (if_pos hb1).symm.trans h
  refine wp_if (b' := true) HF rfl (decide_eq_true hb1) ?_
  refine wp_skip ?_
  refine then_n ?_
  refine wp_seq ?_
  refine wp_block ?_
  refine wp_seq ?_
  refine wc_text ?_
  obtain ⟨e1, hx2, h⟩ := obs h
  obtain ⟨b1, o1, ha1⟩ := (HT.ro hr_x0).any.addr hx2
  refine wc_ixaddr HF nS el36 rfl ha1 ((HT.ro hr_x0).any).neq rfl hx2 rfl rfl (fun a HF => ?_)
  have hc1 := (HT.ro hr_x0).any.flatAt ha1 hx2
  refine wc_loadA (vs := [.int .i64 e1.a, .int .i64 e1.b, .int .i64 e1.c, .int .i64 e1.d]) HF rfl ag85 rfl (hc1.part 0 4) rfl rfl (fun a HF => ?_)
  refine wc_alloc (cs := [.int .i64 0, .int .i64 0, .int .i64 0, .int .i64 0]) HF HT zr85 rfl rfl rfl (fun p1 w HT hb => ⟨nS, fun a HF => ?_⟩)
  refine wc_storeB (cs' := [.int .i64 e1.a, .int .i64 e1.b, .int .i64 e1.c, .int .i64 e1.d]) HF HT rfl rfl (fun w => (ag85 w).2) rfl rfl rfl rfl rfl (fun w HT => ⟨nS, ?_⟩)
  refine wc_end ?_
  refine then_n ?_
  refine wp_seq ?_
  refine wc_text ?_
  refine wc_move HF nS rfl rfl rfl (fun a HF => ?_)
  refine wc_loadA (vs := [.int .i64 e1.a, .int .i64 e1.b, .int .i64 e1.c, .int .i64 e1.d]) HF rfl ag85 rfl ((HT.boxAt 0 rfl).part 0 4) rfl rfl (fun a HF => ?_)
  obtain ⟨y1, hx3, h⟩ := obs h
  refine wc_call HF cf123 rfl (w_impl_opens fuel hx3) rfl rfl ?_
  rintro e w ⟨rfl, hE⟩
  have hb := hE.below
  have HT := HT.pure hE
  have HT : St w0 (fun _ => False) w [Box p1 [.int .i64 e1.a, .int .i64 e1.b, .int .i64 e1.c, .int .i64 e1.d]] := HT
  refine ⟨_, rfl, nS, fun a HF => ?_⟩
  obtain ⟨hg1, h⟩ := grd h
  refine wc_bin HF nS rfl rfl (b_add hg1) rfl rfl (fun a HF => ?_)
  refine wc_assign HF nS rfl rfl rfl (fun a HF => ?_)
  refine wc_end ?_
  refine then_n ?_
  refine wp_seq ?_
  refine wc_text ?_
  refine wc_move HF nS rfl rfl rfl (fun a HF => ?_)
  refine wc_bin HF nS rfl rfl b_lt rfl rfl (fun a HF => ?_)
  refine wc_end ?_
  refine then_n ?_
  by_cases hb2 : (z2 + y1) < 0
  have h := (if_pos hb2).symm.trans h
  refine wp_if (b' := true) HF rfl (decide_eq_true hb2) ?_
  refine wp_seq ?_
  refine wc_text ?_
  refine wc_assign HF nS rfl rfl rfl (fun a HF => ?_)
  refine wc_end ?_
  refine then_n ?_
  refine wp_ret ?_
  obtain rfl := Option.some.inj h
  have h := retL hk1
  obtain rfl := Option.some.inj h
  refine blk_r (then_r (then_r (blk_r (then_r (?_)))))
  refine bp_ret HF (res_one rfl HF rfl) ?_
  have HT := HT.t0
  exact ⟨rfl, HT⟩
  have h := (if_neg hb2).symm.trans h
  refine wp_if (b' := false) HF rfl (decide_eq_false hb2) ?_
  refine wp_skip ?_
  refine blk_n ?_
  refine then_n ?_
  refine wc_text ?_
  obtain ⟨hg2, h⟩ := grd h
  refine wc_bin HF nS rfl rfl (b_add hg2) rfl rfl (fun a HF => ?_)
  refine wc_move HF nS rfl rfl rfl (fun a HF => ?_)
  refine wc_end ?_
  have HT := HT.t0
  exact then_n ⟨k1, Nat.lt_succ_self k1, z2 + y1, z3 + 1, h, (HF.keep (HF.keep (HF.keep (HF.keep HF.nil rfl) rfl) rfl) rfl), HT⟩
  have h := (if_neg hb1).symm.trans h
  refine wp_if (b' := false) HF rfl (decide_eq_false hb1) ?_
  refine wp_exit ?_
  refine then_x (then_x (?_))
  refine blk_x ?_
  exact then_n ⟨z2, (Option.some.inj h).symm, (HF.keep HF.nil rfl), HT⟩
  rintro a w ⟨z1, rfl, HF, HT⟩
  have h := brkL1u h
  refine ?_
  refine wp_seq ?_
  refine wc_text ?_
  refine wc_move HF nS rfl rfl rfl (fun a HF => ?_)
  refine wc_bin HF nS rfl rfl b_eq rfl rfl (fun a HF => ?_)
  refine wc_assign HF nS rfl rfl rfl (fun a HF => ?_)
  refine wc_end ?_
  refine then_n ?_
  refine wp_ret ?_
  obtain rfl := Option.some.inj h
  refine bp_ret HF (res_one rfl HF rfl) ?_
  exact ⟨rfl, HT⟩

def m_impl_CodeOk_L0 (fuel : Nat) (x0 : List I4) : Nat → Int → Int → Option (Lp Unit Bool)
  | 0, _, _ => none
  | k1 + 1, z1, z2 =>
    if z2 < (x0.length : Int) then
      (
        (at? x0 z2).bind fun e1 =>
        (m_impl_OpOk fuel e1.a e1.b e1.c e1.d).bind fun y2 =>
        if y2 = true then
          if e1.a = 7 then
            if in64 (z2 + 1) then
              if in64 ((z2 + 1) + e1.c) then
                if (x0.length : Int) < ((z2 + 1) + e1.c) then
                  some (.ret false)
                else
                if in64 (z2 + 1) then
                  if in64 (z2 + 1) then
                    if in64 ((z2 + 1) + e1.c) then
                      if 0 ≤ (z2 + 1 : Int) ∧ (z2 + 1 : Int) ≤ ((z2 + 1) + e1.c) ∧ ((z2 + 1) + e1.c) ≤ (x0.length : Int) then
                        (m_impl_isBalanced fuel (subl x0 (z2 + 1) ((z2 + 1) + e1.c))).bind fun y3 =>
                        if y3 = true then
                          some (.brk z1)
                        else
                        some (.ret false)
                      else none
                    else none
                  else none
                else none
              else none
            else none
          else
          if e1.a = 11 then
            if in64 (z1 + 1) then
              if 1 < (z1 + 1) then
                some (.ret false)
              else
              (m_impl_DepthAt fuel x0 z2).bind fun y4 =>
              if y4 = 0 then
                some (.brk (z1 + 1))
              else
              some (.ret false)
            else none
          else
          some (.brk z1)
        else
        some (.ret false)).bind <| contM <| un1 fun z3 =>
      if in64 (z2 + 1) then
        m_impl_CodeOk_L0 fuel x0 k1 z3 (z2 + 1)
      else none
    else
    some (.brk ())

def m_impl_CodeOk (fuel : Nat) (x0 : List I4) : Option Bool :=
  if 24 < (x0.length : Int) then
    some false
  else
  (m_impl_isBalanced fuel x0).bind fun y1 =>
  if y1 = true then
    (m_impl_CodeOk_L0 fuel x0 fuel 0 0).bind <| contL <| un1 fun _ =>
    some true
  else
  some false

set_option maxRecDepth 100000 in
set_option maxHeartbeats 4000000 in
theorem w_impl_CodeOk (fuel : Nat) {x0 : List I4} {a_x0 : Option Addr} {n_x0 c_x0 : Nat} {r0 : Bool} {w0 : World} (h : m_impl_CodeOk fuel x0 = some r0) (hr_x0 : RdT (fun b => ¬ False) w0 (rowT x0) (.slice a_x0 n_x0 c_x0)) :
    Calls Try.prog 102 #[.slice a_x0 n_x0 c_x0] w0 fun e w => e = .returned (.bool r0) ∧ St w0 (fun _ => False) w [] := by
  obtain rfl := hr_x0.neq
  have HT : St w0 (fun _ => False) w0 [] := St.init0
  rw [m_impl_CodeOk] at h
  refine calls_fr (n := 62) [.slice a_x0 x0.length c_x0] Try.func102 rfl rfl rfl (fun a HF => ?_)
  have HT : St w0 (fun _ => False) w0 [] := HT
  refine wp_seq ?_
  refine wc_text ?_
  refine wc_assign HF nS rfl rfl rfl (fun a HF => ?_)
  refine wc_end ?_
  refine then_n ?_
  refine wp_seq ?_
  refine wp_seq ?_
  refine wc_text ?_
  refine wc_move HF nS rfl rfl rfl (fun a HF => ?_)
  refine wc_lenR HF nS Try.underlying36 rfl rfl rfl (fun a HF => ?_)
  refine wc_bin HF nS rfl rfl b_gt rfl rfl (fun a HF => ?_)
  refine wc_move HF nS rfl rfl rfl (fun a HF => ?_)
  by_cases hb1 : 24 < (x0.length : Int)
  have h := (if_pos hb1).symm.trans h
  refine wc_skip HF nS (HF.wn rfl rfl rfl rfl (decide_eq_true hb1)) rfl (fun a HF => ?_)
  refine wc_skip HF nS (HF.wn rfl rfl rfl rfl (decide_eq_true hb1)) rfl (fun a HF => ?_)
  refine wc_skip HF nS (HF.wn rfl rfl rfl rfl (decide_eq_true hb1)) rfl (fun a HF => ?_)
  refine wc_pick (b := true) HF nS rfl (decide_eq_true hb1) rfl rfl rfl (fun a HF => ?_)
  refine wc_end ?_
  refine then_n ?_
  refine wp_if (b' := true) HF rfl rfl ?_
  refine wp_seq ?_
  refine wc_text ?_
  refine wc_assign HF nS rfl rfl rfl (fun a HF => ?_)
  refine wc_end ?_
  refine then_n ?_
  refine wp_ret ?_
  obtain rfl := Option.some.inj h
  refine then_r (?_)
  refine bp_ret HF (res_one rfl HF rfl) ?_
  exact ⟨rfl, HT⟩
  have h := (if_neg hb1).symm.trans h
  refine wc_move HF nS rfl (HF.wy rfl rfl rfl rfl (decide_eq_false hb1)) rfl (fun a HF => ?_)
  obtain ⟨y1, hx1, h⟩ := obs h
  refine wc_call HF cf121 rfl (w_impl_isBalanced fuel hx1 (HT.ro hr_x0).any) (HF.wy rfl rfl rfl rfl (decide_eq_false hb1)) rfl ?_
  rintro e w ⟨rfl, hE⟩
  have hb := hE.below
  have HT := HT.pure hE
  have HT : St w0 (fun _ => False) w [] := HT
  refine ⟨_, rfl, nS, fun a HF => ?_⟩
  refine wc_not HF nS rfl (HF.wy rfl rfl rfl rfl (decide_eq_false hb1)) rfl (fun a HF => ?_)
  refine wc_pick (b := false) HF nS rfl (decide_eq_false hb1) rfl rfl rfl (fun a HF => ?_)
  refine wc_end ?_
  refine then_n ?_
  by_cases hb2 : y1 = true
  have h := (if_pos hb2).symm.trans h
  refine wp_if (b' := false) HF rfl (notT hb2) ?_
  refine wp_skip ?_
  refine then_n ?_
  refine wp_seq ?_
  refine wc_text ?_
  refine wc_assign HF nS rfl rfl rfl (fun a HF => ?_)
  refine wc_end ?_
  refine then_n ?_
  obtain ⟨q1, hx2, h⟩ := obs h
  refine wp_cut (fun a w => q1 = .brk () ∧ Fr a 62 [] ∧ St w0 (fun _ => False) w []) ?_ ?_
  have hk1 := h
  have h := hx2
  refine wp_seq ?_
  refine wc_text ?_
  refine wc_move HF nS rfl rfl rfl (fun a HF => ?_)
  refine wc_lenR HF nS Try.underlying36 rfl rfl rfl (fun a HF => ?_)
  refine wc_move HF nS rfl rfl rfl (fun a HF => ?_)
  refine wc_end ?_
  refine then_n ?_
  refine wp_block ?_
  refine wp_loopN (fun k1 a w => ∃ z1 z2, m_impl_CodeOk_L0 fuel x0 k1 z1 z2 = some q1 ∧ Fr a 62 [(0, .slice a_x0 x0.length c_x0), (3, .int .i64 z1), (14, .slice a_x0 x0.length c_x0), (15, .int .i64 (x0.length : Int)), (16, .int .i64 z2)] ∧ St w0 (fun _ => False) w []) fuel ⟨0, 0, h, (HF.keep (HF.keep (HF.keep (HF.keep (HF.keep HF.nil rfl) rfl) rfl) rfl) rfl), HT⟩ ?_
  rintro k1 a w ⟨z1, z2, h, HF, HT⟩
  rcases k1 with _ | k1
  cases h
  rw [m_impl_CodeOk_L0] at h
  refine ?_
  refine wp_seq ?_
  refine wc_text ?_
  refine wc_bin HF nS rfl rfl b_lt rfl rfl (fun a HF => ?_)
  refine wc_end ?_
  refine then_n ?_
  refine wp_seq ?_
  by_cases hb3 : z2 < (x0.length : Int)
  have h := (if_pos hb3).symm.trans h
  refine wp_if (b' := true) HF rfl (decide_eq_true hb3) ?_
  refine wp_skip ?_
  refine then_n ?_
  obtain ⟨q2, hx3, h⟩ := obs h
  refine wp_cut (fun a w => ∃ z3, q2 = .brk z3 ∧ Fr a 62 [(0, .slice a_x0 x0.length c_x0), (3, .int .i64 z3), (14, .slice a_x0 x0.length c_x0), (15, .int .i64 (x0.length : Int)), (16, .int .i64 z2)] ∧ St w0 (fun _ => False) w []) ?_ ?_
  have hk2 := h
  have h := hx3
  refine wp_block ?_
  refine wp_seq ?_
  refine wc_text ?_
  refine wc_move HF nS rfl rfl rfl (fun a HF => ?_)
  obtain ⟨e1, hx4, h⟩ := obs h
  obtain ⟨b1, o1, ha1⟩ := (HT.ro hr_x0).any.addr hx4
  refine wc_ixaddr HF nS el36 rfl ha1 ((HT.ro hr_x0).any).neq rfl hx4 rfl rfl (fun a HF => ?_)
  have hc1 := (HT.ro hr_x0).any.flatAt ha1 hx4
  refine wc_loadA (vs := [.int .i64 e1.a, .int .i64 e1.b, .int .i64 e1.c, .int .i64 e1.d]) HF rfl ag85 rfl (hc1.part 0 4) rfl rfl (fun a HF => ?_)
  refine wc_alloc (cs := [.int .i64 0, .int .i64 0, .int .i64 0, .int .i64 0]) HF HT zr85 rfl rfl rfl (fun p1 w HT hb => ⟨nS, fun a HF => ?_⟩)
  refine wc_assign HF nS rfl rfl rfl (fun a HF => ?_)
  refine wc_storeB (cs' := [.int .i64 e1.a, .int .i64 e1.b, .int .i64 e1.c, .int .i64 e1.d]) HF HT rfl rfl (fun w => (ag85 w).2) rfl rfl rfl rfl rfl (fun w HT => ⟨nS, ?_⟩)
  refine wc_end ?_
  refine then_n ?_
  refine wp_seq ?_
  refine wp_seq ?_
  refine wc_text ?_
  refine wc_loadA (vs := [.int .i64 e1.a, .int .i64 e1.b, .int .i64 e1.c, .int .i64 e1.d]) HF rfl ag85 rfl ((HT.boxAt 0 rfl).part 0 4) rfl rfl (fun a HF => ?_)
  obtain ⟨y2, hx5, h⟩ := obs h
  refine wc_call HF cf120 rfl (w_impl_OpOk fuel hx5) rfl rfl ?_
  rintro e w ⟨rfl, hE⟩
  have hb := hE.below
  have HT := HT.pure hE
  have HT : St w0 (fun _ => False) w [Box p1 [.int .i64 e1.a, .int .i64 e1.b, .int .i64 e1.c, .int .i64 e1.d]] := HT
  refine ⟨_, rfl, nS, fun a HF => ?_⟩
  refine wc_not HF nS rfl rfl rfl (fun a HF => ?_)
  refine wc_end ?_
  refine then_n ?_
  by_cases hb4 : y2 = true
  have h := (if_pos hb4).symm.trans h
  refine wp_if (b' := false) HF rfl (notT hb4) ?_
  refine wp_skip ?_
  refine then_n ?_
  refine wp_seq ?_
  refine wc_text ?_
  refine wc_faddr HF nS rfl fl85_0 rfl rfl (fun a HF => ?_)
  refine wc_load HF rfl sc3 ((HT.boxAt 0 rfl).get 0 rfl) rfl rfl (fun a HF => ?_)
  refine wc_end ?_
  refine then_n ?_
  refine wp_block ?_
  refine wp_seq ?_
  refine wc_text ?_
  refine wc_bin HF nS rfl rfl b_eq rfl rfl (fun a HF => ?_)
  refine wc_assign HF nS rfl rfl rfl (fun a HF => ?_)
  refine wc_end ?_
  refine then_n ?_
  by_cases hb5 : e1.a = 7
  have h := (if_pos hb5).symm.trans h
  refine wp_if (b' := true) HF rfl (decide_eq_true hb5) ?_
  refine wp_seq ?_
  refine wc_text ?_
  refine wc_move HF nS rfl rfl rfl (fun a HF => ?_)
  obtain ⟨hg1, h⟩ := grd h
  refine wc_bin HF nS rfl rfl (b_add hg1) rfl rfl (fun a HF => ?_)
  refine wc_faddr HF nS rfl fl85_2 rfl rfl (fun a HF => ?_)
  refine wc_load HF rfl sc3 ((HT.boxAt 0 rfl).get 2 rfl) rfl rfl (fun a HF => ?_)
  obtain ⟨hg2, h⟩ := grd h
  refine wc_bin HF nS rfl rfl (b_add hg2) rfl rfl (fun a HF => ?_)
  refine wc_move HF nS rfl rfl rfl (fun a HF => ?_)
  refine wc_lenR HF nS Try.underlying36 rfl rfl rfl (fun a HF => ?_)
  refine wc_bin HF nS rfl rfl b_gt rfl rfl (fun a HF => ?_)
  refine wc_move HF nS rfl rfl rfl (fun a HF => ?_)
  by_cases hb6 : (x0.length : Int) < ((z2 + 1) + e1.c)
  have h := (if_pos hb6).symm.trans h
  refine wc_skip HF nS (HF.wn rfl rfl rfl rfl (decide_eq_true hb6)) rfl (fun a HF => ?_)
  refine wc_skip HF nS (HF.wn rfl rfl rfl rfl (decide_eq_true hb6)) rfl (fun a HF => ?_)
  refine wc_skip HF nS (HF.wn rfl rfl rfl rfl (decide_eq_true hb6)) rfl (fun a HF => ?_)
  refine wc_skip HF nS (HF.wn rfl rfl rfl rfl (decide_eq_true hb6)) rfl (fun a HF => ?_)
  refine wc_skip HF nS (HF.wn rfl rfl rfl rfl (decide_eq_true hb6)) rfl (fun a HF => ?_)
  refine wc_skip HF nS (HF.wn rfl rfl rfl rfl (decide_eq_true hb6)) rfl (fun a HF => ?_)
  refine wc_skip HF nS (HF.wn rfl rfl rfl rfl (decide_eq_true hb6)) rfl (fun a HF => ?_)
  refine wc_skip HF nS (HF.wn rfl rfl rfl rfl (decide_eq_true hb6)) rfl (fun a HF => ?_)
  refine wc_skip HF nS (HF.wn rfl rfl rfl rfl (decide_eq_true hb6)) rfl (fun a HF => ?_)
  refine wc_skip HF nS (HF.wn rfl rfl rfl rfl (decide_eq_true hb6)) rfl (fun a HF => ?_)
  refine wc_skip HF nS (HF.wn rfl rfl rfl rfl (decide_eq_true hb6)) rfl (fun a HF => ?_)
  refine wc_pick (b := true) HF nS rfl (decide_eq_true hb6) rfl rfl rfl (fun a HF => ?_)
  refine wc_end ?_
  refine then_n ?_
  refine wp_if (b' := true) HF rfl rfl ?_
  refine wp_seq ?_
  refine wc_text ?_
  refine wc_assign HF nS rfl rfl rfl (fun a HF => ?_)
  refine wc_end ?_
  refine then_n ?_
  refine wp_ret ?_
  obtain rfl := Option.some.inj h
  have h := retM hk2
  obtain rfl := Option.some.inj h
  have h := retL hk1
  obtain rfl := Option.some.inj h
  refine blk_r (blk_r (then_r (then_r (blk_r (then_r (?_))))))
  refine bp_ret HF (res_one rfl HF rfl) ?_
  have HT := HT.t0
  exact ⟨rfl, HT⟩
  have h := (if_neg hb6).symm.trans h
  refine wc_move HF nS rfl (HF.wy rfl rfl rfl rfl (decide_eq_false hb6)) rfl (fun a HF => ?_)
  refine wc_move HF nS rfl (HF.wy rfl rfl rfl rfl (decide_eq_false hb6)) rfl (fun a HF => ?_)
  obtain ⟨hg3, h⟩ := grd h
  refine wc_bin HF nS rfl rfl (b_add hg3) (HF.wy rfl rfl rfl rfl (decide_eq_false hb6)) rfl (fun a HF => ?_)
  refine wc_move HF nS rfl (HF.wy rfl rfl rfl rfl (decide_eq_false hb6)) rfl (fun a HF => ?_)
  obtain ⟨hg4, h⟩ := grd h
  refine wc_bin HF nS rfl rfl (b_add hg4) (HF.wy rfl rfl rfl rfl (decide_eq_false hb6)) rfl (fun a HF => ?_)
  refine wc_faddr HF nS rfl fl85_2 (HF.wy rfl rfl rfl rfl (decide_eq_false hb6)) rfl (fun a HF => ?_)
  refine wc_load HF rfl sc3 ((HT.boxAt 0 rfl).get 2 rfl) (HF.wy rfl rfl rfl rfl (decide_eq_false hb6)) rfl (fun a HF => ?_)
  obtain ⟨hg5, h⟩ := grd h
  refine wc_bin HF nS rfl rfl (b_add hg5) (HF.wy rfl rfl rfl rfl (decide_eq_false hb6)) rfl (fun a HF => ?_)
  obtain ⟨hg6, h⟩ := grd h
  obtain ⟨a1, c1, hr1, hcut⟩ := RdT.cutI hr_x0 (hg6 : 0 ≤ (z2 + 1 : Int) ∧ (z2 + 1 : Int) ≤ ((z2 + 1) + e1.c) ∧ ((z2 + 1) + e1.c) ≤ (x0.length : Int))
  refine wc_slrLH HF nS el36 rfl rfl rfl hcut (HF.wy rfl rfl rfl rfl (decide_eq_false hb6)) rfl (fun a HF => ?_)
  obtain ⟨y3, hx6, h⟩ := obs h
  refine wc_call HF cf121 rfl (w_impl_isBalanced fuel hx6 (HT.ro hr1).any) (HF.wy rfl rfl rfl rfl (decide_eq_false hb6)) rfl ?_
  rintro e w ⟨rfl, hE⟩
  have hb := hE.below
  have HT := HT.pure hE
  have HT : St w0 (fun _ => False) w [Box p1 [.int .i64 e1.a, .int .i64 e1.b, .int .i64 e1.c, .int .i64 e1.d]] := HT
  refine ⟨_, rfl, nS, fun a HF => ?_⟩
  refine wc_not HF nS rfl (HF.wy rfl rfl rfl rfl (decide_eq_false hb6)) rfl (fun a HF => ?_)
  refine wc_pick (b := false) HF nS rfl (decide_eq_false hb6) rfl rfl rfl (fun a HF => ?_)
  refine wc_end ?_
  refine then_n ?_
  by_cases hb7 : y3 = true
  have h := (if_pos hb7).symm.trans h
  refine wp_if (b' := false) HF rfl (notT hb7) ?_
  refine wp_skip ?_
  refine blk_n ?_
  refine blk_n ?_
  have HT := HT.t0
  exact then_n ⟨z1, (Option.some.inj h).symm, (HF.keep (HF.keep (HF.keep (HF.keep (HF.keep HF.nil rfl) rfl) rfl) rfl) rfl), HT⟩
  have h := (if_neg hb7).symm.trans h
  refine wp_if (b' := true) HF rfl (notF (Bool.eq_false_iff.2 hb7)) ?_
  refine wp_seq ?_
  refine wc_text ?_
  refine wc_assign HF nS rfl rfl rfl (fun a HF => ?_)
  refine wc_end ?_
  refine then_n ?_
  refine wp_ret ?_
  obtain rfl := Option.some.inj h
  have h := retM hk2
  obtain rfl := Option.some.inj h
  have h := retL hk1
  obtain rfl := Option.some.inj h
  refine blk_r (blk_r (then_r (then_r (blk_r (then_r (?_))))))
  refine bp_ret HF (res_one rfl HF rfl) ?_
  have HT := HT.t0
  exact ⟨rfl, HT⟩
  have h := (if_neg hb5).symm.trans h
  refine wp_if (b' := false) HF rfl (decide_eq_false hb5) ?_
  refine wp_seq ?_
  refine wc_text ?_
  refine wc_bin HF nS rfl rfl b_eq rfl rfl (fun a HF => ?_)
  refine wc_assign HF nS rfl rfl rfl (fun a HF => ?_)
  refine wc_end ?_
  refine then_n ?_
  by_cases hb8 : e1.a = 11
  have h := (if_pos hb8).symm.trans h
  refine wp_if (b' := true) HF rfl (decide_eq_true hb8) ?_
  refine wp_seq ?_
  refine wc_text ?_
  refine wc_move HF nS rfl rfl rfl (fun a HF => ?_)
  obtain ⟨hg7, h⟩ := grd h
  refine wc_bin HF nS rfl rfl (b_add hg7) rfl rfl (fun a HF => ?_)
  refine wc_assign HF nS rfl rfl rfl (fun a HF => ?_)
  refine wc_end ?_
  refine then_n ?_
  refine wp_seq ?_
  refine wc_text ?_
  refine wc_move HF nS rfl rfl rfl (fun a HF => ?_)
  refine wc_bin HF nS rfl rfl b_gt rfl rfl (fun a HF => ?_)
  refine wc_move HF nS rfl rfl rfl (fun a HF => ?_)
  by_cases hb9 : 1 < (z1 + 1)
  have h := (if_pos hb9).symm.trans h
  refine wc_skip HF nS (HF.wn rfl rfl rfl rfl (decide_eq_true hb9)) rfl (fun a HF => ?_)
  refine wc_skip HF nS (HF.wn rfl rfl rfl rfl (decide_eq_true hb9)) rfl (fun a HF => ?_)
  refine wc_skip HF nS (HF.wn rfl rfl rfl rfl (decide_eq_true hb9)) rfl (fun a HF => ?_)
  refine wc_skip HF nS (HF.wn rfl rfl rfl rfl (decide_eq_true hb9)) rfl (fun a HF => ?_)
  refine wc_pick (b := true) HF nS rfl (decide_eq_true hb9) rfl rfl rfl (fun a HF => ?_)
  refine wc_end ?_
  refine then_n ?_
  refine wp_if (b' := true) HF rfl rfl ?_
  refine wp_seq ?_
  refine wc_text ?_
  refine wc_assign HF nS rfl rfl rfl (fun a HF => ?_)
  refine wc_end ?_
  refine then_n ?_
  refine wp_ret ?_
  obtain rfl := Option.some.inj h
  have h := retM hk2
  obtain rfl := Option.some.inj h
  have h := retL hk1
  obtain rfl := Option.some.inj h
  refine blk_r (blk_r (then_r (then_r (blk_r (then_r (?_))))))
  refine bp_ret HF (res_one rfl HF rfl) ?_
  have HT := HT.t0
  exact ⟨rfl, HT⟩
  have h := (if_neg hb9).symm.trans h
  refine wc_move HF nS rfl (HF.wy rfl rfl rfl rfl (decide_eq_false hb9)) rfl (fun a HF => ?_)
  refine wc_move HF nS rfl (HF.wy rfl rfl rfl rfl (decide_eq_false hb9)) rfl (fun a HF => ?_)
  obtain ⟨y4, hx7, h⟩ := obs h
  refine wc_call HF cf122 rfl (w_impl_DepthAt fuel hx7 (HT.ro hr_x0).any) (HF.wy rfl rfl rfl rfl (decide_eq_false hb9)) rfl ?_
  rintro e w ⟨rfl, hE⟩
  have hb := hE.below
  have HT := HT.pure hE
  have HT : St w0 (fun _ => False) w [Box p1 [.int .i64 e1.a, .int .i64 e1.b, .int .i64 e1.c, .int .i64 e1.d]] := HT
  refine ⟨_, rfl, nS, fun a HF => ?_⟩
  refine wc_bin HF nS rfl rfl b_ne (HF.wy rfl rfl rfl rfl (decide_eq_false hb9)) rfl (fun a HF => ?_)
  refine wc_pick (b := false) HF nS rfl (decide_eq_false hb9) rfl rfl rfl (fun a HF => ?_)
  refine wc_end ?_
  refine then_n ?_
  by_cases hb10 : y4 = 0
  have h := (if_pos hb10).symm.trans h
  refine wp_if (b' := false) HF rfl (notT (decide_eq_true hb10)) ?_
  refine wp_skip ?_
  refine blk_n ?_
  refine blk_n ?_
  have HT := HT.t0
  exact then_n ⟨z1 + 1, (Option.some.inj h).symm, (HF.keep (HF.keep (HF.keep (HF.keep (HF.keep HF.nil rfl) rfl) rfl) rfl) rfl), HT⟩
  have h := (if_neg hb10).symm.trans h
  refine wp_if (b' := true) HF rfl (notF (decide_eq_false hb10)) ?_
  refine wp_seq ?_
  refine wc_text ?_
  refine wc_assign HF nS rfl rfl rfl (fun a HF => ?_)
  refine wc_end ?_
  refine then_n ?_
  refine wp_ret ?_
  obtain rfl := Option.some.inj h
  have h := retM hk2
  obtain rfl := Option.some.inj h
  have h := retL hk1
  obtain rfl := Option.some.inj h
  refine blk_r (blk_r (then_r (then_r (blk_r (then_r (?_))))))
  refine bp_ret HF (res_one rfl HF rfl) ?_
  have HT := HT.t0
  exact ⟨rfl, HT⟩
  have h := (if_neg hb8).symm.trans h
  refine wp_if (b' := false) HF rfl (decide_eq_false hb8) ?_
  refine wp_skip ?_
  refine blk_n ?_
  refine blk_n ?_
  have HT := HT.t0
  exact then_n ⟨z1, (Option.some.inj h).symm, (HF.keep (HF.keep (HF.keep (HF.keep (HF.keep HF.nil rfl) rfl) rfl) rfl) rfl), HT⟩
  have h := (if_neg hb4).symm.trans h
  refine wp_if (b' := true) HF rfl (notF (Bool.eq_false_iff.2 hb4)) ?_
  refine wp_seq ?_
  refine wc_text ?_
  refine wc_assign HF nS rfl rfl rfl (fun a HF => ?_)
  refine wc_end ?_
  refine then_n ?_
  refine wp_ret ?_
  obtain rfl := Option.some.inj h
  have h := retM hk2
  obtain rfl := Option.some.inj h
  have h := retL hk1
  obtain rfl := Option.some.inj h
  refine then_r (blk_r (then_r (then_r (blk_r (then_r (?_))))))
  refine bp_ret HF (res_one rfl HF rfl) ?_
  have HT := HT.t0
  exact ⟨rfl, HT⟩
  rintro a w ⟨z3, rfl, HF, HT⟩
  have h := brkM1u h
  refine ?_
  refine wc_text ?_
  obtain ⟨hg8, h⟩ := grd h
  refine wc_bin HF nS rfl rfl (b_add hg8) rfl rfl (fun a HF => ?_)
  refine wc_move HF nS rfl rfl rfl (fun a HF => ?_)
  refine wc_end ?_
  exact then_n ⟨k1, Nat.lt_succ_self k1, z3, z2 + 1, h, (HF.keep (HF.keep (HF.keep (HF.keep (HF.keep HF.nil rfl) rfl) rfl) rfl) rfl), HT⟩
  have h := (if_neg hb3).symm.trans h
  refine wp_if (b' := false) HF rfl (decide_eq_false hb3) ?_
  refine wp_exit ?_
  refine then_x (then_x (?_))
  refine blk_x ?_
  exact then_n ⟨(Option.some.inj h).symm, HF.nil, HT⟩
  rintro a w ⟨rfl, HF, HT⟩
  have h := brkL1u h
  refine ?_
  refine wp_seq ?_
  refine wc_text ?_
  refine wc_assign HF nS rfl rfl rfl (fun a HF => ?_)
  refine wc_end ?_
  refine then_n ?_
  refine wp_ret ?_
  obtain rfl := Option.some.inj h
  refine bp_ret HF (res_one rfl HF rfl) ?_
  exact ⟨rfl, HT⟩
  have h := (if_neg hb2).symm.trans h
  refine wp_if (b' := true) HF rfl (notF (Bool.eq_false_iff.2 hb2)) ?_
  refine wp_seq ?_
  refine wc_text ?_
  refine wc_assign HF nS rfl rfl rfl (fun a HF => ?_)
  refine wc_end ?_
  refine then_n ?_
  refine wp_ret ?_
  obtain rfl := Option.some.inj h
  refine then_r (?_)
  refine bp_ret HF (res_one rfl HF rfl) ?_
  exact ⟨rfl, HT⟩

def m_impl_Touches (fuel : Nat) (x0_0 : Int) (x0_1 : Int) (x0_2 : Int) (x0_3 : Int) : Option Int :=
  (m_impl_OpOk fuel x0_0 x0_1 x0_2 x0_3).bind fun y1 =>
  if y1 = true then
    (
      (
        if x0_0 = 5 then
          some (decide (x0_0 = 5))
        else
        some (decide (x0_0 = 6))).bind fun z1 =>
      if z1 = true then
        some (.ret 1)
      else
      (
        if x0_0 = 12 then
          some (decide (x0_0 = 12))
        else
        if x0_0 = 13 then
          some (decide (x0_0 = 13))
        else
        if x0_0 = 14 then
          some (decide (x0_0 = 14))
        else
        if x0_0 = 15 then
          some (decide (x0_0 = 15))
        else
        some (decide (x0_0 = 16))).bind fun z2 =>
      if z2 = true then
        some (.ret 2)
      else
      some (.brk ())).bind <| contL <| un1 fun _ =>
    some 0
  else
  some 0

set_option maxRecDepth 100000 in
set_option maxHeartbeats 4000000 in
theorem w_impl_Touches (fuel : Nat) {x0_0 : Int} {x0_1 : Int} {x0_2 : Int} {x0_3 : Int} {r0 : Int} {w0 : World} (h : m_impl_Touches fuel x0_0 x0_1 x0_2 x0_3 = some r0) :
    Calls Try.prog 101 #[.agg #[.int .i64 x0_0, .int .i64 x0_1, .int .i64 x0_2, .int .i64 x0_3]] w0 fun e w => e = .returned (.int .i64 r0) ∧ St w0 (fun _ => False) w [] := by
  have HT : St w0 (fun _ => False) w0 [] := St.init0
  rw [m_impl_Touches] at h
  refine calls_fr (n := 17) [.agg #[.int .i64 x0_0, .int .i64 x0_1, .int .i64 x0_2, .int .i64 x0_3]] Try.func101 rfl rfl rfl (fun a HF => ?_)
  have HT : St w0 (fun _ => False) w0 [] := HT
  refine wp_seq ?_
  refine wc_text ?_
  refine wc_box (cs := [.int .i64 x0_0, .int .i64 x0_1, .int .i64 x0_2, .int .i64 x0_3]) HF HT rfl rfl rfl rfl (fun p1 w HT hb => ⟨nS, fun a HF => ?_⟩)
  refine wc_assign HF nS rfl rfl rfl (fun a HF => ?_)
  refine wc_end ?_
  refine then_n ?_
  refine wp_seq ?_
  refine wp_seq ?_
  refine wc_text ?_
  refine wc_loadA (vs := [.int .i64 x0_0, .int .i64 x0_1, .int .i64 x0_2, .int .i64 x0_3]) HF rfl ag85 rfl ((HT.boxAt 0 rfl).part 0 4) rfl rfl (fun a HF => ?_)
  obtain ⟨y1, hx1, h⟩ := obs h
  refine wc_call HF cf120 rfl (w_impl_OpOk fuel hx1) rfl rfl ?_
  rintro e w ⟨rfl, hE⟩
  have hb := hE.below
  have HT := HT.pure hE
  have HT : St w0 (fun _ => False) w [Box p1 [.int .i64 x0_0, .int .i64 x0_1, .int .i64 x0_2, .int .i64 x0_3]] := HT
  refine ⟨_, rfl, nS, fun a HF => ?_⟩
  refine wc_not HF nS rfl rfl rfl (fun a HF => ?_)
  refine wc_end ?_
  refine then_n ?_
  by_cases hb1 : y1 = true
  have h := (if_pos hb1).symm.trans h
  refine wp_if (b' := false) HF rfl (notT hb1) ?_
  refine wp_skip ?_
  refine then_n ?_
  obtain ⟨q1, hx2, h⟩ := obs h
  refine wp_cut (fun a w => q1 = .brk () ∧ Fr a 17 [] ∧ St w0 (fun _ => False) w []) ?_ ?_
  have hk1 := h
  have h := hx2
  refine wp_seq ?_
  refine wc_text ?_
  refine wc_faddr HF nS rfl fl85_0 rfl rfl (fun a HF => ?_)
  refine wc_load HF rfl sc3 ((HT.boxAt 0 rfl).get 0 rfl) rfl rfl (fun a HF => ?_)
  refine wc_end ?_
  refine then_n ?_
  refine wp_block ?_
  obtain ⟨z1, hx3, h⟩ := obs h
  refine wp_cut (fun a w => Fr a 17 [(7, .int .i64 x0_0), (8, .bool z1)] ∧ St w0 (fun _ => False) w []) ?_ ?_
  have hk2 := h
  have h := hx3
  refine wp_seq ?_
  refine wc_text ?_
  refine wc_bin HF nS rfl rfl b_eq rfl rfl (fun a HF => ?_)
  refine wc_assign HF nS rfl rfl rfl (fun a HF => ?_)
  refine wc_end ?_
  refine then_n ?_
  by_cases hb2 : x0_0 = 5
  have h := (if_pos hb2).symm.trans h
  refine wp_if (b' := true) HF rfl (decide_eq_true hb2) ?_
  refine wp_skip ?_
  have HT := HT.t0
  obtain rfl := Option.some.inj h
  exact then_n ⟨(HF.keep (HF.keep HF.nil rfl) rfl), HT⟩
  have h := (if_neg hb2).symm.trans h
  refine wp_if (b' := false) HF rfl (decide_eq_false hb2) ?_
  refine wc_text ?_
  refine wc_bin HF nS rfl rfl b_eq rfl rfl (fun a HF => ?_)
  refine wc_assign HF nS rfl rfl rfl (fun a HF => ?_)
  refine wc_end ?_
  have HT := HT.t0
  obtain rfl := Option.some.inj h
  exact then_n ⟨(HF.keep (HF.keep HF.nil rfl) rfl), HT⟩
  rintro a w ⟨HF, HT⟩
  refine ?_
  by_cases hb3 : z1 = true
  have h := (if_pos hb3).symm.trans h
  refine wp_if (b' := true) HF rfl hb3 ?_
  refine wp_seq ?_
  refine wc_text ?_
  refine wc_assign HF nS rfl rfl rfl (fun a HF => ?_)
  refine wc_end ?_
  refine then_n ?_
  refine wp_ret ?_
  obtain rfl := Option.some.inj h
  have h := retL hk1
  obtain rfl := Option.some.inj h
  refine blk_r (then_r (?_))
  refine bp_ret HF (res_one rfl HF rfl) ?_
  exact ⟨rfl, HT⟩
  have h := (if_neg hb3).symm.trans h
  refine wp_if (b' := false) HF rfl (Bool.eq_false_iff.2 hb3) ?_
  obtain ⟨z2, hx4, h⟩ := obs h
  refine wp_cut (fun a w => Fr a 17 [(11, .bool z2)] ∧ St w0 (fun _ => False) w []) ?_ ?_
  have hk2 := h
  have h := hx4
  refine wp_seq ?_
  refine wc_text ?_
  refine wc_bin HF nS rfl rfl b_eq rfl rfl (fun a HF => ?_)
  refine wc_assign HF nS rfl rfl rfl (fun a HF => ?_)
  refine wc_end ?_
  refine then_n ?_
  by_cases hb4 : x0_0 = 12
  have h := (if_pos hb4).symm.trans h
  refine wp_if (b' := true) HF rfl (decide_eq_true hb4) ?_
  refine wp_skip ?_
  obtain rfl := Option.some.inj h
  exact then_n ⟨(HF.keep HF.nil rfl), HT⟩
  have h := (if_neg hb4).symm.trans h
  refine wp_if (b' := false) HF rfl (decide_eq_false hb4) ?_
  refine wp_seq ?_
  refine wc_text ?_
  refine wc_bin HF nS rfl rfl b_eq rfl rfl (fun a HF => ?_)
  refine wc_assign HF nS rfl rfl rfl (fun a HF => ?_)
  refine wc_end ?_
  refine then_n ?_
  by_cases hb5 : x0_0 = 13
  have h := (if_pos hb5).symm.trans h
  refine wp_if (b' := true) HF rfl (decide_eq_true hb5) ?_
  refine wp_skip ?_
  obtain rfl := Option.some.inj h
  exact then_n ⟨(HF.keep HF.nil rfl), HT⟩
  have h := (if_neg hb5).symm.trans h
  refine wp_if (b' := false) HF rfl (decide_eq_false hb5) ?_
  refine wp_seq ?_
  refine wc_text ?_
  refine wc_bin HF nS rfl rfl b_eq rfl rfl (fun a HF => ?_)
  refine wc_assign HF nS rfl rfl rfl (fun a HF => ?_)
  refine wc_end ?_
  refine then_n ?_
  by_cases hb6 : x0_0 = 14
  have h := (if_pos hb6).symm.trans h
  refine wp_if (b' := true) HF rfl (decide_eq_true hb6) ?_
  refine wp_skip ?_
  obtain rfl := Option.some.inj h
  exact then_n ⟨(HF.keep HF.nil rfl), HT⟩
  have h := (if_neg hb6).symm.trans h
  refine wp_if (b' := false) HF rfl (decide_eq_false hb6) ?_
  refine wp_seq ?_
  refine wc_text ?_
  refine wc_bin HF nS rfl rfl b_eq rfl rfl (fun a HF => ?_)
  refine wc_assign HF nS rfl rfl rfl (fun a HF => ?_)
  refine wc_end ?_
  refine then_n ?_
  by_cases hb7 : x0_0 = 15
  have h := (if_pos hb7).symm.trans h
  refine wp_if (b' := true) HF rfl (decide_eq_true hb7) ?_
  refine wp_skip ?_
  obtain rfl := Option.some.inj h
  exact then_n ⟨(HF.keep HF.nil rfl), HT⟩
  have h := (if_neg hb7).symm.trans h
  refine wp_if (b' := false) HF rfl (decide_eq_false hb7) ?_
  refine wc_text ?_
  refine wc_bin HF nS rfl rfl b_eq rfl rfl (fun a HF => ?_)
  refine wc_assign HF nS rfl rfl rfl (fun a HF => ?_)
  refine wc_end ?_
  obtain rfl := Option.some.inj h
  exact then_n ⟨(HF.keep HF.nil rfl), HT⟩
  rintro a w ⟨HF, HT⟩
  refine ?_
  by_cases hb8 : z2 = true
  have h := (if_pos hb8).symm.trans h
  refine wp_if (b' := true) HF rfl hb8 ?_
  refine wp_seq ?_
  refine wc_text ?_
  refine wc_assign HF nS rfl rfl rfl (fun a HF => ?_)
  refine wc_end ?_
  refine then_n ?_
  refine wp_ret ?_
  obtain rfl := Option.some.inj h
  have h := retL hk1
  obtain rfl := Option.some.inj h
  refine blk_r (then_r (?_))
  refine bp_ret HF (res_one rfl HF rfl) ?_
  exact ⟨rfl, HT⟩
  have h := (if_neg hb8).symm.trans h
  refine wp_if (b' := false) HF rfl (Bool.eq_false_iff.2 hb8) ?_
  refine wp_skip ?_
  refine blk_n ?_
  exact then_n ⟨(Option.some.inj h).symm, HF.nil, HT⟩
  rintro a w ⟨rfl, HF, HT⟩
  have h := brkL1u h
  refine ?_
  refine wp_seq ?_
  refine wc_text ?_
  refine wc_assign HF nS rfl rfl rfl (fun a HF => ?_)
  refine wc_end ?_
  refine then_n ?_
  refine wp_ret ?_
  obtain rfl := Option.some.inj h
  refine bp_ret HF (res_one rfl HF rfl) ?_
  exact ⟨rfl, HT⟩
  have h := (if_neg hb1).symm.trans h
  refine wp_if (b' := true) HF rfl (notF (Bool.eq_false_iff.2 hb1)) ?_
  refine wp_seq ?_
  refine wc_text ?_
  refine wc_assign HF nS rfl rfl rfl (fun a HF => ?_)
  refine wc_end ?_
  refine then_n ?_
  refine wp_ret ?_
  obtain rfl := Option.some.inj h
  refine then_r (?_)
  refine bp_ret HF (res_one rfl HF rfl) ?_
  have HT := HT.t0
  exact ⟨rfl, HT⟩

def m_impl_KidOk_L0 (fuel : Nat) (x0 : List I4) : Nat → Int → Option (Lp Unit Bool)
  | 0, _ => none
  | k1 + 1, z1 =>
    if z1 < (x0.length : Int) then
      (at? x0 z1).bind fun e1 =>
      if e1.a = 11 then
        some (.ret false)
      else
      (m_impl_Touches fuel e1.a e1.b e1.c e1.d).bind fun y1 =>
      if y1 = 2 then
        some (.ret false)
      else
      if in64 (z1 + 1) then
        m_impl_KidOk_L0 fuel x0 k1 (z1 + 1)
      else none
    else
    some (.brk ())

def m_impl_KidOk (fuel : Nat) (x0 : List I4) : Option Bool :=
  (m_impl_KidOk_L0 fuel x0 fuel 0).bind <| contL <| un1 fun _ =>
  (m_impl_CodeOk fuel x0).bind fun y2 =>
  some y2

set_option maxRecDepth 100000 in
set_option maxHeartbeats 4000000 in
theorem w_impl_KidOk (fuel : Nat) {x0 : List I4} {a_x0 : Option Addr} {n_x0 c_x0 : Nat} {r0 : Bool} {w0 : World} (h : m_impl_KidOk fuel x0 = some r0) (hr_x0 : RdT (fun b => ¬ False) w0 (rowT x0) (.slice a_x0 n_x0 c_x0)) :
    Calls Try.prog 68 #[.slice a_x0 n_x0 c_x0] w0 fun e w => e = .returned (.bool r0) ∧ St w0 (fun _ => False) w [] := by
  obtain rfl := hr_x0.neq
  have HT : St w0 (fun _ => False) w0 [] := St.init0
  rw [m_impl_KidOk] at h
  refine calls_fr (n := 22) [.slice a_x0 x0.length c_x0] Try.func68 rfl rfl rfl (fun a HF => ?_)
  have HT : St w0 (fun _ => False) w0 [] := HT
  refine wp_seq ?_
  refine wc_text ?_
  refine wc_assign HF nS rfl rfl rfl (fun a HF => ?_)
  refine wc_end ?_
  refine then_n ?_
  obtain ⟨q1, hx1, h⟩ := obs h
  refine wp_cut (fun a w => q1 = .brk () ∧ Fr a 22 [(0, .slice a_x0 x0.length c_x0)] ∧ St w0 (fun _ => False) w []) ?_ ?_
  have hk1 := h
  have h := hx1
  refine wp_seq ?_
  refine wc_text ?_
  refine wc_move HF nS rfl rfl rfl (fun a HF => ?_)
  refine wc_lenR HF nS Try.underlying36 rfl rfl rfl (fun a HF => ?_)
  refine wc_move HF nS rfl rfl rfl (fun a HF => ?_)
  refine wc_end ?_
  refine then_n ?_
  refine wp_block ?_
  refine wp_loopN (fun k1 a w => ∃ z1, m_impl_KidOk_L0 fuel x0 k1 z1 = some q1 ∧ Fr a 22 [(0, .slice a_x0 x0.length c_x0), (5, .slice a_x0 x0.length c_x0), (6, .int .i64 (x0.length : Int)), (7, .int .i64 z1)] ∧ St w0 (fun _ => False) w []) fuel ⟨0, h, (HF.keep (HF.keep (HF.keep (HF.keep HF.nil rfl) rfl) rfl) rfl), HT⟩ ?_
  rintro k1 a w ⟨z1, h, HF, HT⟩
  rcases k1 with _ | k1
  cases h
  rw [m_impl_KidOk_L0] at h
  refine ?_
  refine wp_seq ?_
  refine wc_text ?_
  refine wc_bin HF nS rfl rfl b_lt rfl rfl (fun a HF => ?_)
  refine wc_end ?_
  refine then_n ?_
  refine wp_seq ?_
  by_cases hb1 : z1 < (x0.length : Int)
  have h := (if_pos hb1).symm.trans h
  refine wp_if (b' := true) HF rfl (decide_eq_true hb1) ?_
  refine wp_skip ?_
  refine then_n ?_
  refine wp_seq ?_
  refine wp_block ?_
  refine wp_seq ?_
  refine wc_text ?_
  obtain ⟨e1, hx2, h⟩ := obs h
  obtain ⟨b1, o1, ha1⟩ := (HT.ro hr_x0).any.addr hx2
  refine wc_ixaddr HF nS el36 rfl ha1 ((HT.ro hr_x0).any).neq rfl hx2 rfl rfl (fun a HF => ?_)
  have hc1 := (HT.ro hr_x0).any.flatAt ha1 hx2
  refine wc_loadA (vs := [.int .i64 e1.a, .int .i64 e1.b, .int .i64 e1.c, .int .i64 e1.d]) HF rfl ag85 rfl (hc1.part 0 4) rfl rfl (fun a HF => ?_)
  refine wc_alloc (cs := [.int .i64 0, .int .i64 0, .int .i64 0, .int .i64 0]) HF HT zr85 rfl rfl rfl (fun p1 w HT hb => ⟨nS, fun a HF => ?_⟩)
  refine wc_storeB (cs' := [.int .i64 e1.a, .int .i64 e1.b, .int .i64 e1.c, .int .i64 e1.d]) HF HT rfl rfl (fun w => (ag85 w).2) rfl rfl rfl rfl rfl (fun w HT => ⟨nS, ?_⟩)
  refine wc_end ?_
  refine then_n ?_
  refine wp_seq ?_
  refine wc_text ?_
  refine wc_faddr HF nS rfl fl85_0 rfl rfl (fun a HF => ?_)
  refine wc_load HF rfl sc3 ((HT.boxAt 0 rfl).get 0 rfl) rfl rfl (fun a HF => ?_)
  refine wc_bin HF nS rfl rfl b_eq rfl rfl (fun a HF => ?_)
  refine wc_move HF nS rfl rfl rfl (fun a HF => ?_)
  by_cases hb2 : e1.a = 11
  have h := (if_pos hb2).symm.trans h
  refine wc_skip HF nS (HF.wn rfl rfl rfl rfl (decide_eq_true hb2)) rfl (fun a HF => ?_)
  refine wc_skip HF nS (HF.wn rfl rfl rfl rfl (decide_eq_true hb2)) rfl (fun a HF => ?_)
  refine wc_skip HF nS (HF.wn rfl rfl rfl rfl (decide_eq_true hb2)) rfl (fun a HF => ?_)
  refine wc_pick (b := true) HF nS rfl (decide_eq_true hb2) rfl rfl rfl (fun a HF => ?_)
  refine wc_end ?_
  refine then_n ?_
  refine wp_if (b' := true) HF rfl rfl ?_
  refine wp_seq ?_
  refine wc_text ?_
  refine wc_assign HF nS rfl rfl rfl (fun a HF => ?_)
  refine wc_end ?_
  refine then_n ?_
  refine wp_ret ?_
  obtain rfl := Option.some.inj h
  have h := retL hk1
  obtain rfl := Option.some.inj h
  refine blk_r (then_r (then_r (blk_r (then_r (?_)))))
  refine bp_ret HF (res_one rfl HF rfl) ?_
  have HT := HT.t0
  exact ⟨rfl, HT⟩
  have h := (if_neg hb2).symm.trans h
  refine wc_loadA (vs := [.int .i64 e1.a, .int .i64 e1.b, .int .i64 e1.c, .int .i64 e1.d]) HF rfl ag85 rfl ((HT.boxAt 0 rfl).part 0 4) (HF.wy rfl rfl rfl rfl (decide_eq_false hb2)) rfl (fun a HF => ?_)
  obtain ⟨y1, hx3, h⟩ := obs h
  refine wc_call HF cf101 rfl (w_impl_Touches fuel hx3) (HF.wy rfl rfl rfl rfl (decide_eq_false hb2)) rfl ?_
  rintro e w ⟨rfl, hE⟩
  have hb := hE.below
  have HT := HT.pure hE
  have HT : St w0 (fun _ => False) w [Box p1 [.int .i64 e1.a, .int .i64 e1.b, .int .i64 e1.c, .int .i64 e1.d]] := HT
  refine ⟨_, rfl, nS, fun a HF => ?_⟩
  refine wc_bin HF nS rfl rfl b_eq (HF.wy rfl rfl rfl rfl (decide_eq_false hb2)) rfl (fun a HF => ?_)
  refine wc_pick (b := false) HF nS rfl (decide_eq_false hb2) rfl rfl rfl (fun a HF => ?_)
  refine wc_end ?_
  refine then_n ?_
  by_cases hb3 : y1 = 2
  have h := (if_pos hb3).symm.trans h
  refine wp_if (b' := true) HF rfl (decide_eq_true hb3) ?_
  refine wp_seq ?_
  refine wc_text ?_
  refine wc_assign HF nS rfl rfl rfl (fun a HF => ?_)
  refine wc_end ?_
  refine then_n ?_
  refine wp_ret ?_
  obtain rfl := Option.some.inj h
  have h := retL hk1
  obtain rfl := Option.some.inj h
  refine blk_r (then_r (then_r (blk_r (then_r (?_)))))
  refine bp_ret HF (res_one rfl HF rfl) ?_
  have HT := HT.t0
  exact ⟨rfl, HT⟩
  have h := (if_neg hb3).symm.trans h
  refine wp_if (b' := false) HF rfl (decide_eq_false hb3) ?_
  refine wp_skip ?_
  refine blk_n ?_
  refine then_n ?_
  refine wc_text ?_
  obtain ⟨hg1, h⟩ := grd h
  refine wc_bin HF nS rfl rfl (b_add hg1) rfl rfl (fun a HF => ?_)
  refine wc_move HF nS rfl rfl rfl (fun a HF => ?_)
  refine wc_end ?_
  have HT := HT.t0
  exact then_n ⟨k1, Nat.lt_succ_self k1, z1 + 1, h, (HF.keep (HF.keep (HF.keep (HF.keep HF.nil rfl) rfl) rfl) rfl), HT⟩
  have h := (if_neg hb1).symm.trans h
  refine wp_if (b' := false) HF rfl (decide_eq_false hb1) ?_
  refine wp_exit ?_
  refine then_x (then_x (?_))
  refine blk_x ?_
  exact then_n ⟨(Option.some.inj h).symm, (HF.keep HF.nil rfl), HT⟩
  rintro a w ⟨rfl, HF, HT⟩
  have h := brkL1u h
  refine ?_
  refine wp_seq ?_
  refine wc_text ?_
  refine wc_move HF nS rfl rfl rfl (fun a HF => ?_)
  obtain ⟨y2, hx4, h⟩ := obs h
  refine wc_call HF cf102 rfl (w_impl_CodeOk fuel hx4 (HT.ro hr_x0).any) rfl rfl ?_
  rintro e w ⟨rfl, hE⟩
  have hb := hE.below
  have HT := HT.pure hE
  have HT : St w0 (fun _ => False) w [] := HT
  refine ⟨_, rfl, nS, fun a HF => ?_⟩
  refine wc_assign HF nS rfl rfl rfl (fun a HF => ?_)
  refine wc_end ?_
  refine then_n ?_
  refine wp_ret ?_
  obtain rfl := Option.some.inj h
  refine bp_ret HF (res_one rfl HF rfl) ?_
  exact ⟨rfl, HT⟩

def m_impl_areValues_L0 (fuel : Nat) (x0 : List Int) : Nat → Int → Option (Lp Unit Bool)
  | 0, _ => none
  | k1 + 1, z1 =>
    if z1 < (x0.length : Int) then
      (at? x0 z1).bind fun e1 =>
      (m_impl_isValue fuel e1).bind fun y1 =>
      if y1 = true then
        if in64 (z1 + 1) then
          m_impl_areValues_L0 fuel x0 k1 (z1 + 1)
        else none
      else
      some (.ret false)
    else
    some (.brk ())

def m_impl_areValues (fuel : Nat) (x0 : List Int) (x1 : Int) : Option Bool :=
  (m_impl_areValues_L0 fuel x0 fuel 0).bind <| contL <| un1 fun _ =>
  some (decide ((x0.length : Int) = x1))

set_option maxRecDepth 100000 in
set_option maxHeartbeats 4000000 in
theorem w_impl_areValues (fuel : Nat) {x0 : List Int} {x1 : Int} {a_x0 : Option Addr} {n_x0 c_x0 : Nat} {r0 : Bool} {w0 : World} (h : m_impl_areValues fuel x0 x1 = some r0) (hr_x0 : RdT (fun b => ¬ False) w0 (rowT x0) (.slice a_x0 n_x0 c_x0)) :
    Calls Try.prog 62 #[.slice a_x0 n_x0 c_x0, .int .i64 x1] w0 fun e w => e = .returned (.bool r0) ∧ St w0 (fun _ => False) w [] := by
  obtain rfl := hr_x0.neq
  have HT : St w0 (fun _ => False) w0 [] := St.init0
  rw [m_impl_areValues] at h
  refine calls_fr (n := 21) [.slice a_x0 x0.length c_x0, .int .i64 x1] Try.func62 rfl rfl rfl (fun a HF => ?_)
  have HT : St w0 (fun _ => False) w0 [] := HT
  refine wp_seq ?_
  refine wc_text ?_
  refine wc_assign HF nS rfl rfl rfl (fun a HF => ?_)
  refine wc_end ?_
  refine then_n ?_
  obtain ⟨q1, hx1, h⟩ := obs h
  refine wp_cut (fun a w => q1 = .brk () ∧ Fr a 21 [(0, .slice a_x0 x0.length c_x0), (1, .int .i64 x1)] ∧ St w0 (fun _ => False) w []) ?_ ?_
  have hk1 := h
  have h := hx1
  refine wp_seq ?_
  refine wc_text ?_
  refine wc_move HF nS rfl rfl rfl (fun a HF => ?_)
  refine wc_lenR HF nS Try.underlying22 rfl rfl rfl (fun a HF => ?_)
  refine wc_move HF nS rfl rfl rfl (fun a HF => ?_)
  refine wc_end ?_
  refine then_n ?_
  refine wp_block ?_
  refine wp_loopN (fun k1 a w => ∃ z1, m_impl_areValues_L0 fuel x0 k1 z1 = some q1 ∧ Fr a 21 [(0, .slice a_x0 x0.length c_x0), (1, .int .i64 x1), (7, .slice a_x0 x0.length c_x0), (8, .int .i64 (x0.length : Int)), (9, .int .i64 z1)] ∧ St w0 (fun _ => False) w []) fuel ⟨0, h, (HF.keep (HF.keep (HF.keep (HF.keep (HF.keep HF.nil rfl) rfl) rfl) rfl) rfl), HT⟩ ?_
  rintro k1 a w ⟨z1, h, HF, HT⟩
  rcases k1 with _ | k1
  cases h
  rw [m_impl_areValues_L0] at h
  refine ?_
  refine wp_seq ?_
  refine wc_text ?_
  refine wc_bin HF nS rfl rfl b_lt rfl rfl (fun a HF => ?_)
  refine wc_end ?_
  refine then_n ?_
  refine wp_seq ?_
  by_cases hb1 : z1 < (x0.length : Int)
  have h := (if_pos hb1).symm.trans h
  refine wp_if (b' := true) HF rfl (decide_eq_true hb1) ?_
  refine wp_skip ?_
  refine then_n ?_
  refine wp_seq ?_
  refine wp_block ?_
  refine wp_seq ?_
  refine wc_text ?_
  obtain ⟨e1, hx2, h⟩ := obs h
  obtain ⟨b1, o1, ha1⟩ := (HT.ro hr_x0).any.addr hx2
  refine wc_ixaddr HF nS el22 rfl ha1 ((HT.ro hr_x0).any).neq rfl hx2 rfl rfl (fun a HF => ?_)
  have hc1 := (HT.ro hr_x0).any.flatAt ha1 hx2
  refine wc_load HF rfl sc3 (hc1.get 0 rfl) rfl rfl (fun a HF => ?_)
  refine wc_assign HF nS rfl rfl rfl (fun a HF => ?_)
  refine wc_end ?_
  refine then_n ?_
  refine wp_seq ?_
  refine wc_text ?_
  refine wc_move HF nS rfl rfl rfl (fun a HF => ?_)
  obtain ⟨y1, hx3, h⟩ := obs h
  refine wc_call HF cf64 rfl (w_impl_isValue fuel hx3) rfl rfl ?_
  rintro e w ⟨rfl, hE⟩
  have hb := hE.below
  have HT := HT.pure hE
  have HT : St w0 (fun _ => False) w [] := HT
  refine ⟨_, rfl, nS, fun a HF => ?_⟩
  refine wc_not HF nS rfl rfl rfl (fun a HF => ?_)
  refine wc_end ?_
  refine then_n ?_
  by_cases hb2 : y1 = true
  have h := (if_pos hb2).symm.trans h
  refine wp_if (b' := false) HF rfl (notT hb2) ?_
  refine wp_skip ?_
  refine blk_n ?_
  refine then_n ?_
  refine wc_text ?_
  obtain ⟨hg1, h⟩ := grd h
  refine wc_bin HF nS rfl rfl (b_add hg1) rfl rfl (fun a HF => ?_)
  refine wc_move HF nS rfl rfl rfl (fun a HF => ?_)
  refine wc_end ?_
  exact then_n ⟨k1, Nat.lt_succ_self k1, z1 + 1, h, (HF.keep (HF.keep (HF.keep (HF.keep (HF.keep HF.nil rfl) rfl) rfl) rfl) rfl), HT⟩
  have h := (if_neg hb2).symm.trans h
  refine wp_if (b' := true) HF rfl (notF (Bool.eq_false_iff.2 hb2)) ?_
  refine wp_seq ?_
  refine wc_text ?_
  refine wc_assign HF nS rfl rfl rfl (fun a HF => ?_)
  refine wc_end ?_
  refine then_n ?_
  refine wp_ret ?_
  obtain rfl := Option.some.inj h
  have h := retL hk1
  obtain rfl := Option.some.inj h
  refine blk_r (then_r (then_r (blk_r (then_r (?_)))))
  refine bp_ret HF (res_one rfl HF rfl) ?_
  exact ⟨rfl, HT⟩
  have h := (if_neg hb1).symm.trans h
  refine wp_if (b' := false) HF rfl (decide_eq_false hb1) ?_
  refine wp_exit ?_
  refine then_x (then_x (?_))
  refine blk_x ?_
  exact then_n ⟨(Option.some.inj h).symm, (HF.keep (HF.keep HF.nil rfl) rfl), HT⟩
  rintro a w ⟨rfl, HF, HT⟩
  have h := brkL1u h
  refine ?_
  refine wp_seq ?_
  refine wc_text ?_
  refine wc_move HF nS rfl rfl rfl (fun a HF => ?_)
  refine wc_lenR HF nS Try.underlying22 rfl rfl rfl (fun a HF => ?_)
  refine wc_move HF nS rfl rfl rfl (fun a HF => ?_)
  refine wc_bin HF nS rfl rfl b_eq rfl rfl (fun a HF => ?_)
  refine wc_assign HF nS rfl rfl rfl (fun a HF => ?_)
  refine wc_end ?_
  refine then_n ?_
  refine wp_ret ?_
  obtain rfl := Option.some.inj h
  refine bp_ret HF (res_one rfl HF rfl) ?_
  exact ⟨rfl, HT⟩

def m_impl_copyInts (fuel : Nat) (x0 : List Int) : Option (List Int) :=
  if ([] : List Int).length + x0.length ≤ 17179869184 then
    some (([] : List Int) ++ x0)
  else none

set_option maxRecDepth 100000 in
set_option maxHeartbeats 4000000 in
theorem w_impl_copyInts (fuel : Nat) {x0 : List Int} {a_x0 : Option Addr} {n_x0 c_x0 : Nat} {r0 : List Int} {w0 : World} (h : m_impl_copyInts fuel x0 = some r0) (hr_x0 : RdT (fun b => ¬ False) w0 (rowT x0) (.slice a_x0 n_x0 c_x0)) :
    Calls Try.prog 103 #[.slice a_x0 n_x0 c_x0] w0 fun e w => ∃ a_r0 n_r0 c_r0, e = .returned (.slice a_r0 n_r0 c_r0) ∧ St w0 (fun _ => False) w [Own 3 (rowT r0) (.slice a_r0 n_r0 c_r0)] := by
  obtain rfl := hr_x0.neq
  have HT : St w0 (fun _ => False) w0 [] := St.init0
  rw [m_impl_copyInts] at h
  refine calls_fr (n := 5) [.slice a_x0 x0.length c_x0] Try.func103 rfl rfl rfl (fun a HF => ?_)
  have HT : St w0 (fun _ => False) w0 [] := HT
  refine wp_seq ?_
  refine wc_text ?_
  refine wc_assign HF nS rfl rfl rfl (fun a HF => ?_)
  refine wc_end ?_
  refine then_n ?_
  refine wp_seq ?_
  refine wc_text ?_
  refine wc_move HF nS rfl rfl rfl (fun a HF => ?_)
  have HT := HT.nilrow (E := Int) 3
  obtain ⟨hg1, h⟩ := grd h
  refine wc_appendR HF HT (HT.ro hr_x0).any el22 rfl rfl hg1 rfl rfl rfl (fun a1 c1 w HT => ⟨nS, fun a HF => ?_⟩)
  refine wc_assign HF nS rfl rfl rfl (fun a HF => ?_)
  refine wc_end ?_
  refine then_n ?_
  refine wp_ret ?_
  obtain rfl := Option.some.inj h
  refine bp_ret HF (res_one rfl HF rfl) ?_
  exact ⟨a1, (([] : List Int) ++ x0).length, c1, rfl, HT⟩

def m_impl_Calc (fuel : Nat) (x0_0 : Int) (x0_1 : Int) (x0_2 : Int) (x0_3 : Int) (x1 : List Int) : Option (List Int × Bool) :=
  (m_impl_copyInts fuel x1).bind fun y1 =>
  (m_impl_OpOk fuel x0_0 x0_1 x0_2 x0_3).bind fun y2 =>
  if y2 = true then
    if 4 < x0_0 then
      some (y1, false)
    else
    (m_impl_areValues fuel x1 4).bind fun y3 =>
    if y3 = true then
      (
        if x0_0 = 1 then
          (at? y1 x0_1).bind fun e1 =>
          some (y1.set x0_1.toNat x0_2)
        else
        if x0_0 = 2 then
          (at? x1 x0_2).bind fun e2 =>
          (at? x1 x0_3).bind fun e3 =>
          if in64 (e2 + e3) then
            if (65536 : Int) ≠ 0 then
              (at? y1 x0_1).bind fun e4 =>
              some (y1.set x0_1.toNat ((e2 + e3).tmod 65536))
            else none
          else none
        else
        if x0_0 = 3 then
          (at? x1 x0_2).bind fun e5 =>
          (at? x1 x0_3).bind fun e6 =>
          if in64 (e5 - e6) then
            if in64 ((e5 - e6) + 65536) then
              if (65536 : Int) ≠ 0 then
                (at? y1 x0_1).bind fun e7 =>
                some (y1.set x0_1.toNat (((e5 - e6) + 65536).tmod 65536))
              else none
            else none
          else none
        else
        (at? y1 x0_1).bind fun e8 =>
        (at? x1 x0_2).bind fun e9 =>
        (at? x1 x0_3).bind fun e10 =>
        if e9 < e10 then
          (at? (y1.set x0_1.toNat 0) x0_1).bind fun e11 =>
          some ((y1.set x0_1.toNat 0).set x0_1.toNat 1)
        else
        some (y1.set x0_1.toNat 0)).bind fun z1 =>
      some (z1, true)
    else
    some (y1, false)
  else
  some (y1, false)

set_option maxRecDepth 100000 in
set_option maxHeartbeats 4000000 in
theorem w_impl_Calc (fuel : Nat) {x0_0 : Int} {x0_1 : Int} {x0_2 : Int} {x0_3 : Int} {x1 : List Int} {a_x1 : Option Addr} {n_x1 c_x1 : Nat} {r0 : List Int} {r1 : Bool} {w0 : World} (h : m_impl_Calc fuel x0_0 x0_1 x0_2 x0_3 x1 = some (r0, r1)) (hr_x1 : RdT (fun b => ¬ False) w0 (rowT x1) (.slice a_x1 n_x1 c_x1)) :
    Calls Try.prog 104 #[.agg #[.int .i64 x0_0, .int .i64 x0_1, .int .i64 x0_2, .int .i64 x0_3], .slice a_x1 n_x1 c_x1] w0 fun e w => ∃ a_r0 n_r0 c_r0, e = .returned (.tuple #[.slice a_r0 n_r0 c_r0, .bool r1]) ∧ St w0 (fun _ => False) w [Own 3 (rowT r0) (.slice a_r0 n_r0 c_r0)] := by
  obtain rfl := hr_x1.neq
  have HT : St w0 (fun _ => False) w0 [] := St.init0
  rw [m_impl_Calc] at h
  refine calls_fr (n := 90) [.agg #[.int .i64 x0_0, .int .i64 x0_1, .int .i64 x0_2, .int .i64 x0_3], .slice a_x1 x1.length c_x1] Try.func104 rfl rfl rfl (fun a HF => ?_)
  have HT : St w0 (fun _ => False) w0 [] := HT
  refine wp_seq ?_
  refine wc_text ?_
  refine wc_box (cs := [.int .i64 x0_0, .int .i64 x0_1, .int .i64 x0_2, .int .i64 x0_3]) HF HT rfl rfl rfl rfl (fun p1 w HT hb => ⟨nS, fun a HF => ?_⟩)
  refine wc_assign HF nS rfl rfl rfl (fun a HF => ?_)
  refine wc_assign HF nS rfl rfl rfl (fun a HF => ?_)
  refine wc_end ?_
  refine then_n ?_
  refine wp_seq ?_
  refine wc_text ?_
  refine wc_move HF nS rfl rfl rfl (fun a HF => ?_)
  obtain ⟨y1, hx1, h⟩ := obs h
  refine wc_call HF cf103 rfl (w_impl_copyInts fuel hx1 (HT.ro hr_x1).any) rfl rfl ?_
  rintro e w ⟨a1, n1, c1, rfl, hE⟩
  have hb := hE.below
  have HT := HT.pure hE
  obtain rfl := (HT.rdAt 0 rfl).neq
  have HT : St w0 (fun _ => False) w [Own 3 (rowT y1) (.slice a1 y1.length c1), Box p1 [.int .i64 x0_0, .int .i64 x0_1, .int .i64 x0_2, .int .i64 x0_3]] := HT
  refine ⟨_, rfl, nS, fun a HF => ?_⟩
  refine wc_assign HF nS rfl rfl rfl (fun a HF => ?_)
  refine wc_end ?_
  refine then_n ?_
  refine wp_seq ?_
  refine wp_seq ?_
  refine wc_text ?_
  refine wc_loadA (vs := [.int .i64 x0_0, .int .i64 x0_1, .int .i64 x0_2, .int .i64 x0_3]) HF rfl ag85 rfl ((HT.boxAt 1 rfl).part 0 4) rfl rfl (fun a HF => ?_)
  obtain ⟨y2, hx2, h⟩ := obs h
  refine wc_call HF cf120 rfl (w_impl_OpOk fuel hx2) rfl rfl ?_
  rintro e w ⟨rfl, hE⟩
  have hb := hE.below
  have HT := HT.pure hE
  have HT : St w0 (fun _ => False) w [Own 3 (rowT y1) (.slice a1 y1.length c1), Box p1 [.int .i64 x0_0, .int .i64 x0_1, .int .i64 x0_2, .int .i64 x0_3]] := HT
  refine ⟨_, rfl, nS, fun a HF => ?_⟩
  refine wc_not HF nS rfl rfl rfl (fun a HF => ?_)
  refine wc_move HF nS rfl rfl rfl (fun a HF => ?_)
  by_cases hb1 : y2 = true
  have h := (if_pos hb1).symm.trans h
  refine wc_faddr HF nS rfl fl85_0 (HF.wy rfl rfl rfl rfl (notT hb1)) rfl (fun a HF => ?_)
  refine wc_load HF rfl sc3 ((HT.boxAt 1 rfl).get 0 rfl) (HF.wy rfl rfl rfl rfl (notT hb1)) rfl (fun a HF => ?_)
  refine wc_bin HF nS rfl rfl b_gt (HF.wy rfl rfl rfl rfl (notT hb1)) rfl (fun a HF => ?_)
  refine wc_pick (b := false) HF nS rfl (notT hb1) rfl rfl rfl (fun a HF => ?_)
  refine wc_move HF nS rfl rfl rfl (fun a HF => ?_)
  by_cases hb2 : 4 < x0_0
  have h := (if_pos hb2).symm.trans h
  refine wc_skip HF nS (HF.wn rfl rfl rfl rfl (decide_eq_true hb2)) rfl (fun a HF => ?_)
  refine wc_skip HF nS (HF.wn rfl rfl rfl rfl (decide_eq_true hb2)) rfl (fun a HF => ?_)
  refine wc_skip HF nS (HF.wn rfl rfl rfl rfl (decide_eq_true hb2)) rfl (fun a HF => ?_)
  refine wc_pick (b := true) HF nS rfl (decide_eq_true hb2) rfl rfl rfl (fun a HF => ?_)
  refine wc_end ?_
  refine then_n ?_
  refine wp_if (b' := true) HF rfl rfl ?_
  refine wp_seq ?_
  refine wc_text ?_
  refine wc_move HF nS rfl rfl rfl (fun a HF => ?_)
  refine wc_assign HF nS rfl rfl rfl (fun a HF => ?_)
  refine wc_assign HF nS rfl rfl rfl (fun a HF => ?_)
  refine wc_end ?_
  refine then_n ?_
  refine wp_ret ?_
  have hj1 := Option.some.inj h
  obtain ⟨hi1, hj2⟩ := Prod.mk.inj hj1
  subst hi1
  subst hj2
  refine then_r (?_)
  refine bp_ret HF (res_two rfl HF rfl rfl) ?_
  have HT := HT.t1
  exact ⟨a1, y1.length, c1, rfl, HT⟩
  have h := (if_neg hb2).symm.trans h
  refine wc_move HF nS rfl (HF.wy rfl rfl rfl rfl (decide_eq_false hb2)) rfl (fun a HF => ?_)
  obtain ⟨y3, hx3, h⟩ := obs h
  refine wc_call HF cf62 rfl (w_impl_areValues fuel hx3 (HT.ro hr_x1).any) (HF.wy rfl rfl rfl rfl (decide_eq_false hb2)) rfl ?_
  rintro e w ⟨rfl, hE⟩
  have hb := hE.below
  have HT := HT.pure hE
  have HT : St w0 (fun _ => False) w [Own 3 (rowT y1) (.slice a1 y1.length c1), Box p1 [.int .i64 x0_0, .int .i64 x0_1, .int .i64 x0_2, .int .i64 x0_3]] := HT
  refine ⟨_, rfl, nS, fun a HF => ?_⟩
  refine wc_not HF nS rfl (HF.wy rfl rfl rfl rfl (decide_eq_false hb2)) rfl (fun a HF => ?_)
  refine wc_pick (b := false) HF nS rfl (decide_eq_false hb2) rfl rfl rfl (fun a HF => ?_)
  refine wc_end ?_
  refine then_n ?_
  by_cases hb3 : y3 = true
  have h := (if_pos hb3).symm.trans h
  refine wp_if (b' := false) HF rfl (notT hb3) ?_
  refine wp_skip ?_
  refine then_n ?_
  obtain ⟨z1, hx4, h⟩ := obs h
  refine wp_cut (fun a w => Fr a 90 [(6, .slice a1 y1.length c1)] ∧ St w0 (fun _ => False) w [Own 3 (rowT z1) (.slice a1 y1.length c1)]) ?_ ?_
  have hk1 := h
  have h := hx4
  refine wp_seq ?_
  refine wc_text ?_
  refine wc_faddr HF nS rfl fl85_0 rfl rfl (fun a HF => ?_)
  refine wc_load HF rfl sc3 ((HT.boxAt 1 rfl).get 0 rfl) rfl rfl (fun a HF => ?_)
  refine wc_end ?_
  refine then_n ?_
  refine wp_block ?_
  refine wp_seq ?_
  refine wc_text ?_
  refine wc_bin HF nS rfl rfl b_eq rfl rfl (fun a HF => ?_)
  refine wc_assign HF nS rfl rfl rfl (fun a HF => ?_)
  refine wc_end ?_
  refine then_n ?_
  by_cases hb4 : x0_0 = 1
  have h := (if_pos hb4).symm.trans h
  refine wp_if (b' := true) HF rfl (decide_eq_true hb4) ?_
  refine wc_text ?_
  refine wc_move HF nS rfl rfl rfl (fun a HF => ?_)
  refine wc_faddr HF nS rfl fl85_1 rfl rfl (fun a HF => ?_)
  refine wc_load HF rfl sc3 ((HT.boxAt 1 rfl).get 1 rfl) rfl rfl (fun a HF => ?_)
  refine wc_faddr HF nS rfl fl85_2 rfl rfl (fun a HF => ?_)
  refine wc_load HF rfl sc3 ((HT.boxAt 1 rfl).get 2 rfl) rfl rfl (fun a HF => ?_)
  obtain ⟨e1, hx5, h⟩ := obs h
  obtain ⟨b1, o1, ha1⟩ := (HT.rdAt 0 rfl).addr hx5
  refine wc_ixaddr HF nS el22 rfl ha1 ((HT.rdAt 0 rfl)).neq rfl hx5 rfl rfl (fun a HF => ?_)
  refine wc_storeR (i := x0_1) (j := 0) (x' := x0_2) HF HT ha1 rfl rfl (fun w => (sc3 w).2) rfl rfl hx5 rfl rfl rfl rfl (fun w HT => ⟨nS, ?_⟩)
  refine wc_end ?_
  refine blk_n ?_
  have HT := HT.t1
  obtain rfl := Option.some.inj h
  exact then_n ⟨(HF.keep HF.nil rfl), HT⟩
  have h := (if_neg hb4).symm.trans h
  refine wp_if (b' := false) HF rfl (decide_eq_false hb4) ?_
  refine wp_seq ?_
  refine wc_text ?_
  refine wc_bin HF nS rfl rfl b_eq rfl rfl (fun a HF => ?_)
  refine wc_assign HF nS rfl rfl rfl (fun a HF => ?_)
  refine wc_end ?_
  refine then_n ?_
  by_cases hb5 : x0_0 = 2
  have h := (if_pos hb5).symm.trans h
  refine wp_if (b' := true) HF rfl (decide_eq_true hb5) ?_
  refine wp_region_can [(0, true), (1, true), (2, true), (3, true), (4, true), (5, true), (6, true), (7, true), (8, true), (9, true), (10, true), (11, true), (12, true), (13, true), (14, true), (15, true), (16, true)] (fun w' => True) (by kernel_rfl) (by kernel_rfl) ?_
  have HT := HT.drew
  refine wc_move HF nS rfl rfl rfl (fun a HF => ?_)
  refine wc_faddr HF nS rfl fl85_1 rfl rfl (fun a HF => ?_)
  refine wc_load HF rfl sc3 ((HT.boxAt 1 rfl).get 1 rfl) rfl rfl (fun a HF => ?_)
  refine wc_move HF nS rfl rfl rfl (fun a HF => ?_)
  refine wc_faddr HF nS rfl fl85_2 rfl rfl (fun a HF => ?_)
  refine wc_load HF rfl sc3 ((HT.boxAt 1 rfl).get 2 rfl) rfl rfl (fun a HF => ?_)
  obtain ⟨e2, hx6, h⟩ := obs h
  obtain ⟨b2, o2, ha2⟩ := (HT.ro hr_x1).any.addr hx6
  refine wc_ixaddr HF nS el22 rfl ha2 ((HT.ro hr_x1).any).neq rfl hx6 rfl rfl (fun a HF => ?_)
  have hc1 := (HT.ro hr_x1).any.flatAt ha2 hx6
  refine wc_load HF rfl sc3 (hc1.get 0 rfl) rfl rfl (fun a HF => ?_)
  refine wc_move HF nS rfl rfl rfl (fun a HF => ?_)
  refine wc_faddr HF nS rfl fl85_3 rfl rfl (fun a HF => ?_)
  refine wc_load HF rfl sc3 ((HT.boxAt 1 rfl).get 3 rfl) rfl rfl (fun a HF => ?_)
  obtain ⟨e3, hx7, h⟩ := obs h
  refine wc_ixaddr HF nS el22 rfl ha2 ((HT.ro hr_x1).any).neq rfl hx7 rfl rfl (fun a HF => ?_)
  have hc2 := (HT.ro hr_x1).any.flatAt ha2 hx7
  refine wc_load HF rfl sc3 (hc2.get 0 rfl) rfl rfl (fun a HF => ?_)
  obtain ⟨hg1, h⟩ := grd h
  refine wc_bin HF nS rfl rfl (b_add hg1) rfl rfl (fun a HF => ?_)
  obtain ⟨hg2, h⟩ := grd h
  refine wc_bin HF nS rfl rfl (b_rem hg2) rfl rfl (fun a HF => ?_)
  obtain ⟨e4, hx8, h⟩ := obs h
  obtain ⟨b3, o3, ha3⟩ := (HT.rdAt 0 rfl).addr hx8
  refine wc_ixaddr HF nS el22 rfl ha3 ((HT.rdAt 0 rfl)).neq rfl hx8 rfl rfl (fun a HF => ?_)
  refine wc_storeR (i := x0_1) (j := 0) (x' := (e2 + e3).tmod 65536) HF HT ha3 rfl rfl (fun w => (sc3 w).2) rfl rfl hx8 rfl rfl rfl rfl (fun w HT => ⟨nS, ?_⟩)
  refine wc_endN ?_
  refine blk_n ?_
  have HT := HT.t1
  obtain rfl := Option.some.inj h
  exact then_n ⟨(HF.keep HF.nil rfl), HT⟩
  have h := (if_neg hb5).symm.trans h
  refine wp_if (b' := false) HF rfl (decide_eq_false hb5) ?_
  refine wp_seq ?_
  refine wc_text ?_
  refine wc_bin HF nS rfl rfl b_eq rfl rfl (fun a HF => ?_)
  refine wc_assign HF nS rfl rfl rfl (fun a HF => ?_)
  refine wc_end ?_
  refine then_n ?_
  by_cases hb6 : x0_0 = 3
  have h := (if_pos hb6).symm.trans h
  refine wp_if (b' := true) HF rfl (decide_eq_true hb6) ?_
  refine wp_region_can [(0, true), (1, true), (2, true), (3, true), (4, true), (5, true), (6, true), (7, true), (8, true), (9, true), (10, true), (11, true), (12, true), (13, true), (14, true), (15, true), (16, true), (17, true)] (fun w' => True) (by kernel_rfl) (by kernel_rfl) ?_
  have HT := HT.drew
  refine wc_move HF nS rfl rfl rfl (fun a HF => ?_)
  refine wc_faddr HF nS rfl fl85_1 rfl rfl (fun a HF => ?_)
  refine wc_load HF rfl sc3 ((HT.boxAt 1 rfl).get 1 rfl) rfl rfl (fun a HF => ?_)
  refine wc_move HF nS rfl rfl rfl (fun a HF => ?_)
  refine wc_faddr HF nS rfl fl85_2 rfl rfl (fun a HF => ?_)
  refine wc_load HF rfl sc3 ((HT.boxAt 1 rfl).get 2 rfl) rfl rfl (fun a HF => ?_)
  obtain ⟨e5, hx9, h⟩ := obs h
  obtain ⟨b4, o4, ha4⟩ := (HT.ro hr_x1).any.addr hx9
  refine wc_ixaddr HF nS el22 rfl ha4 ((HT.ro hr_x1).any).neq rfl hx9 rfl rfl (fun a HF => ?_)
  have hc3 := (HT.ro hr_x1).any.flatAt ha4 hx9
  refine wc_load HF rfl sc3 (hc3.get 0 rfl) rfl rfl (fun a HF => ?_)
  refine wc_move HF nS rfl rfl rfl (fun a HF => ?_)
  refine wc_faddr HF nS rfl fl85_3 rfl rfl (fun a HF => ?_)
  refine wc_load HF rfl sc3 ((HT.boxAt 1 rfl).get 3 rfl) rfl rfl (fun a HF => ?_)
  obtain ⟨e6, hx10, h⟩ := obs h
  refine wc_ixaddr HF nS el22 rfl ha4 ((HT.ro hr_x1).any).neq rfl hx10 rfl rfl (fun a HF => ?_)
  have hc4 := (HT.ro hr_x1).any.flatAt ha4 hx10
  refine wc_load HF rfl sc3 (hc4.get 0 rfl) rfl rfl (fun a HF => ?_)
  obtain ⟨hg3, h⟩ := grd h
  refine wc_bin HF nS rfl rfl (b_sub hg3) rfl rfl (fun a HF => ?_)
  obtain ⟨hg4, h⟩ := grd h
  refine wc_bin HF nS rfl rfl (b_add hg4) rfl rfl (fun a HF => ?_)
  obtain ⟨hg5, h⟩ := grd h
  refine wc_bin HF nS rfl rfl (b_rem hg5) rfl rfl (fun a HF => ?_)
  obtain ⟨e7, hx11, h⟩ := obs h
  obtain ⟨b5, o5, ha5⟩ := (HT.rdAt 0 rfl).addr hx11
  refine wc_ixaddr HF nS el22 rfl ha5 ((HT.rdAt 0 rfl)).neq rfl hx11 rfl rfl (fun a HF => ?_)
  refine wc_storeR (i := x0_1) (j := 0) (x' := ((e5 - e6) + 65536).tmod 65536) HF HT ha5 rfl rfl (fun w => (sc3 w).2) rfl rfl hx11 rfl rfl rfl rfl (fun w HT => ⟨nS, ?_⟩)
  refine wc_endN ?_
  refine blk_n ?_
  have HT := HT.t1
  obtain rfl := Option.some.inj h
  exact then_n ⟨(HF.keep HF.nil rfl), HT⟩
  have h := (if_neg hb6).symm.trans h
  refine wp_if (b' := false) HF rfl (decide_eq_false hb6) ?_
  refine wp_seq ?_
  refine wc_text ?_
  refine wc_move HF nS rfl rfl rfl (fun a HF => ?_)
  refine wc_faddr HF nS rfl fl85_1 rfl rfl (fun a HF => ?_)
  refine wc_load HF rfl sc3 ((HT.boxAt 1 rfl).get 1 rfl) rfl rfl (fun a HF => ?_)
  obtain ⟨e8, hx12, h⟩ := obs h
  obtain ⟨b6, o6, ha6⟩ := (HT.rdAt 0 rfl).addr hx12
  refine wc_ixaddr HF nS el22 rfl ha6 ((HT.rdAt 0 rfl)).neq rfl hx12 rfl rfl (fun a HF => ?_)
  refine wc_storeR (i := x0_1) (j := 0) (x' := 0) HF HT ha6 rfl rfl (fun w => (sc3 w).2) rfl rfl hx12 rfl rfl rfl rfl (fun w HT => ⟨nS, ?_⟩)
  refine wc_end ?_
  refine then_n ?_
  refine wp_seq ?_
  refine wp_region_can [(0, true), (1, true), (2, true), (3, true), (4, true), (5, true), (6, true), (7, true), (8, true), (9, true), (10, true)] (fun w' => True) (by kernel_rfl) (by kernel_rfl) ?_
  have HT := HT.drew
  refine wc_move HF nS rfl rfl rfl (fun a HF => ?_)
  refine wc_faddr HF nS rfl fl85_2 rfl rfl (fun a HF => ?_)
  refine wc_load HF rfl sc3 ((HT.boxAt 1 rfl).get 2 rfl) rfl rfl (fun a HF => ?_)
  obtain ⟨e9, hx13, h⟩ := obs h
  obtain ⟨b7, o7, ha7⟩ := (HT.ro hr_x1).any.addr hx13
  refine wc_ixaddr HF nS el22 rfl ha7 ((HT.ro hr_x1).any).neq rfl hx13 rfl rfl (fun a HF => ?_)
  have hc5 := (HT.ro hr_x1).any.flatAt ha7 hx13
  refine wc_load HF rfl sc3 (hc5.get 0 rfl) rfl rfl (fun a HF => ?_)
  refine wc_move HF nS rfl rfl rfl (fun a HF => ?_)
  refine wc_faddr HF nS rfl fl85_3 rfl rfl (fun a HF => ?_)
  refine wc_load HF rfl sc3 ((HT.boxAt 1 rfl).get 3 rfl) rfl rfl (fun a HF => ?_)
  obtain ⟨e10, hx14, h⟩ := obs h
  refine wc_ixaddr HF nS el22 rfl ha7 ((HT.ro hr_x1).any).neq rfl hx14 rfl rfl (fun a HF => ?_)
  have hc6 := (HT.ro hr_x1).any.flatAt ha7 hx14
  refine wc_load HF rfl sc3 (hc6.get 0 rfl) rfl rfl (fun a HF => ?_)
  refine wc_bin HF nS rfl rfl b_lt rfl rfl (fun a HF => ?_)
  refine wc_endN ?_
  refine then_n ?_
  by_cases hb7 : e9 < e10
  have h := (if_pos hb7).symm.trans h
  refine wp_if (b' := true) HF rfl (decide_eq_true hb7) ?_
  refine wc_text ?_
  refine wc_move HF nS rfl rfl rfl (fun a HF => ?_)
  refine wc_faddr HF nS rfl fl85_1 rfl rfl (fun a HF => ?_)
  refine wc_load HF rfl sc3 ((HT.boxAt 1 rfl).get 1 rfl) rfl rfl (fun a HF => ?_)
  obtain ⟨e11, hx15, h⟩ := obs h
  refine wc_ixaddr HF nS el22 rfl ha6 ((HT.rdAt 0 rfl)).neq rfl hx15 rfl rfl (fun a HF => ?_)
  refine wc_storeR (i := x0_1) (j := 0) (x' := 1) HF HT ha6 rfl rfl (fun w => (sc3 w).2) rfl rfl hx15 rfl rfl rfl rfl (fun w HT => ⟨nS, ?_⟩)
  refine wc_end ?_
  refine blk_n ?_
  have HT := HT.t1
  obtain rfl := Option.some.inj h
  exact then_n ⟨(HF.keep HF.nil rfl), HT⟩
  have h := (if_neg hb7).symm.trans h
  refine wp_if (b' := false) HF rfl (decide_eq_false hb7) ?_
  refine wp_skip ?_
  refine blk_n ?_
  have HT := HT.t1
  obtain rfl := Option.some.inj h
  exact then_n ⟨(HF.keep HF.nil rfl), HT⟩
  rintro a w ⟨HF, HT⟩
  refine ?_
  refine wp_seq ?_
  refine wc_text ?_
  refine wc_move HF nS rfl rfl rfl (fun a HF => ?_)
  refine wc_assign HF nS rfl rfl rfl (fun a HF => ?_)
  refine wc_assign HF nS rfl rfl rfl (fun a HF => ?_)
  refine wc_end ?_
  refine then_n ?_
  refine wp_ret ?_
  have hj3 := Option.some.inj h
  obtain ⟨hi3, hj4⟩ := Prod.mk.inj hj3
  subst hi3
  subst hj4
  refine bp_ret HF (res_two rfl HF rfl rfl) ?_
  exact ⟨a1, y1.length, c1, rfl, HT⟩
  have h := (if_neg hb3).symm.trans h
  refine wp_if (b' := true) HF rfl (notF (Bool.eq_false_iff.2 hb3)) ?_
  refine wp_seq ?_
  refine wc_text ?_
  refine wc_move HF nS rfl rfl rfl (fun a HF => ?_)
  refine wc_assign HF nS rfl rfl rfl (fun a HF => ?_)
  refine wc_assign HF nS rfl rfl rfl (fun a HF => ?_)
  refine wc_end ?_
  refine then_n ?_
  refine wp_ret ?_
  have hj5 := Option.some.inj h
  obtain ⟨hi5, hj6⟩ := Prod.mk.inj hj5
  subst hi5
  subst hj6
  refine then_r (?_)
  refine bp_ret HF (res_two rfl HF rfl rfl) ?_
  have HT := HT.t1
  exact ⟨a1, y1.length, c1, rfl, HT⟩
  have h := (if_neg hb1).symm.trans h
  refine wc_skip HF nS (HF.wn rfl rfl rfl rfl (notF (Bool.eq_false_iff.2 hb1))) rfl (fun a HF => ?_)
  refine wc_skip HF nS (HF.wn rfl rfl rfl rfl (notF (Bool.eq_false_iff.2 hb1))) rfl (fun a HF => ?_)
  refine wc_skip HF nS (HF.wn rfl rfl rfl rfl (notF (Bool.eq_false_iff.2 hb1))) rfl (fun a HF => ?_)
  refine wc_pick (b := true) HF nS rfl (notF (Bool.eq_false_iff.2 hb1)) rfl rfl rfl (fun a HF => ?_)
  refine wc_move HF nS rfl rfl rfl (fun a HF => ?_)
  refine wc_skip HF nS (HF.wn rfl rfl rfl rfl rfl) rfl (fun a HF => ?_)
  refine wc_skip HF nS (HF.wn rfl rfl rfl rfl rfl) rfl (fun a HF => ?_)
  refine wc_skip HF nS (HF.wn rfl rfl rfl rfl rfl) rfl (fun a HF => ?_)
  refine wc_pick (b := true) HF nS rfl rfl rfl rfl rfl (fun a HF => ?_)
  refine wc_end ?_
  refine then_n ?_
  refine wp_if (b' := true) HF rfl rfl ?_
  refine wp_seq ?_
  refine wc_text ?_
  refine wc_move HF nS rfl rfl rfl (fun a HF => ?_)
  refine wc_assign HF nS rfl rfl rfl (fun a HF => ?_)
  refine wc_assign HF nS rfl rfl rfl (fun a HF => ?_)
  refine wc_end ?_
  refine then_n ?_
  refine wp_ret ?_
  have hj7 := Option.some.inj h
  obtain ⟨hi7, hj8⟩ := Prod.mk.inj hj7
  subst hi7
  subst hj8
  refine then_r (?_)
  refine bp_ret HF (res_two rfl HF rfl rfl) ?_
  have HT := HT.t1
  exact ⟨a1, y1.length, c1, rfl, HT⟩

def m_impl_EndOf_L0 (fuel : Nat) (x0 : List I4) : Nat → Int → Int → Option (Lp Unit Int)
  | 0, _, _ => none
  | k1 + 1, z1, z2 =>
    if z2 < (x0.length : Int) then
      (at? x0 z2).bind fun e2 =>
      (m_impl_opens fuel e2.a e2.b e2.c e2.d).bind fun y2 =>
      if in64 (z1 + y2) then
        if (z1 + y2) = 0 then
          some (.ret z2)
        else
        if in64 (z2 + 1) then
          m_impl_EndOf_L0 fuel x0 k1 (z1 + y2) (z2 + 1)
        else none
      else none
    else
    some (.brk ())

def m_impl_EndOf (fuel : Nat) (x0 : List I4) (x1 : Int) : Option Int :=
  if in64 ((x0.length : Int) - 1) then
    (m_impl_within fuel x1 0 ((x0.length : Int) - 1)).bind fun y1 =>
    if y1 = true then
      (at? x0 x1).bind fun e1 =>
      if e1.a = 8 then
        (m_impl_EndOf_L0 fuel x0 fuel 0 x1).bind <| contL <| un1 fun _ =>
        some (-1)
      else
      some (-1)
    else
    some (-1)
  else none

set_option maxRecDepth 100000 in
set_option maxHeartbeats 4000000 in
theorem w_impl_EndOf (fuel : Nat) {x0 : List I4} {x1 : Int} {a_x0 : Option Addr} {n_x0 c_x0 : Nat} {r0 : Int} {w0 : World} (h : m_impl_EndOf fuel x0 x1 = some r0) (hr_x0 : RdT (fun b => ¬ False) w0 (rowT x0) (.slice a_x0 n_x0 c_x0)) :
    Calls Try.prog 105 #[.slice a_x0 n_x0 c_x0, .int .i64 x1] w0 fun e w => e = .returned (.int .i64 r0) ∧ St w0 (fun _ => False) w [] := by
  obtain rfl := hr_x0.neq
  have HT : St w0 (fun _ => False) w0 [] := St.init0
  rw [m_impl_EndOf] at h
  refine calls_fr (n := 38) [.slice a_x0 x0.length c_x0, .int .i64 x1] Try.func105 rfl rfl rfl (fun a HF => ?_)
  have HT : St w0 (fun _ => False) w0 [] := HT
  refine wp_seq ?_
  refine wc_text ?_
  refine wc_assign HF nS rfl rfl rfl (fun a HF => ?_)
  refine wc_end ?_
  refine then_n ?_
  refine wp_seq ?_
  refine wp_seq ?_
  refine wc_text ?_
  refine wc_move HF nS rfl rfl rfl (fun a HF => ?_)
  refine wc_move HF nS rfl rfl rfl (fun a HF => ?_)
  refine wc_lenR HF nS Try.underlying36 rfl rfl rfl (fun a HF => ?_)
  obtain ⟨hg1, h⟩ := grd h
  refine wc_bin HF nS rfl rfl (b_sub hg1) rfl rfl (fun a HF => ?_)
  obtain ⟨y1, hx1, h⟩ := obs h
  refine wc_call HF cf98 rfl (w_impl_within fuel hx1) rfl rfl ?_
  rintro e w ⟨rfl, hE⟩
  have hb := hE.below
  have HT := HT.pure hE
  have HT : St w0 (fun _ => False) w [] := HT
  refine ⟨_, rfl, nS, fun a HF => ?_⟩
  refine wc_not HF nS rfl rfl rfl (fun a HF => ?_)
  refine wc_move HF nS rfl rfl rfl (fun a HF => ?_)
  by_cases hb1 : y1 = true
  have h := (if_pos hb1).symm.trans h
  refine wc_move HF nS rfl (HF.wy rfl rfl rfl rfl (notT hb1)) rfl (fun a HF => ?_)
  refine wc_move HF nS rfl (HF.wy rfl rfl rfl rfl (notT hb1)) rfl (fun a HF => ?_)
  obtain ⟨e1, hx2, h⟩ := obs h
  obtain ⟨b1, o1, ha1⟩ := (HT.ro hr_x0).any.addr hx2
  refine wc_ixaddr HF nS el36 rfl ha1 ((HT.ro hr_x0).any).neq rfl hx2 (HF.wy rfl rfl rfl rfl (notT hb1)) rfl (fun a HF => ?_)
  refine wc_faddr HF nS rfl fl85_0 (HF.wy rfl rfl rfl rfl (notT hb1)) rfl (fun a HF => ?_)
  have hc1 := (HT.ro hr_x0).any.flatAt ha1 hx2
  refine wc_load HF rfl sc3 (hc1.get 0 rfl) (HF.wy rfl rfl rfl rfl (notT hb1)) rfl (fun a HF => ?_)
  refine wc_bin HF nS rfl rfl b_ne (HF.wy rfl rfl rfl rfl (notT hb1)) rfl (fun a HF => ?_)
  refine wc_pick (b := false) HF nS rfl (notT hb1) rfl rfl rfl (fun a HF => ?_)
  refine wc_end ?_
  refine then_n ?_
  by_cases hb2 : e1.a = 8
  have h := (if_pos hb2).symm.trans h
  refine wp_if (b' := false) HF rfl (notT (decide_eq_true hb2)) ?_
  refine wp_skip ?_
  refine then_n ?_
  refine wp_seq ?_
  refine wc_text ?_
  refine wc_assign HF nS rfl rfl rfl (fun a HF => ?_)
  refine wc_end ?_
  refine then_n ?_
  obtain ⟨q1, hx3, h⟩ := obs h
  refine wp_cut (fun a w => q1 = .brk () ∧ Fr a 38 [] ∧ St w0 (fun _ => False) w []) ?_ ?_
  have hk1 := h
  have h := hx3
  refine wp_seq ?_
  refine wc_text ?_
  refine wc_move HF nS rfl rfl rfl (fun a HF => ?_)
  refine wc_assign HF nS rfl rfl rfl (fun a HF => ?_)
  refine wc_end ?_
  refine then_n ?_
  refine wp_block ?_
  refine wp_loopN (fun k1 a w => ∃ z1 z2, m_impl_EndOf_L0 fuel x0 k1 z1 z2 = some q1 ∧ Fr a 38 [(0, .slice a_x0 x0.length c_x0), (5, .int .i64 z1), (6, .int .i64 z2)] ∧ St w0 (fun _ => False) w []) fuel ⟨0, x1, h, (HF.keep (HF.keep (HF.keep HF.nil rfl) rfl) rfl), HT⟩ ?_
  rintro k1 a w ⟨z1, z2, h, HF, HT⟩
  rcases k1 with _ | k1
  cases h
  rw [m_impl_EndOf_L0] at h
  refine ?_
  refine wp_seq ?_
  refine wp_seq ?_
  refine wc_text ?_
  refine wc_move HF nS rfl rfl rfl (fun a HF => ?_)
  refine wc_move HF nS rfl rfl rfl (fun a HF => ?_)
  refine wc_lenR HF nS Try.underlying36 rfl rfl rfl (fun a HF => ?_)
  refine wc_bin HF nS rfl rfl b_lt rfl rfl (fun a HF => ?_)
  refine wc_end ?_
  refine then_n ?_
  by_cases hb3 : z2 < (x0.length : Int)
  have h := (if_pos hb3).symm.trans h
  refine wp_if (b' := true) HF rfl (decide_eq_true hb3) ?_
  refine wp_skip ?_
  refine then_n ?_
  refine wp_seq ?_
  refine wp_block ?_
  refine wp_seq ?_
  refine wc_text ?_
  refine wc_move HF nS rfl rfl rfl (fun a HF => ?_)
  refine wc_move HF nS rfl rfl rfl (fun a HF => ?_)
  refine wc_move HF nS rfl rfl rfl (fun a HF => ?_)
  obtain ⟨e2, hx4, h⟩ := obs h
  refine wc_ixaddr HF nS el36 rfl ha1 ((HT.ro hr_x0).any).neq rfl hx4 rfl rfl (fun a HF => ?_)
  have hc2 := (HT.ro hr_x0).any.flatAt ha1 hx4
  refine wc_loadA (vs := [.int .i64 e2.a, .int .i64 e2.b, .int .i64 e2.c, .int .i64 e2.d]) HF rfl ag85 rfl (hc2.part 0 4) rfl rfl (fun a HF => ?_)
  obtain ⟨y2, hx5, h⟩ := obs h
  refine wc_call HF cf123 rfl (w_impl_opens fuel hx5) rfl rfl ?_
  rintro e w ⟨rfl, hE⟩
  have hb := hE.below
  have HT := HT.pure hE
  have HT : St w0 (fun _ => False) w [] := HT
  refine ⟨_, rfl, nS, fun a HF => ?_⟩
  obtain ⟨hg2, h⟩ := grd h
  refine wc_bin HF nS rfl rfl (b_add hg2) rfl rfl (fun a HF => ?_)
  refine wc_assign HF nS rfl rfl rfl (fun a HF => ?_)
  refine wc_end ?_
  refine then_n ?_
  refine wp_seq ?_
  refine wc_text ?_
  refine wc_move HF nS rfl rfl rfl (fun a HF => ?_)
  refine wc_bin HF nS rfl rfl b_eq rfl rfl (fun a HF => ?_)
  refine wc_end ?_
  refine then_n ?_
  by_cases hb4 : (z1 + y2) = 0
  have h := (if_pos hb4).symm.trans h
  refine wp_if (b' := true) HF rfl (decide_eq_true hb4) ?_
  refine wp_seq ?_
  refine wc_text ?_
  refine wc_move HF nS rfl rfl rfl (fun a HF => ?_)
  refine wc_assign HF nS rfl rfl rfl (fun a HF => ?_)
  refine wc_end ?_
  refine then_n ?_
  refine wp_ret ?_
  obtain rfl := Option.some.inj h
  have h := retL hk1
  obtain rfl := Option.some.inj h
  refine blk_r (then_r (then_r (blk_r (then_r (?_)))))
  refine bp_ret HF (res_one rfl HF rfl) ?_
  exact ⟨rfl, HT⟩
  have h := (if_neg hb4).symm.trans h
  refine wp_if (b' := false) HF rfl (decide_eq_false hb4) ?_
  refine wp_skip ?_
  refine blk_n ?_
  refine then_n ?_
  refine wc_text ?_
  refine wc_move HF nS rfl rfl rfl (fun a HF => ?_)
  obtain ⟨hg3, h⟩ := grd h
  refine wc_bin HF nS rfl rfl (b_add hg3) rfl rfl (fun a HF => ?_)
  refine wc_assign HF nS rfl rfl rfl (fun a HF => ?_)
  refine wc_end ?_
  exact then_n ⟨k1, Nat.lt_succ_self k1, z1 + y2, z2 + 1, h, (HF.keep (HF.keep (HF.keep HF.nil rfl) rfl) rfl), HT⟩
  have h := (if_neg hb3).symm.trans h
  refine wp_if (b' := false) HF rfl (decide_eq_false hb3) ?_
  refine wp_exit ?_
  refine then_x (then_x (?_))
  refine blk_x ?_
  exact then_n ⟨(Option.some.inj h).symm, HF.nil, HT⟩
  rintro a w ⟨rfl, HF, HT⟩
  have h := brkL1u h
  refine ?_
  refine wp_seq ?_
  refine wc_text ?_
  refine wc_assign HF nS rfl rfl rfl (fun a HF => ?_)
  refine wc_end ?_
  refine then_n ?_
  refine wp_ret ?_
  obtain rfl := Option.some.inj h
  refine bp_ret HF (res_one rfl HF rfl) ?_
  exact ⟨rfl, HT⟩
  have h := (if_neg hb2).symm.trans h
  refine wp_if (b' := true) HF rfl (notF (decide_eq_false hb2)) ?_
  refine wp_seq ?_
  refine wc_text ?_
  refine wc_assign HF nS rfl rfl rfl (fun a HF => ?_)
  refine wc_end ?_
  refine then_n ?_
  refine wp_ret ?_
  obtain rfl := Option.some.inj h
  refine then_r (?_)
  refine bp_ret HF (res_one rfl HF rfl) ?_
  exact ⟨rfl, HT⟩
  have h := (if_neg hb1).symm.trans h
  refine wc_skip HF nS (HF.wn rfl rfl rfl rfl (notF (Bool.eq_false_iff.2 hb1))) rfl (fun a HF => ?_)
  refine wc_skip HF nS (HF.wn rfl rfl rfl rfl (notF (Bool.eq_false_iff.2 hb1))) rfl (fun a HF => ?_)
  refine wc_skip HF nS (HF.wn rfl rfl rfl rfl (notF (Bool.eq_false_iff.2 hb1))) rfl (fun a HF => ?_)
  refine wc_skip HF nS (HF.wn rfl rfl rfl rfl (notF (Bool.eq_false_iff.2 hb1))) rfl (fun a HF => ?_)
  refine wc_skip HF nS (HF.wn rfl rfl rfl rfl (notF (Bool.eq_false_iff.2 hb1))) rfl (fun a HF => ?_)
  refine wc_skip HF nS (HF.wn rfl rfl rfl rfl (notF (Bool.eq_false_iff.2 hb1))) rfl (fun a HF => ?_)
  refine wc_pick (b := true) HF nS rfl (notF (Bool.eq_false_iff.2 hb1)) rfl rfl rfl (fun a HF => ?_)
  refine wc_end ?_
  refine then_n ?_
  refine wp_if (b' := true) HF rfl rfl ?_
  refine wp_seq ?_
  refine wc_text ?_
  refine wc_assign HF nS rfl rfl rfl (fun a HF => ?_)
  refine wc_end ?_
  refine then_n ?_
  refine wp_ret ?_
  obtain rfl := Option.some.inj h
  refine then_r (?_)
  refine bp_ret HF (res_one rfl HF rfl) ?_
  exact ⟨rfl, HT⟩

def m_impl_copyThings (fuel : Nat) (x0_0 : List Int) (x0_1 : List Int) (x0_2 : Int) : Option (List Int × List Int × Int) :=
  (m_impl_copyInts fuel x0_0).bind fun y1 =>
  (m_impl_copyInts fuel x0_1).bind fun y2 =>
  some (y1, y2, x0_2)

set_option maxRecDepth 100000 in
set_option maxHeartbeats 4000000 in
theorem w_impl_copyThings (fuel : Nat) {x0_0 : List Int} {x0_1 : List Int} {x0_2 : Int} {a_x0_0 : Option Addr} {n_x0_0 c_x0_0 : Nat} {a_x0_1 : Option Addr} {n_x0_1 c_x0_1 : Nat} {r0_0 : List Int} {r0_1 : List Int} {r0_2 : Int} {w0 : World} (h : m_impl_copyThings fuel x0_0 x0_1 x0_2 = some (r0_0, r0_1, r0_2)) (hr_x0_0 : RdT (fun b => ¬ False) w0 (rowT x0_0) (.slice a_x0_0 n_x0_0 c_x0_0)) (hr_x0_1 : RdT (fun b => ¬ False) w0 (rowT x0_1) (.slice a_x0_1 n_x0_1 c_x0_1)) :
    Calls Try.prog 82 #[.agg #[.slice a_x0_0 n_x0_0 c_x0_0, .slice a_x0_1 n_x0_1 c_x0_1, .int .i64 x0_2]] w0 fun e w => ∃ a_r0_0 n_r0_0 c_r0_0, ∃ a_r0_1 n_r0_1 c_r0_1, e = .returned (.agg #[.slice a_r0_0 n_r0_0 c_r0_0, .slice a_r0_1 n_r0_1 c_r0_1, .int .i64 r0_2]) ∧ St w0 (fun _ => False) w [Own 3 (rowT r0_0) (.slice a_r0_0 n_r0_0 c_r0_0), Own 3 (rowT r0_1) (.slice a_r0_1 n_r0_1 c_r0_1)] := by
  obtain rfl := hr_x0_0.neq
  obtain rfl := hr_x0_1.neq
  have HT : St w0 (fun _ => False) w0 [] := St.init0
  rw [m_impl_copyThings] at h
  refine calls_fr (n := 12) [.agg #[.slice a_x0_0 x0_0.length c_x0_0, .slice a_x0_1 x0_1.length c_x0_1, .int .i64 x0_2]] Try.func82 rfl rfl rfl (fun a HF => ?_)
  have HT : St w0 (fun _ => False) w0 [] := HT
  refine wp_seq ?_
  refine wc_text ?_
  refine wc_box (cs := [.slice a_x0_0 x0_0.length c_x0_0, .slice a_x0_1 x0_1.length c_x0_1, .int .i64 x0_2]) HF HT rfl rfl rfl rfl (fun p1 w HT hb => ⟨nS, fun a HF => ?_⟩)
  refine wc_alloc (cs := [.slice none 0 0, .slice none 0 0, .int .i64 0]) HF HT zr27 rfl rfl rfl (fun p2 w HT hb => ⟨nS, fun a HF => ?_⟩)
  refine wc_end ?_
  refine then_n ?_
  refine wp_seq ?_
  refine wp_region_can [(0, true), (1, true), (3, false), (4, false), (6, false), (7, false), (2, false), (5, false), (8, true), (9, true)] (fun w' => w'.cell? ⟨p1, 1, none⟩ = some (.slice a_x0_1 x0_1.length c_x0_1) ∧ w'.cell? ⟨p1, 2, none⟩ = some (.int .i64 x0_2) ∧ True) (by kernel_rfl) (by kernel_rfl) ?_
  have HT := HT.drew
  refine wc_faddr HF nS rfl fl27_0 rfl rfl (fun a HF => ?_)
  refine wc_load HF rfl sc22 ((HT.boxAt 1 rfl).get 0 rfl) rfl rfl (fun a HF => ?_)
  refine wc_faddr HF (fun _ => ⟨(HT.boxAt 1 rfl).get 1 rfl, (HT.boxAt 1 rfl).get 2 rfl, trivial⟩) rfl fl27_1 rfl rfl (fun a HF => ?_)
  refine wc_loadS HF ⟨(HT.boxAt 1 rfl).get 1 rfl, (HT.boxAt 1 rfl).get 2 rfl, trivial⟩ rfl sc22 (fun w hS => hS.1) rfl rfl (fun a HF => ?_)
  refine wc_faddr HF (fun _ => ⟨(HT.boxAt 1 rfl).get 1 rfl, (HT.boxAt 1 rfl).get 2 rfl, trivial⟩) rfl fl27_2 rfl rfl (fun a HF => ?_)
  refine wc_loadS HF ⟨(HT.boxAt 1 rfl).get 1 rfl, (HT.boxAt 1 rfl).get 2 rfl, trivial⟩ rfl sc3 (fun w hS => hS.2.1) rfl rfl (fun a HF => ?_)
  obtain ⟨y1, hx1, h⟩ := obs h
  refine wc_call HF cf103 rfl (w_impl_copyInts fuel hx1 (HT.ro hr_x0_0).any) rfl rfl ?_
  rintro e w ⟨a1, n1, c1, rfl, hE⟩
  have hb := hE.below
  have HT := HT.pure hE
  obtain rfl := (HT.rdAt 0 rfl).neq
  have HT : St w0 (fun _ => False) w [Own 3 (rowT y1) (.slice a1 y1.length c1), Box p2 [.slice none 0 0, .slice none 0 0, .int .i64 0], Box p1 [.slice a_x0_0 x0_0.length c_x0_0, .slice a_x0_1 x0_1.length c_x0_1, .int .i64 x0_2]] := HT
  refine ⟨_, rfl, (fun _ => ⟨(HT.boxAt 2 rfl).get 1 rfl, (HT.boxAt 2 rfl).get 2 rfl, trivial⟩), fun a HF => ?_⟩
  obtain ⟨y2, hx2, h⟩ := obs h
  refine wc_call HF cf103 rfl (w_impl_copyInts fuel hx2 (HT.ro hr_x0_1).any) rfl rfl ?_
  rintro e w ⟨a2, n2, c2, rfl, hE⟩
  have hb := hE.below
  have HT := HT.pure hE
  obtain rfl := (HT.rdAt 0 rfl).neq
  have HT : St w0 (fun _ => False) w [Own 3 (rowT y2) (.slice a2 y2.length c2), Own 3 (rowT y1) (.slice a1 y1.length c1), Box p2 [.slice none 0 0, .slice none 0 0, .int .i64 0], Box p1 [.slice a_x0_0 x0_0.length c_x0_0, .slice a_x0_1 x0_1.length c_x0_1, .int .i64 x0_2]] := HT
  refine ⟨_, rfl, (fun _ => ⟨(HT.boxAt 3 rfl).get 1 rfl, (HT.boxAt 3 rfl).get 2 rfl, trivial⟩), fun a HF => ?_⟩
  refine wc_build (cs := #[.slice a1 y1.length c1, .slice a2 y2.length c2, .int .i64 x0_2]) HF nS bd27 rfl rfl rfl rfl (fun a HF => ?_)
  have HT := HT.p2
  refine wc_storeB (cs' := [.slice a1 y1.length c1, .slice a2 y2.length c2, .int .i64 x0_2]) HF HT rfl rfl (fun w => (ag27 w).2) rfl rfl rfl rfl rfl (fun w HT => ⟨nS, ?_⟩)
  refine wc_endN ?_
  refine then_n ?_
  refine wp_ret ?_
  have hj1 := Option.some.inj h
  obtain ⟨hi1, hj2⟩ := Prod.mk.inj hj1
  subst hi1
  obtain ⟨hi2, hj3⟩ := Prod.mk.inj hj2
  subst hi2
  subst hj3
  refine bp_ret HF (res_cell (vs := [.slice a1 y1.length c1, .slice a2 y2.length c2, .int .i64 x0_2]) rfl HF rfl ag27 rfl (HT.boxAt 0 rfl)) ?_
  have HT := HT.p1.p2.t2
  exact ⟨a1, y1.length, c1, a2, y2.length, c2, rfl, HT⟩

def m_slices_Index___int_int__L0 (fuel : Nat) (x0 : List Int) (x1 : Int) : Nat → Int → Option (Lp Unit Int)
  | 0, _ => none
  | k1 + 1, z1 =>
    if z1 < (x0.length : Int) then
      (at? x0 z1).bind fun e1 =>
      if x1 = e1 then
        some (.ret z1)
      else
      if in64 (z1 + 1) then
        m_slices_Index___int_int__L0 fuel x0 x1 k1 (z1 + 1)
      else none
    else
    some (.brk ())

def m_slices_Index___int_int_ (fuel : Nat) (x0 : List Int) (x1 : Int) : Option Int :=
  (m_slices_Index___int_int__L0 fuel x0 x1 fuel 0).bind <| contL <| un1 fun _ =>
  some (-1)

set_option maxRecDepth 100000 in
set_option maxHeartbeats 4000000 in
theorem w_slices_Index___int_int_ (fuel : Nat) {x0 : List Int} {x1 : Int} {a_x0 : Option Addr} {n_x0 c_x0 : Nat} {r0 : Int} {w0 : World} (h : m_slices_Index___int_int_ fuel x0 x1 = some r0) (hr_x0 : RdT (fun b => ¬ False) w0 (rowT x0) (.slice a_x0 n_x0 c_x0)) :
    Calls Try.prog 126 #[.slice a_x0 n_x0 c_x0, .int .i64 x1] w0 fun e w => e = .returned (.int .i64 r0) ∧ St w0 (fun _ => False) w [] := by
  obtain rfl := hr_x0.neq
  have HT : St w0 (fun _ => False) w0 [] := St.init0
  rw [m_slices_Index___int_int_] at h
  refine calls_fr (n := 19) [.slice a_x0 x0.length c_x0, .int .i64 x1] Try.func126 rfl rfl rfl (fun a HF => ?_)
  have HT : St w0 (fun _ => False) w0 [] := HT
  refine wp_seq ?_
  refine wc_text ?_
  refine wc_assign HF nS rfl rfl rfl (fun a HF => ?_)
  refine wc_end ?_
  refine then_n ?_
  obtain ⟨q1, hx1, h⟩ := obs h
  refine wp_cut (fun a w => q1 = .brk () ∧ Fr a 19 [] ∧ St w0 (fun _ => False) w []) ?_ ?_
  have hk1 := h
  have h := hx1
  refine wp_seq ?_
  refine wc_text ?_
  refine wc_move HF nS rfl rfl rfl (fun a HF => ?_)
  refine wc_lenR HF nS Try.underlying22 rfl rfl rfl (fun a HF => ?_)
  refine wc_move HF nS rfl rfl rfl (fun a HF => ?_)
  refine wc_end ?_
  refine then_n ?_
  refine wp_block ?_
  refine wp_loopN (fun k1 a w => ∃ z1, m_slices_Index___int_int__L0 fuel x0 x1 k1 z1 = some q1 ∧ Fr a 19 [(0, .slice a_x0 x0.length c_x0), (1, .int .i64 x1), (7, .int .i64 (x0.length : Int)), (8, .int .i64 z1)] ∧ St w0 (fun _ => False) w []) fuel ⟨0, h, (HF.keep (HF.keep (HF.keep (HF.keep HF.nil rfl) rfl) rfl) rfl), HT⟩ ?_
  rintro k1 a w ⟨z1, h, HF, HT⟩
  rcases k1 with _ | k1
  cases h
  rw [m_slices_Index___int_int__L0] at h
  refine ?_
  refine wp_seq ?_
  refine wc_text ?_
  refine wc_bin HF nS rfl rfl b_lt rfl rfl (fun a HF => ?_)
  refine wc_end ?_
  refine then_n ?_
  refine wp_seq ?_
  by_cases hb1 : z1 < (x0.length : Int)
  have h := (if_pos hb1).symm.trans h
  refine wp_if (b' := true) HF rfl (decide_eq_true hb1) ?_
  refine wp_skip ?_
  refine then_n ?_
  refine wp_seq ?_
  refine wp_block ?_
  refine wp_seq ?_
  refine wc_text ?_
  refine wc_move HF nS rfl rfl rfl (fun a HF => ?_)
  refine wc_assign HF nS rfl rfl rfl (fun a HF => ?_)
  refine wc_end ?_
  refine then_n ?_
  refine wp_seq ?_
  refine wc_text ?_
  refine wc_move HF nS rfl rfl rfl (fun a HF => ?_)
  refine wc_move HF nS rfl rfl rfl (fun a HF => ?_)
  refine wc_move HF nS rfl rfl rfl (fun a HF => ?_)
  obtain ⟨e1, hx2, h⟩ := obs h
  obtain ⟨b1, o1, ha1⟩ := (HT.ro hr_x0).any.addr hx2
  refine wc_ixaddr HF nS el22 rfl ha1 ((HT.ro hr_x0).any).neq rfl hx2 rfl rfl (fun a HF => ?_)
  have hc1 := (HT.ro hr_x0).any.flatAt ha1 hx2
  refine wc_load HF rfl sc3 (hc1.get 0 rfl) rfl rfl (fun a HF => ?_)
  refine wc_bin HF nS rfl rfl b_eq rfl rfl (fun a HF => ?_)
  refine wc_end ?_
  refine then_n ?_
  by_cases hb2 : x1 = e1
  have h := (if_pos hb2).symm.trans h
  refine wp_if (b' := true) HF rfl (decide_eq_true hb2) ?_
  refine wp_seq ?_
  refine wc_text ?_
  refine wc_move HF nS rfl rfl rfl (fun a HF => ?_)
  refine wc_assign HF nS rfl rfl rfl (fun a HF => ?_)
  refine wc_end ?_
  refine then_n ?_
  refine wp_ret ?_
  obtain rfl := Option.some.inj h
  have h := retL hk1
  obtain rfl := Option.some.inj h
  refine blk_r (then_r (then_r (blk_r (then_r (?_)))))
  refine bp_ret HF (res_one rfl HF rfl) ?_
  exact ⟨rfl, HT⟩
  have h := (if_neg hb2).symm.trans h
  refine wp_if (b' := false) HF rfl (decide_eq_false hb2) ?_
  refine wp_skip ?_
  refine blk_n ?_
  refine then_n ?_
  refine wc_text ?_
  obtain ⟨hg1, h⟩ := grd h
  refine wc_bin HF nS rfl rfl (b_add hg1) rfl rfl (fun a HF => ?_)
  refine wc_move HF nS rfl rfl rfl (fun a HF => ?_)
  refine wc_end ?_
  exact then_n ⟨k1, Nat.lt_succ_self k1, z1 + 1, h, (HF.keep (HF.keep (HF.keep (HF.keep HF.nil rfl) rfl) rfl) rfl), HT⟩
  have h := (if_neg hb1).symm.trans h
  refine wp_if (b' := false) HF rfl (decide_eq_false hb1) ?_
  refine wp_exit ?_
  refine then_x (then_x (?_))
  refine blk_x ?_
  exact then_n ⟨(Option.some.inj h).symm, HF.nil, HT⟩
  rintro a w ⟨rfl, HF, HT⟩
  have h := brkL1u h
  refine ?_
  refine wp_seq ?_
  refine wc_text ?_
  refine wc_assign HF nS rfl rfl rfl (fun a HF => ?_)
  refine wc_end ?_
  refine then_n ?_
  refine wp_ret ?_
  obtain rfl := Option.some.inj h
  refine bp_ret HF (res_one rfl HF rfl) ?_
  exact ⟨rfl, HT⟩

def m_slices_Contains___int_int_ (fuel : Nat) (x0 : List Int) (x1 : Int) : Option Bool :=
  (m_slices_Index___int_int_ fuel x0 x1).bind fun y1 =>
  some (decide (0 ≤ y1))

set_option maxRecDepth 100000 in
set_option maxHeartbeats 4000000 in
theorem w_slices_Contains___int_int_ (fuel : Nat) {x0 : List Int} {x1 : Int} {a_x0 : Option Addr} {n_x0 c_x0 : Nat} {r0 : Bool} {w0 : World} (h : m_slices_Contains___int_int_ fuel x0 x1 = some r0) (hr_x0 : RdT (fun b => ¬ False) w0 (rowT x0) (.slice a_x0 n_x0 c_x0)) :
    Calls Try.prog 111 #[.slice a_x0 n_x0 c_x0, .int .i64 x1] w0 fun e w => e = .returned (.bool r0) ∧ St w0 (fun _ => False) w [] := by
  obtain rfl := hr_x0.neq
  have HT : St w0 (fun _ => False) w0 [] := St.init0
  rw [m_slices_Contains___int_int_] at h
  refine calls_fr (n := 9) [.slice a_x0 x0.length c_x0, .int .i64 x1] Try.func111 rfl rfl rfl (fun a HF => ?_)
  have HT : St w0 (fun _ => False) w0 [] := HT
  refine wp_seq ?_
  refine wc_text ?_
  refine wc_assign HF nS rfl rfl rfl (fun a HF => ?_)
  refine wc_end ?_
  refine then_n ?_
  refine wp_seq ?_
  refine wc_text ?_
  refine wc_move HF nS rfl rfl rfl (fun a HF => ?_)
  refine wc_move HF nS rfl rfl rfl (fun a HF => ?_)
  obtain ⟨y1, hx1, h⟩ := obs h
  refine wc_call HF cf126 rfl (w_slices_Index___int_int_ fuel hx1 (HT.ro hr_x0).any) rfl rfl ?_
  rintro e w ⟨rfl, hE⟩
  have hb := hE.below
  have HT := HT.pure hE
  have HT : St w0 (fun _ => False) w [] := HT
  refine ⟨_, rfl, nS, fun a HF => ?_⟩
  refine wc_bin HF nS rfl rfl b_ge rfl rfl (fun a HF => ?_)
  refine wc_assign HF nS rfl rfl rfl (fun a HF => ?_)
  refine wc_end ?_
  refine then_n ?_
  refine wp_ret ?_
  obtain rfl := Option.some.inj h
  refine bp_ret HF (res_one rfl HF rfl) ?_
  exact ⟨rfl, HT⟩

def m_impl_fullOrder_L0 (fuel : Nat) (x0 : List Int) (x1 : Int) : Nat → (List Int) → Int → Option (List Int)
  | 0, _, _ => none
  | k1 + 1, z2, z3 =>
    if z3 < x1 then
      (
        (m_slices_Contains___int_int_ fuel x0 z3).bind fun y2 =>
        if y2 = true then
          some z2
        else
        if z2.length + 1 ≤ 17179869184 then
          some (z2 ++ ([z3] : List Int))
        else none).bind fun z4 =>
      if in64 (z3 + 1) then
        m_impl_fullOrder_L0 fuel x0 x1 k1 z4 (z3 + 1)
      else none
    else
    some z2

def m_impl_fullOrder (fuel : Nat) (x0 : List Int) (x1 : Int) : Option (List Int) :=
  (m_impl_copyInts fuel x0).bind fun y1 =>
  (m_impl_fullOrder_L0 fuel x0 x1 fuel y1 0).bind fun z1 =>
  some z1

set_option maxRecDepth 100000 in
set_option maxHeartbeats 4000000 in
theorem w_impl_fullOrder (fuel : Nat) {x0 : List Int} {x1 : Int} {a_x0 : Option Addr} {n_x0 c_x0 : Nat} {r0 : List Int} {w0 : World} (h : m_impl_fullOrder fuel x0 x1 = some r0) (hr_x0 : RdT (fun b => ¬ False) w0 (rowT x0) (.slice a_x0 n_x0 c_x0)) :
    Calls Try.prog 106 #[.slice a_x0 n_x0 c_x0, .int .i64 x1] w0 fun e w => ∃ a_r0 n_r0 c_r0, e = .returned (.slice a_r0 n_r0 c_r0) ∧ St w0 (fun _ => False) w [Own 3 (rowT r0) (.slice a_r0 n_r0 c_r0)] := by
  obtain rfl := hr_x0.neq
  have HT : St w0 (fun _ => False) w0 [] := St.init0
  rw [m_impl_fullOrder] at h
  refine calls_fr (n := 23) [.slice a_x0 x0.length c_x0, .int .i64 x1] Try.func106 rfl rfl rfl (fun a HF => ?_)
  have HT : St w0 (fun _ => False) w0 [] := HT
  refine wp_seq ?_
  refine wc_text ?_
  refine wc_assign HF nS rfl rfl rfl (fun a HF => ?_)
  refine wc_end ?_
  refine then_n ?_
  refine wp_seq ?_
  refine wc_text ?_
  refine wc_move HF nS rfl rfl rfl (fun a HF => ?_)
  obtain ⟨y1, hx1, h⟩ := obs h
  refine wc_call HF cf103 rfl (w_impl_copyInts fuel hx1 (HT.ro hr_x0).any) rfl rfl ?_
  rintro e w ⟨a1, n1, c1, rfl, hE⟩
  have hb := hE.below
  have HT := HT.pure hE
  obtain rfl := (HT.rdAt 0 rfl).neq
  have HT : St w0 (fun _ => False) w [Own 3 (rowT y1) (.slice a1 y1.length c1)] := HT
  refine ⟨_, rfl, nS, fun a HF => ?_⟩
  refine wc_assign HF nS rfl rfl rfl (fun a HF => ?_)
  refine wc_end ?_
  refine then_n ?_
  obtain ⟨z1, hx2, h⟩ := obs h
  refine wp_cut (fun a w => ∃ a2 n2 c2, Fr a 23 [(5, .slice a2 n2 c2)] ∧ St w0 (fun _ => False) w [Own 3 (rowT z1) (.slice a2 n2 c2)]) ?_ ?_
  have hk1 := h
  have h := hx2
  refine wp_seq ?_
  refine wc_text ?_
  refine wc_move HF nS rfl rfl rfl (fun a HF => ?_)
  refine wc_move HF nS rfl rfl rfl (fun a HF => ?_)
  refine wc_end ?_
  refine then_n ?_
  refine wp_block ?_
  refine wp_loopN (fun k1 a w => ∃ z2 z3 a3 n3 c3, m_impl_fullOrder_L0 fuel x0 x1 k1 z2 z3 = some z1 ∧ Fr a 23 [(0, .slice a_x0 x0.length c_x0), (5, .slice a3 n3 c3), (9, .int .i64 x1), (10, .int .i64 z3)] ∧ St w0 (fun _ => False) w [Own 3 (rowT z2) (.slice a3 n3 c3)]) fuel ⟨y1, 0, a1, y1.length, c1, h, (HF.keep (HF.keep (HF.keep (HF.keep HF.nil rfl) rfl) rfl) rfl), HT⟩ ?_
  rintro k1 a w ⟨z2, z3, a3, n3, c3, h, HF, HT⟩
  rcases k1 with _ | k1
  cases h
  rw [m_impl_fullOrder_L0] at h
  obtain rfl := (HT.rdAt 0 rfl).neq
  refine ?_
  refine wp_seq ?_
  refine wc_text ?_
  refine wc_bin HF nS rfl rfl b_lt rfl rfl (fun a HF => ?_)
  refine wc_end ?_
  refine then_n ?_
  refine wp_seq ?_
  by_cases hb1 : z3 < x1
  have h := (if_pos hb1).symm.trans h
  refine wp_if (b' := true) HF rfl (decide_eq_true hb1) ?_
  refine wp_skip ?_
  refine then_n ?_
  obtain ⟨z4, hx3, h⟩ := obs h
  refine wp_cut (fun a w => ∃ a4 n4 c4, Fr a 23 [(0, .slice a_x0 x0.length c_x0), (5, .slice a4 n4 c4), (9, .int .i64 x1), (10, .int .i64 z3)] ∧ St w0 (fun _ => False) w [Own 3 (rowT z4) (.slice a4 n4 c4)]) ?_ ?_
  have hk2 := h
  have h := hx3
  refine wp_block ?_
  refine wp_seq ?_
  refine wc_text ?_
  refine wc_move HF nS rfl rfl rfl (fun a HF => ?_)
  refine wc_assign HF nS rfl rfl rfl (fun a HF => ?_)
  refine wc_end ?_
  refine then_n ?_
  refine wp_seq ?_
  refine wc_text ?_
  refine wc_move HF nS rfl rfl rfl (fun a HF => ?_)
  refine wc_move HF nS rfl rfl rfl (fun a HF => ?_)
  obtain ⟨y2, hx4, h⟩ := obs h
  refine wc_call HF cf111 rfl (w_slices_Contains___int_int_ fuel hx4 (HT.ro hr_x0).any) rfl rfl ?_
  rintro e w ⟨rfl, hE⟩
  have hb := hE.below
  have HT := HT.pure hE
  have HT : St w0 (fun _ => False) w [Own 3 (rowT z2) (.slice a3 z2.length c3)] := HT
  refine ⟨_, rfl, nS, fun a HF => ?_⟩
  refine wc_not HF nS rfl rfl rfl (fun a HF => ?_)
  refine wc_end ?_
  refine then_n ?_
  by_cases hb2 : y2 = true
  have h := (if_pos hb2).symm.trans h
  refine wp_if (b' := false) HF rfl (notT hb2) ?_
  refine wp_skip ?_
  refine blk_n ?_
  obtain rfl := Option.some.inj h
  exact then_n ⟨a3, z2.length, c3, (HF.keep (HF.keep (HF.keep (HF.keep HF.nil rfl) rfl) rfl) rfl), HT⟩
  have h := (if_neg hb2).symm.trans h
  refine wp_if (b' := true) HF rfl (notF (Bool.eq_false_iff.2 hb2)) ?_
  refine wc_text ?_
  refine wc_move HF nS rfl rfl rfl (fun a HF => ?_)
  refine wc_move HF nS rfl rfl rfl (fun a HF => ?_)
  refine wc_bslice (l := ([z3] : List Int)) (cs := [.int .i64 z3]) (A := []) HF HT bs22_1 rfl rfl (gives_flat rfl) rfl (by decide) rfl rfl (fun p1 w HT hb  => ⟨nS, fun a HF => ?_⟩)
  obtain ⟨hg1, h⟩ := grd h
  have HT := HT.p1
  refine wc_append HF HT el22 rfl rfl (Nat.zero_lt_succ _) hg1 rfl rfl rfl (fun a5 c5 w HT => ⟨nS, fun a HF => ?_⟩)
  refine wc_assign HF nS rfl rfl rfl (fun a HF => ?_)
  refine wc_end ?_
  refine blk_n ?_
  obtain rfl := Option.some.inj h
  exact then_n ⟨a5, (z2 ++ ([z3] : List Int)).length, c5, (HF.keep (HF.keep (HF.keep (HF.keep HF.nil rfl) rfl) rfl) rfl), HT⟩
  rintro a w ⟨a4, n4, c4, HF, HT⟩
  obtain rfl := (HT.rdAt 0 rfl).neq
  refine ?_
  refine wc_text ?_
  obtain ⟨hg2, h⟩ := grd h
  refine wc_bin HF nS rfl rfl (b_add hg2) rfl rfl (fun a HF => ?_)
  refine wc_move HF nS rfl rfl rfl (fun a HF => ?_)
  refine wc_end ?_
  exact then_n ⟨k1, Nat.lt_succ_self k1, z4, z3 + 1, a4, z4.length, c4, h, (HF.keep (HF.keep (HF.keep (HF.keep HF.nil rfl) rfl) rfl) rfl), HT⟩
  have h := (if_neg hb1).symm.trans h
  refine wp_if (b' := false) HF rfl (decide_eq_false hb1) ?_
  refine wp_exit ?_
  refine then_x (then_x (?_))
  refine blk_x ?_
  obtain rfl := Option.some.inj h
  exact then_n ⟨a3, z2.length, c3, (HF.keep HF.nil rfl), HT⟩
  rintro a w ⟨a2, n2, c2, HF, HT⟩
  obtain rfl := (HT.rdAt 0 rfl).neq
  refine ?_
  refine wp_seq ?_
  refine wc_text ?_
  refine wc_move HF nS rfl rfl rfl (fun a HF => ?_)
  refine wc_assign HF nS rfl rfl rfl (fun a HF => ?_)
  refine wc_end ?_
  refine then_n ?_
  refine wp_ret ?_
  obtain rfl := Option.some.inj h
  refine bp_ret HF (res_one rfl HF rfl) ?_
  exact ⟨a2, z1.length, c2, rfl, HT⟩

def m_impl_touch (fuel : Nat) (x0_0 : Int) (x0_1 : Int) (x0_2 : Int) (x0_3 : Int) (x1 : List Int) (x2_0 : List Int) (x2_1 : List Int) (x2_2 : Int) : Option (List Int × List Int × List Int × Int) :=
  if x0_0 = 5 then
    (at? x2_0 x0_2).bind fun e1 =>
    (at? x1 x0_1).bind fun e2 =>
    some (x1.set x0_1.toNat e1, x2_0, x2_1, x2_2)
  else
  if x0_0 = 6 then
    (at? x1 x0_2).bind fun e3 =>
    (at? x2_0 x0_1).bind fun e4 =>
    some (x1, x2_0.set x0_1.toNat e3, x2_1, x2_2)
  else
  if x0_0 = 12 then
    (at? x2_1 x0_1).bind fun e5 =>
    (at? x1 x0_2).bind fun e6 =>
    if in64 (e6 + 1) then
      if (65536 : Int) ≠ 0 then
        (at? x1 x0_3).bind fun e7 =>
        some (x1.set x0_3.toNat (e5.tmod 65536), x2_0, x2_1.set x0_1.toNat (e6 + 1), x2_2)
      else none
    else none
  else
  if x0_0 = 13 then
    (at? x2_1 x0_2).bind fun e8 =>
    if (65536 : Int) ≠ 0 then
      (at? x1 x0_1).bind fun e9 =>
      some (x1.set x0_1.toNat (e8.tmod 65536), x2_0, x2_1, x2_2)
    else none
  else
  if x0_0 = 14 then
    (at? x2_1 x0_1).bind fun e10 =>
    if (65536 : Int) ≠ 0 then
      (at? x1 x0_2).bind fun e11 =>
      some (x1.set x0_2.toNat (e10.tmod 65536), x2_0, x2_1.set x0_1.toNat 0, x2_2)
    else none
  else
  if x0_0 = 15 then
    (at? x1 x0_1).bind fun e12 =>
    if in64 (x2_2 + e12) then
      if (65536 : Int) ≠ 0 then
        some (x1, x2_0, x2_1, (x2_2 + e12).tmod 65536)
      else none
    else none
  else
  if x0_0 = 16 then
    (at? x1 x0_1).bind fun e13 =>
    some (x1.set x0_1.toNat x2_2, x2_0, x2_1, x2_2)
  else
  some (x1, x2_0, x2_1, x2_2)

set_option maxRecDepth 100000 in
set_option maxHeartbeats 4000000 in
theorem w_impl_touch (fuel : Nat) {x0_0 : Int} {x0_1 : Int} {x0_2 : Int} {x0_3 : Int} {x1 : List Int} {x2_0 : List Int} {x2_1 : List Int} {x2_2 : Int} {a_x1 : Option Addr} {n_x1 c_x1 : Nat} {a_x2_0 : Option Addr} {n_x2_0 c_x2_0 : Nat} {a_x2_1 : Option Addr} {n_x2_1 c_x2_1 : Nat} {p_2 : Nat} {x1' : List Int} {x2_0' : List Int} {x2_1' : List Int} {x2_2' : Int} {F : Foot} {w0 : World} (h : m_impl_touch fuel x0_0 x0_1 x0_2 x0_3 x1 x2_0 x2_1 x2_2 = some (x1', x2_0', x2_1', x2_2')) (hA : StF w0 F [OwnA (rowT x1) (.slice a_x1 n_x1 c_x1), Box p_2 [.slice a_x2_0 n_x2_0 c_x2_0, .slice a_x2_1 n_x2_1 c_x2_1, .int .i64 x2_2], OwnA (rowT x2_0) (.slice a_x2_0 n_x2_0 c_x2_0), OwnA (rowT x2_1) (.slice a_x2_1 n_x2_1 c_x2_1)]) :
    Calls Try.prog 107 #[.agg #[.int .i64 x0_0, .int .i64 x0_1, .int .i64 x0_2, .int .i64 x0_3], .slice a_x1 n_x1 c_x1, .pointer (some ⟨p_2, 0, none⟩)] w0 fun e w => e = .returned (.tuple #[]) ∧ St w0 F w [OwnA (rowT x1') (.slice a_x1 n_x1 c_x1), Box p_2 [.slice a_x2_0 n_x2_0 c_x2_0, .slice a_x2_1 n_x2_1 c_x2_1, .int .i64 x2_2'], OwnA (rowT x2_0') (.slice a_x2_0 n_x2_0 c_x2_0), OwnA (rowT x2_1') (.slice a_x2_1 n_x2_1 c_x2_1)] := by
  have HT0 := St.init hA
  obtain rfl := (HT0.rdAAt 0 rfl).neq
  obtain rfl := (HT0.rdAAt 2 rfl).neq
  obtain rfl := (HT0.rdAAt 3 rfl).neq
  have HT : St w0 F w0 [OwnA (rowT x1) (.slice a_x1 x1.length c_x1), Box p_2 [.slice a_x2_0 x2_0.length c_x2_0, .slice a_x2_1 x2_1.length c_x2_1, .int .i64 x2_2], OwnA (rowT x2_0) (.slice a_x2_0 x2_0.length c_x2_0), OwnA (rowT x2_1) (.slice a_x2_1 x2_1.length c_x2_1)] := St.init hA
  rw [m_impl_touch] at h
  refine calls_fr (n := 129) [.agg #[.int .i64 x0_0, .int .i64 x0_1, .int .i64 x0_2, .int .i64 x0_3], .slice a_x1 x1.length c_x1, .pointer (some ⟨p_2, 0, none⟩)] Try.func107 rfl rfl rfl (fun a HF => ?_)
  have HT : St w0 F w0 [OwnA (rowT x1) (.slice a_x1 x1.length c_x1), Box p_2 [.slice a_x2_0 x2_0.length c_x2_0, .slice a_x2_1 x2_1.length c_x2_1, .int .i64 x2_2], OwnA (rowT x2_0) (.slice a_x2_0 x2_0.length c_x2_0), OwnA (rowT x2_1) (.slice a_x2_1 x2_1.length c_x2_1)] := HT
  refine wp_seq ?_
  refine wc_text ?_
  refine wc_box (cs := [.int .i64 x0_0, .int .i64 x0_1, .int .i64 x0_2, .int .i64 x0_3]) HF HT rfl rfl rfl rfl (fun p1 w HT hb => ⟨nS, fun a HF => ?_⟩)
  refine wc_end ?_
  refine then_n ?_
  refine wp_seq ?_
  refine wc_text ?_
  refine wc_faddr HF nS rfl fl85_0 rfl rfl (fun a HF => ?_)
  refine wc_load HF rfl sc3 ((HT.boxAt 0 rfl).get 0 rfl) rfl rfl (fun a HF => ?_)
  refine wc_end ?_
  refine then_n ?_
  refine wp_block ?_
  refine wp_seq ?_
  refine wc_text ?_
  refine wc_bin HF nS rfl rfl b_eq rfl rfl (fun a HF => ?_)
  refine wc_assign HF nS rfl rfl rfl (fun a HF => ?_)
  refine wc_end ?_
  refine then_n ?_
  by_cases hb1 : x0_0 = 5
  have h := (if_pos hb1).symm.trans h
  refine wp_if (b' := true) HF rfl (decide_eq_true hb1) ?_
  refine wp_region_can [(0, true), (1, true), (2, true), (3, true), (4, true), (5, true), (6, true), (7, true), (8, true), (9, true), (10, true), (11, true), (12, true)] (fun w' => True) (by kernel_rfl) (by kernel_rfl) ?_
  have HT := HT.drew
  refine wc_move HF nS rfl rfl rfl (fun a HF => ?_)
  refine wc_faddr HF nS rfl fl85_1 rfl rfl (fun a HF => ?_)
  refine wc_load HF rfl sc3 ((HT.boxAt 0 rfl).get 1 rfl) rfl rfl (fun a HF => ?_)
  refine wc_move HF nS rfl rfl rfl (fun a HF => ?_)
  refine wc_nilCheck HF nS rfl rfl rfl (fun a HF => ?_)
  refine wc_faddr HF nS rfl fl27_0 rfl rfl (fun a HF => ?_)
  refine wc_load HF rfl sc22 ((HT.boxAt 2 rfl).get 0 rfl) rfl rfl (fun a HF => ?_)
  refine wc_faddr HF nS rfl fl85_2 rfl rfl (fun a HF => ?_)
  refine wc_load HF rfl sc3 ((HT.boxAt 0 rfl).get 2 rfl) rfl rfl (fun a HF => ?_)
  obtain ⟨e1, hx1, h⟩ := obs h
  obtain ⟨b1, o1, ha1⟩ := (HT.rdAAt 3 rfl).addr hx1
  refine wc_ixaddr HF nS el22 rfl ha1 ((HT.rdAAt 3 rfl)).neq rfl hx1 rfl rfl (fun a HF => ?_)
  have hc1 := (HT.rdAAt 3 rfl).flatAt ha1 hx1
  refine wc_load HF rfl sc3 (hc1.get 0 rfl) rfl rfl (fun a HF => ?_)
  obtain ⟨e2, hx2, h⟩ := obs h
  obtain ⟨b2, o2, ha2⟩ := (HT.rdAAt 1 rfl).addr hx2
  refine wc_ixaddr HF nS el22 rfl ha2 ((HT.rdAAt 1 rfl)).neq rfl hx2 rfl rfl (fun a HF => ?_)
  have HT := HT.p1
  refine wc_storeRA (i := x0_1) (j := 0) (x' := e1) HF HT ha2 rfl rfl (fun w => (sc3 w).2) rfl rfl hx2 rfl rfl rfl rfl (fun w HT => ⟨nS, ?_⟩)
  refine wc_endN ?_
  refine blk_n ?_
  have hj1 := Option.some.inj h
  obtain ⟨hi1, hj2⟩ := Prod.mk.inj hj1
  subst hi1
  obtain ⟨hi2, hj3⟩ := Prod.mk.inj hj2
  subst hi2
  obtain ⟨hi3, hj4⟩ := Prod.mk.inj hj3
  subst hi3
  subst hj4
  refine bp_end HF (results_none rfl _ _ _) ?_
  have HT := HT.p4.p4.p4.p3.t4
  exact ⟨rfl, HT⟩
  have h := (if_neg hb1).symm.trans h
  refine wp_if (b' := false) HF rfl (decide_eq_false hb1) ?_
  refine wp_seq ?_
  refine wc_text ?_
  refine wc_bin HF nS rfl rfl b_eq rfl rfl (fun a HF => ?_)
  refine wc_assign HF nS rfl rfl rfl (fun a HF => ?_)
  refine wc_end ?_
  refine then_n ?_
  by_cases hb2 : x0_0 = 6
  have h := (if_pos hb2).symm.trans h
  refine wp_if (b' := true) HF rfl (decide_eq_true hb2) ?_
  refine wp_region_can [(0, true), (1, true), (2, true), (3, true), (4, true), (5, true), (6, true), (7, true), (8, true), (9, true), (10, true), (11, true), (12, true)] (fun w' => True) (by kernel_rfl) (by kernel_rfl) ?_
  have HT := HT.drew
  refine wc_move HF nS rfl rfl rfl (fun a HF => ?_)
  refine wc_nilCheck HF nS rfl rfl rfl (fun a HF => ?_)
  refine wc_faddr HF nS rfl fl27_0 rfl rfl (fun a HF => ?_)
  refine wc_load HF rfl sc22 ((HT.boxAt 2 rfl).get 0 rfl) rfl rfl (fun a HF => ?_)
  refine wc_faddr HF nS rfl fl85_1 rfl rfl (fun a HF => ?_)
  refine wc_load HF rfl sc3 ((HT.boxAt 0 rfl).get 1 rfl) rfl rfl (fun a HF => ?_)
  refine wc_move HF nS rfl rfl rfl (fun a HF => ?_)
  refine wc_faddr HF nS rfl fl85_2 rfl rfl (fun a HF => ?_)
  refine wc_load HF rfl sc3 ((HT.boxAt 0 rfl).get 2 rfl) rfl rfl (fun a HF => ?_)
  obtain ⟨e3, hx3, h⟩ := obs h
  obtain ⟨b3, o3, ha3⟩ := (HT.rdAAt 1 rfl).addr hx3
  refine wc_ixaddr HF nS el22 rfl ha3 ((HT.rdAAt 1 rfl)).neq rfl hx3 rfl rfl (fun a HF => ?_)
  have hc2 := (HT.rdAAt 1 rfl).flatAt ha3 hx3
  refine wc_load HF rfl sc3 (hc2.get 0 rfl) rfl rfl (fun a HF => ?_)
  obtain ⟨e4, hx4, h⟩ := obs h
  obtain ⟨b4, o4, ha4⟩ := (HT.rdAAt 3 rfl).addr hx4
  refine wc_ixaddr HF nS el22 rfl ha4 ((HT.rdAAt 3 rfl)).neq rfl hx4 rfl rfl (fun a HF => ?_)
  have HT := HT.p3
  refine wc_storeRA (i := x0_1) (j := 0) (x' := e3) HF HT ha4 rfl rfl (fun w => (sc3 w).2) rfl rfl hx4 rfl rfl rfl rfl (fun w HT => ⟨nS, ?_⟩)
  refine wc_endN ?_
  refine blk_n ?_
  have hj5 := Option.some.inj h
  obtain ⟨hi5, hj6⟩ := Prod.mk.inj hj5
  subst hi5
  obtain ⟨hi6, hj7⟩ := Prod.mk.inj hj6
  subst hi6
  obtain ⟨hi7, hj8⟩ := Prod.mk.inj hj7
  subst hi7
  subst hj8
  refine bp_end HF (results_none rfl _ _ _) ?_
  have HT := HT.p4.p1.p4.p4.t4
  exact ⟨rfl, HT⟩
  have h := (if_neg hb2).symm.trans h
  refine wp_if (b' := false) HF rfl (decide_eq_false hb2) ?_
  refine wp_seq ?_
  refine wc_text ?_
  refine wc_bin HF nS rfl rfl b_eq rfl rfl (fun a HF => ?_)
  refine wc_assign HF nS rfl rfl rfl (fun a HF => ?_)
  refine wc_end ?_
  refine then_n ?_
  by_cases hb3 : x0_0 = 12
  have h := (if_pos hb3).symm.trans h
  refine wp_if (b' := true) HF rfl (decide_eq_true hb3) ?_
  refine wp_seq ?_
  refine wp_region_can [(0, true), (1, true), (2, true), (3, true), (4, true), (5, true), (6, true), (7, true), (8, true)] (fun w' => True) (by kernel_rfl) (by kernel_rfl) ?_
  have HT := HT.drew
  refine wc_move HF nS rfl rfl rfl (fun a HF => ?_)
  refine wc_nilCheck HF nS rfl rfl rfl (fun a HF => ?_)
  refine wc_faddr HF nS rfl fl27_1 rfl rfl (fun a HF => ?_)
  refine wc_load HF rfl sc22 ((HT.boxAt 2 rfl).get 1 rfl) rfl rfl (fun a HF => ?_)
  refine wc_faddr HF nS rfl fl85_1 rfl rfl (fun a HF => ?_)
  refine wc_load HF rfl sc3 ((HT.boxAt 0 rfl).get 1 rfl) rfl rfl (fun a HF => ?_)
  obtain ⟨e5, hx5, h⟩ := obs h
  obtain ⟨b5, o5, ha5⟩ := (HT.rdAAt 4 rfl).addr hx5
  refine wc_ixaddr HF nS el22 rfl ha5 ((HT.rdAAt 4 rfl)).neq rfl hx5 rfl rfl (fun a HF => ?_)
  have hc3 := (HT.rdAAt 4 rfl).flatAt ha5 hx5
  refine wc_load HF rfl sc3 (hc3.get 0 rfl) rfl rfl (fun a HF => ?_)
  refine wc_assign HF nS rfl rfl rfl (fun a HF => ?_)
  refine wc_endN ?_
  refine then_n ?_
  refine wp_seq ?_
  refine wp_region_can [(0, true), (1, true), (2, true), (3, true), (4, true), (5, true), (6, true), (7, true), (8, true), (9, true), (10, true), (11, true), (12, true), (13, true)] (fun w' => True) (by kernel_rfl) (by kernel_rfl) ?_
  have HT := HT.drew
  refine wc_move HF nS rfl rfl rfl (fun a HF => ?_)
  refine wc_nilCheck HF nS rfl rfl rfl (fun a HF => ?_)
  refine wc_faddr HF nS rfl fl27_1 rfl rfl (fun a HF => ?_)
  refine wc_load HF rfl sc22 ((HT.boxAt 2 rfl).get 1 rfl) rfl rfl (fun a HF => ?_)
  refine wc_faddr HF nS rfl fl85_1 rfl rfl (fun a HF => ?_)
  refine wc_load HF rfl sc3 ((HT.boxAt 0 rfl).get 1 rfl) rfl rfl (fun a HF => ?_)
  refine wc_move HF nS rfl rfl rfl (fun a HF => ?_)
  refine wc_faddr HF nS rfl fl85_2 rfl rfl (fun a HF => ?_)
  refine wc_load HF rfl sc3 ((HT.boxAt 0 rfl).get 2 rfl) rfl rfl (fun a HF => ?_)
  obtain ⟨e6, hx6, h⟩ := obs h
  obtain ⟨b6, o6, ha6⟩ := (HT.rdAAt 1 rfl).addr hx6
  refine wc_ixaddr HF nS el22 rfl ha6 ((HT.rdAAt 1 rfl)).neq rfl hx6 rfl rfl (fun a HF => ?_)
  have hc4 := (HT.rdAAt 1 rfl).flatAt ha6 hx6
  refine wc_load HF rfl sc3 (hc4.get 0 rfl) rfl rfl (fun a HF => ?_)
  obtain ⟨hg1, h⟩ := grd h
  refine wc_bin HF nS rfl rfl (b_add hg1) rfl rfl (fun a HF => ?_)
  refine wc_ixaddr HF nS el22 rfl ha5 ((HT.rdAAt 4 rfl)).neq rfl hx5 rfl rfl (fun a HF => ?_)
  have HT := HT.p4
  refine wc_storeRA (i := x0_1) (j := 0) (x' := e6 + 1) HF HT ha5 rfl rfl (fun w => (sc3 w).2) rfl rfl hx5 rfl rfl rfl rfl (fun w HT => ⟨nS, ?_⟩)
  refine wc_endN ?_
  refine then_n ?_
  refine wc_text ?_
  refine wc_move HF nS rfl rfl rfl (fun a HF => ?_)
  refine wc_faddr HF nS rfl fl85_3 rfl rfl (fun a HF => ?_)
  refine wc_load HF rfl sc3 ((HT.boxAt 1 rfl).get 3 rfl) rfl rfl (fun a HF => ?_)
  refine wc_move HF nS rfl rfl rfl (fun a HF => ?_)
  obtain ⟨hg2, h⟩ := grd h
  refine wc_bin HF nS rfl rfl (b_rem hg2) rfl rfl (fun a HF => ?_)
  obtain ⟨e7, hx7, h⟩ := obs h
  refine wc_ixaddr HF nS el22 rfl ha6 ((HT.rdAAt 2 rfl)).neq rfl hx7 rfl rfl (fun a HF => ?_)
  have HT := HT.p2
  refine wc_storeRA (i := x0_3) (j := 0) (x' := e5.tmod 65536) HF HT ha6 rfl rfl (fun w => (sc3 w).2) rfl rfl hx7 rfl rfl rfl rfl (fun w HT => ⟨nS, ?_⟩)
  refine wc_end ?_
  refine blk_n ?_
  have hj9 := Option.some.inj h
  obtain ⟨hi9, hj10⟩ := Prod.mk.inj hj9
  subst hi9
  obtain ⟨hi10, hj11⟩ := Prod.mk.inj hj10
  subst hi10
  obtain ⟨hi11, hj12⟩ := Prod.mk.inj hj11
  subst hi11
  subst hj12
  refine bp_end HF (results_none rfl _ _ _) ?_
  have HT := HT.p1.p4.p4.p3.t4
  exact ⟨rfl, HT⟩
  have h := (if_neg hb3).symm.trans h
  refine wp_if (b' := false) HF rfl (decide_eq_false hb3) ?_
  refine wp_seq ?_
  refine wc_text ?_
  refine wc_bin HF nS rfl rfl b_eq rfl rfl (fun a HF => ?_)
  refine wc_assign HF nS rfl rfl rfl (fun a HF => ?_)
  refine wc_end ?_
  refine then_n ?_
  by_cases hb4 : x0_0 = 13
  have h := (if_pos hb4).symm.trans h
  refine wp_if (b' := true) HF rfl (decide_eq_true hb4) ?_
  refine wp_region_can [(0, true), (1, true), (2, true), (3, true), (4, true), (5, true), (6, true), (7, true), (8, true), (9, true), (10, true), (11, true), (12, true), (13, true)] (fun w' => True) (by kernel_rfl) (by kernel_rfl) ?_
  have HT := HT.drew
  refine wc_move HF nS rfl rfl rfl (fun a HF => ?_)
  refine wc_faddr HF nS rfl fl85_1 rfl rfl (fun a HF => ?_)
  refine wc_load HF rfl sc3 ((HT.boxAt 0 rfl).get 1 rfl) rfl rfl (fun a HF => ?_)
  refine wc_move HF nS rfl rfl rfl (fun a HF => ?_)
  refine wc_nilCheck HF nS rfl rfl rfl (fun a HF => ?_)
  refine wc_faddr HF nS rfl fl27_1 rfl rfl (fun a HF => ?_)
  refine wc_load HF rfl sc22 ((HT.boxAt 2 rfl).get 1 rfl) rfl rfl (fun a HF => ?_)
  refine wc_faddr HF nS rfl fl85_2 rfl rfl (fun a HF => ?_)
  refine wc_load HF rfl sc3 ((HT.boxAt 0 rfl).get 2 rfl) rfl rfl (fun a HF => ?_)
  obtain ⟨e8, hx8, h⟩ := obs h
  obtain ⟨b7, o7, ha7⟩ := (HT.rdAAt 4 rfl).addr hx8
  refine wc_ixaddr HF nS el22 rfl ha7 ((HT.rdAAt 4 rfl)).neq rfl hx8 rfl rfl (fun a HF => ?_)
  have hc5 := (HT.rdAAt 4 rfl).flatAt ha7 hx8
  refine wc_load HF rfl sc3 (hc5.get 0 rfl) rfl rfl (fun a HF => ?_)
  obtain ⟨hg3, h⟩ := grd h
  refine wc_bin HF nS rfl rfl (b_rem hg3) rfl rfl (fun a HF => ?_)
  obtain ⟨e9, hx9, h⟩ := obs h
  obtain ⟨b8, o8, ha8⟩ := (HT.rdAAt 1 rfl).addr hx9
  refine wc_ixaddr HF nS el22 rfl ha8 ((HT.rdAAt 1 rfl)).neq rfl hx9 rfl rfl (fun a HF => ?_)
  have HT := HT.p1
  refine wc_storeRA (i := x0_1) (j := 0) (x' := e8.tmod 65536) HF HT ha8 rfl rfl (fun w => (sc3 w).2) rfl rfl hx9 rfl rfl rfl rfl (fun w HT => ⟨nS, ?_⟩)
  refine wc_endN ?_
  refine blk_n ?_
  have hj13 := Option.some.inj h
  obtain ⟨hi13, hj14⟩ := Prod.mk.inj hj13
  subst hi13
  obtain ⟨hi14, hj15⟩ := Prod.mk.inj hj14
  subst hi14
  obtain ⟨hi15, hj16⟩ := Prod.mk.inj hj15
  subst hi15
  subst hj16
  refine bp_end HF (results_none rfl _ _ _) ?_
  have HT := HT.p4.p4.p4.p3.t4
  exact ⟨rfl, HT⟩
  have h := (if_neg hb4).symm.trans h
  refine wp_if (b' := false) HF rfl (decide_eq_false hb4) ?_
  refine wp_seq ?_
  refine wc_text ?_
  refine wc_bin HF nS rfl rfl b_eq rfl rfl (fun a HF => ?_)
  refine wc_assign HF nS rfl rfl rfl (fun a HF => ?_)
  refine wc_end ?_
  refine then_n ?_
  by_cases hb5 : x0_0 = 14
  have h := (if_pos hb5).symm.trans h
  refine wp_if (b' := true) HF rfl (decide_eq_true hb5) ?_
  refine wp_seq ?_
  refine wp_region_can [(0, true), (1, true), (2, true), (3, true), (4, true), (5, true), (6, true), (7, true), (8, true), (9, true), (10, true), (11, true), (12, true), (13, true)] (fun w' => True) (by kernel_rfl) (by kernel_rfl) ?_
  have HT := HT.drew
  refine wc_move HF nS rfl rfl rfl (fun a HF => ?_)
  refine wc_faddr HF nS rfl fl85_2 rfl rfl (fun a HF => ?_)
  refine wc_load HF rfl sc3 ((HT.boxAt 0 rfl).get 2 rfl) rfl rfl (fun a HF => ?_)
  refine wc_move HF nS rfl rfl rfl (fun a HF => ?_)
  refine wc_nilCheck HF nS rfl rfl rfl (fun a HF => ?_)
  refine wc_faddr HF nS rfl fl27_1 rfl rfl (fun a HF => ?_)
  refine wc_load HF rfl sc22 ((HT.boxAt 2 rfl).get 1 rfl) rfl rfl (fun a HF => ?_)
  refine wc_faddr HF nS rfl fl85_1 rfl rfl (fun a HF => ?_)
  refine wc_load HF rfl sc3 ((HT.boxAt 0 rfl).get 1 rfl) rfl rfl (fun a HF => ?_)
  obtain ⟨e10, hx10, h⟩ := obs h
  obtain ⟨b9, o9, ha9⟩ := (HT.rdAAt 4 rfl).addr hx10
  refine wc_ixaddr HF nS el22 rfl ha9 ((HT.rdAAt 4 rfl)).neq rfl hx10 rfl rfl (fun a HF => ?_)
  have hc6 := (HT.rdAAt 4 rfl).flatAt ha9 hx10
  refine wc_load HF rfl sc3 (hc6.get 0 rfl) rfl rfl (fun a HF => ?_)
  obtain ⟨hg4, h⟩ := grd h
  refine wc_bin HF nS rfl rfl (b_rem hg4) rfl rfl (fun a HF => ?_)
  obtain ⟨e11, hx11, h⟩ := obs h
  obtain ⟨b10, o10, ha10⟩ := (HT.rdAAt 1 rfl).addr hx11
  refine wc_ixaddr HF nS el22 rfl ha10 ((HT.rdAAt 1 rfl)).neq rfl hx11 rfl rfl (fun a HF => ?_)
  have HT := HT.p1
  refine wc_storeRA (i := x0_2) (j := 0) (x' := e10.tmod 65536) HF HT ha10 rfl rfl (fun w => (sc3 w).2) rfl rfl hx11 rfl rfl rfl rfl (fun w HT => ⟨nS, ?_⟩)
  refine wc_endN ?_
  refine then_n ?_
  refine wp_region_can [(0, true), (1, true), (2, true), (3, true), (4, true), (5, true), (6, true), (7, true)] (fun w' => True) (by kernel_rfl) (by kernel_rfl) ?_
  have HT := HT.drew
  refine wc_move HF nS rfl rfl rfl (fun a HF => ?_)
  refine wc_nilCheck HF nS rfl rfl rfl (fun a HF => ?_)
  refine wc_faddr HF nS rfl fl27_1 rfl rfl (fun a HF => ?_)
  refine wc_load HF rfl sc22 ((HT.boxAt 2 rfl).get 1 rfl) rfl rfl (fun a HF => ?_)
  refine wc_faddr HF nS rfl fl85_1 rfl rfl (fun a HF => ?_)
  refine wc_load HF rfl sc3 ((HT.boxAt 1 rfl).get 1 rfl) rfl rfl (fun a HF => ?_)
  refine wc_ixaddr HF nS el22 rfl ha9 ((HT.rdAAt 4 rfl)).neq rfl hx10 rfl rfl (fun a HF => ?_)
  have HT := HT.p4
  refine wc_storeRA (i := x0_1) (j := 0) (x' := 0) HF HT ha9 rfl rfl (fun w => (sc3 w).2) rfl rfl hx10 rfl rfl rfl rfl (fun w HT => ⟨nS, ?_⟩)
  refine wc_endN ?_
  refine blk_n ?_
  have hj17 := Option.some.inj h
  obtain ⟨hi17, hj18⟩ := Prod.mk.inj hj17
  subst hi17
  obtain ⟨hi18, hj19⟩ := Prod.mk.inj hj18
  subst hi18
  obtain ⟨hi19, hj20⟩ := Prod.mk.inj hj19
  subst hi19
  subst hj20
  refine bp_end HF (results_none rfl _ _ _) ?_
  have HT := HT.p4.p4.p3.t4
  exact ⟨rfl, HT⟩
  have h := (if_neg hb5).symm.trans h
  refine wp_if (b' := false) HF rfl (decide_eq_false hb5) ?_
  refine wp_seq ?_
  refine wc_text ?_
  refine wc_bin HF nS rfl rfl b_eq rfl rfl (fun a HF => ?_)
  refine wc_assign HF nS rfl rfl rfl (fun a HF => ?_)
  refine wc_end ?_
  refine then_n ?_
  by_cases hb6 : x0_0 = 15
  have h := (if_pos hb6).symm.trans h
  refine wp_if (b' := true) HF rfl (decide_eq_true hb6) ?_
  refine wp_region_can [(0, true), (1, true), (2, true), (3, true), (4, true), (5, true), (6, true), (7, true), (8, true), (9, true), (10, true), (11, true), (12, true), (13, true), (14, true)] (fun w' => True) (by kernel_rfl) (by kernel_rfl) ?_
  have HT := HT.drew
  refine wc_move HF nS rfl rfl rfl (fun a HF => ?_)
  refine wc_move HF nS rfl rfl rfl (fun a HF => ?_)
  refine wc_nilCheck HF nS rfl rfl rfl (fun a HF => ?_)
  refine wc_faddr HF nS rfl fl27_2 rfl rfl (fun a HF => ?_)
  refine wc_load HF rfl sc3 ((HT.boxAt 2 rfl).get 2 rfl) rfl rfl (fun a HF => ?_)
  refine wc_move HF nS rfl rfl rfl (fun a HF => ?_)
  refine wc_faddr HF nS rfl fl85_1 rfl rfl (fun a HF => ?_)
  refine wc_load HF rfl sc3 ((HT.boxAt 0 rfl).get 1 rfl) rfl rfl (fun a HF => ?_)
  obtain ⟨e12, hx12, h⟩ := obs h
  obtain ⟨b11, o11, ha11⟩ := (HT.rdAAt 1 rfl).addr hx12
  refine wc_ixaddr HF nS el22 rfl ha11 ((HT.rdAAt 1 rfl)).neq rfl hx12 rfl rfl (fun a HF => ?_)
  have hc7 := (HT.rdAAt 1 rfl).flatAt ha11 hx12
  refine wc_load HF rfl sc3 (hc7.get 0 rfl) rfl rfl (fun a HF => ?_)
  obtain ⟨hg5, h⟩ := grd h
  refine wc_bin HF nS rfl rfl (b_add hg5) rfl rfl (fun a HF => ?_)
  obtain ⟨hg6, h⟩ := grd h
  refine wc_bin HF nS rfl rfl (b_rem hg6) rfl rfl (fun a HF => ?_)
  refine wc_nilCheck HF nS rfl rfl rfl (fun a HF => ?_)
  refine wc_faddr HF nS rfl fl27_2 rfl rfl (fun a HF => ?_)
  have HT := HT.p2
  refine wc_storeB (cs' := [.slice a_x2_0 x2_0.length c_x2_0, .slice a_x2_1 x2_1.length c_x2_1, .int .i64 ((x2_2 + e12).tmod 65536)]) HF HT rfl rfl (fun w => (sc3 w).2) rfl rfl rfl rfl rfl (fun w HT => ⟨nS, ?_⟩)
  refine wc_endN ?_
  refine blk_n ?_
  have hj21 := Option.some.inj h
  obtain ⟨hi21, hj22⟩ := Prod.mk.inj hj21
  subst hi21
  obtain ⟨hi22, hj23⟩ := Prod.mk.inj hj22
  subst hi22
  obtain ⟨hi23, hj24⟩ := Prod.mk.inj hj23
  subst hi23
  subst hj24
  refine bp_end HF (results_none rfl _ _ _) ?_
  have HT := HT.p4.p4.p2.p4.t4
  exact ⟨rfl, HT⟩
  have h := (if_neg hb6).symm.trans h
  refine wp_if (b' := false) HF rfl (decide_eq_false hb6) ?_
  refine wp_seq ?_
  refine wc_text ?_
  refine wc_bin HF nS rfl rfl b_eq rfl rfl (fun a HF => ?_)
  refine wc_assign HF nS rfl rfl rfl (fun a HF => ?_)
  refine wc_end ?_
  refine then_n ?_
  by_cases hb7 : x0_0 = 16
  have h := (if_pos hb7).symm.trans h
  refine wp_if (b' := true) HF rfl (decide_eq_true hb7) ?_
  refine wp_region_can [(0, true), (1, true), (2, true), (3, true), (4, true), (5, true), (6, true), (7, true), (8, true)] (fun w' => True) (by kernel_rfl) (by kernel_rfl) ?_
  have HT := HT.drew
  refine wc_move HF nS rfl rfl rfl (fun a HF => ?_)
  refine wc_faddr HF nS rfl fl85_1 rfl rfl (fun a HF => ?_)
  refine wc_load HF rfl sc3 ((HT.boxAt 0 rfl).get 1 rfl) rfl rfl (fun a HF => ?_)
  refine wc_move HF nS rfl rfl rfl (fun a HF => ?_)
  refine wc_nilCheck HF nS rfl rfl rfl (fun a HF => ?_)
  refine wc_faddr HF nS rfl fl27_2 rfl rfl (fun a HF => ?_)
  refine wc_load HF rfl sc3 ((HT.boxAt 2 rfl).get 2 rfl) rfl rfl (fun a HF => ?_)
  obtain ⟨e13, hx13, h⟩ := obs h
  obtain ⟨b12, o12, ha12⟩ := (HT.rdAAt 1 rfl).addr hx13
  refine wc_ixaddr HF nS el22 rfl ha12 ((HT.rdAAt 1 rfl)).neq rfl hx13 rfl rfl (fun a HF => ?_)
  have HT := HT.p1
  refine wc_storeRA (i := x0_1) (j := 0) (x' := x2_2) HF HT ha12 rfl rfl (fun w => (sc3 w).2) rfl rfl hx13 rfl rfl rfl rfl (fun w HT => ⟨nS, ?_⟩)
  refine wc_endN ?_
  refine blk_n ?_
  have hj25 := Option.some.inj h
  obtain ⟨hi25, hj26⟩ := Prod.mk.inj hj25
  subst hi25
  obtain ⟨hi26, hj27⟩ := Prod.mk.inj hj26
  subst hi26
  obtain ⟨hi27, hj28⟩ := Prod.mk.inj hj27
  subst hi27
  subst hj28
  refine bp_end HF (results_none rfl _ _ _) ?_
  have HT := HT.p4.p4.p4.p3.t4
  exact ⟨rfl, HT⟩
  have h := (if_neg hb7).symm.trans h
  refine wp_if (b' := false) HF rfl (decide_eq_false hb7) ?_
  refine wp_skip ?_
  refine blk_n ?_
  have hj29 := Option.some.inj h
  obtain ⟨hi29, hj30⟩ := Prod.mk.inj hj29
  subst hi29
  obtain ⟨hi30, hj31⟩ := Prod.mk.inj hj30
  subst hi30
  obtain ⟨hi31, hj32⟩ := Prod.mk.inj hj31
  subst hi31
  subst hj32
  refine bp_end HF (results_none rfl _ _ _) ?_
  have HT := HT.p4.p4.p4.p4.t4
  exact ⟨rfl, HT⟩
end Go.Proofs.Ytknghnmcckjjbaa
