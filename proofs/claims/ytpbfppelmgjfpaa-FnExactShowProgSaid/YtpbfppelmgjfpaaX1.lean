/- Walks of functions, by program: impl.opens, impl.DepthAt, impl.within, impl.isCell, impl.isKey, impl.isReg, impl.isValue, impl.OpOk, impl.isBalanced, impl.CodeOk, impl.Dec, impl.fieldsOf, impl.mnemonic, impl.ShowOp, impl.ShowCode, laws.eqOp, laws.eqOpS, laws.szOpS, laws.toOp, laws.toOpS, spec.l1In, spec.l3Cell, spec.l3Val, spec.l4Reg. -/
import Derived.Test.YtpbfppelmgjfpaaTy
namespace Go.Proofs.Ytpbfppelmgjfpaa
open Go Go.RowKit
set_option linter.unusedVariables false
set_option linter.unusedSimpArgs false
def m_impl_opens (fuel : Nat) (x0_0 : Int) (x0_1 : Int) (x0_2 : Int) (x0_3 : Int) : Option Int :=
  if x0_0 = 8 then
    some 1
  else
    if x0_0 = 9 then
      some (-1)
    else
      some 0

set_option maxRecDepth 100000 in
set_option maxHeartbeats 4000000 in
theorem w_impl_opens (fuel : Nat) {x0_0 : Int} {x0_1 : Int} {x0_2 : Int} {x0_3 : Int} {r0 : Int} {w0 : World} (h : m_impl_opens fuel x0_0 x0_1 x0_2 x0_3 = some r0) :
    Calls Try.prog 99 #[.agg #[.int .i64 x0_0, .int .i64 x0_1, .int .i64 x0_2, .int .i64 x0_3]] w0 fun e w => e = .returned (.int .i64 r0) ∧ St w0 (fun _ => False) w [] := by
  have HT : St w0 (fun _ => False) w0 [] := St.init0
  rw [m_impl_opens] at h
  refine calls_fr (n := 9) [.agg #[.int .i64 x0_0, .int .i64 x0_1, .int .i64 x0_2, .int .i64 x0_3]] Try.func99 rfl rfl rfl (fun a HF => ?_)
  have HT : St w0 (fun _ => False) w0 [] := HT
  refine wp_seq ?_
  refine wc_text ?_
  refine wc_box (cs := [.int .i64 x0_0, .int .i64 x0_1, .int .i64 x0_2, .int .i64 x0_3]) HF HT rfl rfl rfl rfl (fun p1 w HT hb => ⟨nS, fun a HF => ?_⟩)
  refine wc_assign HF nS rfl rfl rfl (fun a HF => ?_)
  refine wc_end ?_
  refine then_n ?_
  refine wp_seq ?_
  refine wp_seq ?_
  refine wc_text ?_
  refine wc_faddr HF nS rfl fl25_0 rfl rfl (fun a HF => ?_)
  refine wc_load HF rfl sc3 ((HT.boxAt 0 rfl).get 0 rfl) rfl rfl (fun a HF => ?_)
  refine wc_end ?_
  refine then_n ?_
  refine wp_block ?_
  refine wp_seq ?_
  refine wc_text ?_
  refine wc_bin HF nS rfl rfl b_eq rfl rfl (fun a HF => ?_)
  refine wc_assign HF nS rfl rfl rfl (fun a HF => ?_)
  refine wc_end ?_
  refine then_n ?_
  by_cases hb1 : x0_0 = 8
  · have h := (if_pos hb1).symm.trans h
    refine wp_if (b' := true) HF rfl (decide_eq_true hb1) ?_
    refine wp_seq ?_
    refine wc_text ?_
    refine wc_assign HF nS rfl rfl rfl (fun a HF => ?_)
    refine wc_end ?_
    refine then_n ?_
    refine wp_ret ?_
    obtain rfl := Option.some.inj h
    refine blk_r (then_r (?_))
    refine bp_ret HF (res_one rfl HF rfl) ?_
    have HT : St w0 (fun _ => False) w [] := HT.take 0
    exact ⟨rfl, HT⟩
  · have h := (if_neg hb1).symm.trans h
    refine wp_if (b' := false) HF rfl (decide_eq_false hb1) ?_
    refine wp_seq ?_
    refine wc_text ?_
    refine wc_bin HF nS rfl rfl b_eq rfl rfl (fun a HF => ?_)
    refine wc_assign HF nS rfl rfl rfl (fun a HF => ?_)
    refine wc_end ?_
    refine then_n ?_
    by_cases hb2 : x0_0 = 9
    · have h := (if_pos hb2).symm.trans h
      refine wp_if (b' := true) HF rfl (decide_eq_true hb2) ?_
      refine wp_seq ?_
      refine wc_text ?_
      refine wc_assign HF nS rfl rfl rfl (fun a HF => ?_)
      refine wc_end ?_
      refine then_n ?_
      refine wp_ret ?_
      obtain rfl := Option.some.inj h
      refine blk_r (then_r (?_))
      refine bp_ret HF (res_one rfl HF rfl) ?_
      have HT : St w0 (fun _ => False) w [] := HT.take 0
      exact ⟨rfl, HT⟩
    · have h := (if_neg hb2).symm.trans h
      refine wp_if (b' := false) HF rfl (decide_eq_false hb2) ?_
      refine wp_skip ?_
      refine blk_n ?_
      refine then_n ?_
      refine wp_seq ?_
      refine wc_text ?_
      refine wc_assign HF nS rfl rfl rfl (fun a HF => ?_)
      refine wc_end ?_
      refine then_n ?_
      refine wp_ret ?_
      obtain rfl := Option.some.inj h
      refine bp_ret HF (res_one rfl HF rfl) ?_
      have HT : St w0 (fun _ => False) w [] := HT.take 0
      exact ⟨rfl, HT⟩

def m_impl_DepthAt_L0 (fuel : Nat) (x0 : List I4) (x1 : Int) : Nat → Int → Int → Option Int
  | 0, _, _ => none
  | k1 + 1, z2, z3 =>
    if z3 < (x0.length : Int) then
      (
        (at? x0 z3).bind fun e1 =>
        if z3 < x1 then
          (m_impl_opens fuel e1.a e1.b e1.c e1.d).bind fun y1 =>
          if in64 (z2 + y1) then
            some (z2 + y1)
          else none
        else
          some z2).bind fun z4 =>
      if in64 (z3 + 1) then
        m_impl_DepthAt_L0 fuel x0 x1 k1 z4 (z3 + 1)
      else none
    else
      some z2

def m_impl_DepthAt (fuel : Nat) (x0 : List I4) (x1 : Int) : Option Int :=
  (m_impl_DepthAt_L0 fuel x0 x1 fuel 0 0).bind fun z1 =>
  some z1

set_option maxRecDepth 100000 in
set_option maxHeartbeats 4000000 in
theorem w_impl_DepthAt (fuel : Nat) {x0 : List I4} {x1 : Int} {a_x0 : Option Addr} {n_x0 c_x0 : Nat} {r0 : Int} {w0 : World} (h : m_impl_DepthAt fuel x0 x1 = some r0) (hr_x0 : RdT (fun b => ¬ False) w0 (rowT x0) (.slice a_x0 n_x0 c_x0)) :
    Calls Try.prog 84 #[.slice a_x0 n_x0 c_x0, .int .i64 x1] w0 fun e w => e = .returned (.int .i64 r0) ∧ St w0 (fun _ => False) w [] := by
  obtain rfl := hr_x0.neq
  have HT : St w0 (fun _ => False) w0 [] := St.init0
  rw [m_impl_DepthAt] at h
  refine calls_fr (n := 24) [.slice a_x0 x0.length c_x0, .int .i64 x1] Try.func84 rfl rfl rfl (fun a HF => ?_)
  have HT : St w0 (fun _ => False) w0 [] := HT
  refine wp_seq ?_
  refine wc_text ?_
  refine wc_assign HF nS rfl rfl rfl (fun a HF => ?_)
  refine wc_end ?_
  refine then_n ?_
  refine wp_seq ?_
  refine wc_text ?_
  refine wc_assign HF nS rfl rfl rfl (fun a HF => ?_)
  refine wc_end ?_
  refine then_n ?_
  obtain ⟨z1, hx1, h⟩ := obs h
  refine wp_cut (fun a w => Fr a 24 [(5, .int .i64 z1)] ∧ St w0 (fun _ => False) w []) ?_ ?_
  · have hk1 := h
    have h := hx1
    refine wp_seq ?_
    refine wc_text ?_
    refine wc_move HF nS rfl rfl rfl (fun a HF => ?_)
    refine wc_lenR HF nS Try.underlying35 rfl rfl rfl (fun a HF => ?_)
    refine wc_move HF nS rfl rfl rfl (fun a HF => ?_)
    refine wc_end ?_
    refine then_n ?_
    refine wp_block ?_
    refine wp_loopN (fun k1 a w => ∃ z2 z3, m_impl_DepthAt_L0 fuel x0 x1 k1 z2 z3 = some z1 ∧ Fr a 24 [(1, .int .i64 x1), (5, .int .i64 z2), (8, .slice a_x0 x0.length c_x0), (9, .int .i64 (x0.length : Int)), (10, .int .i64 z3)] ∧ St w0 (fun _ => False) w []) fuel ⟨0, 0, h, (HF.keep (HF.keep (HF.keep (HF.keep (HF.keep HF.nil rfl) rfl) rfl) rfl) rfl), HT⟩ ?_
    rintro k1 a w ⟨z2, z3, h, HF, HT⟩
    cases k1 with
    | zero => cases h
    | succ k1 =>
      rw [m_impl_DepthAt_L0] at h
      refine ?_
      refine wp_seq ?_
      refine wc_text ?_
      refine wc_bin HF nS rfl rfl b_lt rfl rfl (fun a HF => ?_)
      refine wc_end ?_
      refine then_n ?_
      refine wp_seq ?_
      by_cases hb1 : z3 < (x0.length : Int)
      · have h := (if_pos hb1).symm.trans h
        refine wp_if (b' := true) HF rfl (decide_eq_true hb1) ?_
        refine wp_skip ?_
        refine then_n ?_
        obtain ⟨z4, hx2, h⟩ := obs h
        refine wp_cut (fun a w => Fr a 24 [(1, .int .i64 x1), (5, .int .i64 z4), (8, .slice a_x0 x0.length c_x0), (9, .int .i64 (x0.length : Int)), (10, .int .i64 z3)] ∧ St w0 (fun _ => False) w []) ?_ ?_
        · have hk2 := h
          have h := hx2
          refine wp_block ?_
          refine wp_seq ?_
          refine wc_text ?_
          refine wc_move HF nS rfl rfl rfl (fun a HF => ?_)
          obtain ⟨e1, hx3, h⟩ := obs h
          obtain ⟨b1, o1, ha1⟩ := (HT.ro hr_x0).any.addr hx3
          refine wc_ixaddr HF nS el35 rfl ha1 ((HT.ro hr_x0).any).neq rfl hx3 rfl rfl (fun a HF => ?_)
          have hc1 := (HT.ro hr_x0).any.flatAt ha1 hx3
          refine wc_loadA (vs := [.int .i64 e1.a, .int .i64 e1.b, .int .i64 e1.c, .int .i64 e1.d]) HF rfl ag25 rfl (hc1.part 0 4) rfl rfl (fun a HF => ?_)
          refine wc_alloc (cs := [.int .i64 0, .int .i64 0, .int .i64 0, .int .i64 0]) HF HT zr25 rfl rfl rfl (fun p1 w HT hb => ⟨nS, fun a HF => ?_⟩)
          refine wc_assign HF nS rfl rfl rfl (fun a HF => ?_)
          refine wc_storeB (cs' := [.int .i64 e1.a, .int .i64 e1.b, .int .i64 e1.c, .int .i64 e1.d]) HF HT rfl rfl (fun w => (ag25 w).2) rfl rfl rfl rfl rfl (fun w HT => ⟨nS, ?_⟩)
          refine wc_end ?_
          refine then_n ?_
          refine wp_seq ?_
          refine wc_text ?_
          refine wc_move HF nS rfl rfl rfl (fun a HF => ?_)
          refine wc_move HF nS rfl rfl rfl (fun a HF => ?_)
          refine wc_bin HF nS rfl rfl b_lt rfl rfl (fun a HF => ?_)
          refine wc_end ?_
          refine then_n ?_
          by_cases hb2 : z3 < x1
          · have h := (if_pos hb2).symm.trans h
            refine wp_if (b' := true) HF rfl (decide_eq_true hb2) ?_
            refine wc_text ?_
            refine wc_move HF nS rfl rfl rfl (fun a HF => ?_)
            refine wc_loadA (vs := [.int .i64 e1.a, .int .i64 e1.b, .int .i64 e1.c, .int .i64 e1.d]) HF rfl ag25 rfl ((HT.boxAt 0 rfl).part 0 4) rfl rfl (fun a HF => ?_)
            obtain ⟨y1, hx4, h⟩ := obs h
            refine wc_call HF cf99 rfl (w_impl_opens fuel hx4) rfl rfl ?_
            rintro e w ⟨rfl, hE⟩
            have hb := hE.below
            have HT := HT.pure hE
            have HT : St w0 (fun _ => False) w [Box p1 [.int .i64 e1.a, .int .i64 e1.b, .int .i64 e1.c, .int .i64 e1.d]] := HT
            refine ⟨_, rfl, nS, fun a HF => ?_⟩
            obtain ⟨hg1, h⟩ := grd h
            refine wc_bin HF nS rfl rfl (b_add hg1) rfl rfl (fun a HF => ?_)
            refine wc_assign HF nS rfl rfl rfl (fun a HF => ?_)
            refine wc_end ?_
            refine blk_n ?_
            have HT : St w0 (fun _ => False) w [] := HT.take 0
            obtain rfl := Option.some.inj h
            exact then_n ⟨(HF.keep (HF.keep (HF.keep (HF.keep (HF.keep HF.nil rfl) rfl) rfl) rfl) rfl), HT⟩
          · have h := (if_neg hb2).symm.trans h
            refine wp_if (b' := false) HF rfl (decide_eq_false hb2) ?_
            refine wp_skip ?_
            refine blk_n ?_
            have HT : St w0 (fun _ => False) w [] := HT.take 0
            obtain rfl := Option.some.inj h
            exact then_n ⟨(HF.keep (HF.keep (HF.keep (HF.keep (HF.keep HF.nil rfl) rfl) rfl) rfl) rfl), HT⟩
        · rintro a w ⟨HF, HT⟩
          refine ?_
          refine wc_text ?_
          obtain ⟨hg2, h⟩ := grd h
          refine wc_bin HF nS rfl rfl (b_add hg2) rfl rfl (fun a HF => ?_)
          refine wc_move HF nS rfl rfl rfl (fun a HF => ?_)
          refine wc_end ?_
          exact then_n ⟨k1, Nat.lt_succ_self k1, z4, z3 + 1, h, (HF.keep (HF.keep (HF.keep (HF.keep (HF.keep HF.nil rfl) rfl) rfl) rfl) rfl), HT⟩
      · have h := (if_neg hb1).symm.trans h
        refine wp_if (b' := false) HF rfl (decide_eq_false hb1) ?_
        refine wp_exit ?_
        refine then_x (then_x (?_))
        refine blk_x ?_
        obtain rfl := Option.some.inj h
        exact then_n ⟨(HF.keep HF.nil rfl), HT⟩
  · rintro a w ⟨HF, HT⟩
    refine ?_
    refine wp_seq ?_
    refine wc_text ?_
    refine wc_move HF nS rfl rfl rfl (fun a HF => ?_)
    refine wc_assign HF nS rfl rfl rfl (fun a HF => ?_)
    refine wc_end ?_
    refine then_n ?_
    refine wp_ret ?_
    obtain rfl := Option.some.inj h
    refine bp_ret HF (res_one rfl HF rfl) ?_
    exact ⟨rfl, HT⟩

def m_impl_within (fuel : Nat) (x0 : Int) (x1 : Int) (x2 : Int) : Option Bool :=
  if x1 ≤ x0 then
    some (decide (x0 ≤ x2))
  else
    some false

set_option maxRecDepth 100000 in
set_option maxHeartbeats 4000000 in
theorem w_impl_within (fuel : Nat) {x0 : Int} {x1 : Int} {x2 : Int} {r0 : Bool} {w0 : World} (h : m_impl_within fuel x0 x1 x2 = some r0) :
    Calls Try.prog 80 #[.int .i64 x0, .int .i64 x1, .int .i64 x2] w0 fun e w => e = .returned (.bool r0) ∧ St w0 (fun _ => False) w [] := by
  have HT : St w0 (fun _ => False) w0 [] := St.init0
  rw [m_impl_within] at h
  refine calls_fr (n := 15) [.int .i64 x0, .int .i64 x1, .int .i64 x2] Try.func80 rfl rfl rfl (fun a HF => ?_)
  have HT : St w0 (fun _ => False) w0 [] := HT
  refine wp_seq ?_
  refine wc_text ?_
  refine wc_assign HF nS rfl rfl rfl (fun a HF => ?_)
  refine wc_end ?_
  refine then_n ?_
  refine wp_seq ?_
  refine wc_text ?_
  refine wc_move HF nS rfl rfl rfl (fun a HF => ?_)
  refine wc_move HF nS rfl rfl rfl (fun a HF => ?_)
  refine wc_bin HF nS rfl rfl b_ge rfl rfl (fun a HF => ?_)
  refine wc_move HF nS rfl rfl rfl (fun a HF => ?_)
  by_cases hb1 : x1 ≤ x0
  · have h := (if_pos hb1).symm.trans h
    refine wc_move HF nS rfl (HF.wy rfl rfl rfl rfl (decide_eq_true hb1)) rfl (fun a HF => ?_)
    refine wc_move HF nS rfl (HF.wy rfl rfl rfl rfl (decide_eq_true hb1)) rfl (fun a HF => ?_)
    refine wc_bin HF nS rfl rfl b_le (HF.wy rfl rfl rfl rfl (decide_eq_true hb1)) rfl (fun a HF => ?_)
    refine wc_pick (b := true) HF nS rfl (decide_eq_true hb1) rfl rfl rfl (fun a HF => ?_)
    refine wc_assign HF nS rfl rfl rfl (fun a HF => ?_)
    refine wc_end ?_
    refine then_n ?_
    refine wp_ret ?_
    obtain rfl := Option.some.inj h
    refine bp_ret HF (res_one rfl HF rfl) ?_
    exact ⟨rfl, HT⟩
  · have h := (if_neg hb1).symm.trans h
    refine wc_skip HF nS (HF.wn rfl rfl rfl rfl (decide_eq_false hb1)) rfl (fun a HF => ?_)
    refine wc_skip HF nS (HF.wn rfl rfl rfl rfl (decide_eq_false hb1)) rfl (fun a HF => ?_)
    refine wc_skip HF nS (HF.wn rfl rfl rfl rfl (decide_eq_false hb1)) rfl (fun a HF => ?_)
    refine wc_pick (b := false) HF nS rfl (decide_eq_false hb1) rfl rfl rfl (fun a HF => ?_)
    refine wc_assign HF nS rfl rfl rfl (fun a HF => ?_)
    refine wc_end ?_
    refine then_n ?_
    refine wp_ret ?_
    obtain rfl := Option.some.inj h
    refine bp_ret HF (res_one rfl HF rfl) ?_
    exact ⟨rfl, HT⟩

def m_impl_isCell (fuel : Nat) (x0 : Int) : Option Bool :=
  (m_impl_within fuel x0 0 7).bind fun y1 =>
  some y1

set_option maxRecDepth 100000 in
set_option maxHeartbeats 4000000 in
theorem w_impl_isCell (fuel : Nat) {x0 : Int} {r0 : Bool} {w0 : World} (h : m_impl_isCell fuel x0 = some r0) :
    Calls Try.prog 79 #[.int .i64 x0] w0 fun e w => e = .returned (.bool r0) ∧ St w0 (fun _ => False) w [] := by
  have HT : St w0 (fun _ => False) w0 [] := St.init0
  rw [m_impl_isCell] at h
  refine calls_fr (n := 5) [.int .i64 x0] Try.func79 rfl rfl rfl (fun a HF => ?_)
  have HT : St w0 (fun _ => False) w0 [] := HT
  refine wp_seq ?_
  refine wc_text ?_
  refine wc_assign HF nS rfl rfl rfl (fun a HF => ?_)
  refine wc_end ?_
  refine then_n ?_
  refine wp_seq ?_
  refine wc_text ?_
  refine wc_move HF nS rfl rfl rfl (fun a HF => ?_)
  obtain ⟨y1, hx1, h⟩ := obs h
  refine wc_call HF cf80 rfl (w_impl_within fuel hx1) rfl rfl ?_
  rintro e w ⟨rfl, hE⟩
  have hb := hE.below
  have HT := HT.pure hE
  have HT : St w0 (fun _ => False) w [] := HT
  refine ⟨_, rfl, nS, fun a HF => ?_⟩
  refine wc_assign HF nS rfl rfl rfl (fun a HF => ?_)
  refine wc_end ?_
  refine then_n ?_
  refine wp_ret ?_
  obtain rfl := Option.some.inj h
  refine bp_ret HF (res_one rfl HF rfl) ?_
  exact ⟨rfl, HT⟩

def m_impl_isKey (fuel : Nat) (x0 : Int) : Option Bool :=
  (m_impl_within fuel x0 0 7).bind fun y1 =>
  some y1

set_option maxRecDepth 100000 in
set_option maxHeartbeats 4000000 in
theorem w_impl_isKey (fuel : Nat) {x0 : Int} {r0 : Bool} {w0 : World} (h : m_impl_isKey fuel x0 = some r0) :
    Calls Try.prog 81 #[.int .i64 x0] w0 fun e w => e = .returned (.bool r0) ∧ St w0 (fun _ => False) w [] := by
  have HT : St w0 (fun _ => False) w0 [] := St.init0
  rw [m_impl_isKey] at h
  refine calls_fr (n := 5) [.int .i64 x0] Try.func81 rfl rfl rfl (fun a HF => ?_)
  have HT : St w0 (fun _ => False) w0 [] := HT
  refine wp_seq ?_
  refine wc_text ?_
  refine wc_assign HF nS rfl rfl rfl (fun a HF => ?_)
  refine wc_end ?_
  refine then_n ?_
  refine wp_seq ?_
  refine wc_text ?_
  refine wc_move HF nS rfl rfl rfl (fun a HF => ?_)
  obtain ⟨y1, hx1, h⟩ := obs h
  refine wc_call HF cf80 rfl (w_impl_within fuel hx1) rfl rfl ?_
  rintro e w ⟨rfl, hE⟩
  have hb := hE.below
  have HT := HT.pure hE
  have HT : St w0 (fun _ => False) w [] := HT
  refine ⟨_, rfl, nS, fun a HF => ?_⟩
  refine wc_assign HF nS rfl rfl rfl (fun a HF => ?_)
  refine wc_end ?_
  refine then_n ?_
  refine wp_ret ?_
  obtain rfl := Option.some.inj h
  refine bp_ret HF (res_one rfl HF rfl) ?_
  exact ⟨rfl, HT⟩

def m_impl_isReg (fuel : Nat) (x0 : Int) : Option Bool :=
  (m_impl_within fuel x0 0 3).bind fun y1 =>
  some y1

set_option maxRecDepth 100000 in
set_option maxHeartbeats 4000000 in
theorem w_impl_isReg (fuel : Nat) {x0 : Int} {r0 : Bool} {w0 : World} (h : m_impl_isReg fuel x0 = some r0) :
    Calls Try.prog 77 #[.int .i64 x0] w0 fun e w => e = .returned (.bool r0) ∧ St w0 (fun _ => False) w [] := by
  have HT : St w0 (fun _ => False) w0 [] := St.init0
  rw [m_impl_isReg] at h
  refine calls_fr (n := 5) [.int .i64 x0] Try.func77 rfl rfl rfl (fun a HF => ?_)
  have HT : St w0 (fun _ => False) w0 [] := HT
  refine wp_seq ?_
  refine wc_text ?_
  refine wc_assign HF nS rfl rfl rfl (fun a HF => ?_)
  refine wc_end ?_
  refine then_n ?_
  refine wp_seq ?_
  refine wc_text ?_
  refine wc_move HF nS rfl rfl rfl (fun a HF => ?_)
  obtain ⟨y1, hx1, h⟩ := obs h
  refine wc_call HF cf80 rfl (w_impl_within fuel hx1) rfl rfl ?_
  rintro e w ⟨rfl, hE⟩
  have hb := hE.below
  have HT := HT.pure hE
  have HT : St w0 (fun _ => False) w [] := HT
  refine ⟨_, rfl, nS, fun a HF => ?_⟩
  refine wc_assign HF nS rfl rfl rfl (fun a HF => ?_)
  refine wc_end ?_
  refine then_n ?_
  refine wp_ret ?_
  obtain rfl := Option.some.inj h
  refine bp_ret HF (res_one rfl HF rfl) ?_
  exact ⟨rfl, HT⟩

def m_impl_isValue (fuel : Nat) (x0 : Int) : Option Bool :=
  (m_impl_within fuel x0 0 65535).bind fun y1 =>
  some y1

set_option maxRecDepth 100000 in
set_option maxHeartbeats 4000000 in
theorem w_impl_isValue (fuel : Nat) {x0 : Int} {r0 : Bool} {w0 : World} (h : m_impl_isValue fuel x0 = some r0) :
    Calls Try.prog 78 #[.int .i64 x0] w0 fun e w => e = .returned (.bool r0) ∧ St w0 (fun _ => False) w [] := by
  have HT : St w0 (fun _ => False) w0 [] := St.init0
  rw [m_impl_isValue] at h
  refine calls_fr (n := 5) [.int .i64 x0] Try.func78 rfl rfl rfl (fun a HF => ?_)
  have HT : St w0 (fun _ => False) w0 [] := HT
  refine wp_seq ?_
  refine wc_text ?_
  refine wc_assign HF nS rfl rfl rfl (fun a HF => ?_)
  refine wc_end ?_
  refine then_n ?_
  refine wp_seq ?_
  refine wc_text ?_
  refine wc_move HF nS rfl rfl rfl (fun a HF => ?_)
  obtain ⟨y1, hx1, h⟩ := obs h
  refine wc_call HF cf80 rfl (w_impl_within fuel hx1) rfl rfl ?_
  rintro e w ⟨rfl, hE⟩
  have hb := hE.below
  have HT := HT.pure hE
  have HT : St w0 (fun _ => False) w [] := HT
  refine ⟨_, rfl, nS, fun a HF => ?_⟩
  refine wc_assign HF nS rfl rfl rfl (fun a HF => ?_)
  refine wc_end ?_
  refine then_n ?_
  refine wp_ret ?_
  obtain rfl := Option.some.inj h
  refine bp_ret HF (res_one rfl HF rfl) ?_
  exact ⟨rfl, HT⟩

def m_impl_OpOk (fuel : Nat) (x0_0 : Int) (x0_1 : Int) (x0_2 : Int) (x0_3 : Int) : Option Bool :=
  (
    if x0_0 = 1 then
      (m_impl_isReg fuel x0_1).bind fun y1 =>
      if y1 = true then
        (m_impl_isValue fuel x0_2).bind fun y2 =>
        if y2 = true then
          some (.ret (decide (x0_3 = 0)))
        else
          some (.ret false)
      else
        some (.ret false)
    else
      (
        if x0_0 = 2 then
          some (decide (x0_0 = 2))
        else
          if x0_0 = 3 then
            some (decide (x0_0 = 3))
          else
            some (decide (x0_0 = 4))).bind fun z1 =>
      if z1 = true then
        (m_impl_isReg fuel x0_1).bind fun y3 =>
        if y3 = true then
          (m_impl_isReg fuel x0_2).bind fun y4 =>
          if y4 = true then
            (m_impl_isReg fuel x0_3).bind fun y5 =>
            some (.ret y5)
          else
            some (.ret false)
        else
          some (.ret false)
      else
        if x0_0 = 5 then
          (m_impl_isReg fuel x0_1).bind fun y6 =>
          if y6 = true then
            (m_impl_isCell fuel x0_2).bind fun y7 =>
            if y7 = true then
              some (.ret (decide (x0_3 = 0)))
            else
              some (.ret false)
          else
            some (.ret false)
        else
          if x0_0 = 6 then
            (m_impl_isCell fuel x0_1).bind fun y8 =>
            if y8 = true then
              (m_impl_isReg fuel x0_2).bind fun y9 =>
              if y9 = true then
                some (.ret (decide (x0_3 = 0)))
              else
                some (.ret false)
            else
              some (.ret false)
          else
            if x0_0 = 7 then
              (m_impl_isReg fuel x0_1).bind fun y10 =>
              if y10 = true then
                (m_impl_within fuel x0_2 1 20).bind fun y11 =>
                if y11 = true then
                  some (.ret (decide (x0_3 = 0)))
                else
                  some (.ret false)
              else
                some (.ret false)
            else
              (
                if x0_0 = 8 then
                  some (decide (x0_0 = 8))
                else
                  if x0_0 = 15 then
                    some (decide (x0_0 = 15))
                  else
                    some (decide (x0_0 = 16))).bind fun z2 =>
              if z2 = true then
                (m_impl_isReg fuel x0_1).bind fun y12 =>
                if y12 = true then
                  if x0_2 = 0 then
                    some (.ret (decide (x0_3 = 0)))
                  else
                    some (.ret false)
                else
                  some (.ret false)
              else
                (
                  if x0_0 = 9 then
                    some (decide (x0_0 = 9))
                  else
                    if x0_0 = 10 then
                      some (decide (x0_0 = 10))
                    else
                      some (decide (x0_0 = 11))).bind fun z3 =>
                if z3 = true then
                  if x0_1 = 0 then
                    if x0_2 = 0 then
                      some (.ret (decide (x0_3 = 0)))
                    else
                      some (.ret false)
                  else
                    some (.ret false)
                else
                  if x0_0 = 12 then
                    (m_impl_isKey fuel x0_1).bind fun y13 =>
                    if y13 = true then
                      (m_impl_isReg fuel x0_2).bind fun y14 =>
                      if y14 = true then
                        (m_impl_isReg fuel x0_3).bind fun y15 =>
                        some (.ret y15)
                      else
                        some (.ret false)
                    else
                      some (.ret false)
                  else
                    if x0_0 = 13 then
                      (m_impl_isReg fuel x0_1).bind fun y16 =>
                      if y16 = true then
                        (m_impl_isKey fuel x0_2).bind fun y17 =>
                        if y17 = true then
                          some (.ret (decide (x0_3 = 0)))
                        else
                          some (.ret false)
                      else
                        some (.ret false)
                    else
                      if x0_0 = 14 then
                        (m_impl_isKey fuel x0_1).bind fun y18 =>
                        if y18 = true then
                          (m_impl_isReg fuel x0_2).bind fun y19 =>
                          if y19 = true then
                            some (.ret (decide (x0_3 = 0)))
                          else
                            some (.ret false)
                        else
                          some (.ret false)
                      else
                        some (.brk ())).bind <| contL <| un1 fun _ =>
  some false

set_option maxRecDepth 100000 in
set_option maxHeartbeats 4000000 in
theorem w_impl_OpOk (fuel : Nat) {x0_0 : Int} {x0_1 : Int} {x0_2 : Int} {x0_3 : Int} {r0 : Bool} {w0 : World} (h : m_impl_OpOk fuel x0_0 x0_1 x0_2 x0_3 = some r0) :
    Calls Try.prog 44 #[.agg #[.int .i64 x0_0, .int .i64 x0_1, .int .i64 x0_2, .int .i64 x0_3]] w0 fun e w => e = .returned (.bool r0) ∧ St w0 (fun _ => False) w [] := by
  have HT : St w0 (fun _ => False) w0 [] := St.init0
  rw [m_impl_OpOk] at h
  refine calls_fr (n := 161) [.agg #[.int .i64 x0_0, .int .i64 x0_1, .int .i64 x0_2, .int .i64 x0_3]] Try.func44 rfl rfl rfl (fun a HF => ?_)
  have HT : St w0 (fun _ => False) w0 [] := HT
  refine wp_seq ?_
  refine wc_text ?_
  refine wc_box (cs := [.int .i64 x0_0, .int .i64 x0_1, .int .i64 x0_2, .int .i64 x0_3]) HF HT rfl rfl rfl rfl (fun p1 w HT hb => ⟨nS, fun a HF => ?_⟩)
  refine wc_assign HF nS rfl rfl rfl (fun a HF => ?_)
  refine wc_end ?_
  refine then_n ?_
  obtain ⟨q1, hx1, h⟩ := obs h
  refine wp_cut (fun a w => q1 = .brk () ∧ Fr a 161 [] ∧ St w0 (fun _ => False) w []) ?_ ?_
  · have hk1 := h
    have h := hx1
    refine wp_seq ?_
    refine wc_text ?_
    refine wc_faddr HF nS rfl fl25_0 rfl rfl (fun a HF => ?_)
    refine wc_load HF rfl sc3 ((HT.boxAt 0 rfl).get 0 rfl) rfl rfl (fun a HF => ?_)
    refine wc_end ?_
    refine then_n ?_
    refine wp_block ?_
    refine wp_seq ?_
    refine wc_text ?_
    refine wc_bin HF nS rfl rfl b_eq rfl rfl (fun a HF => ?_)
    refine wc_assign HF nS rfl rfl rfl (fun a HF => ?_)
    refine wc_end ?_
    refine then_n ?_
    by_cases hb1 : x0_0 = 1
    · have h := (if_pos hb1).symm.trans h
      refine wp_if (b' := true) HF rfl (decide_eq_true hb1) ?_
      refine wp_seq ?_
      refine wc_text ?_
      refine wc_faddr HF nS rfl fl25_1 rfl rfl (fun a HF => ?_)
      refine wc_load HF rfl sc3 ((HT.boxAt 0 rfl).get 1 rfl) rfl rfl (fun a HF => ?_)
      obtain ⟨y1, hx2, h⟩ := obs h
      refine wc_call HF cf77 rfl (w_impl_isReg fuel hx2) rfl rfl ?_
      rintro e w ⟨rfl, hE⟩
      have hb := hE.below
      have HT := HT.pure hE
      have HT : St w0 (fun _ => False) w [Box p1 [.int .i64 x0_0, .int .i64 x0_1, .int .i64 x0_2, .int .i64 x0_3]] := HT
      refine ⟨_, rfl, nS, fun a HF => ?_⟩
      refine wc_move HF nS rfl rfl rfl (fun a HF => ?_)
      by_cases hb2 : y1 = true
      · have h := (if_pos hb2).symm.trans h
        refine wc_faddr HF nS rfl fl25_2 (HF.wy rfl rfl rfl rfl hb2) rfl (fun a HF => ?_)
        refine wc_load HF rfl sc3 ((HT.boxAt 0 rfl).get 2 rfl) (HF.wy rfl rfl rfl rfl hb2) rfl (fun a HF => ?_)
        obtain ⟨y2, hx3, h⟩ := obs h
        refine wc_call HF cf78 rfl (w_impl_isValue fuel hx3) (HF.wy rfl rfl rfl rfl hb2) rfl ?_
        rintro e w ⟨rfl, hE⟩
        have hb := hE.below
        have HT := HT.pure hE
        have HT : St w0 (fun _ => False) w [Box p1 [.int .i64 x0_0, .int .i64 x0_1, .int .i64 x0_2, .int .i64 x0_3]] := HT
        refine ⟨_, rfl, nS, fun a HF => ?_⟩
        refine wc_pick (b := true) HF nS rfl hb2 rfl rfl rfl (fun a HF => ?_)
        refine wc_move HF nS rfl rfl rfl (fun a HF => ?_)
        by_cases hb3 : y2 = true
        · have h := (if_pos hb3).symm.trans h
          refine wc_faddr HF nS rfl fl25_3 (HF.wy rfl rfl rfl rfl hb3) rfl (fun a HF => ?_)
          refine wc_load HF rfl sc3 ((HT.boxAt 0 rfl).get 3 rfl) (HF.wy rfl rfl rfl rfl hb3) rfl (fun a HF => ?_)
          refine wc_bin HF nS rfl rfl b_eq (HF.wy rfl rfl rfl rfl hb3) rfl (fun a HF => ?_)
          refine wc_pick (b := true) HF nS rfl hb3 rfl rfl rfl (fun a HF => ?_)
          refine wc_assign HF nS rfl rfl rfl (fun a HF => ?_)
          refine wc_end ?_
          refine then_n ?_
          refine wp_ret ?_
          obtain rfl := Option.some.inj h
          have h := retL hk1
          obtain rfl := Option.some.inj h
          refine blk_r (then_r (?_))
          refine bp_ret HF (res_one rfl HF rfl) ?_
          have HT : St w0 (fun _ => False) w [] := HT.take 0
          exact ⟨rfl, HT⟩
        · have h := (if_neg hb3).symm.trans h
          refine wc_skip HF nS (HF.wn rfl rfl rfl rfl (Bool.eq_false_iff.2 hb3)) rfl (fun a HF => ?_)
          refine wc_skip HF nS (HF.wn rfl rfl rfl rfl (Bool.eq_false_iff.2 hb3)) rfl (fun a HF => ?_)
          refine wc_skip HF nS (HF.wn rfl rfl rfl rfl (Bool.eq_false_iff.2 hb3)) rfl (fun a HF => ?_)
          refine wc_pick (b := false) HF nS rfl (Bool.eq_false_iff.2 hb3) rfl rfl rfl (fun a HF => ?_)
          refine wc_assign HF nS rfl rfl rfl (fun a HF => ?_)
          refine wc_end ?_
          refine then_n ?_
          refine wp_ret ?_
          obtain rfl := Option.some.inj h
          have h := retL hk1
          obtain rfl := Option.some.inj h
          refine blk_r (then_r (?_))
          refine bp_ret HF (res_one rfl HF rfl) ?_
          have HT : St w0 (fun _ => False) w [] := HT.take 0
          exact ⟨rfl, HT⟩
      · have h := (if_neg hb2).symm.trans h
        refine wc_skip HF nS (HF.wn rfl rfl rfl rfl (Bool.eq_false_iff.2 hb2)) rfl (fun a HF => ?_)
        refine wc_skip HF nS (HF.wn rfl rfl rfl rfl (Bool.eq_false_iff.2 hb2)) rfl (fun a HF => ?_)
        refine wc_skip HF nS (HF.wn rfl rfl rfl rfl (Bool.eq_false_iff.2 hb2)) rfl (fun a HF => ?_)
        refine wc_pick (b := false) HF nS rfl (Bool.eq_false_iff.2 hb2) rfl rfl rfl (fun a HF => ?_)
        refine wc_move HF nS rfl rfl rfl (fun a HF => ?_)
        refine wc_skip HF nS (HF.wn rfl rfl rfl rfl rfl) rfl (fun a HF => ?_)
        refine wc_skip HF nS (HF.wn rfl rfl rfl rfl rfl) rfl (fun a HF => ?_)
        refine wc_skip HF nS (HF.wn rfl rfl rfl rfl rfl) rfl (fun a HF => ?_)
        refine wc_pick (b := false) HF nS rfl rfl rfl rfl rfl (fun a HF => ?_)
        refine wc_assign HF nS rfl rfl rfl (fun a HF => ?_)
        refine wc_end ?_
        refine then_n ?_
        refine wp_ret ?_
        obtain rfl := Option.some.inj h
        have h := retL hk1
        obtain rfl := Option.some.inj h
        refine blk_r (then_r (?_))
        refine bp_ret HF (res_one rfl HF rfl) ?_
        have HT : St w0 (fun _ => False) w [] := HT.take 0
        exact ⟨rfl, HT⟩
    · have h := (if_neg hb1).symm.trans h
      refine wp_if (b' := false) HF rfl (decide_eq_false hb1) ?_
      obtain ⟨z1, hx4, h⟩ := obs h
      refine wp_cut (fun a w => Fr a 161 [(1, .pointer (some ⟨p1, 0, none⟩)), (4, .int .i64 x0_0), (20, .bool z1)] ∧ St w0 (fun _ => False) w [Box p1 [.int .i64 x0_0, .int .i64 x0_1, .int .i64 x0_2, .int .i64 x0_3]]) ?_ ?_
      · have hk2 := h
        have h := hx4
        refine wp_seq ?_
        refine wc_text ?_
        refine wc_bin HF nS rfl rfl b_eq rfl rfl (fun a HF => ?_)
        refine wc_assign HF nS rfl rfl rfl (fun a HF => ?_)
        refine wc_end ?_
        refine then_n ?_
        by_cases hb4 : x0_0 = 2
        · have h := (if_pos hb4).symm.trans h
          refine wp_if (b' := true) HF rfl (decide_eq_true hb4) ?_
          refine wp_skip ?_
          obtain rfl := Option.some.inj h
          exact then_n ⟨(HF.keep (HF.keep (HF.keep HF.nil rfl) rfl) rfl), HT⟩
        · have h := (if_neg hb4).symm.trans h
          refine wp_if (b' := false) HF rfl (decide_eq_false hb4) ?_
          refine wp_seq ?_
          refine wc_text ?_
          refine wc_bin HF nS rfl rfl b_eq rfl rfl (fun a HF => ?_)
          refine wc_assign HF nS rfl rfl rfl (fun a HF => ?_)
          refine wc_end ?_
          refine then_n ?_
          by_cases hb5 : x0_0 = 3
          · have h := (if_pos hb5).symm.trans h
            refine wp_if (b' := true) HF rfl (decide_eq_true hb5) ?_
            refine wp_skip ?_
            obtain rfl := Option.some.inj h
            exact then_n ⟨(HF.keep (HF.keep (HF.keep HF.nil rfl) rfl) rfl), HT⟩
          · have h := (if_neg hb5).symm.trans h
            refine wp_if (b' := false) HF rfl (decide_eq_false hb5) ?_
            refine wc_text ?_
            refine wc_bin HF nS rfl rfl b_eq rfl rfl (fun a HF => ?_)
            refine wc_assign HF nS rfl rfl rfl (fun a HF => ?_)
            refine wc_end ?_
            obtain rfl := Option.some.inj h
            exact then_n ⟨(HF.keep (HF.keep (HF.keep HF.nil rfl) rfl) rfl), HT⟩
      · rintro a w ⟨HF, HT⟩
        refine ?_
        by_cases hb6 : z1 = true
        · have h := (if_pos hb6).symm.trans h
          refine wp_if (b' := true) HF rfl hb6 ?_
          refine wp_seq ?_
          refine wc_text ?_
          refine wc_faddr HF nS rfl fl25_1 rfl rfl (fun a HF => ?_)
          refine wc_load HF rfl sc3 ((HT.boxAt 0 rfl).get 1 rfl) rfl rfl (fun a HF => ?_)
          obtain ⟨y3, hx5, h⟩ := obs h
          refine wc_call HF cf77 rfl (w_impl_isReg fuel hx5) rfl rfl ?_
          rintro e w ⟨rfl, hE⟩
          have hb := hE.below
          have HT := HT.pure hE
          have HT : St w0 (fun _ => False) w [Box p1 [.int .i64 x0_0, .int .i64 x0_1, .int .i64 x0_2, .int .i64 x0_3]] := HT
          refine ⟨_, rfl, nS, fun a HF => ?_⟩
          refine wc_move HF nS rfl rfl rfl (fun a HF => ?_)
          by_cases hb7 : y3 = true
          · have h := (if_pos hb7).symm.trans h
            refine wc_faddr HF nS rfl fl25_2 (HF.wy rfl rfl rfl rfl hb7) rfl (fun a HF => ?_)
            refine wc_load HF rfl sc3 ((HT.boxAt 0 rfl).get 2 rfl) (HF.wy rfl rfl rfl rfl hb7) rfl (fun a HF => ?_)
            obtain ⟨y4, hx6, h⟩ := obs h
            refine wc_call HF cf77 rfl (w_impl_isReg fuel hx6) (HF.wy rfl rfl rfl rfl hb7) rfl ?_
            rintro e w ⟨rfl, hE⟩
            have hb := hE.below
            have HT := HT.pure hE
            have HT : St w0 (fun _ => False) w [Box p1 [.int .i64 x0_0, .int .i64 x0_1, .int .i64 x0_2, .int .i64 x0_3]] := HT
            refine ⟨_, rfl, nS, fun a HF => ?_⟩
            refine wc_pick (b := true) HF nS rfl hb7 rfl rfl rfl (fun a HF => ?_)
            refine wc_move HF nS rfl rfl rfl (fun a HF => ?_)
            by_cases hb8 : y4 = true
            · have h := (if_pos hb8).symm.trans h
              refine wc_faddr HF nS rfl fl25_3 (HF.wy rfl rfl rfl rfl hb8) rfl (fun a HF => ?_)
              refine wc_load HF rfl sc3 ((HT.boxAt 0 rfl).get 3 rfl) (HF.wy rfl rfl rfl rfl hb8) rfl (fun a HF => ?_)
              obtain ⟨y5, hx7, h⟩ := obs h
              refine wc_call HF cf77 rfl (w_impl_isReg fuel hx7) (HF.wy rfl rfl rfl rfl hb8) rfl ?_
              rintro e w ⟨rfl, hE⟩
              have hb := hE.below
              have HT := HT.pure hE
              have HT : St w0 (fun _ => False) w [Box p1 [.int .i64 x0_0, .int .i64 x0_1, .int .i64 x0_2, .int .i64 x0_3]] := HT
              refine ⟨_, rfl, nS, fun a HF => ?_⟩
              refine wc_pick (b := true) HF nS rfl hb8 rfl rfl rfl (fun a HF => ?_)
              refine wc_assign HF nS rfl rfl rfl (fun a HF => ?_)
              refine wc_end ?_
              refine then_n ?_
              refine wp_ret ?_
              obtain rfl := Option.some.inj h
              have h := retL hk1
              obtain rfl := Option.some.inj h
              refine blk_r (then_r (?_))
              refine bp_ret HF (res_one rfl HF rfl) ?_
              have HT : St w0 (fun _ => False) w [] := HT.take 0
              exact ⟨rfl, HT⟩
            · have h := (if_neg hb8).symm.trans h
              refine wc_skip HF nS (HF.wn rfl rfl rfl rfl (Bool.eq_false_iff.2 hb8)) rfl (fun a HF => ?_)
              refine wc_skip HF nS (HF.wn rfl rfl rfl rfl (Bool.eq_false_iff.2 hb8)) rfl (fun a HF => ?_)
              refine wc_skip HF nS (HF.wn rfl rfl rfl rfl (Bool.eq_false_iff.2 hb8)) rfl (fun a HF => ?_)
              refine wc_pick (b := false) HF nS rfl (Bool.eq_false_iff.2 hb8) rfl rfl rfl (fun a HF => ?_)
              refine wc_assign HF nS rfl rfl rfl (fun a HF => ?_)
              refine wc_end ?_
              refine then_n ?_
              refine wp_ret ?_
              obtain rfl := Option.some.inj h
              have h := retL hk1
              obtain rfl := Option.some.inj h
              refine blk_r (then_r (?_))
              refine bp_ret HF (res_one rfl HF rfl) ?_
              have HT : St w0 (fun _ => False) w [] := HT.take 0
              exact ⟨rfl, HT⟩
          · have h := (if_neg hb7).symm.trans h
            refine wc_skip HF nS (HF.wn rfl rfl rfl rfl (Bool.eq_false_iff.2 hb7)) rfl (fun a HF => ?_)
            refine wc_skip HF nS (HF.wn rfl rfl rfl rfl (Bool.eq_false_iff.2 hb7)) rfl (fun a HF => ?_)
            refine wc_skip HF nS (HF.wn rfl rfl rfl rfl (Bool.eq_false_iff.2 hb7)) rfl (fun a HF => ?_)
            refine wc_pick (b := false) HF nS rfl (Bool.eq_false_iff.2 hb7) rfl rfl rfl (fun a HF => ?_)
            refine wc_move HF nS rfl rfl rfl (fun a HF => ?_)
            refine wc_skip HF nS (HF.wn rfl rfl rfl rfl rfl) rfl (fun a HF => ?_)
            refine wc_skip HF nS (HF.wn rfl rfl rfl rfl rfl) rfl (fun a HF => ?_)
            refine wc_skip HF nS (HF.wn rfl rfl rfl rfl rfl) rfl (fun a HF => ?_)
            refine wc_pick (b := false) HF nS rfl rfl rfl rfl rfl (fun a HF => ?_)
            refine wc_assign HF nS rfl rfl rfl (fun a HF => ?_)
            refine wc_end ?_
            refine then_n ?_
            refine wp_ret ?_
            obtain rfl := Option.some.inj h
            have h := retL hk1
            obtain rfl := Option.some.inj h
            refine blk_r (then_r (?_))
            refine bp_ret HF (res_one rfl HF rfl) ?_
            have HT : St w0 (fun _ => False) w [] := HT.take 0
            exact ⟨rfl, HT⟩
        · have h := (if_neg hb6).symm.trans h
          refine wp_if (b' := false) HF rfl (Bool.eq_false_iff.2 hb6) ?_
          refine wp_seq ?_
          refine wc_text ?_
          refine wc_bin HF nS rfl rfl b_eq rfl rfl (fun a HF => ?_)
          refine wc_assign HF nS rfl rfl rfl (fun a HF => ?_)
          refine wc_end ?_
          refine then_n ?_
          by_cases hb9 : x0_0 = 5
          · have h := (if_pos hb9).symm.trans h
            refine wp_if (b' := true) HF rfl (decide_eq_true hb9) ?_
            refine wp_seq ?_
            refine wc_text ?_
            refine wc_faddr HF nS rfl fl25_1 rfl rfl (fun a HF => ?_)
            refine wc_load HF rfl sc3 ((HT.boxAt 0 rfl).get 1 rfl) rfl rfl (fun a HF => ?_)
            obtain ⟨y6, hx8, h⟩ := obs h
            refine wc_call HF cf77 rfl (w_impl_isReg fuel hx8) rfl rfl ?_
            rintro e w ⟨rfl, hE⟩
            have hb := hE.below
            have HT := HT.pure hE
            have HT : St w0 (fun _ => False) w [Box p1 [.int .i64 x0_0, .int .i64 x0_1, .int .i64 x0_2, .int .i64 x0_3]] := HT
            refine ⟨_, rfl, nS, fun a HF => ?_⟩
            refine wc_move HF nS rfl rfl rfl (fun a HF => ?_)
            by_cases hb10 : y6 = true
            · have h := (if_pos hb10).symm.trans h
              refine wc_faddr HF nS rfl fl25_2 (HF.wy rfl rfl rfl rfl hb10) rfl (fun a HF => ?_)
              refine wc_load HF rfl sc3 ((HT.boxAt 0 rfl).get 2 rfl) (HF.wy rfl rfl rfl rfl hb10) rfl (fun a HF => ?_)
              obtain ⟨y7, hx9, h⟩ := obs h
              refine wc_call HF cf79 rfl (w_impl_isCell fuel hx9) (HF.wy rfl rfl rfl rfl hb10) rfl ?_
              rintro e w ⟨rfl, hE⟩
              have hb := hE.below
              have HT := HT.pure hE
              have HT : St w0 (fun _ => False) w [Box p1 [.int .i64 x0_0, .int .i64 x0_1, .int .i64 x0_2, .int .i64 x0_3]] := HT
              refine ⟨_, rfl, nS, fun a HF => ?_⟩
              refine wc_pick (b := true) HF nS rfl hb10 rfl rfl rfl (fun a HF => ?_)
              refine wc_move HF nS rfl rfl rfl (fun a HF => ?_)
              by_cases hb11 : y7 = true
              · have h := (if_pos hb11).symm.trans h
                refine wc_faddr HF nS rfl fl25_3 (HF.wy rfl rfl rfl rfl hb11) rfl (fun a HF => ?_)
                refine wc_load HF rfl sc3 ((HT.boxAt 0 rfl).get 3 rfl) (HF.wy rfl rfl rfl rfl hb11) rfl (fun a HF => ?_)
                refine wc_bin HF nS rfl rfl b_eq (HF.wy rfl rfl rfl rfl hb11) rfl (fun a HF => ?_)
                refine wc_pick (b := true) HF nS rfl hb11 rfl rfl rfl (fun a HF => ?_)
                refine wc_assign HF nS rfl rfl rfl (fun a HF => ?_)
                refine wc_end ?_
                refine then_n ?_
                refine wp_ret ?_
                obtain rfl := Option.some.inj h
                have h := retL hk1
                obtain rfl := Option.some.inj h
                refine blk_r (then_r (?_))
                refine bp_ret HF (res_one rfl HF rfl) ?_
                have HT : St w0 (fun _ => False) w [] := HT.take 0
                exact ⟨rfl, HT⟩
              · have h := (if_neg hb11).symm.trans h
                refine wc_skip HF nS (HF.wn rfl rfl rfl rfl (Bool.eq_false_iff.2 hb11)) rfl (fun a HF => ?_)
                refine wc_skip HF nS (HF.wn rfl rfl rfl rfl (Bool.eq_false_iff.2 hb11)) rfl (fun a HF => ?_)
                refine wc_skip HF nS (HF.wn rfl rfl rfl rfl (Bool.eq_false_iff.2 hb11)) rfl (fun a HF => ?_)
                refine wc_pick (b := false) HF nS rfl (Bool.eq_false_iff.2 hb11) rfl rfl rfl (fun a HF => ?_)
                refine wc_assign HF nS rfl rfl rfl (fun a HF => ?_)
                refine wc_end ?_
                refine then_n ?_
                refine wp_ret ?_
                obtain rfl := Option.some.inj h
                have h := retL hk1
                obtain rfl := Option.some.inj h
                refine blk_r (then_r (?_))
                refine bp_ret HF (res_one rfl HF rfl) ?_
                have HT : St w0 (fun _ => False) w [] := HT.take 0
                exact ⟨rfl, HT⟩
            · have h := (if_neg hb10).symm.trans h
              refine wc_skip HF nS (HF.wn rfl rfl rfl rfl (Bool.eq_false_iff.2 hb10)) rfl (fun a HF => ?_)
              refine wc_skip HF nS (HF.wn rfl rfl rfl rfl (Bool.eq_false_iff.2 hb10)) rfl (fun a HF => ?_)
              refine wc_skip HF nS (HF.wn rfl rfl rfl rfl (Bool.eq_false_iff.2 hb10)) rfl (fun a HF => ?_)
              refine wc_pick (b := false) HF nS rfl (Bool.eq_false_iff.2 hb10) rfl rfl rfl (fun a HF => ?_)
              refine wc_move HF nS rfl rfl rfl (fun a HF => ?_)
              refine wc_skip HF nS (HF.wn rfl rfl rfl rfl rfl) rfl (fun a HF => ?_)
              refine wc_skip HF nS (HF.wn rfl rfl rfl rfl rfl) rfl (fun a HF => ?_)
              refine wc_skip HF nS (HF.wn rfl rfl rfl rfl rfl) rfl (fun a HF => ?_)
              refine wc_pick (b := false) HF nS rfl rfl rfl rfl rfl (fun a HF => ?_)
              refine wc_assign HF nS rfl rfl rfl (fun a HF => ?_)
              refine wc_end ?_
              refine then_n ?_
              refine wp_ret ?_
              obtain rfl := Option.some.inj h
              have h := retL hk1
              obtain rfl := Option.some.inj h
              refine blk_r (then_r (?_))
              refine bp_ret HF (res_one rfl HF rfl) ?_
              have HT : St w0 (fun _ => False) w [] := HT.take 0
              exact ⟨rfl, HT⟩
          · have h := (if_neg hb9).symm.trans h
            refine wp_if (b' := false) HF rfl (decide_eq_false hb9) ?_
            refine wp_seq ?_
            refine wc_text ?_
            refine wc_bin HF nS rfl rfl b_eq rfl rfl (fun a HF => ?_)
            refine wc_assign HF nS rfl rfl rfl (fun a HF => ?_)
            refine wc_end ?_
            refine then_n ?_
            by_cases hb12 : x0_0 = 6
            · have h := (if_pos hb12).symm.trans h
              refine wp_if (b' := true) HF rfl (decide_eq_true hb12) ?_
              refine wp_seq ?_
              refine wc_text ?_
              refine wc_faddr HF nS rfl fl25_1 rfl rfl (fun a HF => ?_)
              refine wc_load HF rfl sc3 ((HT.boxAt 0 rfl).get 1 rfl) rfl rfl (fun a HF => ?_)
              obtain ⟨y8, hx10, h⟩ := obs h
              refine wc_call HF cf79 rfl (w_impl_isCell fuel hx10) rfl rfl ?_
              rintro e w ⟨rfl, hE⟩
              have hb := hE.below
              have HT := HT.pure hE
              have HT : St w0 (fun _ => False) w [Box p1 [.int .i64 x0_0, .int .i64 x0_1, .int .i64 x0_2, .int .i64 x0_3]] := HT
              refine ⟨_, rfl, nS, fun a HF => ?_⟩
              refine wc_move HF nS rfl rfl rfl (fun a HF => ?_)
              by_cases hb13 : y8 = true
              · have h := (if_pos hb13).symm.trans h
                refine wc_faddr HF nS rfl fl25_2 (HF.wy rfl rfl rfl rfl hb13) rfl (fun a HF => ?_)
                refine wc_load HF rfl sc3 ((HT.boxAt 0 rfl).get 2 rfl) (HF.wy rfl rfl rfl rfl hb13) rfl (fun a HF => ?_)
                obtain ⟨y9, hx11, h⟩ := obs h
                refine wc_call HF cf77 rfl (w_impl_isReg fuel hx11) (HF.wy rfl rfl rfl rfl hb13) rfl ?_
                rintro e w ⟨rfl, hE⟩
                have hb := hE.below
                have HT := HT.pure hE
                have HT : St w0 (fun _ => False) w [Box p1 [.int .i64 x0_0, .int .i64 x0_1, .int .i64 x0_2, .int .i64 x0_3]] := HT
                refine ⟨_, rfl, nS, fun a HF => ?_⟩
                refine wc_pick (b := true) HF nS rfl hb13 rfl rfl rfl (fun a HF => ?_)
                refine wc_move HF nS rfl rfl rfl (fun a HF => ?_)
                by_cases hb14 : y9 = true
                · have h := (if_pos hb14).symm.trans h
                  refine wc_faddr HF nS rfl fl25_3 (HF.wy rfl rfl rfl rfl hb14) rfl (fun a HF => ?_)
                  refine wc_load HF rfl sc3 ((HT.boxAt 0 rfl).get 3 rfl) (HF.wy rfl rfl rfl rfl hb14) rfl (fun a HF => ?_)
                  refine wc_bin HF nS rfl rfl b_eq (HF.wy rfl rfl rfl rfl hb14) rfl (fun a HF => ?_)
                  refine wc_pick (b := true) HF nS rfl hb14 rfl rfl rfl (fun a HF => ?_)
                  refine wc_assign HF nS rfl rfl rfl (fun a HF => ?_)
                  refine wc_end ?_
                  refine then_n ?_
                  refine wp_ret ?_
                  obtain rfl := Option.some.inj h
                  have h := retL hk1
                  obtain rfl := Option.some.inj h
                  refine blk_r (then_r (?_))
                  refine bp_ret HF (res_one rfl HF rfl) ?_
                  have HT : St w0 (fun _ => False) w [] := HT.take 0
                  exact ⟨rfl, HT⟩
                · have h := (if_neg hb14).symm.trans h
                  refine wc_skip HF nS (HF.wn rfl rfl rfl rfl (Bool.eq_false_iff.2 hb14)) rfl (fun a HF => ?_)
                  refine wc_skip HF nS (HF.wn rfl rfl rfl rfl (Bool.eq_false_iff.2 hb14)) rfl (fun a HF => ?_)
                  refine wc_skip HF nS (HF.wn rfl rfl rfl rfl (Bool.eq_false_iff.2 hb14)) rfl (fun a HF => ?_)
                  refine wc_pick (b := false) HF nS rfl (Bool.eq_false_iff.2 hb14) rfl rfl rfl (fun a HF => ?_)
                  refine wc_assign HF nS rfl rfl rfl (fun a HF => ?_)
                  refine wc_end ?_
                  refine then_n ?_
                  refine wp_ret ?_
                  obtain rfl := Option.some.inj h
                  have h := retL hk1
                  obtain rfl := Option.some.inj h
                  refine blk_r (then_r (?_))
                  refine bp_ret HF (res_one rfl HF rfl) ?_
                  have HT : St w0 (fun _ => False) w [] := HT.take 0
                  exact ⟨rfl, HT⟩
              · have h := (if_neg hb13).symm.trans h
                refine wc_skip HF nS (HF.wn rfl rfl rfl rfl (Bool.eq_false_iff.2 hb13)) rfl (fun a HF => ?_)
                refine wc_skip HF nS (HF.wn rfl rfl rfl rfl (Bool.eq_false_iff.2 hb13)) rfl (fun a HF => ?_)
                refine wc_skip HF nS (HF.wn rfl rfl rfl rfl (Bool.eq_false_iff.2 hb13)) rfl (fun a HF => ?_)
                refine wc_pick (b := false) HF nS rfl (Bool.eq_false_iff.2 hb13) rfl rfl rfl (fun a HF => ?_)
                refine wc_move HF nS rfl rfl rfl (fun a HF => ?_)
                refine wc_skip HF nS (HF.wn rfl rfl rfl rfl rfl) rfl (fun a HF => ?_)
                refine wc_skip HF nS (HF.wn rfl rfl rfl rfl rfl) rfl (fun a HF => ?_)
                refine wc_skip HF nS (HF.wn rfl rfl rfl rfl rfl) rfl (fun a HF => ?_)
                refine wc_pick (b := false) HF nS rfl rfl rfl rfl rfl (fun a HF => ?_)
                refine wc_assign HF nS rfl rfl rfl (fun a HF => ?_)
                refine wc_end ?_
                refine then_n ?_
                refine wp_ret ?_
                obtain rfl := Option.some.inj h
                have h := retL hk1
                obtain rfl := Option.some.inj h
                refine blk_r (then_r (?_))
                refine bp_ret HF (res_one rfl HF rfl) ?_
                have HT : St w0 (fun _ => False) w [] := HT.take 0
                exact ⟨rfl, HT⟩
            · have h := (if_neg hb12).symm.trans h
              refine wp_if (b' := false) HF rfl (decide_eq_false hb12) ?_
              refine wp_seq ?_
              refine wc_text ?_
              refine wc_bin HF nS rfl rfl b_eq rfl rfl (fun a HF => ?_)
              refine wc_assign HF nS rfl rfl rfl (fun a HF => ?_)
              refine wc_end ?_
              refine then_n ?_
              by_cases hb15 : x0_0 = 7
              · have h := (if_pos hb15).symm.trans h
                refine wp_if (b' := true) HF rfl (decide_eq_true hb15) ?_
                refine wp_seq ?_
                refine wc_text ?_
                refine wc_faddr HF nS rfl fl25_1 rfl rfl (fun a HF => ?_)
                refine wc_load HF rfl sc3 ((HT.boxAt 0 rfl).get 1 rfl) rfl rfl (fun a HF => ?_)
                obtain ⟨y10, hx12, h⟩ := obs h
                refine wc_call HF cf77 rfl (w_impl_isReg fuel hx12) rfl rfl ?_
                rintro e w ⟨rfl, hE⟩
                have hb := hE.below
                have HT := HT.pure hE
                have HT : St w0 (fun _ => False) w [Box p1 [.int .i64 x0_0, .int .i64 x0_1, .int .i64 x0_2, .int .i64 x0_3]] := HT
                refine ⟨_, rfl, nS, fun a HF => ?_⟩
                refine wc_move HF nS rfl rfl rfl (fun a HF => ?_)
                by_cases hb16 : y10 = true
                · have h := (if_pos hb16).symm.trans h
                  refine wc_faddr HF nS rfl fl25_2 (HF.wy rfl rfl rfl rfl hb16) rfl (fun a HF => ?_)
                  refine wc_load HF rfl sc3 ((HT.boxAt 0 rfl).get 2 rfl) (HF.wy rfl rfl rfl rfl hb16) rfl (fun a HF => ?_)
                  obtain ⟨y11, hx13, h⟩ := obs h
                  refine wc_call HF cf80 rfl (w_impl_within fuel hx13) (HF.wy rfl rfl rfl rfl hb16) rfl ?_
                  rintro e w ⟨rfl, hE⟩
                  have hb := hE.below
                  have HT := HT.pure hE
                  have HT : St w0 (fun _ => False) w [Box p1 [.int .i64 x0_0, .int .i64 x0_1, .int .i64 x0_2, .int .i64 x0_3]] := HT
                  refine ⟨_, rfl, nS, fun a HF => ?_⟩
                  refine wc_pick (b := true) HF nS rfl hb16 rfl rfl rfl (fun a HF => ?_)
                  refine wc_move HF nS rfl rfl rfl (fun a HF => ?_)
                  by_cases hb17 : y11 = true
                  · have h := (if_pos hb17).symm.trans h
                    refine wc_faddr HF nS rfl fl25_3 (HF.wy rfl rfl rfl rfl hb17) rfl (fun a HF => ?_)
                    refine wc_load HF rfl sc3 ((HT.boxAt 0 rfl).get 3 rfl) (HF.wy rfl rfl rfl rfl hb17) rfl (fun a HF => ?_)
                    refine wc_bin HF nS rfl rfl b_eq (HF.wy rfl rfl rfl rfl hb17) rfl (fun a HF => ?_)
                    refine wc_pick (b := true) HF nS rfl hb17 rfl rfl rfl (fun a HF => ?_)
                    refine wc_assign HF nS rfl rfl rfl (fun a HF => ?_)
                    refine wc_end ?_
                    refine then_n ?_
                    refine wp_ret ?_
                    obtain rfl := Option.some.inj h
                    have h := retL hk1
                    obtain rfl := Option.some.inj h
                    refine blk_r (then_r (?_))
                    refine bp_ret HF (res_one rfl HF rfl) ?_
                    have HT : St w0 (fun _ => False) w [] := HT.take 0
                    exact ⟨rfl, HT⟩
                  · have h := (if_neg hb17).symm.trans h
                    refine wc_skip HF nS (HF.wn rfl rfl rfl rfl (Bool.eq_false_iff.2 hb17)) rfl (fun a HF => ?_)
                    refine wc_skip HF nS (HF.wn rfl rfl rfl rfl (Bool.eq_false_iff.2 hb17)) rfl (fun a HF => ?_)
                    refine wc_skip HF nS (HF.wn rfl rfl rfl rfl (Bool.eq_false_iff.2 hb17)) rfl (fun a HF => ?_)
                    refine wc_pick (b := false) HF nS rfl (Bool.eq_false_iff.2 hb17) rfl rfl rfl (fun a HF => ?_)
                    refine wc_assign HF nS rfl rfl rfl (fun a HF => ?_)
                    refine wc_end ?_
                    refine then_n ?_
                    refine wp_ret ?_
                    obtain rfl := Option.some.inj h
                    have h := retL hk1
                    obtain rfl := Option.some.inj h
                    refine blk_r (then_r (?_))
                    refine bp_ret HF (res_one rfl HF rfl) ?_
                    have HT : St w0 (fun _ => False) w [] := HT.take 0
                    exact ⟨rfl, HT⟩
                · have h := (if_neg hb16).symm.trans h
                  refine wc_skip HF nS (HF.wn rfl rfl rfl rfl (Bool.eq_false_iff.2 hb16)) rfl (fun a HF => ?_)
                  refine wc_skip HF nS (HF.wn rfl rfl rfl rfl (Bool.eq_false_iff.2 hb16)) rfl (fun a HF => ?_)
                  refine wc_skip HF nS (HF.wn rfl rfl rfl rfl (Bool.eq_false_iff.2 hb16)) rfl (fun a HF => ?_)
                  refine wc_pick (b := false) HF nS rfl (Bool.eq_false_iff.2 hb16) rfl rfl rfl (fun a HF => ?_)
                  refine wc_move HF nS rfl rfl rfl (fun a HF => ?_)
                  refine wc_skip HF nS (HF.wn rfl rfl rfl rfl rfl) rfl (fun a HF => ?_)
                  refine wc_skip HF nS (HF.wn rfl rfl rfl rfl rfl) rfl (fun a HF => ?_)
                  refine wc_skip HF nS (HF.wn rfl rfl rfl rfl rfl) rfl (fun a HF => ?_)
                  refine wc_pick (b := false) HF nS rfl rfl rfl rfl rfl (fun a HF => ?_)
                  refine wc_assign HF nS rfl rfl rfl (fun a HF => ?_)
                  refine wc_end ?_
                  refine then_n ?_
                  refine wp_ret ?_
                  obtain rfl := Option.some.inj h
                  have h := retL hk1
                  obtain rfl := Option.some.inj h
                  refine blk_r (then_r (?_))
                  refine bp_ret HF (res_one rfl HF rfl) ?_
                  have HT : St w0 (fun _ => False) w [] := HT.take 0
                  exact ⟨rfl, HT⟩
              · have h := (if_neg hb15).symm.trans h
                refine wp_if (b' := false) HF rfl (decide_eq_false hb15) ?_
                obtain ⟨z2, hx14, h⟩ := obs h
                refine wp_cut (fun a w => Fr a 161 [(1, .pointer (some ⟨p1, 0, none⟩)), (4, .int .i64 x0_0), (82, .bool z2)] ∧ St w0 (fun _ => False) w [Box p1 [.int .i64 x0_0, .int .i64 x0_1, .int .i64 x0_2, .int .i64 x0_3]]) ?_ ?_
                · have hk2 := h
                  have h := hx14
                  refine wp_seq ?_
                  refine wc_text ?_
                  refine wc_bin HF nS rfl rfl b_eq rfl rfl (fun a HF => ?_)
                  refine wc_assign HF nS rfl rfl rfl (fun a HF => ?_)
                  refine wc_end ?_
                  refine then_n ?_
                  by_cases hb18 : x0_0 = 8
                  · have h := (if_pos hb18).symm.trans h
                    refine wp_if (b' := true) HF rfl (decide_eq_true hb18) ?_
                    refine wp_skip ?_
                    obtain rfl := Option.some.inj h
                    exact then_n ⟨(HF.keep (HF.keep (HF.keep HF.nil rfl) rfl) rfl), HT⟩
                  · have h := (if_neg hb18).symm.trans h
                    refine wp_if (b' := false) HF rfl (decide_eq_false hb18) ?_
                    refine wp_seq ?_
                    refine wc_text ?_
                    refine wc_bin HF nS rfl rfl b_eq rfl rfl (fun a HF => ?_)
                    refine wc_assign HF nS rfl rfl rfl (fun a HF => ?_)
                    refine wc_end ?_
                    refine then_n ?_
                    by_cases hb19 : x0_0 = 15
                    · have h := (if_pos hb19).symm.trans h
                      refine wp_if (b' := true) HF rfl (decide_eq_true hb19) ?_
                      refine wp_skip ?_
                      obtain rfl := Option.some.inj h
                      exact then_n ⟨(HF.keep (HF.keep (HF.keep HF.nil rfl) rfl) rfl), HT⟩
                    · have h := (if_neg hb19).symm.trans h
                      refine wp_if (b' := false) HF rfl (decide_eq_false hb19) ?_
                      refine wc_text ?_
                      refine wc_bin HF nS rfl rfl b_eq rfl rfl (fun a HF => ?_)
                      refine wc_assign HF nS rfl rfl rfl (fun a HF => ?_)
                      refine wc_end ?_
                      obtain rfl := Option.some.inj h
                      exact then_n ⟨(HF.keep (HF.keep (HF.keep HF.nil rfl) rfl) rfl), HT⟩
                · rintro a w ⟨HF, HT⟩
                  refine ?_
                  by_cases hb20 : z2 = true
                  · have h := (if_pos hb20).symm.trans h
                    refine wp_if (b' := true) HF rfl hb20 ?_
                    refine wp_seq ?_
                    refine wc_text ?_
                    refine wc_faddr HF nS rfl fl25_1 rfl rfl (fun a HF => ?_)
                    refine wc_load HF rfl sc3 ((HT.boxAt 0 rfl).get 1 rfl) rfl rfl (fun a HF => ?_)
                    obtain ⟨y12, hx15, h⟩ := obs h
                    refine wc_call HF cf77 rfl (w_impl_isReg fuel hx15) rfl rfl ?_
                    rintro e w ⟨rfl, hE⟩
                    have hb := hE.below
                    have HT := HT.pure hE
                    have HT : St w0 (fun _ => False) w [Box p1 [.int .i64 x0_0, .int .i64 x0_1, .int .i64 x0_2, .int .i64 x0_3]] := HT
                    refine ⟨_, rfl, nS, fun a HF => ?_⟩
                    refine wc_move HF nS rfl rfl rfl (fun a HF => ?_)
                    by_cases hb21 : y12 = true
                    · have h := (if_pos hb21).symm.trans h
                      refine wc_faddr HF nS rfl fl25_2 (HF.wy rfl rfl rfl rfl hb21) rfl (fun a HF => ?_)
                      refine wc_load HF rfl sc3 ((HT.boxAt 0 rfl).get 2 rfl) (HF.wy rfl rfl rfl rfl hb21) rfl (fun a HF => ?_)
                      refine wc_bin HF nS rfl rfl b_eq (HF.wy rfl rfl rfl rfl hb21) rfl (fun a HF => ?_)
                      refine wc_pick (b := true) HF nS rfl hb21 rfl rfl rfl (fun a HF => ?_)
                      refine wc_move HF nS rfl rfl rfl (fun a HF => ?_)
                      by_cases hb22 : x0_2 = 0
                      · have h := (if_pos hb22).symm.trans h
                        refine wc_faddr HF nS rfl fl25_3 (HF.wy rfl rfl rfl rfl (decide_eq_true hb22)) rfl (fun a HF => ?_)
                        refine wc_load HF rfl sc3 ((HT.boxAt 0 rfl).get 3 rfl) (HF.wy rfl rfl rfl rfl (decide_eq_true hb22)) rfl (fun a HF => ?_)
                        refine wc_bin HF nS rfl rfl b_eq (HF.wy rfl rfl rfl rfl (decide_eq_true hb22)) rfl (fun a HF => ?_)
                        refine wc_pick (b := true) HF nS rfl (decide_eq_true hb22) rfl rfl rfl (fun a HF => ?_)
                        refine wc_assign HF nS rfl rfl rfl (fun a HF => ?_)
                        refine wc_end ?_
                        refine then_n ?_
                        refine wp_ret ?_
                        obtain rfl := Option.some.inj h
                        have h := retL hk1
                        obtain rfl := Option.some.inj h
                        refine blk_r (then_r (?_))
                        refine bp_ret HF (res_one rfl HF rfl) ?_
                        have HT : St w0 (fun _ => False) w [] := HT.take 0
                        exact ⟨rfl, HT⟩
                      · have h := (if_neg hb22).symm.trans h
                        refine wc_skip HF nS (HF.wn rfl rfl rfl rfl (decide_eq_false hb22)) rfl (fun a HF => ?_)
                        refine wc_skip HF nS (HF.wn rfl rfl rfl rfl (decide_eq_false hb22)) rfl (fun a HF => ?_)
                        refine wc_skip HF nS (HF.wn rfl rfl rfl rfl (decide_eq_false hb22)) rfl (fun a HF => ?_)
                        refine wc_pick (b := false) HF nS rfl (decide_eq_false hb22) rfl rfl rfl (fun a HF => ?_)
                        refine wc_assign HF nS rfl rfl rfl (fun a HF => ?_)
                        refine wc_end ?_
                        refine then_n ?_
                        refine wp_ret ?_
                        obtain rfl := Option.some.inj h
                        have h := retL hk1
                        obtain rfl := Option.some.inj h
                        refine blk_r (then_r (?_))
                        refine bp_ret HF (res_one rfl HF rfl) ?_
                        have HT : St w0 (fun _ => False) w [] := HT.take 0
                        exact ⟨rfl, HT⟩
                    · have h := (if_neg hb21).symm.trans h
                      refine wc_skip HF nS (HF.wn rfl rfl rfl rfl (Bool.eq_false_iff.2 hb21)) rfl (fun a HF => ?_)
                      refine wc_skip HF nS (HF.wn rfl rfl rfl rfl (Bool.eq_false_iff.2 hb21)) rfl (fun a HF => ?_)
                      refine wc_skip HF nS (HF.wn rfl rfl rfl rfl (Bool.eq_false_iff.2 hb21)) rfl (fun a HF => ?_)
                      refine wc_pick (b := false) HF nS rfl (Bool.eq_false_iff.2 hb21) rfl rfl rfl (fun a HF => ?_)
                      refine wc_move HF nS rfl rfl rfl (fun a HF => ?_)
                      refine wc_skip HF nS (HF.wn rfl rfl rfl rfl rfl) rfl (fun a HF => ?_)
                      refine wc_skip HF nS (HF.wn rfl rfl rfl rfl rfl) rfl (fun a HF => ?_)
                      refine wc_skip HF nS (HF.wn rfl rfl rfl rfl rfl) rfl (fun a HF => ?_)
                      refine wc_pick (b := false) HF nS rfl rfl rfl rfl rfl (fun a HF => ?_)
                      refine wc_assign HF nS rfl rfl rfl (fun a HF => ?_)
                      refine wc_end ?_
                      refine then_n ?_
                      refine wp_ret ?_
                      obtain rfl := Option.some.inj h
                      have h := retL hk1
                      obtain rfl := Option.some.inj h
                      refine blk_r (then_r (?_))
                      refine bp_ret HF (res_one rfl HF rfl) ?_
                      have HT : St w0 (fun _ => False) w [] := HT.take 0
                      exact ⟨rfl, HT⟩
                  · have h := (if_neg hb20).symm.trans h
                    refine wp_if (b' := false) HF rfl (Bool.eq_false_iff.2 hb20) ?_
                    obtain ⟨z3, hx16, h⟩ := obs h
                    refine wp_cut (fun a w => Fr a 161 [(1, .pointer (some ⟨p1, 0, none⟩)), (4, .int .i64 x0_0), (99, .bool z3)] ∧ St w0 (fun _ => False) w [Box p1 [.int .i64 x0_0, .int .i64 x0_1, .int .i64 x0_2, .int .i64 x0_3]]) ?_ ?_
                    · have hk2 := h
                      have h := hx16
                      refine wp_seq ?_
                      refine wc_text ?_
                      refine wc_bin HF nS rfl rfl b_eq rfl rfl (fun a HF => ?_)
                      refine wc_assign HF nS rfl rfl rfl (fun a HF => ?_)
                      refine wc_end ?_
                      refine then_n ?_
                      by_cases hb23 : x0_0 = 9
                      · have h := (if_pos hb23).symm.trans h
                        refine wp_if (b' := true) HF rfl (decide_eq_true hb23) ?_
                        refine wp_skip ?_
                        obtain rfl := Option.some.inj h
                        exact then_n ⟨(HF.keep (HF.keep (HF.keep HF.nil rfl) rfl) rfl), HT⟩
                      · have h := (if_neg hb23).symm.trans h
                        refine wp_if (b' := false) HF rfl (decide_eq_false hb23) ?_
                        refine wp_seq ?_
                        refine wc_text ?_
                        refine wc_bin HF nS rfl rfl b_eq rfl rfl (fun a HF => ?_)
                        refine wc_assign HF nS rfl rfl rfl (fun a HF => ?_)
                        refine wc_end ?_
                        refine then_n ?_
                        by_cases hb24 : x0_0 = 10
                        · have h := (if_pos hb24).symm.trans h
                          refine wp_if (b' := true) HF rfl (decide_eq_true hb24) ?_
                          refine wp_skip ?_
                          obtain rfl := Option.some.inj h
                          exact then_n ⟨(HF.keep (HF.keep (HF.keep HF.nil rfl) rfl) rfl), HT⟩
                        · have h := (if_neg hb24).symm.trans h
                          refine wp_if (b' := false) HF rfl (decide_eq_false hb24) ?_
                          refine wc_text ?_
                          refine wc_bin HF nS rfl rfl b_eq rfl rfl (fun a HF => ?_)
                          refine wc_assign HF nS rfl rfl rfl (fun a HF => ?_)
                          refine wc_end ?_
                          obtain rfl := Option.some.inj h
                          exact then_n ⟨(HF.keep (HF.keep (HF.keep HF.nil rfl) rfl) rfl), HT⟩
                    · rintro a w ⟨HF, HT⟩
                      refine ?_
                      by_cases hb25 : z3 = true
                      · have h := (if_pos hb25).symm.trans h
                        refine wp_if (b' := true) HF rfl hb25 ?_
                        refine wp_seq ?_
                        refine wc_text ?_
                        refine wc_faddr HF nS rfl fl25_1 rfl rfl (fun a HF => ?_)
                        refine wc_load HF rfl sc3 ((HT.boxAt 0 rfl).get 1 rfl) rfl rfl (fun a HF => ?_)
                        refine wc_bin HF nS rfl rfl b_eq rfl rfl (fun a HF => ?_)
                        refine wc_move HF nS rfl rfl rfl (fun a HF => ?_)
                        by_cases hb26 : x0_1 = 0
                        · have h := (if_pos hb26).symm.trans h
                          refine wc_faddr HF nS rfl fl25_2 (HF.wy rfl rfl rfl rfl (decide_eq_true hb26)) rfl (fun a HF => ?_)
                          refine wc_load HF rfl sc3 ((HT.boxAt 0 rfl).get 2 rfl) (HF.wy rfl rfl rfl rfl (decide_eq_true hb26)) rfl (fun a HF => ?_)
                          refine wc_bin HF nS rfl rfl b_eq (HF.wy rfl rfl rfl rfl (decide_eq_true hb26)) rfl (fun a HF => ?_)
                          refine wc_pick (b := true) HF nS rfl (decide_eq_true hb26) rfl rfl rfl (fun a HF => ?_)
                          refine wc_move HF nS rfl rfl rfl (fun a HF => ?_)
                          by_cases hb27 : x0_2 = 0
                          · have h := (if_pos hb27).symm.trans h
                            refine wc_faddr HF nS rfl fl25_3 (HF.wy rfl rfl rfl rfl (decide_eq_true hb27)) rfl (fun a HF => ?_)
                            refine wc_load HF rfl sc3 ((HT.boxAt 0 rfl).get 3 rfl) (HF.wy rfl rfl rfl rfl (decide_eq_true hb27)) rfl (fun a HF => ?_)
                            refine wc_bin HF nS rfl rfl b_eq (HF.wy rfl rfl rfl rfl (decide_eq_true hb27)) rfl (fun a HF => ?_)
                            refine wc_pick (b := true) HF nS rfl (decide_eq_true hb27) rfl rfl rfl (fun a HF => ?_)
                            refine wc_assign HF nS rfl rfl rfl (fun a HF => ?_)
                            refine wc_end ?_
                            refine then_n ?_
                            refine wp_ret ?_
                            obtain rfl := Option.some.inj h
                            have h := retL hk1
                            obtain rfl := Option.some.inj h
                            refine blk_r (then_r (?_))
                            refine bp_ret HF (res_one rfl HF rfl) ?_
                            have HT : St w0 (fun _ => False) w [] := HT.take 0
                            exact ⟨rfl, HT⟩
                          · have h := (if_neg hb27).symm.trans h
                            refine wc_skip HF nS (HF.wn rfl rfl rfl rfl (decide_eq_false hb27)) rfl (fun a HF => ?_)
                            refine wc_skip HF nS (HF.wn rfl rfl rfl rfl (decide_eq_false hb27)) rfl (fun a HF => ?_)
                            refine wc_skip HF nS (HF.wn rfl rfl rfl rfl (decide_eq_false hb27)) rfl (fun a HF => ?_)
                            refine wc_pick (b := false) HF nS rfl (decide_eq_false hb27) rfl rfl rfl (fun a HF => ?_)
                            refine wc_assign HF nS rfl rfl rfl (fun a HF => ?_)
                            refine wc_end ?_
                            refine then_n ?_
                            refine wp_ret ?_
                            obtain rfl := Option.some.inj h
                            have h := retL hk1
                            obtain rfl := Option.some.inj h
                            refine blk_r (then_r (?_))
                            refine bp_ret HF (res_one rfl HF rfl) ?_
                            have HT : St w0 (fun _ => False) w [] := HT.take 0
                            exact ⟨rfl, HT⟩
                        · have h := (if_neg hb26).symm.trans h
                          refine wc_skip HF nS (HF.wn rfl rfl rfl rfl (decide_eq_false hb26)) rfl (fun a HF => ?_)
                          refine wc_skip HF nS (HF.wn rfl rfl rfl rfl (decide_eq_false hb26)) rfl (fun a HF => ?_)
                          refine wc_skip HF nS (HF.wn rfl rfl rfl rfl (decide_eq_false hb26)) rfl (fun a HF => ?_)
                          refine wc_pick (b := false) HF nS rfl (decide_eq_false hb26) rfl rfl rfl (fun a HF => ?_)
                          refine wc_move HF nS rfl rfl rfl (fun a HF => ?_)
                          refine wc_skip HF nS (HF.wn rfl rfl rfl rfl rfl) rfl (fun a HF => ?_)
                          refine wc_skip HF nS (HF.wn rfl rfl rfl rfl rfl) rfl (fun a HF => ?_)
                          refine wc_skip HF nS (HF.wn rfl rfl rfl rfl rfl) rfl (fun a HF => ?_)
                          refine wc_pick (b := false) HF nS rfl rfl rfl rfl rfl (fun a HF => ?_)
                          refine wc_assign HF nS rfl rfl rfl (fun a HF => ?_)
                          refine wc_end ?_
                          refine then_n ?_
                          refine wp_ret ?_
                          obtain rfl := Option.some.inj h
                          have h := retL hk1
                          obtain rfl := Option.some.inj h
                          refine blk_r (then_r (?_))
                          refine bp_ret HF (res_one rfl HF rfl) ?_
                          have HT : St w0 (fun _ => False) w [] := HT.take 0
                          exact ⟨rfl, HT⟩
                      · have h := (if_neg hb25).symm.trans h
                        refine wp_if (b' := false) HF rfl (Bool.eq_false_iff.2 hb25) ?_
                        refine wp_seq ?_
                        refine wc_text ?_
                        refine wc_bin HF nS rfl rfl b_eq rfl rfl (fun a HF => ?_)
                        refine wc_assign HF nS rfl rfl rfl (fun a HF => ?_)
                        refine wc_end ?_
                        refine then_n ?_
                        by_cases hb28 : x0_0 = 12
                        · have h := (if_pos hb28).symm.trans h
                          refine wp_if (b' := true) HF rfl (decide_eq_true hb28) ?_
                          refine wp_seq ?_
                          refine wc_text ?_
                          refine wc_faddr HF nS rfl fl25_1 rfl rfl (fun a HF => ?_)
                          refine wc_load HF rfl sc3 ((HT.boxAt 0 rfl).get 1 rfl) rfl rfl (fun a HF => ?_)
                          obtain ⟨y13, hx17, h⟩ := obs h
                          refine wc_call HF cf81 rfl (w_impl_isKey fuel hx17) rfl rfl ?_
                          rintro e w ⟨rfl, hE⟩
                          have hb := hE.below
                          have HT := HT.pure hE
                          have HT : St w0 (fun _ => False) w [Box p1 [.int .i64 x0_0, .int .i64 x0_1, .int .i64 x0_2, .int .i64 x0_3]] := HT
                          refine ⟨_, rfl, nS, fun a HF => ?_⟩
                          refine wc_move HF nS rfl rfl rfl (fun a HF => ?_)
                          by_cases hb29 : y13 = true
                          · have h := (if_pos hb29).symm.trans h
                            refine wc_faddr HF nS rfl fl25_2 (HF.wy rfl rfl rfl rfl hb29) rfl (fun a HF => ?_)
                            refine wc_load HF rfl sc3 ((HT.boxAt 0 rfl).get 2 rfl) (HF.wy rfl rfl rfl rfl hb29) rfl (fun a HF => ?_)
                            obtain ⟨y14, hx18, h⟩ := obs h
                            refine wc_call HF cf77 rfl (w_impl_isReg fuel hx18) (HF.wy rfl rfl rfl rfl hb29) rfl ?_
                            rintro e w ⟨rfl, hE⟩
                            have hb := hE.below
                            have HT := HT.pure hE
                            have HT : St w0 (fun _ => False) w [Box p1 [.int .i64 x0_0, .int .i64 x0_1, .int .i64 x0_2, .int .i64 x0_3]] := HT
                            refine ⟨_, rfl, nS, fun a HF => ?_⟩
                            refine wc_pick (b := true) HF nS rfl hb29 rfl rfl rfl (fun a HF => ?_)
                            refine wc_move HF nS rfl rfl rfl (fun a HF => ?_)
                            by_cases hb30 : y14 = true
                            · have h := (if_pos hb30).symm.trans h
                              refine wc_faddr HF nS rfl fl25_3 (HF.wy rfl rfl rfl rfl hb30) rfl (fun a HF => ?_)
                              refine wc_load HF rfl sc3 ((HT.boxAt 0 rfl).get 3 rfl) (HF.wy rfl rfl rfl rfl hb30) rfl (fun a HF => ?_)
                              obtain ⟨y15, hx19, h⟩ := obs h
                              refine wc_call HF cf77 rfl (w_impl_isReg fuel hx19) (HF.wy rfl rfl rfl rfl hb30) rfl ?_
                              rintro e w ⟨rfl, hE⟩
                              have hb := hE.below
                              have HT := HT.pure hE
                              have HT : St w0 (fun _ => False) w [Box p1 [.int .i64 x0_0, .int .i64 x0_1, .int .i64 x0_2, .int .i64 x0_3]] := HT
                              refine ⟨_, rfl, nS, fun a HF => ?_⟩
                              refine wc_pick (b := true) HF nS rfl hb30 rfl rfl rfl (fun a HF => ?_)
                              refine wc_assign HF nS rfl rfl rfl (fun a HF => ?_)
                              refine wc_end ?_
                              refine then_n ?_
                              refine wp_ret ?_
                              obtain rfl := Option.some.inj h
                              have h := retL hk1
                              obtain rfl := Option.some.inj h
                              refine blk_r (then_r (?_))
                              refine bp_ret HF (res_one rfl HF rfl) ?_
                              have HT : St w0 (fun _ => False) w [] := HT.take 0
                              exact ⟨rfl, HT⟩
                            · have h := (if_neg hb30).symm.trans h
                              refine wc_skip HF nS (HF.wn rfl rfl rfl rfl (Bool.eq_false_iff.2 hb30)) rfl (fun a HF => ?_)
                              refine wc_skip HF nS (HF.wn rfl rfl rfl rfl (Bool.eq_false_iff.2 hb30)) rfl (fun a HF => ?_)
                              refine wc_skip HF nS (HF.wn rfl rfl rfl rfl (Bool.eq_false_iff.2 hb30)) rfl (fun a HF => ?_)
                              refine wc_pick (b := false) HF nS rfl (Bool.eq_false_iff.2 hb30) rfl rfl rfl (fun a HF => ?_)
                              refine wc_assign HF nS rfl rfl rfl (fun a HF => ?_)
                              refine wc_end ?_
                              refine then_n ?_
                              refine wp_ret ?_
                              obtain rfl := Option.some.inj h
                              have h := retL hk1
                              obtain rfl := Option.some.inj h
                              refine blk_r (then_r (?_))
                              refine bp_ret HF (res_one rfl HF rfl) ?_
                              have HT : St w0 (fun _ => False) w [] := HT.take 0
                              exact ⟨rfl, HT⟩
                          · have h := (if_neg hb29).symm.trans h
                            refine wc_skip HF nS (HF.wn rfl rfl rfl rfl (Bool.eq_false_iff.2 hb29)) rfl (fun a HF => ?_)
                            refine wc_skip HF nS (HF.wn rfl rfl rfl rfl (Bool.eq_false_iff.2 hb29)) rfl (fun a HF => ?_)
                            refine wc_skip HF nS (HF.wn rfl rfl rfl rfl (Bool.eq_false_iff.2 hb29)) rfl (fun a HF => ?_)
                            refine wc_pick (b := false) HF nS rfl (Bool.eq_false_iff.2 hb29) rfl rfl rfl (fun a HF => ?_)
                            refine wc_move HF nS rfl rfl rfl (fun a HF => ?_)
                            refine wc_skip HF nS (HF.wn rfl rfl rfl rfl rfl) rfl (fun a HF => ?_)
                            refine wc_skip HF nS (HF.wn rfl rfl rfl rfl rfl) rfl (fun a HF => ?_)
                            refine wc_skip HF nS (HF.wn rfl rfl rfl rfl rfl) rfl (fun a HF => ?_)
                            refine wc_pick (b := false) HF nS rfl rfl rfl rfl rfl (fun a HF => ?_)
                            refine wc_assign HF nS rfl rfl rfl (fun a HF => ?_)
                            refine wc_end ?_
                            refine then_n ?_
                            refine wp_ret ?_
                            obtain rfl := Option.some.inj h
                            have h := retL hk1
                            obtain rfl := Option.some.inj h
                            refine blk_r (then_r (?_))
                            refine bp_ret HF (res_one rfl HF rfl) ?_
                            have HT : St w0 (fun _ => False) w [] := HT.take 0
                            exact ⟨rfl, HT⟩
                        · have h := (if_neg hb28).symm.trans h
                          refine wp_if (b' := false) HF rfl (decide_eq_false hb28) ?_
                          refine wp_seq ?_
                          refine wc_text ?_
                          refine wc_bin HF nS rfl rfl b_eq rfl rfl (fun a HF => ?_)
                          refine wc_assign HF nS rfl rfl rfl (fun a HF => ?_)
                          refine wc_end ?_
                          refine then_n ?_
                          by_cases hb31 : x0_0 = 13
                          · have h := (if_pos hb31).symm.trans h
                            refine wp_if (b' := true) HF rfl (decide_eq_true hb31) ?_
                            refine wp_seq ?_
                            refine wc_text ?_
                            refine wc_faddr HF nS rfl fl25_1 rfl rfl (fun a HF => ?_)
                            refine wc_load HF rfl sc3 ((HT.boxAt 0 rfl).get 1 rfl) rfl rfl (fun a HF => ?_)
                            obtain ⟨y16, hx20, h⟩ := obs h
                            refine wc_call HF cf77 rfl (w_impl_isReg fuel hx20) rfl rfl ?_
                            rintro e w ⟨rfl, hE⟩
                            have hb := hE.below
                            have HT := HT.pure hE
                            have HT : St w0 (fun _ => False) w [Box p1 [.int .i64 x0_0, .int .i64 x0_1, .int .i64 x0_2, .int .i64 x0_3]] := HT
                            refine ⟨_, rfl, nS, fun a HF => ?_⟩
                            refine wc_move HF nS rfl rfl rfl (fun a HF => ?_)
                            by_cases hb32 : y16 = true
                            · have h := (if_pos hb32).symm.trans h
                              refine wc_faddr HF nS rfl fl25_2 (HF.wy rfl rfl rfl rfl hb32) rfl (fun a HF => ?_)
                              refine wc_load HF rfl sc3 ((HT.boxAt 0 rfl).get 2 rfl) (HF.wy rfl rfl rfl rfl hb32) rfl (fun a HF => ?_)
                              obtain ⟨y17, hx21, h⟩ := obs h
                              refine wc_call HF cf81 rfl (w_impl_isKey fuel hx21) (HF.wy rfl rfl rfl rfl hb32) rfl ?_
                              rintro e w ⟨rfl, hE⟩
                              have hb := hE.below
                              have HT := HT.pure hE
                              have HT : St w0 (fun _ => False) w [Box p1 [.int .i64 x0_0, .int .i64 x0_1, .int .i64 x0_2, .int .i64 x0_3]] := HT
                              refine ⟨_, rfl, nS, fun a HF => ?_⟩
                              refine wc_pick (b := true) HF nS rfl hb32 rfl rfl rfl (fun a HF => ?_)
                              refine wc_move HF nS rfl rfl rfl (fun a HF => ?_)
                              by_cases hb33 : y17 = true
                              · have h := (if_pos hb33).symm.trans h
                                refine wc_faddr HF nS rfl fl25_3 (HF.wy rfl rfl rfl rfl hb33) rfl (fun a HF => ?_)
                                refine wc_load HF rfl sc3 ((HT.boxAt 0 rfl).get 3 rfl) (HF.wy rfl rfl rfl rfl hb33) rfl (fun a HF => ?_)
                                refine wc_bin HF nS rfl rfl b_eq (HF.wy rfl rfl rfl rfl hb33) rfl (fun a HF => ?_)
                                refine wc_pick (b := true) HF nS rfl hb33 rfl rfl rfl (fun a HF => ?_)
                                refine wc_assign HF nS rfl rfl rfl (fun a HF => ?_)
                                refine wc_end ?_
                                refine then_n ?_
                                refine wp_ret ?_
                                obtain rfl := Option.some.inj h
                                have h := retL hk1
                                obtain rfl := Option.some.inj h
                                refine blk_r (then_r (?_))
                                refine bp_ret HF (res_one rfl HF rfl) ?_
                                have HT : St w0 (fun _ => False) w [] := HT.take 0
                                exact ⟨rfl, HT⟩
                              · have h := (if_neg hb33).symm.trans h
                                refine wc_skip HF nS (HF.wn rfl rfl rfl rfl (Bool.eq_false_iff.2 hb33)) rfl (fun a HF => ?_)
                                refine wc_skip HF nS (HF.wn rfl rfl rfl rfl (Bool.eq_false_iff.2 hb33)) rfl (fun a HF => ?_)
                                refine wc_skip HF nS (HF.wn rfl rfl rfl rfl (Bool.eq_false_iff.2 hb33)) rfl (fun a HF => ?_)
                                refine wc_pick (b := false) HF nS rfl (Bool.eq_false_iff.2 hb33) rfl rfl rfl (fun a HF => ?_)
                                refine wc_assign HF nS rfl rfl rfl (fun a HF => ?_)
                                refine wc_end ?_
                                refine then_n ?_
                                refine wp_ret ?_
                                obtain rfl := Option.some.inj h
                                have h := retL hk1
                                obtain rfl := Option.some.inj h
                                refine blk_r (then_r (?_))
                                refine bp_ret HF (res_one rfl HF rfl) ?_
                                have HT : St w0 (fun _ => False) w [] := HT.take 0
                                exact ⟨rfl, HT⟩
                            · have h := (if_neg hb32).symm.trans h
                              refine wc_skip HF nS (HF.wn rfl rfl rfl rfl (Bool.eq_false_iff.2 hb32)) rfl (fun a HF => ?_)
                              refine wc_skip HF nS (HF.wn rfl rfl rfl rfl (Bool.eq_false_iff.2 hb32)) rfl (fun a HF => ?_)
                              refine wc_skip HF nS (HF.wn rfl rfl rfl rfl (Bool.eq_false_iff.2 hb32)) rfl (fun a HF => ?_)
                              refine wc_pick (b := false) HF nS rfl (Bool.eq_false_iff.2 hb32) rfl rfl rfl (fun a HF => ?_)
                              refine wc_move HF nS rfl rfl rfl (fun a HF => ?_)
                              refine wc_skip HF nS (HF.wn rfl rfl rfl rfl rfl) rfl (fun a HF => ?_)
                              refine wc_skip HF nS (HF.wn rfl rfl rfl rfl rfl) rfl (fun a HF => ?_)
                              refine wc_skip HF nS (HF.wn rfl rfl rfl rfl rfl) rfl (fun a HF => ?_)
                              refine wc_pick (b := false) HF nS rfl rfl rfl rfl rfl (fun a HF => ?_)
                              refine wc_assign HF nS rfl rfl rfl (fun a HF => ?_)
                              refine wc_end ?_
                              refine then_n ?_
                              refine wp_ret ?_
                              obtain rfl := Option.some.inj h
                              have h := retL hk1
                              obtain rfl := Option.some.inj h
                              refine blk_r (then_r (?_))
                              refine bp_ret HF (res_one rfl HF rfl) ?_
                              have HT : St w0 (fun _ => False) w [] := HT.take 0
                              exact ⟨rfl, HT⟩
                          · have h := (if_neg hb31).symm.trans h
                            refine wp_if (b' := false) HF rfl (decide_eq_false hb31) ?_
                            refine wp_seq ?_
                            refine wc_text ?_
                            refine wc_bin HF nS rfl rfl b_eq rfl rfl (fun a HF => ?_)
                            refine wc_assign HF nS rfl rfl rfl (fun a HF => ?_)
                            refine wc_end ?_
                            refine then_n ?_
                            by_cases hb34 : x0_0 = 14
                            · have h := (if_pos hb34).symm.trans h
                              refine wp_if (b' := true) HF rfl (decide_eq_true hb34) ?_
                              refine wp_seq ?_
                              refine wc_text ?_
                              refine wc_faddr HF nS rfl fl25_1 rfl rfl (fun a HF => ?_)
                              refine wc_load HF rfl sc3 ((HT.boxAt 0 rfl).get 1 rfl) rfl rfl (fun a HF => ?_)
                              obtain ⟨y18, hx22, h⟩ := obs h
                              refine wc_call HF cf81 rfl (w_impl_isKey fuel hx22) rfl rfl ?_
                              rintro e w ⟨rfl, hE⟩
                              have hb := hE.below
                              have HT := HT.pure hE
                              have HT : St w0 (fun _ => False) w [Box p1 [.int .i64 x0_0, .int .i64 x0_1, .int .i64 x0_2, .int .i64 x0_3]] := HT
                              refine ⟨_, rfl, nS, fun a HF => ?_⟩
                              refine wc_move HF nS rfl rfl rfl (fun a HF => ?_)
                              by_cases hb35 : y18 = true
                              · have h := (if_pos hb35).symm.trans h
                                refine wc_faddr HF nS rfl fl25_2 (HF.wy rfl rfl rfl rfl hb35) rfl (fun a HF => ?_)
                                refine wc_load HF rfl sc3 ((HT.boxAt 0 rfl).get 2 rfl) (HF.wy rfl rfl rfl rfl hb35) rfl (fun a HF => ?_)
                                obtain ⟨y19, hx23, h⟩ := obs h
                                refine wc_call HF cf77 rfl (w_impl_isReg fuel hx23) (HF.wy rfl rfl rfl rfl hb35) rfl ?_
                                rintro e w ⟨rfl, hE⟩
                                have hb := hE.below
                                have HT := HT.pure hE
                                have HT : St w0 (fun _ => False) w [Box p1 [.int .i64 x0_0, .int .i64 x0_1, .int .i64 x0_2, .int .i64 x0_3]] := HT
                                refine ⟨_, rfl, nS, fun a HF => ?_⟩
                                refine wc_pick (b := true) HF nS rfl hb35 rfl rfl rfl (fun a HF => ?_)
                                refine wc_move HF nS rfl rfl rfl (fun a HF => ?_)
                                by_cases hb36 : y19 = true
                                · have h := (if_pos hb36).symm.trans h
                                  refine wc_faddr HF nS rfl fl25_3 (HF.wy rfl rfl rfl rfl hb36) rfl (fun a HF => ?_)
                                  refine wc_load HF rfl sc3 ((HT.boxAt 0 rfl).get 3 rfl) (HF.wy rfl rfl rfl rfl hb36) rfl (fun a HF => ?_)
                                  refine wc_bin HF nS rfl rfl b_eq (HF.wy rfl rfl rfl rfl hb36) rfl (fun a HF => ?_)
                                  refine wc_pick (b := true) HF nS rfl hb36 rfl rfl rfl (fun a HF => ?_)
                                  refine wc_assign HF nS rfl rfl rfl (fun a HF => ?_)
                                  refine wc_end ?_
                                  refine then_n ?_
                                  refine wp_ret ?_
                                  obtain rfl := Option.some.inj h
                                  have h := retL hk1
                                  obtain rfl := Option.some.inj h
                                  refine blk_r (then_r (?_))
                                  refine bp_ret HF (res_one rfl HF rfl) ?_
                                  have HT : St w0 (fun _ => False) w [] := HT.take 0
                                  exact ⟨rfl, HT⟩
                                · have h := (if_neg hb36).symm.trans h
                                  refine wc_skip HF nS (HF.wn rfl rfl rfl rfl (Bool.eq_false_iff.2 hb36)) rfl (fun a HF => ?_)
                                  refine wc_skip HF nS (HF.wn rfl rfl rfl rfl (Bool.eq_false_iff.2 hb36)) rfl (fun a HF => ?_)
                                  refine wc_skip HF nS (HF.wn rfl rfl rfl rfl (Bool.eq_false_iff.2 hb36)) rfl (fun a HF => ?_)
                                  refine wc_pick (b := false) HF nS rfl (Bool.eq_false_iff.2 hb36) rfl rfl rfl (fun a HF => ?_)
                                  refine wc_assign HF nS rfl rfl rfl (fun a HF => ?_)
                                  refine wc_end ?_
                                  refine then_n ?_
                                  refine wp_ret ?_
                                  obtain rfl := Option.some.inj h
                                  have h := retL hk1
                                  obtain rfl := Option.some.inj h
                                  refine blk_r (then_r (?_))
                                  refine bp_ret HF (res_one rfl HF rfl) ?_
                                  have HT : St w0 (fun _ => False) w [] := HT.take 0
                                  exact ⟨rfl, HT⟩
                              · have h := (if_neg hb35).symm.trans h
                                refine wc_skip HF nS (HF.wn rfl rfl rfl rfl (Bool.eq_false_iff.2 hb35)) rfl (fun a HF => ?_)
                                refine wc_skip HF nS (HF.wn rfl rfl rfl rfl (Bool.eq_false_iff.2 hb35)) rfl (fun a HF => ?_)
                                refine wc_skip HF nS (HF.wn rfl rfl rfl rfl (Bool.eq_false_iff.2 hb35)) rfl (fun a HF => ?_)
                                refine wc_pick (b := false) HF nS rfl (Bool.eq_false_iff.2 hb35) rfl rfl rfl (fun a HF => ?_)
                                refine wc_move HF nS rfl rfl rfl (fun a HF => ?_)
                                refine wc_skip HF nS (HF.wn rfl rfl rfl rfl rfl) rfl (fun a HF => ?_)
                                refine wc_skip HF nS (HF.wn rfl rfl rfl rfl rfl) rfl (fun a HF => ?_)
                                refine wc_skip HF nS (HF.wn rfl rfl rfl rfl rfl) rfl (fun a HF => ?_)
                                refine wc_pick (b := false) HF nS rfl rfl rfl rfl rfl (fun a HF => ?_)
                                refine wc_assign HF nS rfl rfl rfl (fun a HF => ?_)
                                refine wc_end ?_
                                refine then_n ?_
                                refine wp_ret ?_
                                obtain rfl := Option.some.inj h
                                have h := retL hk1
                                obtain rfl := Option.some.inj h
                                refine blk_r (then_r (?_))
                                refine bp_ret HF (res_one rfl HF rfl) ?_
                                have HT : St w0 (fun _ => False) w [] := HT.take 0
                                exact ⟨rfl, HT⟩
                            · have h := (if_neg hb34).symm.trans h
                              refine wp_if (b' := false) HF rfl (decide_eq_false hb34) ?_
                              refine wp_skip ?_
                              refine blk_n ?_
                              have HT : St w0 (fun _ => False) w [] := HT.take 0
                              exact then_n ⟨(Option.some.inj h).symm, HF.nil, HT⟩
  · rintro a w ⟨rfl, HF, HT⟩
    have h := brkL1u h
    refine ?_
    refine wp_seq ?_
    refine wc_text ?_
    refine wc_assign HF nS rfl rfl rfl (fun a HF => ?_)
    refine wc_end ?_
    refine then_n ?_
    refine wp_ret ?_
    obtain rfl := Option.some.inj h
    refine bp_ret HF (res_one rfl HF rfl) ?_
    exact ⟨rfl, HT⟩

def m_impl_isBalanced_L0 (fuel : Nat) (x0 : List I4) : Nat → Int → Int → Option (Lp Int Bool)
  | 0, _, _ => none
  | k1 + 1, z2, z3 =>
    if z3 < (x0.length : Int) then
      (at? x0 z3).bind fun e1 =>
      (m_impl_opens fuel e1.a e1.b e1.c e1.d).bind fun y1 =>
      if in64 (z2 + y1) then
        if (z2 + y1) < 0 then
          some (.ret false)
        else
          if in64 (z3 + 1) then
            m_impl_isBalanced_L0 fuel x0 k1 (z2 + y1) (z3 + 1)
          else none
      else none
    else
      some (.brk z2)

def m_impl_isBalanced (fuel : Nat) (x0 : List I4) : Option Bool :=
  (m_impl_isBalanced_L0 fuel x0 fuel 0 0).bind <| contL <| un1 fun z1 =>
  some (decide (z1 = 0))

set_option maxRecDepth 100000 in
set_option maxHeartbeats 4000000 in
theorem w_impl_isBalanced (fuel : Nat) {x0 : List I4} {a_x0 : Option Addr} {n_x0 c_x0 : Nat} {r0 : Bool} {w0 : World} (h : m_impl_isBalanced fuel x0 = some r0) (hr_x0 : RdT (fun b => ¬ False) w0 (rowT x0) (.slice a_x0 n_x0 c_x0)) :
    Calls Try.prog 83 #[.slice a_x0 n_x0 c_x0] w0 fun e w => e = .returned (.bool r0) ∧ St w0 (fun _ => False) w [] := by
  obtain rfl := hr_x0.neq
  have HT : St w0 (fun _ => False) w0 [] := St.init0
  rw [m_impl_isBalanced] at h
  refine calls_fr (n := 21) [.slice a_x0 x0.length c_x0] Try.func83 rfl rfl rfl (fun a HF => ?_)
  have HT : St w0 (fun _ => False) w0 [] := HT
  refine wp_seq ?_
  refine wc_text ?_
  refine wc_assign HF nS rfl rfl rfl (fun a HF => ?_)
  refine wc_end ?_
  refine then_n ?_
  refine wp_seq ?_
  refine wc_text ?_
  refine wc_assign HF nS rfl rfl rfl (fun a HF => ?_)
  refine wc_end ?_
  refine then_n ?_
  obtain ⟨q1, hx1, h⟩ := obs h
  refine wp_cut (fun a w => ∃ z1, q1 = .brk z1 ∧ Fr a 21 [(3, .int .i64 z1)] ∧ St w0 (fun _ => False) w []) ?_ ?_
  · have hk1 := h
    have h := hx1
    refine wp_seq ?_
    refine wc_text ?_
    refine wc_move HF nS rfl rfl rfl (fun a HF => ?_)
    refine wc_lenR HF nS Try.underlying35 rfl rfl rfl (fun a HF => ?_)
    refine wc_move HF nS rfl rfl rfl (fun a HF => ?_)
    refine wc_end ?_
    refine then_n ?_
    refine wp_block ?_
    refine wp_loopN (fun k1 a w => ∃ z2 z3, m_impl_isBalanced_L0 fuel x0 k1 z2 z3 = some q1 ∧ Fr a 21 [(3, .int .i64 z2), (6, .slice a_x0 x0.length c_x0), (7, .int .i64 (x0.length : Int)), (8, .int .i64 z3)] ∧ St w0 (fun _ => False) w []) fuel ⟨0, 0, h, (HF.keep (HF.keep (HF.keep (HF.keep HF.nil rfl) rfl) rfl) rfl), HT⟩ ?_
    rintro k1 a w ⟨z2, z3, h, HF, HT⟩
    cases k1 with
    | zero => cases h
    | succ k1 =>
      rw [m_impl_isBalanced_L0] at h
      refine ?_
      refine wp_seq ?_
      refine wc_text ?_
      refine wc_bin HF nS rfl rfl b_lt rfl rfl (fun a HF => ?_)
      refine wc_end ?_
      refine then_n ?_
      refine wp_seq ?_
      by_cases hb1 : z3 < (x0.length : Int)
      · have h := (if_pos hb1).symm.trans h
        refine wp_if (b' := true) HF rfl (decide_eq_true hb1) ?_
        refine wp_skip ?_
        refine then_n ?_
        refine wp_seq ?_
        refine wp_block ?_
        refine wp_seq ?_
        refine wc_text ?_
        obtain ⟨e1, hx2, h⟩ := obs h
        obtain ⟨b1, o1, ha1⟩ := (HT.ro hr_x0).any.addr hx2
        refine wc_ixaddr HF nS el35 rfl ha1 ((HT.ro hr_x0).any).neq rfl hx2 rfl rfl (fun a HF => ?_)
        have hc1 := (HT.ro hr_x0).any.flatAt ha1 hx2
        refine wc_loadA (vs := [.int .i64 e1.a, .int .i64 e1.b, .int .i64 e1.c, .int .i64 e1.d]) HF rfl ag25 rfl (hc1.part 0 4) rfl rfl (fun a HF => ?_)
        refine wc_alloc (cs := [.int .i64 0, .int .i64 0, .int .i64 0, .int .i64 0]) HF HT zr25 rfl rfl rfl (fun p1 w HT hb => ⟨nS, fun a HF => ?_⟩)
        refine wc_storeB (cs' := [.int .i64 e1.a, .int .i64 e1.b, .int .i64 e1.c, .int .i64 e1.d]) HF HT rfl rfl (fun w => (ag25 w).2) rfl rfl rfl rfl rfl (fun w HT => ⟨nS, ?_⟩)
        refine wc_end ?_
        refine then_n ?_
        refine wp_seq ?_
        refine wc_text ?_
        refine wc_move HF nS rfl rfl rfl (fun a HF => ?_)
        refine wc_loadA (vs := [.int .i64 e1.a, .int .i64 e1.b, .int .i64 e1.c, .int .i64 e1.d]) HF rfl ag25 rfl ((HT.boxAt 0 rfl).part 0 4) rfl rfl (fun a HF => ?_)
        obtain ⟨y1, hx3, h⟩ := obs h
        refine wc_call HF cf99 rfl (w_impl_opens fuel hx3) rfl rfl ?_
        rintro e w ⟨rfl, hE⟩
        have hb := hE.below
        have HT := HT.pure hE
        have HT : St w0 (fun _ => False) w [Box p1 [.int .i64 e1.a, .int .i64 e1.b, .int .i64 e1.c, .int .i64 e1.d]] := HT
        refine ⟨_, rfl, nS, fun a HF => ?_⟩
        obtain ⟨hg1, h⟩ := grd h
        refine wc_bin HF nS rfl rfl (b_add hg1) rfl rfl (fun a HF => ?_)
        refine wc_assign HF nS rfl rfl rfl (fun a HF => ?_)
        refine wc_end ?_
        refine then_n ?_
        refine wp_seq ?_
        refine wc_text ?_
        refine wc_move HF nS rfl rfl rfl (fun a HF => ?_)
        refine wc_bin HF nS rfl rfl b_lt rfl rfl (fun a HF => ?_)
        refine wc_end ?_
        refine then_n ?_
        by_cases hb2 : (z2 + y1) < 0
        · have h := (if_pos hb2).symm.trans h
          refine wp_if (b' := true) HF rfl (decide_eq_true hb2) ?_
          refine wp_seq ?_
          refine wc_text ?_
          refine wc_assign HF nS rfl rfl rfl (fun a HF => ?_)
          refine wc_end ?_
          refine then_n ?_
          refine wp_ret ?_
          obtain rfl := Option.some.inj h
          have h := retL hk1
          obtain rfl := Option.some.inj h
          refine blk_r (then_r (then_r (blk_r (then_r (?_)))))
          refine bp_ret HF (res_one rfl HF rfl) ?_
          have HT : St w0 (fun _ => False) w [] := HT.take 0
          exact ⟨rfl, HT⟩
        · have h := (if_neg hb2).symm.trans h
          refine wp_if (b' := false) HF rfl (decide_eq_false hb2) ?_
          refine wp_skip ?_
          refine blk_n ?_
          refine then_n ?_
          refine wc_text ?_
          obtain ⟨hg2, h⟩ := grd h
          refine wc_bin HF nS rfl rfl (b_add hg2) rfl rfl (fun a HF => ?_)
          refine wc_move HF nS rfl rfl rfl (fun a HF => ?_)
          refine wc_end ?_
          have HT : St w0 (fun _ => False) w [] := HT.take 0
          exact then_n ⟨k1, Nat.lt_succ_self k1, z2 + y1, z3 + 1, h, (HF.keep (HF.keep (HF.keep (HF.keep HF.nil rfl) rfl) rfl) rfl), HT⟩
      · have h := (if_neg hb1).symm.trans h
        refine wp_if (b' := false) HF rfl (decide_eq_false hb1) ?_
        refine wp_exit ?_
        refine then_x (then_x (?_))
        refine blk_x ?_
        exact then_n ⟨z2, (Option.some.inj h).symm, (HF.keep HF.nil rfl), HT⟩
  · rintro a w ⟨z1, rfl, HF, HT⟩
    have h := brkL1u h
    refine ?_
    refine wp_seq ?_
    refine wc_text ?_
    refine wc_move HF nS rfl rfl rfl (fun a HF => ?_)
    refine wc_bin HF nS rfl rfl b_eq rfl rfl (fun a HF => ?_)
    refine wc_assign HF nS rfl rfl rfl (fun a HF => ?_)
    refine wc_end ?_
    refine then_n ?_
    refine wp_ret ?_
    obtain rfl := Option.some.inj h
    refine bp_ret HF (res_one rfl HF rfl) ?_
    exact ⟨rfl, HT⟩

def m_impl_CodeOk_L0 (fuel : Nat) (x0 : List I4) : Nat → Int → Int → Option (Lp Unit Bool)
  | 0, _, _ => none
  | k1 + 1, z1, z2 =>
    if z2 < (x0.length : Int) then
      (
        (at? x0 z2).bind fun e1 =>
        (m_impl_OpOk fuel e1.a e1.b e1.c e1.d).bind fun y2 =>
        if y2 = true then
          if e1.a = 7 then
            if in64 (z2 + 1) then
              if in64 ((z2 + 1) + e1.c) then
                if (x0.length : Int) < ((z2 + 1) + e1.c) then
                  some (.ret false)
                else
                  if in64 (z2 + 1) then
                    if in64 (z2 + 1) then
                      if in64 ((z2 + 1) + e1.c) then
                        if 0 ≤ (z2 + 1 : Int) ∧ (z2 + 1 : Int) ≤ ((z2 + 1) + e1.c) ∧ ((z2 + 1) + e1.c) ≤ (x0.length : Int) then
                          (m_impl_isBalanced fuel (subl x0 (z2 + 1) ((z2 + 1) + e1.c))).bind fun y3 =>
                          if y3 = true then
                            some (.brk z1)
                          else
                            some (.ret false)
                        else none
                      else none
                    else none
                  else none
              else none
            else none
          else
            if e1.a = 11 then
              if in64 (z1 + 1) then
                if 1 < (z1 + 1) then
                  some (.ret false)
                else
                  (m_impl_DepthAt fuel x0 z2).bind fun y4 =>
                  if y4 = 0 then
                    some (.brk (z1 + 1))
                  else
                    some (.ret false)
              else none
            else
              some (.brk z1)
        else
          some (.ret false)).bind <| contM <| un1 fun z3 =>
      if in64 (z2 + 1) then
        m_impl_CodeOk_L0 fuel x0 k1 z3 (z2 + 1)
      else none
    else
      some (.brk ())

def m_impl_CodeOk (fuel : Nat) (x0 : List I4) : Option Bool :=
  if 24 < (x0.length : Int) then
    some false
  else
    (m_impl_isBalanced fuel x0).bind fun y1 =>
    if y1 = true then
      (m_impl_CodeOk_L0 fuel x0 fuel 0 0).bind <| contL <| un1 fun _ =>
      some true
    else
      some false

set_option maxRecDepth 100000 in
set_option maxHeartbeats 4000000 in
theorem w_impl_CodeOk (fuel : Nat) {x0 : List I4} {a_x0 : Option Addr} {n_x0 c_x0 : Nat} {r0 : Bool} {w0 : World} (h : m_impl_CodeOk fuel x0 = some r0) (hr_x0 : RdT (fun b => ¬ False) w0 (rowT x0) (.slice a_x0 n_x0 c_x0)) :
    Calls Try.prog 53 #[.slice a_x0 n_x0 c_x0] w0 fun e w => e = .returned (.bool r0) ∧ St w0 (fun _ => False) w [] := by
  obtain rfl := hr_x0.neq
  have HT : St w0 (fun _ => False) w0 [] := St.init0
  rw [m_impl_CodeOk] at h
  refine calls_fr (n := 62) [.slice a_x0 x0.length c_x0] Try.func53 rfl rfl rfl (fun a HF => ?_)
  have HT : St w0 (fun _ => False) w0 [] := HT
  refine wp_seq ?_
  refine wc_text ?_
  refine wc_assign HF nS rfl rfl rfl (fun a HF => ?_)
  refine wc_end ?_
  refine then_n ?_
  refine wp_seq ?_
  refine wp_seq ?_
  refine wc_text ?_
  refine wc_move HF nS rfl rfl rfl (fun a HF => ?_)
  refine wc_lenR HF nS Try.underlying35 rfl rfl rfl (fun a HF => ?_)
  refine wc_bin HF nS rfl rfl b_gt rfl rfl (fun a HF => ?_)
  refine wc_move HF nS rfl rfl rfl (fun a HF => ?_)
  by_cases hb1 : 24 < (x0.length : Int)
  · have h := (if_pos hb1).symm.trans h
    refine wc_skip HF nS (HF.wn rfl rfl rfl rfl (decide_eq_true hb1)) rfl (fun a HF => ?_)
    refine wc_skip HF nS (HF.wn rfl rfl rfl rfl (decide_eq_true hb1)) rfl (fun a HF => ?_)
    refine wc_skip HF nS (HF.wn rfl rfl rfl rfl (decide_eq_true hb1)) rfl (fun a HF => ?_)
    refine wc_pick (b := true) HF nS rfl (decide_eq_true hb1) rfl rfl rfl (fun a HF => ?_)
    refine wc_end ?_
    refine then_n ?_
    refine wp_if (b' := true) HF rfl rfl ?_
    refine wp_seq ?_
    refine wc_text ?_
    refine wc_assign HF nS rfl rfl rfl (fun a HF => ?_)
    refine wc_end ?_
    refine then_n ?_
    refine wp_ret ?_
    obtain rfl := Option.some.inj h
    refine then_r (?_)
    refine bp_ret HF (res_one rfl HF rfl) ?_
    exact ⟨rfl, HT⟩
  · have h := (if_neg hb1).symm.trans h
    refine wc_move HF nS rfl (HF.wy rfl rfl rfl rfl (decide_eq_false hb1)) rfl (fun a HF => ?_)
    obtain ⟨y1, hx1, h⟩ := obs h
    refine wc_call HF cf83 rfl (w_impl_isBalanced fuel hx1 (HT.ro hr_x0).any) (HF.wy rfl rfl rfl rfl (decide_eq_false hb1)) rfl ?_
    rintro e w ⟨rfl, hE⟩
    have hb := hE.below
    have HT := HT.pure hE
    have HT : St w0 (fun _ => False) w [] := HT
    refine ⟨_, rfl, nS, fun a HF => ?_⟩
    refine wc_not HF nS rfl (HF.wy rfl rfl rfl rfl (decide_eq_false hb1)) rfl (fun a HF => ?_)
    refine wc_pick (b := false) HF nS rfl (decide_eq_false hb1) rfl rfl rfl (fun a HF => ?_)
    refine wc_end ?_
    refine then_n ?_
    by_cases hb2 : y1 = true
    · have h := (if_pos hb2).symm.trans h
      refine wp_if (b' := false) HF rfl (notT hb2) ?_
      refine wp_skip ?_
      refine then_n ?_
      refine wp_seq ?_
      refine wc_text ?_
      refine wc_assign HF nS rfl rfl rfl (fun a HF => ?_)
      refine wc_end ?_
      refine then_n ?_
      obtain ⟨q1, hx2, h⟩ := obs h
      refine wp_cut (fun a w => q1 = .brk () ∧ Fr a 62 [] ∧ St w0 (fun _ => False) w []) ?_ ?_
      · have hk1 := h
        have h := hx2
        refine wp_seq ?_
        refine wc_text ?_
        refine wc_move HF nS rfl rfl rfl (fun a HF => ?_)
        refine wc_lenR HF nS Try.underlying35 rfl rfl rfl (fun a HF => ?_)
        refine wc_move HF nS rfl rfl rfl (fun a HF => ?_)
        refine wc_end ?_
        refine then_n ?_
        refine wp_block ?_
        refine wp_loopN (fun k1 a w => ∃ z1 z2, m_impl_CodeOk_L0 fuel x0 k1 z1 z2 = some q1 ∧ Fr a 62 [(0, .slice a_x0 x0.length c_x0), (3, .int .i64 z1), (14, .slice a_x0 x0.length c_x0), (15, .int .i64 (x0.length : Int)), (16, .int .i64 z2)] ∧ St w0 (fun _ => False) w []) fuel ⟨0, 0, h, (HF.keep (HF.keep (HF.keep (HF.keep (HF.keep HF.nil rfl) rfl) rfl) rfl) rfl), HT⟩ ?_
        rintro k1 a w ⟨z1, z2, h, HF, HT⟩
        cases k1 with
        | zero => cases h
        | succ k1 =>
          rw [m_impl_CodeOk_L0] at h
          refine ?_
          refine wp_seq ?_
          refine wc_text ?_
          refine wc_bin HF nS rfl rfl b_lt rfl rfl (fun a HF => ?_)
          refine wc_end ?_
          refine then_n ?_
          refine wp_seq ?_
          by_cases hb3 : z2 < (x0.length : Int)
          · have h := (if_pos hb3).symm.trans h
            refine wp_if (b' := true) HF rfl (decide_eq_true hb3) ?_
            refine wp_skip ?_
            refine then_n ?_
            obtain ⟨q2, hx3, h⟩ := obs h
            refine wp_cut (fun a w => ∃ z3, q2 = .brk z3 ∧ Fr a 62 [(0, .slice a_x0 x0.length c_x0), (3, .int .i64 z3), (14, .slice a_x0 x0.length c_x0), (15, .int .i64 (x0.length : Int)), (16, .int .i64 z2)] ∧ St w0 (fun _ => False) w []) ?_ ?_
            · have hk2 := h
              have h := hx3
              refine wp_block ?_
              refine wp_seq ?_
              refine wc_text ?_
              refine wc_move HF nS rfl rfl rfl (fun a HF => ?_)
              obtain ⟨e1, hx4, h⟩ := obs h
              obtain ⟨b1, o1, ha1⟩ := (HT.ro hr_x0).any.addr hx4
              refine wc_ixaddr HF nS el35 rfl ha1 ((HT.ro hr_x0).any).neq rfl hx4 rfl rfl (fun a HF => ?_)
              have hc1 := (HT.ro hr_x0).any.flatAt ha1 hx4
              refine wc_loadA (vs := [.int .i64 e1.a, .int .i64 e1.b, .int .i64 e1.c, .int .i64 e1.d]) HF rfl ag25 rfl (hc1.part 0 4) rfl rfl (fun a HF => ?_)
              refine wc_alloc (cs := [.int .i64 0, .int .i64 0, .int .i64 0, .int .i64 0]) HF HT zr25 rfl rfl rfl (fun p1 w HT hb => ⟨nS, fun a HF => ?_⟩)
              refine wc_assign HF nS rfl rfl rfl (fun a HF => ?_)
              refine wc_storeB (cs' := [.int .i64 e1.a, .int .i64 e1.b, .int .i64 e1.c, .int .i64 e1.d]) HF HT rfl rfl (fun w => (ag25 w).2) rfl rfl rfl rfl rfl (fun w HT => ⟨nS, ?_⟩)
              refine wc_end ?_
              refine then_n ?_
              refine wp_seq ?_
              refine wp_seq ?_
              refine wc_text ?_
              refine wc_loadA (vs := [.int .i64 e1.a, .int .i64 e1.b, .int .i64 e1.c, .int .i64 e1.d]) HF rfl ag25 rfl ((HT.boxAt 0 rfl).part 0 4) rfl rfl (fun a HF => ?_)
              obtain ⟨y2, hx5, h⟩ := obs h
              refine wc_call HF cf44 rfl (w_impl_OpOk fuel hx5) rfl rfl ?_
              rintro e w ⟨rfl, hE⟩
              have hb := hE.below
              have HT := HT.pure hE
              have HT : St w0 (fun _ => False) w [Box p1 [.int .i64 e1.a, .int .i64 e1.b, .int .i64 e1.c, .int .i64 e1.d]] := HT
              refine ⟨_, rfl, nS, fun a HF => ?_⟩
              refine wc_not HF nS rfl rfl rfl (fun a HF => ?_)
              refine wc_end ?_
              refine then_n ?_
              by_cases hb4 : y2 = true
              · have h := (if_pos hb4).symm.trans h
                refine wp_if (b' := false) HF rfl (notT hb4) ?_
                refine wp_skip ?_
                refine then_n ?_
                refine wp_seq ?_
                refine wc_text ?_
                refine wc_faddr HF nS rfl fl25_0 rfl rfl (fun a HF => ?_)
                refine wc_load HF rfl sc3 ((HT.boxAt 0 rfl).get 0 rfl) rfl rfl (fun a HF => ?_)
                refine wc_end ?_
                refine then_n ?_
                refine wp_block ?_
                refine wp_seq ?_
                refine wc_text ?_
                refine wc_bin HF nS rfl rfl b_eq rfl rfl (fun a HF => ?_)
                refine wc_assign HF nS rfl rfl rfl (fun a HF => ?_)
                refine wc_end ?_
                refine then_n ?_
                by_cases hb5 : e1.a = 7
                · have h := (if_pos hb5).symm.trans h
                  refine wp_if (b' := true) HF rfl (decide_eq_true hb5) ?_
                  refine wp_seq ?_
                  refine wc_text ?_
                  refine wc_move HF nS rfl rfl rfl (fun a HF => ?_)
                  obtain ⟨hg1, h⟩ := grd h
                  refine wc_bin HF nS rfl rfl (b_add hg1) rfl rfl (fun a HF => ?_)
                  refine wc_faddr HF nS rfl fl25_2 rfl rfl (fun a HF => ?_)
                  refine wc_load HF rfl sc3 ((HT.boxAt 0 rfl).get 2 rfl) rfl rfl (fun a HF => ?_)
                  obtain ⟨hg2, h⟩ := grd h
                  refine wc_bin HF nS rfl rfl (b_add hg2) rfl rfl (fun a HF => ?_)
                  refine wc_move HF nS rfl rfl rfl (fun a HF => ?_)
                  refine wc_lenR HF nS Try.underlying35 rfl rfl rfl (fun a HF => ?_)
                  refine wc_bin HF nS rfl rfl b_gt rfl rfl (fun a HF => ?_)
                  refine wc_move HF nS rfl rfl rfl (fun a HF => ?_)
                  by_cases hb6 : (x0.length : Int) < ((z2 + 1) + e1.c)
                  · have h := (if_pos hb6).symm.trans h
                    refine wc_skip HF nS (HF.wn rfl rfl rfl rfl (decide_eq_true hb6)) rfl (fun a HF => ?_)
                    refine wc_skip HF nS (HF.wn rfl rfl rfl rfl (decide_eq_true hb6)) rfl (fun a HF => ?_)
                    refine wc_skip HF nS (HF.wn rfl rfl rfl rfl (decide_eq_true hb6)) rfl (fun a HF => ?_)
                    refine wc_skip HF nS (HF.wn rfl rfl rfl rfl (decide_eq_true hb6)) rfl (fun a HF => ?_)
                    refine wc_skip HF nS (HF.wn rfl rfl rfl rfl (decide_eq_true hb6)) rfl (fun a HF => ?_)
                    refine wc_skip HF nS (HF.wn rfl rfl rfl rfl (decide_eq_true hb6)) rfl (fun a HF => ?_)
                    refine wc_skip HF nS (HF.wn rfl rfl rfl rfl (decide_eq_true hb6)) rfl (fun a HF => ?_)
                    refine wc_skip HF nS (HF.wn rfl rfl rfl rfl (decide_eq_true hb6)) rfl (fun a HF => ?_)
                    refine wc_skip HF nS (HF.wn rfl rfl rfl rfl (decide_eq_true hb6)) rfl (fun a HF => ?_)
                    refine wc_skip HF nS (HF.wn rfl rfl rfl rfl (decide_eq_true hb6)) rfl (fun a HF => ?_)
                    refine wc_skip HF nS (HF.wn rfl rfl rfl rfl (decide_eq_true hb6)) rfl (fun a HF => ?_)
                    refine wc_pick (b := true) HF nS rfl (decide_eq_true hb6) rfl rfl rfl (fun a HF => ?_)
                    refine wc_end ?_
                    refine then_n ?_
                    refine wp_if (b' := true) HF rfl rfl ?_
                    refine wp_seq ?_
                    refine wc_text ?_
                    refine wc_assign HF nS rfl rfl rfl (fun a HF => ?_)
                    refine wc_end ?_
                    refine then_n ?_
                    refine wp_ret ?_
                    obtain rfl := Option.some.inj h
                    have h := retM hk2
                    obtain rfl := Option.some.inj h
                    have h := retL hk1
                    obtain rfl := Option.some.inj h
                    refine blk_r (blk_r (then_r (then_r (blk_r (then_r (?_))))))
                    refine bp_ret HF (res_one rfl HF rfl) ?_
                    have HT : St w0 (fun _ => False) w [] := HT.take 0
                    exact ⟨rfl, HT⟩
                  · have h := (if_neg hb6).symm.trans h
                    refine wc_move HF nS rfl (HF.wy rfl rfl rfl rfl (decide_eq_false hb6)) rfl (fun a HF => ?_)
                    refine wc_move HF nS rfl (HF.wy rfl rfl rfl rfl (decide_eq_false hb6)) rfl (fun a HF => ?_)
                    obtain ⟨hg3, h⟩ := grd h
                    refine wc_bin HF nS rfl rfl (b_add hg3) (HF.wy rfl rfl rfl rfl (decide_eq_false hb6)) rfl (fun a HF => ?_)
                    refine wc_move HF nS rfl (HF.wy rfl rfl rfl rfl (decide_eq_false hb6)) rfl (fun a HF => ?_)
                    obtain ⟨hg4, h⟩ := grd h
                    refine wc_bin HF nS rfl rfl (b_add hg4) (HF.wy rfl rfl rfl rfl (decide_eq_false hb6)) rfl (fun a HF => ?_)
                    refine wc_faddr HF nS rfl fl25_2 (HF.wy rfl rfl rfl rfl (decide_eq_false hb6)) rfl (fun a HF => ?_)
                    refine wc_load HF rfl sc3 ((HT.boxAt 0 rfl).get 2 rfl) (HF.wy rfl rfl rfl rfl (decide_eq_false hb6)) rfl (fun a HF => ?_)
                    obtain ⟨hg5, h⟩ := grd h
                    refine wc_bin HF nS rfl rfl (b_add hg5) (HF.wy rfl rfl rfl rfl (decide_eq_false hb6)) rfl (fun a HF => ?_)
                    obtain ⟨hg6, h⟩ := grd h
                    obtain ⟨a1, c1, hr1, hcut⟩ := RdT.cutI hr_x0 (hg6 : 0 ≤ (z2 + 1 : Int) ∧ (z2 + 1 : Int) ≤ ((z2 + 1) + e1.c) ∧ ((z2 + 1) + e1.c) ≤ (x0.length : Int))
                    refine wc_slrLH HF nS el35 rfl rfl rfl hcut (HF.wy rfl rfl rfl rfl (decide_eq_false hb6)) rfl (fun a HF => ?_)
                    obtain ⟨y3, hx6, h⟩ := obs h
                    refine wc_call HF cf83 rfl (w_impl_isBalanced fuel hx6 (HT.ro hr1).any) (HF.wy rfl rfl rfl rfl (decide_eq_false hb6)) rfl ?_
                    rintro e w ⟨rfl, hE⟩
                    have hb := hE.below
                    have HT := HT.pure hE
                    have HT : St w0 (fun _ => False) w [Box p1 [.int .i64 e1.a, .int .i64 e1.b, .int .i64 e1.c, .int .i64 e1.d]] := HT
                    refine ⟨_, rfl, nS, fun a HF => ?_⟩
                    refine wc_not HF nS rfl (HF.wy rfl rfl rfl rfl (decide_eq_false hb6)) rfl (fun a HF => ?_)
                    refine wc_pick (b := false) HF nS rfl (decide_eq_false hb6) rfl rfl rfl (fun a HF => ?_)
                    refine wc_end ?_
                    refine then_n ?_
                    by_cases hb7 : y3 = true
                    · have h := (if_pos hb7).symm.trans h
                      refine wp_if (b' := false) HF rfl (notT hb7) ?_
                      refine wp_skip ?_
                      refine blk_n ?_
                      refine blk_n ?_
                      have HT : St w0 (fun _ => False) w [] := HT.take 0
                      exact then_n ⟨z1, (Option.some.inj h).symm, (HF.keep (HF.keep (HF.keep (HF.keep (HF.keep HF.nil rfl) rfl) rfl) rfl) rfl), HT⟩
                    · have h := (if_neg hb7).symm.trans h
                      refine wp_if (b' := true) HF rfl (notF (Bool.eq_false_iff.2 hb7)) ?_
                      refine wp_seq ?_
                      refine wc_text ?_
                      refine wc_assign HF nS rfl rfl rfl (fun a HF => ?_)
                      refine wc_end ?_
                      refine then_n ?_
                      refine wp_ret ?_
                      obtain rfl := Option.some.inj h
                      have h := retM hk2
                      obtain rfl := Option.some.inj h
                      have h := retL hk1
                      obtain rfl := Option.some.inj h
                      refine blk_r (blk_r (then_r (then_r (blk_r (then_r (?_))))))
                      refine bp_ret HF (res_one rfl HF rfl) ?_
                      have HT : St w0 (fun _ => False) w [] := HT.take 0
                      exact ⟨rfl, HT⟩
                · have h := (if_neg hb5).symm.trans h
                  refine wp_if (b' := false) HF rfl (decide_eq_false hb5) ?_
                  refine wp_seq ?_
                  refine wc_text ?_
                  refine wc_bin HF nS rfl rfl b_eq rfl rfl (fun a HF => ?_)
                  refine wc_assign HF nS rfl rfl rfl (fun a HF => ?_)
                  refine wc_end ?_
                  refine then_n ?_
                  by_cases hb8 : e1.a = 11
                  · have h := (if_pos hb8).symm.trans h
                    refine wp_if (b' := true) HF rfl (decide_eq_true hb8) ?_
                    refine wp_seq ?_
                    refine wc_text ?_
                    refine wc_move HF nS rfl rfl rfl (fun a HF => ?_)
                    obtain ⟨hg7, h⟩ := grd h
                    refine wc_bin HF nS rfl rfl (b_add hg7) rfl rfl (fun a HF => ?_)
                    refine wc_assign HF nS rfl rfl rfl (fun a HF => ?_)
                    refine wc_end ?_
                    refine then_n ?_
                    refine wp_seq ?_
                    refine wc_text ?_
                    refine wc_move HF nS rfl rfl rfl (fun a HF => ?_)
                    refine wc_bin HF nS rfl rfl b_gt rfl rfl (fun a HF => ?_)
                    refine wc_move HF nS rfl rfl rfl (fun a HF => ?_)
                    by_cases hb9 : 1 < (z1 + 1)
                    · have h := (if_pos hb9).symm.trans h
                      refine wc_skip HF nS (HF.wn rfl rfl rfl rfl (decide_eq_true hb9)) rfl (fun a HF => ?_)
                      refine wc_skip HF nS (HF.wn rfl rfl rfl rfl (decide_eq_true hb9)) rfl (fun a HF => ?_)
                      refine wc_skip HF nS (HF.wn rfl rfl rfl rfl (decide_eq_true hb9)) rfl (fun a HF => ?_)
                      refine wc_skip HF nS (HF.wn rfl rfl rfl rfl (decide_eq_true hb9)) rfl (fun a HF => ?_)
                      refine wc_pick (b := true) HF nS rfl (decide_eq_true hb9) rfl rfl rfl (fun a HF => ?_)
                      refine wc_end ?_
                      refine then_n ?_
                      refine wp_if (b' := true) HF rfl rfl ?_
                      refine wp_seq ?_
                      refine wc_text ?_
                      refine wc_assign HF nS rfl rfl rfl (fun a HF => ?_)
                      refine wc_end ?_
                      refine then_n ?_
                      refine wp_ret ?_
                      obtain rfl := Option.some.inj h
                      have h := retM hk2
                      obtain rfl := Option.some.inj h
                      have h := retL hk1
                      obtain rfl := Option.some.inj h
                      refine blk_r (blk_r (then_r (then_r (blk_r (then_r (?_))))))
                      refine bp_ret HF (res_one rfl HF rfl) ?_
                      have HT : St w0 (fun _ => False) w [] := HT.take 0
                      exact ⟨rfl, HT⟩
                    · have h := (if_neg hb9).symm.trans h
                      refine wc_move HF nS rfl (HF.wy rfl rfl rfl rfl (decide_eq_false hb9)) rfl (fun a HF => ?_)
                      refine wc_move HF nS rfl (HF.wy rfl rfl rfl rfl (decide_eq_false hb9)) rfl (fun a HF => ?_)
                      obtain ⟨y4, hx7, h⟩ := obs h
                      refine wc_call HF cf84 rfl (w_impl_DepthAt fuel hx7 (HT.ro hr_x0).any) (HF.wy rfl rfl rfl rfl (decide_eq_false hb9)) rfl ?_
                      rintro e w ⟨rfl, hE⟩
                      have hb := hE.below
                      have HT := HT.pure hE
                      have HT : St w0 (fun _ => False) w [Box p1 [.int .i64 e1.a, .int .i64 e1.b, .int .i64 e1.c, .int .i64 e1.d]] := HT
                      refine ⟨_, rfl, nS, fun a HF => ?_⟩
                      refine wc_bin HF nS rfl rfl b_ne (HF.wy rfl rfl rfl rfl (decide_eq_false hb9)) rfl (fun a HF => ?_)
                      refine wc_pick (b := false) HF nS rfl (decide_eq_false hb9) rfl rfl rfl (fun a HF => ?_)
                      refine wc_end ?_
                      refine then_n ?_
                      by_cases hb10 : y4 = 0
                      · have h := (if_pos hb10).symm.trans h
                        refine wp_if (b' := false) HF rfl (notT (decide_eq_true hb10)) ?_
                        refine wp_skip ?_
                        refine blk_n ?_
                        refine blk_n ?_
                        have HT : St w0 (fun _ => False) w [] := HT.take 0
                        exact then_n ⟨z1 + 1, (Option.some.inj h).symm, (HF.keep (HF.keep (HF.keep (HF.keep (HF.keep HF.nil rfl) rfl) rfl) rfl) rfl), HT⟩
                      · have h := (if_neg hb10).symm.trans h
                        refine wp_if (b' := true) HF rfl (notF (decide_eq_false hb10)) ?_
                        refine wp_seq ?_
                        refine wc_text ?_
                        refine wc_assign HF nS rfl rfl rfl (fun a HF => ?_)
                        refine wc_end ?_
                        refine then_n ?_
                        refine wp_ret ?_
                        obtain rfl := Option.some.inj h
                        have h := retM hk2
                        obtain rfl := Option.some.inj h
                        have h := retL hk1
                        obtain rfl := Option.some.inj h
                        refine blk_r (blk_r (then_r (then_r (blk_r (then_r (?_))))))
                        refine bp_ret HF (res_one rfl HF rfl) ?_
                        have HT : St w0 (fun _ => False) w [] := HT.take 0
                        exact ⟨rfl, HT⟩
                  · have h := (if_neg hb8).symm.trans h
                    refine wp_if (b' := false) HF rfl (decide_eq_false hb8) ?_
                    refine wp_skip ?_
                    refine blk_n ?_
                    refine blk_n ?_
                    have HT : St w0 (fun _ => False) w [] := HT.take 0
                    exact then_n ⟨z1, (Option.some.inj h).symm, (HF.keep (HF.keep (HF.keep (HF.keep (HF.keep HF.nil rfl) rfl) rfl) rfl) rfl), HT⟩
              · have h := (if_neg hb4).symm.trans h
                refine wp_if (b' := true) HF rfl (notF (Bool.eq_false_iff.2 hb4)) ?_
                refine wp_seq ?_
                refine wc_text ?_
                refine wc_assign HF nS rfl rfl rfl (fun a HF => ?_)
                refine wc_end ?_
                refine then_n ?_
                refine wp_ret ?_
                obtain rfl := Option.some.inj h
                have h := retM hk2
                obtain rfl := Option.some.inj h
                have h := retL hk1
                obtain rfl := Option.some.inj h
                refine then_r (blk_r (then_r (then_r (blk_r (then_r (?_))))))
                refine bp_ret HF (res_one rfl HF rfl) ?_
                have HT : St w0 (fun _ => False) w [] := HT.take 0
                exact ⟨rfl, HT⟩
            · rintro a w ⟨z3, rfl, HF, HT⟩
              have h := brkM1u h
              refine ?_
              refine wc_text ?_
              obtain ⟨hg8, h⟩ := grd h
              refine wc_bin HF nS rfl rfl (b_add hg8) rfl rfl (fun a HF => ?_)
              refine wc_move HF nS rfl rfl rfl (fun a HF => ?_)
              refine wc_end ?_
              exact then_n ⟨k1, Nat.lt_succ_self k1, z3, z2 + 1, h, (HF.keep (HF.keep (HF.keep (HF.keep (HF.keep HF.nil rfl) rfl) rfl) rfl) rfl), HT⟩
          · have h := (if_neg hb3).symm.trans h
            refine wp_if (b' := false) HF rfl (decide_eq_false hb3) ?_
            refine wp_exit ?_
            refine then_x (then_x (?_))
            refine blk_x ?_
            exact then_n ⟨(Option.some.inj h).symm, HF.nil, HT⟩
      · rintro a w ⟨rfl, HF, HT⟩
        have h := brkL1u h
        refine ?_
        refine wp_seq ?_
        refine wc_text ?_
        refine wc_assign HF nS rfl rfl rfl (fun a HF => ?_)
        refine wc_end ?_
        refine then_n ?_
        refine wp_ret ?_
        obtain rfl := Option.some.inj h
        refine bp_ret HF (res_one rfl HF rfl) ?_
        exact ⟨rfl, HT⟩
    · have h := (if_neg hb2).symm.trans h
      refine wp_if (b' := true) HF rfl (notF (Bool.eq_false_iff.2 hb2)) ?_
      refine wp_seq ?_
      refine wc_text ?_
      refine wc_assign HF nS rfl rfl rfl (fun a HF => ?_)
      refine wc_end ?_
      refine then_n ?_
      refine wp_ret ?_
      obtain rfl := Option.some.inj h
      refine then_r (?_)
      refine bp_ret HF (res_one rfl HF rfl) ?_
      exact ⟨rfl, HT⟩

def m_impl_Dec_L0 (fuel : Nat) : Nat → (List UInt8) → Int → Option (List UInt8)
  | 0, _, _ => none
  | k1 + 1, z2, z3 =>
    if z3 = 0 then
      some z2
    else
      (
        if (10 : Int) ≠ 0 then
          (
            if (z3.tmod 10) < 0 then
              if in64 (0 - (z3.tmod 10)) then
                some (0 - (z3.tmod 10))
              else none
            else
              some (z3.tmod 10)).bind fun z5 =>
          if in64 (48 + z5) then
            if z2.length + 1 ≤ 17179869184 then
              some (z2 ++ ([b8 (48 + z5)] : List UInt8))
            else none
          else none
        else none).bind fun z4 =>
      if (10 : Int) ≠ 0 ∧ in64 (z3.tdiv 10) then
        m_impl_Dec_L0 fuel k1 z4 (z3.tdiv 10)
      else none

def m_impl_Dec_L1 (fuel : Nat) : Nat → (List UInt8) → Int → Int → Option (List UInt8)
  | 0, _, _, _ => none
  | k2 + 1, z8, z9, z10 =>
    if z9 < z10 then
      (at? z8 z10).bind fun e1 =>
      (at? z8 z9).bind fun e2 =>
      (at? (z8.set z9.toNat e1) z10).bind fun e4 =>
      if in64 (z9 + 1) then
        if in64 (z10 - 1) then
          m_impl_Dec_L1 fuel k2 ((z8.set z9.toNat e1).set z10.toNat e2) (z9 + 1) (z10 - 1)
        else none
      else none
    else
      some z8

def m_impl_Dec (fuel : Nat) (x0 : Int) : Option Str :=
  if x0 = 0 then
    some [48]
  else
    (m_impl_Dec_L0 fuel fuel ([] : List UInt8) x0).bind fun z1 =>
    (
      if x0 < 0 then
        if z1.length + 1 ≤ 17179869184 then
          some (z1 ++ ([(45 : UInt8)] : List UInt8))
        else none
      else
        some z1).bind fun z6 =>
    (
      if in64 ((z6.length : Int) - 1) then
        m_impl_Dec_L1 fuel fuel z6 0 ((z6.length : Int) - 1)
      else none).bind fun z7 =>
    some z7

set_option maxRecDepth 100000 in
set_option maxHeartbeats 4000000 in
theorem w_impl_Dec (fuel : Nat) {x0 : Int} {r0 : Str} {w0 : World} (h : m_impl_Dec fuel x0 = some r0) :
    Calls Try.prog 47 #[.int .i64 x0] w0 fun e w => e = .returned (sv r0) ∧ St w0 (fun _ => False) w [] := by
  have HT : St w0 (fun _ => False) w0 [] := St.init0
  rw [m_impl_Dec] at h
  refine calls_fr (n := 59) [.int .i64 x0] Try.func47 rfl rfl rfl (fun a HF => ?_)
  have HT : St w0 (fun _ => False) w0 [] := HT
  refine wp_seq ?_
  refine wc_text ?_
  refine wc_assign HF nS rfl rfl rfl (fun a HF => ?_)
  refine wc_end ?_
  refine then_n ?_
  refine wp_seq ?_
  refine wp_seq ?_
  refine wc_text ?_
  refine wc_move HF nS rfl rfl rfl (fun a HF => ?_)
  refine wc_bin HF nS rfl rfl b_eq rfl rfl (fun a HF => ?_)
  refine wc_end ?_
  refine then_n ?_
  by_cases hb1 : x0 = 0
  · have h := (if_pos hb1).symm.trans h
    refine wp_if (b' := true) HF rfl (decide_eq_true hb1) ?_
    refine wp_seq ?_
    refine wc_text ?_
    refine wc_assign HF nS rfl rfl rfl (fun a HF => ?_)
    refine wc_end ?_
    refine then_n ?_
    refine wp_ret ?_
    obtain rfl := Option.some.inj h
    refine then_r (?_)
    refine bp_ret HF (res_one rfl HF rfl) ?_
    exact ⟨rfl, HT⟩
  · have h := (if_neg hb1).symm.trans h
    refine wp_if (b' := false) HF rfl (decide_eq_false hb1) ?_
    refine wp_skip ?_
    refine then_n ?_
    refine wp_seq ?_
    refine wc_text ?_
    refine wc_bslice (l := ([] : List UInt8)) (cs := []) (A := []) HF HT bs56_0 rfl rfl (gives_flat rfl) rfl (by decide) rfl rfl (fun p1 w HT hb => ⟨nS, fun a HF => ?_⟩)
    refine wc_assign HF nS rfl rfl rfl (fun a HF => ?_)
    refine wc_end ?_
    refine then_n ?_
    obtain ⟨z1, hx1, h⟩ := obs h
    refine wp_cut (fun a w => ∃ a1 n1 c1, Fr a 59 [(0, .int .i64 x0), (3, .slice a1 n1 c1)] ∧ St w0 (fun _ => False) w [Own 5 (rowT z1) (.slice a1 n1 c1)]) ?_ ?_
    · have hk1 := h
      have h := hx1
      refine wp_seq ?_
      refine wc_text ?_
      refine wc_move HF nS rfl rfl rfl (fun a HF => ?_)
      refine wc_assign HF nS rfl rfl rfl (fun a HF => ?_)
      refine wc_end ?_
      refine then_n ?_
      refine wp_block ?_
      refine wp_loopN (fun k1 a w => ∃ z2 z3 a2 n2 c2, m_impl_Dec_L0 fuel k1 z2 z3 = some z1 ∧ Fr a 59 [(0, .int .i64 x0), (3, .slice a2 n2 c2), (4, .int .i64 z3)] ∧ St w0 (fun _ => False) w [Own 5 (rowT z2) (.slice a2 n2 c2)]) fuel ⟨([] : List UInt8), x0, (some ⟨p1, 0, none⟩), 0, 0, h, (HF.keep (HF.keep (HF.keep HF.nil rfl) rfl) rfl), HT⟩ ?_
      rintro k1 a w ⟨z2, z3, a2, n2, c2, h, HF, HT⟩
      cases k1 with
      | zero => cases h
      | succ k1 =>
        rw [m_impl_Dec_L0] at h
        obtain rfl := (HT.rdAt 0 rfl).neq
        refine ?_
        refine wp_seq ?_
        refine wp_seq ?_
        refine wc_text ?_
        refine wc_move HF nS rfl rfl rfl (fun a HF => ?_)
        refine wc_bin HF nS rfl rfl b_ne rfl rfl (fun a HF => ?_)
        refine wc_end ?_
        refine then_n ?_
        by_cases hb2 : z3 = 0
        · have h := (if_pos hb2).symm.trans h
          refine wp_if (b' := false) HF rfl (notT (decide_eq_true hb2)) ?_
          refine wp_exit ?_
          refine then_x (then_x (?_))
          refine blk_x ?_
          obtain rfl := Option.some.inj h
          exact then_n ⟨a2, z2.length, c2, (HF.keep (HF.keep HF.nil rfl) rfl), HT⟩
        · have h := (if_neg hb2).symm.trans h
          refine wp_if (b' := true) HF rfl (notF (decide_eq_false hb2)) ?_
          refine wp_skip ?_
          refine then_n ?_
          obtain ⟨z4, hx2, h⟩ := obs h
          refine wp_cut (fun a w => ∃ a3 n3 c3, Fr a 59 [(0, .int .i64 x0), (3, .slice a3 n3 c3), (4, .int .i64 z3)] ∧ St w0 (fun _ => False) w [Own 5 (rowT z4) (.slice a3 n3 c3)]) ?_ ?_
          · have hk2 := h
            have h := hx2
            refine wp_block ?_
            refine wp_seq ?_
            refine wc_text ?_
            refine wc_move HF nS rfl rfl rfl (fun a HF => ?_)
            obtain ⟨hg1, h⟩ := grd h
            refine wc_bin HF nS rfl rfl (b_rem hg1) rfl rfl (fun a HF => ?_)
            refine wc_assign HF nS rfl rfl rfl (fun a HF => ?_)
            refine wc_end ?_
            refine then_n ?_
            obtain ⟨z5, hx3, h⟩ := obs h
            refine wp_cut (fun a w => Fr a 59 [(0, .int .i64 x0), (3, .slice a2 z2.length c2), (4, .int .i64 z3), (5, .int .i64 z5)] ∧ St w0 (fun _ => False) w [Own 5 (rowT z2) (.slice a2 z2.length c2)]) ?_ ?_
            · have hk3 := h
              have h := hx3
              refine wp_seq ?_
              refine wc_text ?_
              refine wc_move HF nS rfl rfl rfl (fun a HF => ?_)
              refine wc_bin HF nS rfl rfl b_lt rfl rfl (fun a HF => ?_)
              refine wc_end ?_
              refine then_n ?_
              by_cases hb3 : (z3.tmod 10) < 0
              · have h := (if_pos hb3).symm.trans h
                refine wp_if (b' := true) HF rfl (decide_eq_true hb3) ?_
                refine wc_text ?_
                refine wc_move HF nS rfl rfl rfl (fun a HF => ?_)
                obtain ⟨hg2, h⟩ := grd h
                refine wc_neg HF nS rfl hg2 rfl rfl (fun a HF => ?_)
                refine wc_assign HF nS rfl rfl rfl (fun a HF => ?_)
                refine wc_end ?_
                obtain rfl := Option.some.inj h
                exact then_n ⟨(HF.keep (HF.keep (HF.keep (HF.keep HF.nil rfl) rfl) rfl) rfl), HT⟩
              · have h := (if_neg hb3).symm.trans h
                refine wp_if (b' := false) HF rfl (decide_eq_false hb3) ?_
                refine wp_skip ?_
                obtain rfl := Option.some.inj h
                exact then_n ⟨(HF.keep (HF.keep (HF.keep (HF.keep HF.nil rfl) rfl) rfl) rfl), HT⟩
            · rintro a w ⟨HF, HT⟩
              refine ?_
              refine wc_text ?_
              refine wc_move HF nS rfl rfl rfl (fun a HF => ?_)
              refine wc_move HF nS rfl rfl rfl (fun a HF => ?_)
              obtain ⟨hg3, h⟩ := grd h
              refine wc_bin HF nS rfl rfl (b_add hg3) rfl rfl (fun a HF => ?_)
              refine wc_cvb HF nS Try.underlying5 Try.underlying3 rfl rfl rfl (fun a HF => ?_)
              refine wc_bslice (l := ([b8 (48 + z5)] : List UInt8)) (cs := [.int .u8 ((b8 (48 + z5)).toNat : Int)]) (A := []) HF HT bs56_1 rfl rfl (gives_flat rfl) rfl (by decide) rfl rfl (fun p2 w HT hb => ⟨nS, fun a HF => ?_⟩)
              obtain ⟨hg4, h⟩ := grd h
              have HT : St w0 (fun _ => False) w [Own 5 (rowT z2) (.slice a2 z2.length c2), Own 5 (rowT ([b8 (48 + z5)] : List UInt8)) (.slice (some ⟨p2, 0, none⟩) 1 1)] := HT.pick 1
              refine wc_append HF HT el56 rfl rfl (Nat.zero_lt_succ _) hg4 rfl rfl rfl (fun a4 c4 w HT => ⟨nS, fun a HF => ?_⟩)
              refine wc_assign HF nS rfl rfl rfl (fun a HF => ?_)
              refine wc_end ?_
              refine blk_n ?_
              obtain rfl := Option.some.inj h
              exact then_n ⟨a4, (z2 ++ ([b8 (48 + z5)] : List UInt8)).length, c4, (HF.keep (HF.keep (HF.keep HF.nil rfl) rfl) rfl), HT⟩
          · rintro a w ⟨a3, n3, c3, HF, HT⟩
            obtain rfl := (HT.rdAt 0 rfl).neq
            refine ?_
            refine wc_text ?_
            refine wc_move HF nS rfl rfl rfl (fun a HF => ?_)
            obtain ⟨hg5, h⟩ := grd h
            refine wc_bin HF nS rfl rfl (b_quo hg5) rfl rfl (fun a HF => ?_)
            refine wc_assign HF nS rfl rfl rfl (fun a HF => ?_)
            refine wc_end ?_
            exact then_n ⟨k1, Nat.lt_succ_self k1, z4, z3.tdiv 10, a3, z4.length, c3, h, (HF.keep (HF.keep (HF.keep HF.nil rfl) rfl) rfl), HT⟩
    · rintro a w ⟨a1, n1, c1, HF, HT⟩
      obtain rfl := (HT.rdAt 0 rfl).neq
      refine ?_
      obtain ⟨z6, hx4, h⟩ := obs h
      refine wp_cut (fun a w => ∃ a5 n4 c5, Fr a 59 [(3, .slice a5 n4 c5)] ∧ St w0 (fun _ => False) w [Own 5 (rowT z6) (.slice a5 n4 c5)]) ?_ ?_
      · have hk1 := h
        have h := hx4
        refine wp_seq ?_
        refine wc_text ?_
        refine wc_move HF nS rfl rfl rfl (fun a HF => ?_)
        refine wc_bin HF nS rfl rfl b_lt rfl rfl (fun a HF => ?_)
        refine wc_end ?_
        refine then_n ?_
        by_cases hb4 : x0 < 0
        · have h := (if_pos hb4).symm.trans h
          refine wp_if (b' := true) HF rfl (decide_eq_true hb4) ?_
          refine wc_text ?_
          refine wc_move HF nS rfl rfl rfl (fun a HF => ?_)
          refine wc_bslice (l := ([(45 : UInt8)] : List UInt8)) (cs := [.int .u8 45]) (A := []) HF HT bs56_1 rfl rfl (gives_flat rfl) rfl (by decide) rfl rfl (fun p3 w HT hb => ⟨nS, fun a HF => ?_⟩)
          obtain ⟨hg6, h⟩ := grd h
          have HT : St w0 (fun _ => False) w [Own 5 (rowT z1) (.slice a1 z1.length c1), Own 5 (rowT ([(45 : UInt8)] : List UInt8)) (.slice (some ⟨p3, 0, none⟩) 1 1)] := HT.pick 1
          refine wc_append HF HT el56 rfl rfl (Nat.zero_lt_succ _) hg6 rfl rfl rfl (fun a6 c6 w HT => ⟨nS, fun a HF => ?_⟩)
          refine wc_assign HF nS rfl rfl rfl (fun a HF => ?_)
          refine wc_end ?_
          obtain rfl := Option.some.inj h
          exact then_n ⟨a6, (z1 ++ ([(45 : UInt8)] : List UInt8)).length, c6, (HF.keep HF.nil rfl), HT⟩
        · have h := (if_neg hb4).symm.trans h
          refine wp_if (b' := false) HF rfl (decide_eq_false hb4) ?_
          refine wp_skip ?_
          obtain rfl := Option.some.inj h
          exact then_n ⟨a1, z1.length, c1, (HF.keep HF.nil rfl), HT⟩
      · rintro a w ⟨a5, n4, c5, HF, HT⟩
        obtain rfl := (HT.rdAt 0 rfl).neq
        refine ?_
        obtain ⟨z7, hx5, h⟩ := obs h
        refine wp_cut (fun a w => Fr a 59 [(3, .slice a5 z6.length c5)] ∧ St w0 (fun _ => False) w [Own 5 (rowT z7) (.slice a5 z6.length c5)]) ?_ ?_
        · have hk1 := h
          have h := hx5
          refine wp_seq ?_
          refine wc_text ?_
          refine wc_move HF nS rfl rfl rfl (fun a HF => ?_)
          refine wc_lenR HF nS Try.underlying56 rfl rfl rfl (fun a HF => ?_)
          obtain ⟨hg7, h⟩ := grd h
          refine wc_bin HF nS rfl rfl (b_sub hg7) rfl rfl (fun a HF => ?_)
          refine wc_assign HF nS rfl rfl rfl (fun a HF => ?_)
          refine wc_assign HF nS rfl rfl rfl (fun a HF => ?_)
          refine wc_end ?_
          refine then_n ?_
          refine wp_block ?_
          refine wp_loopN (fun k2 a w => ∃ z8 z9 z10, m_impl_Dec_L1 fuel k2 z8 z9 z10 = some z7 ∧ Fr a 59 [(3, .slice a5 z6.length c5), (6, .int .i64 z9), (7, .int .i64 z10)] ∧ St w0 (fun _ => False) w [Own 5 (rowT z8) (.slice a5 z6.length c5)]) fuel ⟨z6, 0, (z6.length : Int) - 1, h, (HF.keep (HF.keep (HF.keep HF.nil rfl) rfl) rfl), HT⟩ ?_
          rintro k2 a w ⟨z8, z9, z10, h, HF, HT⟩
          cases k2 with
          | zero => cases h
          | succ k2 =>
            rw [m_impl_Dec_L1] at h
            refine ?_
            refine wp_seq ?_
            refine wp_seq ?_
            refine wc_text ?_
            refine wc_move HF nS rfl rfl rfl (fun a HF => ?_)
            refine wc_move HF nS rfl rfl rfl (fun a HF => ?_)
            refine wc_bin HF nS rfl rfl b_lt rfl rfl (fun a HF => ?_)
            refine wc_end ?_
            refine then_n ?_
            by_cases hb5 : z9 < z10
            · have h := (if_pos hb5).symm.trans h
              refine wp_if (b' := true) HF rfl (decide_eq_true hb5) ?_
              refine wp_skip ?_
              refine then_n ?_
              refine wp_seq ?_
              refine wp_block ?_
              refine wp_region_can [(0, true), (1, true), (2, false), (3, false), (4, true), (5, true), (6, true), (7, true), (8, true), (9, true), (10, true), (11, true), (12, true), (13, false), (14, true), (15, true)] (fun w' => True) (by kernel_rfl) (by kernel_rfl) ?_
              have HT : St w0 (fun _ => False) w.drew [Own 5 (rowT z8) (.slice a5 z6.length c5)] := HT.drew
              refine wc_move HF nS rfl rfl rfl (fun a HF => ?_)
              refine wc_move HF nS rfl rfl rfl (fun a HF => ?_)
              refine wc_move HF (fun _ => trivial) rfl rfl rfl (fun a HF => ?_)
              refine wc_move HF (fun _ => trivial) rfl rfl rfl (fun a HF => ?_)
              refine wc_move HF nS rfl rfl rfl (fun a HF => ?_)
              refine wc_move HF nS rfl rfl rfl (fun a HF => ?_)
              obtain ⟨e1, hx6, h⟩ := obs h
              obtain ⟨b1, o1, ha1⟩ := (HT.rdAt 0 rfl).addr hx6
              refine wc_ixaddr HF nS el56 rfl ha1 ((HT.rdAt 0 rfl)).neq rfl hx6 rfl rfl (fun a HF => ?_)
              have hc1 := (HT.rdAt 0 rfl).flatAt ha1 hx6
              refine wc_load HF rfl sc5 (hc1.get 0 rfl) rfl rfl (fun a HF => ?_)
              refine wc_move HF nS rfl rfl rfl (fun a HF => ?_)
              refine wc_move HF nS rfl rfl rfl (fun a HF => ?_)
              obtain ⟨e2, hx7, h⟩ := obs h
              refine wc_ixaddr HF nS el56 rfl ha1 ((HT.rdAt 0 rfl)).neq rfl hx7 rfl rfl (fun a HF => ?_)
              have hc2 := (HT.rdAt 0 rfl).flatAt ha1 hx7
              refine wc_load HF rfl sc5 (hc2.get 0 rfl) rfl rfl (fun a HF => ?_)
              refine wc_ixaddr HF nS el56 rfl ha1 ((HT.rdAt 0 rfl)).neq rfl hx7 rfl rfl (fun a HF => ?_)
              refine wc_storeR (i := z9) (j := 0) (x' := e1) HF HT ha1 rfl rfl (fun w => (sc5 w).2) rfl rfl hx7 rfl rfl rfl rfl (fun w HT => ⟨(fun _ => trivial), ?_⟩)
              obtain ⟨e4, hx8, h⟩ := obs h
              refine wc_ixaddr HF nS el56 rfl ha1 ((HT.rdAt 0 rfl)).neq rfl hx8 rfl rfl (fun a HF => ?_)
              refine wc_storeR (i := z10) (j := 0) (x' := e2) HF HT ha1 rfl rfl (fun w => (sc5 w).2) rfl rfl hx8 rfl rfl rfl rfl (fun w HT => ⟨nS, ?_⟩)
              refine wc_endN ?_
              refine blk_n ?_
              refine then_n ?_
              refine wc_text ?_
              refine wc_move HF nS rfl rfl rfl (fun a HF => ?_)
              obtain ⟨hg8, h⟩ := grd h
              refine wc_bin HF nS rfl rfl (b_add hg8) rfl rfl (fun a HF => ?_)
              refine wc_move HF nS rfl rfl rfl (fun a HF => ?_)
              obtain ⟨hg9, h⟩ := grd h
              refine wc_bin HF nS rfl rfl (b_sub hg9) rfl rfl (fun a HF => ?_)
              refine wc_assign HF nS rfl rfl rfl (fun a HF => ?_)
              refine wc_assign HF nS rfl rfl rfl (fun a HF => ?_)
              refine wc_end ?_
              exact then_n ⟨k2, Nat.lt_succ_self k2, (z8.set z9.toNat e1).set z10.toNat e2, z9 + 1, z10 - 1, h, (HF.keep (HF.keep (HF.keep HF.nil rfl) rfl) rfl), HT⟩
            · have h := (if_neg hb5).symm.trans h
              refine wp_if (b' := false) HF rfl (decide_eq_false hb5) ?_
              refine wp_exit ?_
              refine then_x (then_x (?_))
              refine blk_x ?_
              obtain rfl := Option.some.inj h
              exact then_n ⟨(HF.keep HF.nil rfl), HT⟩
        · rintro a w ⟨HF, HT⟩
          refine ?_
          refine wp_seq ?_
          refine wc_text ?_
          refine wc_move HF nS rfl rfl rfl (fun a HF => ?_)
          refine wc_cvs HF nS Try.underlying56 Try.underlying5 Try.underlying9 rfl (HT.rdAt 0 rfl) rfl rfl (fun a HF => ?_)
          refine wc_assign HF nS rfl rfl rfl (fun a HF => ?_)
          refine wc_end ?_
          refine then_n ?_
          refine wp_ret ?_
          obtain rfl := Option.some.inj h
          refine bp_ret HF (res_one rfl HF rfl) ?_
          have HT : St w0 (fun _ => False) w [] := HT.take 0
          exact ⟨rfl, HT⟩

def m_impl_fieldsOf (fuel : Nat) (x0 : Int) : Option Int :=
  (
    (
      if x0 = 2 then
        some (decide (x0 = 2))
      else
        if x0 = 3 then
          some (decide (x0 = 3))
        else
          if x0 = 4 then
            some (decide (x0 = 4))
          else
            some (decide (x0 = 12))).bind fun z1 =>
    if z1 = true then
      some (.ret 3)
    else
      (
        if x0 = 8 then
          some (decide (x0 = 8))
        else
          if x0 = 15 then
            some (decide (x0 = 15))
          else
            some (decide (x0 = 16))).bind fun z2 =>
      if z2 = true then
        some (.ret 1)
      else
        (
          if x0 = 9 then
            some (decide (x0 = 9))
          else
            if x0 = 10 then
              some (decide (x0 = 10))
            else
              some (decide (x0 = 11))).bind fun z3 =>
        if z3 = true then
          some (.ret 0)
        else
          some (.brk ())).bind <| contL <| un1 fun _ =>
  some 2

set_option maxRecDepth 100000 in
set_option maxHeartbeats 4000000 in
theorem w_impl_fieldsOf (fuel : Nat) {x0 : Int} {r0 : Int} {w0 : World} (h : m_impl_fieldsOf fuel x0 = some r0) :
    Calls Try.prog 46 #[.int .i64 x0] w0 fun e w => e = .returned (.int .i64 r0) ∧ St w0 (fun _ => False) w [] := by
  have HT : St w0 (fun _ => False) w0 [] := St.init0
  rw [m_impl_fieldsOf] at h
  refine calls_fr (n := 17) [.int .i64 x0] Try.func46 rfl rfl rfl (fun a HF => ?_)
  have HT : St w0 (fun _ => False) w0 [] := HT
  refine wp_seq ?_
  refine wc_text ?_
  refine wc_assign HF nS rfl rfl rfl (fun a HF => ?_)
  refine wc_end ?_
  refine then_n ?_
  obtain ⟨q1, hx1, h⟩ := obs h
  refine wp_cut (fun a w => q1 = .brk () ∧ Fr a 17 [] ∧ St w0 (fun _ => False) w []) ?_ ?_
  · have hk1 := h
    have h := hx1
    refine wp_seq ?_
    refine wc_text ?_
    refine wc_move HF nS rfl rfl rfl (fun a HF => ?_)
    refine wc_end ?_
    refine then_n ?_
    refine wp_block ?_
    obtain ⟨z1, hx2, h⟩ := obs h
    refine wp_cut (fun a w => Fr a 17 [(3, .int .i64 x0), (4, .bool z1)] ∧ St w0 (fun _ => False) w []) ?_ ?_
    · have hk2 := h
      have h := hx2
      refine wp_seq ?_
      refine wc_text ?_
      refine wc_bin HF nS rfl rfl b_eq rfl rfl (fun a HF => ?_)
      refine wc_assign HF nS rfl rfl rfl (fun a HF => ?_)
      refine wc_end ?_
      refine then_n ?_
      by_cases hb1 : x0 = 2
      · have h := (if_pos hb1).symm.trans h
        refine wp_if (b' := true) HF rfl (decide_eq_true hb1) ?_
        refine wp_skip ?_
        obtain rfl := Option.some.inj h
        exact then_n ⟨(HF.keep (HF.keep HF.nil rfl) rfl), HT⟩
      · have h := (if_neg hb1).symm.trans h
        refine wp_if (b' := false) HF rfl (decide_eq_false hb1) ?_
        refine wp_seq ?_
        refine wc_text ?_
        refine wc_bin HF nS rfl rfl b_eq rfl rfl (fun a HF => ?_)
        refine wc_assign HF nS rfl rfl rfl (fun a HF => ?_)
        refine wc_end ?_
        refine then_n ?_
        by_cases hb2 : x0 = 3
        · have h := (if_pos hb2).symm.trans h
          refine wp_if (b' := true) HF rfl (decide_eq_true hb2) ?_
          refine wp_skip ?_
          obtain rfl := Option.some.inj h
          exact then_n ⟨(HF.keep (HF.keep HF.nil rfl) rfl), HT⟩
        · have h := (if_neg hb2).symm.trans h
          refine wp_if (b' := false) HF rfl (decide_eq_false hb2) ?_
          refine wp_seq ?_
          refine wc_text ?_
          refine wc_bin HF nS rfl rfl b_eq rfl rfl (fun a HF => ?_)
          refine wc_assign HF nS rfl rfl rfl (fun a HF => ?_)
          refine wc_end ?_
          refine then_n ?_
          by_cases hb3 : x0 = 4
          · have h := (if_pos hb3).symm.trans h
            refine wp_if (b' := true) HF rfl (decide_eq_true hb3) ?_
            refine wp_skip ?_
            obtain rfl := Option.some.inj h
            exact then_n ⟨(HF.keep (HF.keep HF.nil rfl) rfl), HT⟩
          · have h := (if_neg hb3).symm.trans h
            refine wp_if (b' := false) HF rfl (decide_eq_false hb3) ?_
            refine wc_text ?_
            refine wc_bin HF nS rfl rfl b_eq rfl rfl (fun a HF => ?_)
            refine wc_assign HF nS rfl rfl rfl (fun a HF => ?_)
            refine wc_end ?_
            obtain rfl := Option.some.inj h
            exact then_n ⟨(HF.keep (HF.keep HF.nil rfl) rfl), HT⟩
    · rintro a w ⟨HF, HT⟩
      refine ?_
      by_cases hb4 : z1 = true
      · have h := (if_pos hb4).symm.trans h
        refine wp_if (b' := true) HF rfl hb4 ?_
        refine wp_seq ?_
        refine wc_text ?_
        refine wc_assign HF nS rfl rfl rfl (fun a HF => ?_)
        refine wc_end ?_
        refine then_n ?_
        refine wp_ret ?_
        obtain rfl := Option.some.inj h
        have h := retL hk1
        obtain rfl := Option.some.inj h
        refine blk_r (then_r (?_))
        refine bp_ret HF (res_one rfl HF rfl) ?_
        exact ⟨rfl, HT⟩
      · have h := (if_neg hb4).symm.trans h
        refine wp_if (b' := false) HF rfl (Bool.eq_false_iff.2 hb4) ?_
        obtain ⟨z2, hx3, h⟩ := obs h
        refine wp_cut (fun a w => Fr a 17 [(3, .int .i64 x0), (9, .bool z2)] ∧ St w0 (fun _ => False) w []) ?_ ?_
        · have hk2 := h
          have h := hx3
          refine wp_seq ?_
          refine wc_text ?_
          refine wc_bin HF nS rfl rfl b_eq rfl rfl (fun a HF => ?_)
          refine wc_assign HF nS rfl rfl rfl (fun a HF => ?_)
          refine wc_end ?_
          refine then_n ?_
          by_cases hb5 : x0 = 8
          · have h := (if_pos hb5).symm.trans h
            refine wp_if (b' := true) HF rfl (decide_eq_true hb5) ?_
            refine wp_skip ?_
            obtain rfl := Option.some.inj h
            exact then_n ⟨(HF.keep (HF.keep HF.nil rfl) rfl), HT⟩
          · have h := (if_neg hb5).symm.trans h
            refine wp_if (b' := false) HF rfl (decide_eq_false hb5) ?_
            refine wp_seq ?_
            refine wc_text ?_
            refine wc_bin HF nS rfl rfl b_eq rfl rfl (fun a HF => ?_)
            refine wc_assign HF nS rfl rfl rfl (fun a HF => ?_)
            refine wc_end ?_
            refine then_n ?_
            by_cases hb6 : x0 = 15
            · have h := (if_pos hb6).symm.trans h
              refine wp_if (b' := true) HF rfl (decide_eq_true hb6) ?_
              refine wp_skip ?_
              obtain rfl := Option.some.inj h
              exact then_n ⟨(HF.keep (HF.keep HF.nil rfl) rfl), HT⟩
            · have h := (if_neg hb6).symm.trans h
              refine wp_if (b' := false) HF rfl (decide_eq_false hb6) ?_
              refine wc_text ?_
              refine wc_bin HF nS rfl rfl b_eq rfl rfl (fun a HF => ?_)
              refine wc_assign HF nS rfl rfl rfl (fun a HF => ?_)
              refine wc_end ?_
              obtain rfl := Option.some.inj h
              exact then_n ⟨(HF.keep (HF.keep HF.nil rfl) rfl), HT⟩
        · rintro a w ⟨HF, HT⟩
          refine ?_
          by_cases hb7 : z2 = true
          · have h := (if_pos hb7).symm.trans h
            refine wp_if (b' := true) HF rfl hb7 ?_
            refine wp_seq ?_
            refine wc_text ?_
            refine wc_assign HF nS rfl rfl rfl (fun a HF => ?_)
            refine wc_end ?_
            refine then_n ?_
            refine wp_ret ?_
            obtain rfl := Option.some.inj h
            have h := retL hk1
            obtain rfl := Option.some.inj h
            refine blk_r (then_r (?_))
            refine bp_ret HF (res_one rfl HF rfl) ?_
            exact ⟨rfl, HT⟩
          · have h := (if_neg hb7).symm.trans h
            refine wp_if (b' := false) HF rfl (Bool.eq_false_iff.2 hb7) ?_
            obtain ⟨z3, hx4, h⟩ := obs h
            refine wp_cut (fun a w => Fr a 17 [(13, .bool z3)] ∧ St w0 (fun _ => False) w []) ?_ ?_
            · have hk2 := h
              have h := hx4
              refine wp_seq ?_
              refine wc_text ?_
              refine wc_bin HF nS rfl rfl b_eq rfl rfl (fun a HF => ?_)
              refine wc_assign HF nS rfl rfl rfl (fun a HF => ?_)
              refine wc_end ?_
              refine then_n ?_
              by_cases hb8 : x0 = 9
              · have h := (if_pos hb8).symm.trans h
                refine wp_if (b' := true) HF rfl (decide_eq_true hb8) ?_
                refine wp_skip ?_
                obtain rfl := Option.some.inj h
                exact then_n ⟨(HF.keep HF.nil rfl), HT⟩
              · have h := (if_neg hb8).symm.trans h
                refine wp_if (b' := false) HF rfl (decide_eq_false hb8) ?_
                refine wp_seq ?_
                refine wc_text ?_
                refine wc_bin HF nS rfl rfl b_eq rfl rfl (fun a HF => ?_)
                refine wc_assign HF nS rfl rfl rfl (fun a HF => ?_)
                refine wc_end ?_
                refine then_n ?_
                by_cases hb9 : x0 = 10
                · have h := (if_pos hb9).symm.trans h
                  refine wp_if (b' := true) HF rfl (decide_eq_true hb9) ?_
                  refine wp_skip ?_
                  obtain rfl := Option.some.inj h
                  exact then_n ⟨(HF.keep HF.nil rfl), HT⟩
                · have h := (if_neg hb9).symm.trans h
                  refine wp_if (b' := false) HF rfl (decide_eq_false hb9) ?_
                  refine wc_text ?_
                  refine wc_bin HF nS rfl rfl b_eq rfl rfl (fun a HF => ?_)
                  refine wc_assign HF nS rfl rfl rfl (fun a HF => ?_)
                  refine wc_end ?_
                  obtain rfl := Option.some.inj h
                  exact then_n ⟨(HF.keep HF.nil rfl), HT⟩
            · rintro a w ⟨HF, HT⟩
              refine ?_
              by_cases hb10 : z3 = true
              · have h := (if_pos hb10).symm.trans h
                refine wp_if (b' := true) HF rfl hb10 ?_
                refine wp_seq ?_
                refine wc_text ?_
                refine wc_assign HF nS rfl rfl rfl (fun a HF => ?_)
                refine wc_end ?_
                refine then_n ?_
                refine wp_ret ?_
                obtain rfl := Option.some.inj h
                have h := retL hk1
                obtain rfl := Option.some.inj h
                refine blk_r (then_r (?_))
                refine bp_ret HF (res_one rfl HF rfl) ?_
                exact ⟨rfl, HT⟩
              · have h := (if_neg hb10).symm.trans h
                refine wp_if (b' := false) HF rfl (Bool.eq_false_iff.2 hb10) ?_
                refine wp_skip ?_
                refine blk_n ?_
                exact then_n ⟨(Option.some.inj h).symm, HF.nil, HT⟩
  · rintro a w ⟨rfl, HF, HT⟩
    have h := brkL1u h
    refine ?_
    refine wp_seq ?_
    refine wc_text ?_
    refine wc_assign HF nS rfl rfl rfl (fun a HF => ?_)
    refine wc_end ?_
    refine then_n ?_
    refine wp_ret ?_
    obtain rfl := Option.some.inj h
    refine bp_ret HF (res_one rfl HF rfl) ?_
    exact ⟨rfl, HT⟩

def m_impl_mnemonic (fuel : Nat) (x0 : Int) : Option Str :=
  (m_impl_within fuel x0 1 16).bind fun y1 =>
  if y1 = true then
    if in64 (x0 - 1) then
      (at? ([(⟨[115, 101, 116]⟩ : SE), (⟨[97, 100, 100]⟩ : SE), (⟨[115, 117, 98]⟩ : SE), (⟨[108, 101, 115, 115]⟩ : SE), (⟨[114, 101, 97, 100]⟩ : SE), (⟨[119, 114, 105, 116, 101]⟩ : SE), (⟨[115, 107, 105, 112]⟩ : SE), (⟨[98, 101, 103, 105, 110]⟩ : SE), (⟨[101, 110, 100]⟩ : SE), (⟨[97, 98, 111, 114, 116]⟩ : SE), (⟨[102, 111, 114, 107]⟩ : SE), (⟨[112, 117, 116]⟩ : SE), (⟨[103, 101, 116]⟩ : SE), (⟨[100, 114, 111, 112]⟩ : SE), (⟨[98, 117, 109, 112]⟩ : SE), (⟨[99, 111, 117, 110, 116]⟩ : SE)] : List SE) (x0 - 1)).bind fun e1 =>
      some e1.s
    else none
  else
    some []

set_option maxRecDepth 100000 in
set_option maxHeartbeats 4000000 in
theorem w_impl_mnemonic (fuel : Nat) {x0 : Int} {r0 : Str} {w0 : World} (h : m_impl_mnemonic fuel x0 = some r0) :
    Calls Try.prog 45 #[.int .i64 x0] w0 fun e w => e = .returned (sv r0) ∧ St w0 (fun _ => False) w [] := by
  have HT : St w0 (fun _ => False) w0 [] := St.init0
  rw [m_impl_mnemonic] at h
  refine calls_fr (n := 11) [.int .i64 x0] Try.func45 rfl rfl rfl (fun a HF => ?_)
  have HT : St w0 (fun _ => False) w0 [] := HT
  refine wp_seq ?_
  refine wc_text ?_
  refine wc_assign HF nS rfl rfl rfl (fun a HF => ?_)
  refine wc_end ?_
  refine then_n ?_
  refine wp_seq ?_
  refine wp_seq ?_
  refine wc_text ?_
  refine wc_move HF nS rfl rfl rfl (fun a HF => ?_)
  obtain ⟨y1, hx1, h⟩ := obs h
  refine wc_call HF cf80 rfl (w_impl_within fuel hx1) rfl rfl ?_
  rintro e w ⟨rfl, hE⟩
  have hb := hE.below
  have HT := HT.pure hE
  have HT : St w0 (fun _ => False) w [] := HT
  refine ⟨_, rfl, nS, fun a HF => ?_⟩
  refine wc_not HF nS rfl rfl rfl (fun a HF => ?_)
  refine wc_end ?_
  refine then_n ?_
  by_cases hb1 : y1 = true
  · have h := (if_pos hb1).symm.trans h
    refine wp_if (b' := false) HF rfl (notT hb1) ?_
    refine wp_skip ?_
    refine then_n ?_
    refine wp_seq ?_
    refine wc_text ?_
    refine wc_bslice (l := ([(⟨[115, 101, 116]⟩ : SE), (⟨[97, 100, 100]⟩ : SE), (⟨[115, 117, 98]⟩ : SE), (⟨[108, 101, 115, 115]⟩ : SE), (⟨[114, 101, 97, 100]⟩ : SE), (⟨[119, 114, 105, 116, 101]⟩ : SE), (⟨[115, 107, 105, 112]⟩ : SE), (⟨[98, 101, 103, 105, 110]⟩ : SE), (⟨[101, 110, 100]⟩ : SE), (⟨[97, 98, 111, 114, 116]⟩ : SE), (⟨[102, 111, 114, 107]⟩ : SE), (⟨[112, 117, 116]⟩ : SE), (⟨[103, 101, 116]⟩ : SE), (⟨[100, 114, 111, 112]⟩ : SE), (⟨[98, 117, 109, 112]⟩ : SE), (⟨[99, 111, 117, 110, 116]⟩ : SE)] : List SE)) (cs := [sv ([115, 101, 116]), sv ([97, 100, 100]), sv ([115, 117, 98]), sv ([108, 101, 115, 115]), sv ([114, 101, 97, 100]), sv ([119, 114, 105, 116, 101]), sv ([115, 107, 105, 112]), sv ([98, 101, 103, 105, 110]), sv ([101, 110, 100]), sv ([97, 98, 111, 114, 116]), sv ([102, 111, 114, 107]), sv ([112, 117, 116]), sv ([103, 101, 116]), sv ([100, 114, 111, 112]), sv ([98, 117, 109, 112]), sv ([99, 111, 117, 110, 116])]) (A := []) HF HT bs62_16 rfl rfl (gives_flat rfl) rfl (by decide) rfl rfl (fun p1 w HT hb => ⟨nS, fun a HF => ?_⟩)
    refine wc_move HF nS rfl rfl rfl (fun a HF => ?_)
    obtain ⟨hg1, h⟩ := grd h
    refine wc_bin HF nS rfl rfl (b_sub hg1) rfl rfl (fun a HF => ?_)
    obtain ⟨e1, hx2, h⟩ := obs h
    refine wc_ixaddr HF nS el62 rfl rfl ((HT.rdAt 0 rfl)).neq rfl hx2 rfl rfl (fun a HF => ?_)
    have hc1 := (HT.rdAt 0 rfl).flatAt rfl hx2
    refine wc_load HF rfl sc9 (hc1.get 0 rfl) rfl rfl (fun a HF => ?_)
    refine wc_assign HF nS rfl rfl rfl (fun a HF => ?_)
    refine wc_end ?_
    refine then_n ?_
    refine wp_ret ?_
    obtain rfl := Option.some.inj h
    refine bp_ret HF (res_one rfl HF rfl) ?_
    have HT : St w0 (fun _ => False) w [] := HT.take 0
    exact ⟨rfl, HT⟩
  · have h := (if_neg hb1).symm.trans h
    refine wp_if (b' := true) HF rfl (notF (Bool.eq_false_iff.2 hb1)) ?_
    refine wp_seq ?_
    refine wc_text ?_
    refine wc_assign HF nS rfl rfl rfl (fun a HF => ?_)
    refine wc_end ?_
    refine then_n ?_
    refine wp_ret ?_
    obtain rfl := Option.some.inj h
    refine then_r (?_)
    refine bp_ret HF (res_one rfl HF rfl) ?_
    exact ⟨rfl, HT⟩

def m_impl_ShowOp_L0 (fuel : Nat) (x0_1 : Int) (x0_2 : Int) (x0_3 : Int) (y3 : Int) : Nat → Str → Int → Option Str
  | 0, _, _ => none
  | k1 + 1, z2, z3 =>
    if z3 < ((subl ([x0_1, x0_2, x0_3] : List Int) 0 y3).length : Int) then
      (at? (subl ([x0_1, x0_2, x0_3] : List Int) 0 y3) z3).bind fun e1 =>
      if ((z2.length + [32].length : Nat) : Int) ≤ 9223372036854775807 then
        (m_impl_Dec fuel e1).bind fun y4 =>
        if (((z2 ++ [32]).length + y4.length : Nat) : Int) ≤ 9223372036854775807 then
          if in64 (z3 + 1) then
            m_impl_ShowOp_L0 fuel x0_1 x0_2 x0_3 y3 k1 ((z2 ++ [32]) ++ y4) (z3 + 1)
          else none
        else none
      else none
    else
      some z2

def m_impl_ShowOp (fuel : Nat) (x0_0 : Int) (x0_1 : Int) (x0_2 : Int) (x0_3 : Int) : Option Str :=
  (m_impl_OpOk fuel x0_0 x0_1 x0_2 x0_3).bind fun y1 =>
  if y1 = true then
    (m_impl_mnemonic fuel x0_0).bind fun y2 =>
    (
      (m_impl_fieldsOf fuel x0_0).bind fun y3 =>
      if 0 ≤ (y3 : Int) ∧ y3 ≤ (([x0_1, x0_2, x0_3] : List Int).length : Int) then
        m_impl_ShowOp_L0 fuel x0_1 x0_2 x0_3 y3 fuel y2 0
      else none).bind fun z1 =>
    some z1
  else
    some []

set_option maxRecDepth 100000 in
set_option maxHeartbeats 4000000 in
theorem w_impl_ShowOp (fuel : Nat) {x0_0 : Int} {x0_1 : Int} {x0_2 : Int} {x0_3 : Int} {r0 : Str} {w0 : World} (h : m_impl_ShowOp fuel x0_0 x0_1 x0_2 x0_3 = some r0) :
    Calls Try.prog 12 #[.agg #[.int .i64 x0_0, .int .i64 x0_1, .int .i64 x0_2, .int .i64 x0_3]] w0 fun e w => e = .returned (sv r0) ∧ St w0 (fun _ => False) w [] := by
  have HT : St w0 (fun _ => False) w0 [] := St.init0
  rw [m_impl_ShowOp] at h
  refine calls_fr (n := 37) [.agg #[.int .i64 x0_0, .int .i64 x0_1, .int .i64 x0_2, .int .i64 x0_3]] Try.func12 rfl rfl rfl (fun a HF => ?_)
  have HT : St w0 (fun _ => False) w0 [] := HT
  refine wp_seq ?_
  refine wc_text ?_
  refine wc_box (cs := [.int .i64 x0_0, .int .i64 x0_1, .int .i64 x0_2, .int .i64 x0_3]) HF HT rfl rfl rfl rfl (fun p1 w HT hb => ⟨nS, fun a HF => ?_⟩)
  refine wc_assign HF nS rfl rfl rfl (fun a HF => ?_)
  refine wc_end ?_
  refine then_n ?_
  refine wp_seq ?_
  refine wp_seq ?_
  refine wc_text ?_
  refine wc_loadA (vs := [.int .i64 x0_0, .int .i64 x0_1, .int .i64 x0_2, .int .i64 x0_3]) HF rfl ag25 rfl ((HT.boxAt 0 rfl).part 0 4) rfl rfl (fun a HF => ?_)
  obtain ⟨y1, hx1, h⟩ := obs h
  refine wc_call HF cf44 rfl (w_impl_OpOk fuel hx1) rfl rfl ?_
  rintro e w ⟨rfl, hE⟩
  have hb := hE.below
  have HT := HT.pure hE
  have HT : St w0 (fun _ => False) w [Box p1 [.int .i64 x0_0, .int .i64 x0_1, .int .i64 x0_2, .int .i64 x0_3]] := HT
  refine ⟨_, rfl, nS, fun a HF => ?_⟩
  refine wc_not HF nS rfl rfl rfl (fun a HF => ?_)
  refine wc_end ?_
  refine then_n ?_
  by_cases hb1 : y1 = true
  · have h := (if_pos hb1).symm.trans h
    refine wp_if (b' := false) HF rfl (notT hb1) ?_
    refine wp_skip ?_
    refine then_n ?_
    refine wp_seq ?_
    refine wc_text ?_
    refine wc_faddr HF nS rfl fl25_0 rfl rfl (fun a HF => ?_)
    refine wc_load HF rfl sc3 ((HT.boxAt 0 rfl).get 0 rfl) rfl rfl (fun a HF => ?_)
    obtain ⟨y2, hx2, h⟩ := obs h
    refine wc_call HF cf45 rfl (w_impl_mnemonic fuel hx2) rfl rfl ?_
    rintro e w ⟨rfl, hE⟩
    have hb := hE.below
    have HT := HT.pure hE
    have HT : St w0 (fun _ => False) w [Box p1 [.int .i64 x0_0, .int .i64 x0_1, .int .i64 x0_2, .int .i64 x0_3]] := HT
    refine ⟨_, rfl, nS, fun a HF => ?_⟩
    refine wc_assign HF nS rfl rfl rfl (fun a HF => ?_)
    refine wc_end ?_
    refine then_n ?_
    refine wp_seq ?_
    refine wc_text ?_
    refine wc_faddr HF nS rfl fl25_1 rfl rfl (fun a HF => ?_)
    refine wc_load HF rfl sc3 ((HT.boxAt 0 rfl).get 1 rfl) rfl rfl (fun a HF => ?_)
    refine wc_faddr HF nS rfl fl25_2 rfl rfl (fun a HF => ?_)
    refine wc_load HF rfl sc3 ((HT.boxAt 0 rfl).get 2 rfl) rfl rfl (fun a HF => ?_)
    refine wc_faddr HF nS rfl fl25_3 rfl rfl (fun a HF => ?_)
    refine wc_load HF rfl sc3 ((HT.boxAt 0 rfl).get 3 rfl) rfl rfl (fun a HF => ?_)
    refine wc_bslice (l := ([x0_1, x0_2, x0_3] : List Int)) (cs := [.int .i64 x0_1, .int .i64 x0_2, .int .i64 x0_3]) (A := []) HF HT bs66_3 rfl rfl (gives_flat rfl) rfl (by decide) rfl rfl (fun p2 w HT hb => ⟨nS, fun a HF => ?_⟩)
    refine wc_assign HF nS rfl rfl rfl (fun a HF => ?_)
    refine wc_end ?_
    refine then_n ?_
    obtain ⟨z1, hx3, h⟩ := obs h
    refine wp_cut (fun a w => Fr a 37 [(3, sv z1)] ∧ St w0 (fun _ => False) w []) ?_ ?_
    · have hk1 := h
      have h := hx3
      refine wp_seq ?_
      refine wc_text ?_
      refine wc_move HF nS rfl rfl rfl (fun a HF => ?_)
      refine wc_faddr HF nS rfl fl25_0 rfl rfl (fun a HF => ?_)
      refine wc_load HF rfl sc3 ((HT.boxAt 1 rfl).get 0 rfl) rfl rfl (fun a HF => ?_)
      obtain ⟨y3, hx4, h⟩ := obs h
      refine wc_call HF cf46 rfl (w_impl_fieldsOf fuel hx4) rfl rfl ?_
      rintro e w ⟨rfl, hE⟩
      have hb := hE.below
      have HT := HT.pure hE
      have HT : St w0 (fun _ => False) w [Own 3 (rowT ([x0_1, x0_2, x0_3] : List Int)) (.slice (some ⟨p2, 0, none⟩) 3 3), Box p1 [.int .i64 x0_0, .int .i64 x0_1, .int .i64 x0_2, .int .i64 x0_3]] := HT
      refine ⟨_, rfl, nS, fun a HF => ?_⟩
      obtain ⟨hg1, h⟩ := grd h
      obtain ⟨HT, hcut⟩ := St.cutO HT hg1
      refine wc_slrH HF nS el66 rfl rfl hcut rfl rfl (fun a HF => ?_)
      refine wc_lenR HF nS Try.underlying66 rfl rfl rfl (fun a HF => ?_)
      refine wc_move HF nS rfl rfl rfl (fun a HF => ?_)
      refine wc_end ?_
      refine then_n ?_
      refine wp_block ?_
      have HT : St w0 (fun _ => False) w [Own 3 (rowT (subl ([x0_1, x0_2, x0_3] : List Int) 0 y3)) (.slice (some ⟨p2, 0, none⟩) ((subl ([x0_1, x0_2, x0_3] : List Int) 0 y3).length) 3)] := HT.take 1
      refine wp_loopN (fun k1 a w => ∃ z2 z3, m_impl_ShowOp_L0 fuel x0_1 x0_2 x0_3 y3 k1 z2 z3 = some z1 ∧ Fr a 37 [(3, sv z2), (24, .slice (some ⟨p2, 0, none⟩) ((subl ([x0_1, x0_2, x0_3] : List Int) 0 y3).length) 3), (25, .int .i64 ((subl ([x0_1, x0_2, x0_3] : List Int) 0 y3).length : Int)), (26, .int .i64 z3)] ∧ St w0 (fun _ => False) w [Own 3 (rowT (subl ([x0_1, x0_2, x0_3] : List Int) 0 y3)) (.slice (some ⟨p2, 0, none⟩) ((subl ([x0_1, x0_2, x0_3] : List Int) 0 y3).length) 3)]) fuel ⟨y2, 0, h, (HF.keep (HF.keep (HF.keep (HF.keep HF.nil rfl) rfl) rfl) rfl), HT⟩ ?_
      rintro k1 a w ⟨z2, z3, h, HF, HT⟩
      cases k1 with
      | zero => cases h
      | succ k1 =>
        rw [m_impl_ShowOp_L0] at h
        refine ?_
        refine wp_seq ?_
        refine wc_text ?_
        refine wc_bin HF nS rfl rfl b_lt rfl rfl (fun a HF => ?_)
        refine wc_end ?_
        refine then_n ?_
        refine wp_seq ?_
        by_cases hb2 : z3 < ((subl ([x0_1, x0_2, x0_3] : List Int) 0 y3).length : Int)
        · have h := (if_pos hb2).symm.trans h
          refine wp_if (b' := true) HF rfl (decide_eq_true hb2) ?_
          refine wp_skip ?_
          refine then_n ?_
          refine wp_seq ?_
          refine wp_block ?_
          refine wp_seq ?_
          refine wc_text ?_
          obtain ⟨e1, hx5, h⟩ := obs h
          refine wc_ixaddr HF nS el66 rfl rfl ((HT.rdAt 0 rfl)).neq rfl hx5 rfl rfl (fun a HF => ?_)
          have hc1 := (HT.rdAt 0 rfl).flatAt rfl hx5
          refine wc_load HF rfl sc3 (hc1.get 0 rfl) rfl rfl (fun a HF => ?_)
          refine wc_assign HF nS rfl rfl rfl (fun a HF => ?_)
          refine wc_end ?_
          refine then_n ?_
          refine wc_text ?_
          refine wc_move HF nS rfl rfl rfl (fun a HF => ?_)
          obtain ⟨hg2, h⟩ := grd h
          refine wc_bin HF nS rfl rfl (b_cat hg2) rfl rfl (fun a HF => ?_)
          refine wc_move HF nS rfl rfl rfl (fun a HF => ?_)
          obtain ⟨y4, hx6, h⟩ := obs h
          refine wc_call HF cf47 rfl (w_impl_Dec fuel hx6) rfl rfl ?_
          rintro e w ⟨rfl, hE⟩
          have hb := hE.below
          have HT := HT.pure hE
          have HT : St w0 (fun _ => False) w [Own 3 (rowT (subl ([x0_1, x0_2, x0_3] : List Int) 0 y3)) (.slice (some ⟨p2, 0, none⟩) ((subl ([x0_1, x0_2, x0_3] : List Int) 0 y3).length) 3)] := HT
          refine ⟨_, rfl, nS, fun a HF => ?_⟩
          obtain ⟨hg3, h⟩ := grd h
          refine wc_bin HF nS rfl rfl (b_cat hg3) rfl rfl (fun a HF => ?_)
          refine wc_assign HF nS rfl rfl rfl (fun a HF => ?_)
          refine wc_end ?_
          refine blk_n ?_
          refine then_n ?_
          refine wc_text ?_
          obtain ⟨hg4, h⟩ := grd h
          refine wc_bin HF nS rfl rfl (b_add hg4) rfl rfl (fun a HF => ?_)
          refine wc_move HF nS rfl rfl rfl (fun a HF => ?_)
          refine wc_end ?_
          exact then_n ⟨k1, Nat.lt_succ_self k1, (z2 ++ [32]) ++ y4, z3 + 1, h, (HF.keep (HF.keep (HF.keep (HF.keep HF.nil rfl) rfl) rfl) rfl), HT⟩
        · have h := (if_neg hb2).symm.trans h
          refine wp_if (b' := false) HF rfl (decide_eq_false hb2) ?_
          refine wp_exit ?_
          refine then_x (then_x (?_))
          refine blk_x ?_
          have HT : St w0 (fun _ => False) w [] := HT.take 0
          obtain rfl := Option.some.inj h
          exact then_n ⟨(HF.keep HF.nil rfl), HT⟩
    · rintro a w ⟨HF, HT⟩
      refine ?_
      refine wp_seq ?_
      refine wc_text ?_
      refine wc_move HF nS rfl rfl rfl (fun a HF => ?_)
      refine wc_assign HF nS rfl rfl rfl (fun a HF => ?_)
      refine wc_end ?_
      refine then_n ?_
      refine wp_ret ?_
      obtain rfl := Option.some.inj h
      refine bp_ret HF (res_one rfl HF rfl) ?_
      exact ⟨rfl, HT⟩
  · have h := (if_neg hb1).symm.trans h
    refine wp_if (b' := true) HF rfl (notF (Bool.eq_false_iff.2 hb1)) ?_
    refine wp_seq ?_
    refine wc_text ?_
    refine wc_assign HF nS rfl rfl rfl (fun a HF => ?_)
    refine wc_end ?_
    refine then_n ?_
    refine wp_ret ?_
    obtain rfl := Option.some.inj h
    refine then_r (?_)
    refine bp_ret HF (res_one rfl HF rfl) ?_
    have HT : St w0 (fun _ => False) w [] := HT.take 0
    exact ⟨rfl, HT⟩

def m_impl_ShowCode_L0 (fuel : Nat) (x0 : List I4) : Nat → Str → Int → Option Str
  | 0, _, _ => none
  | k1 + 1, z2, z3 =>
    if z3 < (x0.length : Int) then
      (at? x0 z3).bind fun e1 =>
      (m_impl_ShowOp fuel e1.a e1.b e1.c e1.d).bind fun y2 =>
      if ((z2.length + y2.length : Nat) : Int) ≤ 9223372036854775807 then
        if (((z2 ++ y2).length + [10].length : Nat) : Int) ≤ 9223372036854775807 then
          if in64 (z3 + 1) then
            m_impl_ShowCode_L0 fuel x0 k1 ((z2 ++ y2) ++ [10]) (z3 + 1)
          else none
        else none
      else none
    else
      some z2

def m_impl_ShowCode (fuel : Nat) (x0 : List I4) : Option Str :=
  (m_impl_CodeOk fuel x0).bind fun y1 =>
  if y1 = true then
    (m_impl_ShowCode_L0 fuel x0 fuel [] 0).bind fun z1 =>
    some z1
  else
    some []

set_option maxRecDepth 100000 in
set_option maxHeartbeats 4000000 in
theorem w_impl_ShowCode (fuel : Nat) {x0 : List I4} {a_x0 : Option Addr} {n_x0 c_x0 : Nat} {r0 : Str} {w0 : World} (h : m_impl_ShowCode fuel x0 = some r0) (hr_x0 : RdT (fun b => ¬ False) w0 (rowT x0) (.slice a_x0 n_x0 c_x0)) :
    Calls Try.prog 19 #[.slice a_x0 n_x0 c_x0] w0 fun e w => e = .returned (sv r0) ∧ St w0 (fun _ => False) w [] := by
  obtain rfl := hr_x0.neq
  have HT : St w0 (fun _ => False) w0 [] := St.init0
  rw [m_impl_ShowCode] at h
  refine calls_fr (n := 22) [.slice a_x0 x0.length c_x0] Try.func19 rfl rfl rfl (fun a HF => ?_)
  have HT : St w0 (fun _ => False) w0 [] := HT
  refine wp_seq ?_
  refine wc_text ?_
  refine wc_assign HF nS rfl rfl rfl (fun a HF => ?_)
  refine wc_end ?_
  refine then_n ?_
  refine wp_seq ?_
  refine wp_seq ?_
  refine wc_text ?_
  refine wc_move HF nS rfl rfl rfl (fun a HF => ?_)
  obtain ⟨y1, hx1, h⟩ := obs h
  refine wc_call HF cf53 rfl (w_impl_CodeOk fuel hx1 (HT.ro hr_x0).any) rfl rfl ?_
  rintro e w ⟨rfl, hE⟩
  have hb := hE.below
  have HT := HT.pure hE
  have HT : St w0 (fun _ => False) w [] := HT
  refine ⟨_, rfl, nS, fun a HF => ?_⟩
  refine wc_not HF nS rfl rfl rfl (fun a HF => ?_)
  refine wc_end ?_
  refine then_n ?_
  by_cases hb1 : y1 = true
  · have h := (if_pos hb1).symm.trans h
    refine wp_if (b' := false) HF rfl (notT hb1) ?_
    refine wp_skip ?_
    refine then_n ?_
    refine wp_seq ?_
    refine wc_text ?_
    refine wc_assign HF nS rfl rfl rfl (fun a HF => ?_)
    refine wc_end ?_
    refine then_n ?_
    obtain ⟨z1, hx2, h⟩ := obs h
    refine wp_cut (fun a w => Fr a 22 [(3, sv z1)] ∧ St w0 (fun _ => False) w []) ?_ ?_
    · have hk1 := h
      have h := hx2
      refine wp_seq ?_
      refine wc_text ?_
      refine wc_move HF nS rfl rfl rfl (fun a HF => ?_)
      refine wc_lenR HF nS Try.underlying35 rfl rfl rfl (fun a HF => ?_)
      refine wc_move HF nS rfl rfl rfl (fun a HF => ?_)
      refine wc_end ?_
      refine then_n ?_
      refine wp_block ?_
      refine wp_loopN (fun k1 a w => ∃ z2 z3, m_impl_ShowCode_L0 fuel x0 k1 z2 z3 = some z1 ∧ Fr a 22 [(3, sv z2), (9, .slice a_x0 x0.length c_x0), (10, .int .i64 (x0.length : Int)), (11, .int .i64 z3)] ∧ St w0 (fun _ => False) w []) fuel ⟨[], 0, h, (HF.keep (HF.keep (HF.keep (HF.keep HF.nil rfl) rfl) rfl) rfl), HT⟩ ?_
      rintro k1 a w ⟨z2, z3, h, HF, HT⟩
      cases k1 with
      | zero => cases h
      | succ k1 =>
        rw [m_impl_ShowCode_L0] at h
        refine ?_
        refine wp_seq ?_
        refine wc_text ?_
        refine wc_bin HF nS rfl rfl b_lt rfl rfl (fun a HF => ?_)
        refine wc_end ?_
        refine then_n ?_
        refine wp_seq ?_
        by_cases hb2 : z3 < (x0.length : Int)
        · have h := (if_pos hb2).symm.trans h
          refine wp_if (b' := true) HF rfl (decide_eq_true hb2) ?_
          refine wp_skip ?_
          refine then_n ?_
          refine wp_seq ?_
          refine wp_block ?_
          refine wp_seq ?_
          refine wc_text ?_
          obtain ⟨e1, hx3, h⟩ := obs h
          obtain ⟨b1, o1, ha1⟩ := (HT.ro hr_x0).any.addr hx3
          refine wc_ixaddr HF nS el35 rfl ha1 ((HT.ro hr_x0).any).neq rfl hx3 rfl rfl (fun a HF => ?_)
          have hc1 := (HT.ro hr_x0).any.flatAt ha1 hx3
          refine wc_loadA (vs := [.int .i64 e1.a, .int .i64 e1.b, .int .i64 e1.c, .int .i64 e1.d]) HF rfl ag25 rfl (hc1.part 0 4) rfl rfl (fun a HF => ?_)
          refine wc_alloc (cs := [.int .i64 0, .int .i64 0, .int .i64 0, .int .i64 0]) HF HT zr25 rfl rfl rfl (fun p1 w HT hb => ⟨nS, fun a HF => ?_⟩)
          refine wc_storeB (cs' := [.int .i64 e1.a, .int .i64 e1.b, .int .i64 e1.c, .int .i64 e1.d]) HF HT rfl rfl (fun w => (ag25 w).2) rfl rfl rfl rfl rfl (fun w HT => ⟨nS, ?_⟩)
          refine wc_end ?_
          refine then_n ?_
          refine wc_text ?_
          refine wc_move HF nS rfl rfl rfl (fun a HF => ?_)
          refine wc_loadA (vs := [.int .i64 e1.a, .int .i64 e1.b, .int .i64 e1.c, .int .i64 e1.d]) HF rfl ag25 rfl ((HT.boxAt 0 rfl).part 0 4) rfl rfl (fun a HF => ?_)
          obtain ⟨y2, hx4, h⟩ := obs h
          refine wc_call HF cf12 rfl (w_impl_ShowOp fuel hx4) rfl rfl ?_
          rintro e w ⟨rfl, hE⟩
          have hb := hE.below
          have HT := HT.pure hE
          have HT : St w0 (fun _ => False) w [Box p1 [.int .i64 e1.a, .int .i64 e1.b, .int .i64 e1.c, .int .i64 e1.d]] := HT
          refine ⟨_, rfl, nS, fun a HF => ?_⟩
          obtain ⟨hg1, h⟩ := grd h
          refine wc_bin HF nS rfl rfl (b_cat hg1) rfl rfl (fun a HF => ?_)
          obtain ⟨hg2, h⟩ := grd h
          refine wc_bin HF nS rfl rfl (b_cat hg2) rfl rfl (fun a HF => ?_)
          refine wc_assign HF nS rfl rfl rfl (fun a HF => ?_)
          refine wc_end ?_
          refine blk_n ?_
          refine then_n ?_
          refine wc_text ?_
          obtain ⟨hg3, h⟩ := grd h
          refine wc_bin HF nS rfl rfl (b_add hg3) rfl rfl (fun a HF => ?_)
          refine wc_move HF nS rfl rfl rfl (fun a HF => ?_)
          refine wc_end ?_
          have HT : St w0 (fun _ => False) w [] := HT.take 0
          exact then_n ⟨k1, Nat.lt_succ_self k1, (z2 ++ y2) ++ [10], z3 + 1, h, (HF.keep (HF.keep (HF.keep (HF.keep HF.nil rfl) rfl) rfl) rfl), HT⟩
        · have h := (if_neg hb2).symm.trans h
          refine wp_if (b' := false) HF rfl (decide_eq_false hb2) ?_
          refine wp_exit ?_
          refine then_x (then_x (?_))
          refine blk_x ?_
          obtain rfl := Option.some.inj h
          exact then_n ⟨(HF.keep HF.nil rfl), HT⟩
    · rintro a w ⟨HF, HT⟩
      refine ?_
      refine wp_seq ?_
      refine wc_text ?_
      refine wc_move HF nS rfl rfl rfl (fun a HF => ?_)
      refine wc_assign HF nS rfl rfl rfl (fun a HF => ?_)
      refine wc_end ?_
      refine then_n ?_
      refine wp_ret ?_
      obtain rfl := Option.some.inj h
      refine bp_ret HF (res_one rfl HF rfl) ?_
      exact ⟨rfl, HT⟩
  · have h := (if_neg hb1).symm.trans h
    refine wp_if (b' := true) HF rfl (notF (Bool.eq_false_iff.2 hb1)) ?_
    refine wp_seq ?_
    refine wc_text ?_
    refine wc_assign HF nS rfl rfl rfl (fun a HF => ?_)
    refine wc_end ?_
    refine then_n ?_
    refine wp_ret ?_
    obtain rfl := Option.some.inj h
    refine then_r (?_)
    refine bp_ret HF (res_one rfl HF rfl) ?_
    exact ⟨rfl, HT⟩

def m_laws_eqOp (fuel : Nat) (x0_0 : Int) (x0_1 : Int) (x0_2 : Int) (x0_3 : Int) (x1_0 : Int) (x1_1 : Int) (x1_2 : Int) (x1_3 : Int) : Option Bool :=
  if x0_0 = x1_0 then
    if x0_1 = x1_1 then
      if x0_2 = x1_2 then
        if x0_3 = x1_3 then
          some true
        else
          some false
      else
        some false
    else
      some false
  else
    some false

set_option maxRecDepth 100000 in
set_option maxHeartbeats 4000000 in
theorem w_laws_eqOp (fuel : Nat) {x0_0 : Int} {x0_1 : Int} {x0_2 : Int} {x0_3 : Int} {x1_0 : Int} {x1_1 : Int} {x1_2 : Int} {x1_3 : Int} {r0 : Bool} {w0 : World} (h : m_laws_eqOp fuel x0_0 x0_1 x0_2 x0_3 x1_0 x1_1 x1_2 x1_3 = some r0) :
    Calls Try.prog 15 #[.agg #[.int .i64 x0_0, .int .i64 x0_1, .int .i64 x0_2, .int .i64 x0_3], .agg #[.int .i64 x1_0, .int .i64 x1_1, .int .i64 x1_2, .int .i64 x1_3]] w0 fun e w => e = .returned (.bool r0) ∧ St w0 (fun _ => False) w [] := by
  have HT : St w0 (fun _ => False) w0 [] := St.init0
  rw [m_laws_eqOp] at h
  refine calls_fr (n := 25) [.agg #[.int .i64 x0_0, .int .i64 x0_1, .int .i64 x0_2, .int .i64 x0_3], .agg #[.int .i64 x1_0, .int .i64 x1_1, .int .i64 x1_2, .int .i64 x1_3]] Try.func15 rfl rfl rfl (fun a HF => ?_)
  have HT : St w0 (fun _ => False) w0 [] := HT
  refine wp_seq ?_
  refine wc_text ?_
  refine wc_box (cs := [.int .i64 x0_0, .int .i64 x0_1, .int .i64 x0_2, .int .i64 x0_3]) HF HT rfl rfl rfl rfl (fun p1 w HT hb => ⟨nS, fun a HF => ?_⟩)
  refine wc_box (cs := [.int .i64 x1_0, .int .i64 x1_1, .int .i64 x1_2, .int .i64 x1_3]) HF HT rfl rfl rfl rfl (fun p2 w HT hb => ⟨nS, fun a HF => ?_⟩)
  refine wc_assign HF nS rfl rfl rfl (fun a HF => ?_)
  refine wc_end ?_
  refine then_n ?_
  refine wp_seq ?_
  refine wp_seq ?_
  refine wc_text ?_
  refine wc_faddr HF nS rfl fl25_0 rfl rfl (fun a HF => ?_)
  refine wc_load HF rfl sc3 ((HT.boxAt 1 rfl).get 0 rfl) rfl rfl (fun a HF => ?_)
  refine wc_faddr HF nS rfl fl25_0 rfl rfl (fun a HF => ?_)
  refine wc_load HF rfl sc3 ((HT.boxAt 0 rfl).get 0 rfl) rfl rfl (fun a HF => ?_)
  refine wc_bin HF nS rfl rfl b_ne rfl rfl (fun a HF => ?_)
  refine wc_end ?_
  refine then_n ?_
  by_cases hb1 : x0_0 = x1_0
  · have h := (if_pos hb1).symm.trans h
    refine wp_if (b' := false) HF rfl (notT (decide_eq_true hb1)) ?_
    refine wp_skip ?_
    refine then_n ?_
    refine wp_seq ?_
    refine wp_seq ?_
    refine wc_text ?_
    refine wc_faddr HF nS rfl fl25_1 rfl rfl (fun a HF => ?_)
    refine wc_load HF rfl sc3 ((HT.boxAt 1 rfl).get 1 rfl) rfl rfl (fun a HF => ?_)
    refine wc_faddr HF nS rfl fl25_1 rfl rfl (fun a HF => ?_)
    refine wc_load HF rfl sc3 ((HT.boxAt 0 rfl).get 1 rfl) rfl rfl (fun a HF => ?_)
    refine wc_bin HF nS rfl rfl b_ne rfl rfl (fun a HF => ?_)
    refine wc_end ?_
    refine then_n ?_
    by_cases hb2 : x0_1 = x1_1
    · have h := (if_pos hb2).symm.trans h
      refine wp_if (b' := false) HF rfl (notT (decide_eq_true hb2)) ?_
      refine wp_skip ?_
      refine then_n ?_
      refine wp_seq ?_
      refine wp_seq ?_
      refine wc_text ?_
      refine wc_faddr HF nS rfl fl25_2 rfl rfl (fun a HF => ?_)
      refine wc_load HF rfl sc3 ((HT.boxAt 1 rfl).get 2 rfl) rfl rfl (fun a HF => ?_)
      refine wc_faddr HF nS rfl fl25_2 rfl rfl (fun a HF => ?_)
      refine wc_load HF rfl sc3 ((HT.boxAt 0 rfl).get 2 rfl) rfl rfl (fun a HF => ?_)
      refine wc_bin HF nS rfl rfl b_ne rfl rfl (fun a HF => ?_)
      refine wc_end ?_
      refine then_n ?_
      by_cases hb3 : x0_2 = x1_2
      · have h := (if_pos hb3).symm.trans h
        refine wp_if (b' := false) HF rfl (notT (decide_eq_true hb3)) ?_
        refine wp_skip ?_
        refine then_n ?_
        refine wp_seq ?_
        refine wp_seq ?_
        refine wc_text ?_
        refine wc_faddr HF nS rfl fl25_3 rfl rfl (fun a HF => ?_)
        refine wc_load HF rfl sc3 ((HT.boxAt 1 rfl).get 3 rfl) rfl rfl (fun a HF => ?_)
        refine wc_faddr HF nS rfl fl25_3 rfl rfl (fun a HF => ?_)
        refine wc_load HF rfl sc3 ((HT.boxAt 0 rfl).get 3 rfl) rfl rfl (fun a HF => ?_)
        refine wc_bin HF nS rfl rfl b_ne rfl rfl (fun a HF => ?_)
        refine wc_end ?_
        refine then_n ?_
        by_cases hb4 : x0_3 = x1_3
        · have h := (if_pos hb4).symm.trans h
          refine wp_if (b' := false) HF rfl (notT (decide_eq_true hb4)) ?_
          refine wp_skip ?_
          refine then_n ?_
          refine wp_seq ?_
          refine wc_text ?_
          refine wc_assign HF nS rfl rfl rfl (fun a HF => ?_)
          refine wc_end ?_
          refine then_n ?_
          refine wp_ret ?_
          obtain rfl := Option.some.inj h
          refine bp_ret HF (res_one rfl HF rfl) ?_
          have HT : St w0 (fun _ => False) w [] := HT.take 0
          exact ⟨rfl, HT⟩
        · have h := (if_neg hb4).symm.trans h
          refine wp_if (b' := true) HF rfl (notF (decide_eq_false hb4)) ?_
          refine wp_seq ?_
          refine wc_text ?_
          refine wc_assign HF nS rfl rfl rfl (fun a HF => ?_)
          refine wc_end ?_
          refine then_n ?_
          refine wp_ret ?_
          obtain rfl := Option.some.inj h
          refine then_r (?_)
          refine bp_ret HF (res_one rfl HF rfl) ?_
          have HT : St w0 (fun _ => False) w [] := HT.take 0
          exact ⟨rfl, HT⟩
      · have h := (if_neg hb3).symm.trans h
        refine wp_if (b' := true) HF rfl (notF (decide_eq_false hb3)) ?_
        refine wp_seq ?_
        refine wc_text ?_
        refine wc_assign HF nS rfl rfl rfl (fun a HF => ?_)
        refine wc_end ?_
        refine then_n ?_
        refine wp_ret ?_
        obtain rfl := Option.some.inj h
        refine then_r (?_)
        refine bp_ret HF (res_one rfl HF rfl) ?_
        have HT : St w0 (fun _ => False) w [] := HT.take 0
        exact ⟨rfl, HT⟩
    · have h := (if_neg hb2).symm.trans h
      refine wp_if (b' := true) HF rfl (notF (decide_eq_false hb2)) ?_
      refine wp_seq ?_
      refine wc_text ?_
      refine wc_assign HF nS rfl rfl rfl (fun a HF => ?_)
      refine wc_end ?_
      refine then_n ?_
      refine wp_ret ?_
      obtain rfl := Option.some.inj h
      refine then_r (?_)
      refine bp_ret HF (res_one rfl HF rfl) ?_
      have HT : St w0 (fun _ => False) w [] := HT.take 0
      exact ⟨rfl, HT⟩
  · have h := (if_neg hb1).symm.trans h
    refine wp_if (b' := true) HF rfl (notF (decide_eq_false hb1)) ?_
    refine wp_seq ?_
    refine wc_text ?_
    refine wc_assign HF nS rfl rfl rfl (fun a HF => ?_)
    refine wc_end ?_
    refine then_n ?_
    refine wp_ret ?_
    obtain rfl := Option.some.inj h
    refine then_r (?_)
    refine bp_ret HF (res_one rfl HF rfl) ?_
    have HT : St w0 (fun _ => False) w [] := HT.take 0
    exact ⟨rfl, HT⟩

def m_laws_eqOpS_L0 (fuel : Nat) (x0 : List I4) (x1 : List I4) : Nat → Int → Option (Lp Unit Bool)
  | 0, _ => none
  | k1 + 1, z1 =>
    if z1 < (x0.length : Int) then
      (at? x0 z1).bind fun e1 =>
      (at? x1 z1).bind fun e2 =>
      (m_laws_eqOp fuel e1.a e1.b e1.c e1.d e2.a e2.b e2.c e2.d).bind fun y1 =>
      if y1 = true then
        if in64 (z1 + 1) then
          m_laws_eqOpS_L0 fuel x0 x1 k1 (z1 + 1)
        else none
      else
        some (.ret false)
    else
      some (.brk ())

def m_laws_eqOpS (fuel : Nat) (x0 : List I4) (x1 : List I4) : Option Bool :=
  if (x0.length : Int) = (x1.length : Int) then
    (m_laws_eqOpS_L0 fuel x0 x1 fuel 0).bind <| contL <| un1 fun _ =>
    some true
  else
    some false

set_option maxRecDepth 100000 in
set_option maxHeartbeats 4000000 in
theorem w_laws_eqOpS (fuel : Nat) {x0 : List I4} {x1 : List I4} {a_x0 : Option Addr} {n_x0 c_x0 : Nat} {a_x1 : Option Addr} {n_x1 c_x1 : Nat} {r0 : Bool} {w0 : World} (h : m_laws_eqOpS fuel x0 x1 = some r0) (hr_x0 : RdT (fun b => ¬ False) w0 (rowT x0) (.slice a_x0 n_x0 c_x0)) (hr_x1 : RdT (fun b => ¬ False) w0 (rowT x1) (.slice a_x1 n_x1 c_x1)) :
    Calls Try.prog 20 #[.slice a_x0 n_x0 c_x0, .slice a_x1 n_x1 c_x1] w0 fun e w => e = .returned (.bool r0) ∧ St w0 (fun _ => False) w [] := by
  obtain rfl := hr_x0.neq
  obtain rfl := hr_x1.neq
  have HT : St w0 (fun _ => False) w0 [] := St.init0
  rw [m_laws_eqOpS] at h
  refine calls_fr (n := 27) [.slice a_x0 x0.length c_x0, .slice a_x1 x1.length c_x1] Try.func20 rfl rfl rfl (fun a HF => ?_)
  have HT : St w0 (fun _ => False) w0 [] := HT
  refine wp_seq ?_
  refine wc_text ?_
  refine wc_assign HF nS rfl rfl rfl (fun a HF => ?_)
  refine wc_end ?_
  refine then_n ?_
  refine wp_seq ?_
  refine wp_seq ?_
  refine wc_text ?_
  refine wc_move HF nS rfl rfl rfl (fun a HF => ?_)
  refine wc_lenR HF nS Try.underlying35 rfl rfl rfl (fun a HF => ?_)
  refine wc_move HF nS rfl rfl rfl (fun a HF => ?_)
  refine wc_lenR HF nS Try.underlying35 rfl rfl rfl (fun a HF => ?_)
  refine wc_bin HF nS rfl rfl b_ne rfl rfl (fun a HF => ?_)
  refine wc_end ?_
  refine then_n ?_
  by_cases hb1 : (x0.length : Int) = (x1.length : Int)
  · have h := (if_pos hb1).symm.trans h
    refine wp_if (b' := false) HF rfl (notT (decide_eq_true hb1)) ?_
    refine wp_skip ?_
    refine then_n ?_
    obtain ⟨q1, hx1, h⟩ := obs h
    refine wp_cut (fun a w => q1 = .brk () ∧ Fr a 27 [] ∧ St w0 (fun _ => False) w []) ?_ ?_
    · have hk1 := h
      have h := hx1
      refine wp_seq ?_
      refine wc_text ?_
      refine wc_assign HF nS rfl rfl rfl (fun a HF => ?_)
      refine wc_end ?_
      refine then_n ?_
      refine wp_block ?_
      refine wp_loopN (fun k1 a w => ∃ z1, m_laws_eqOpS_L0 fuel x0 x1 k1 z1 = some q1 ∧ Fr a 27 [(0, .slice a_x0 x0.length c_x0), (1, .slice a_x1 x1.length c_x1), (5, .int .i64 z1)] ∧ St w0 (fun _ => False) w []) fuel ⟨0, h, (HF.keep (HF.keep (HF.keep HF.nil rfl) rfl) rfl), HT⟩ ?_
      rintro k1 a w ⟨z1, h, HF, HT⟩
      cases k1 with
      | zero => cases h
      | succ k1 =>
        rw [m_laws_eqOpS_L0] at h
        refine ?_
        refine wp_seq ?_
        refine wp_seq ?_
        refine wc_text ?_
        refine wc_move HF nS rfl rfl rfl (fun a HF => ?_)
        refine wc_move HF nS rfl rfl rfl (fun a HF => ?_)
        refine wc_lenR HF nS Try.underlying35 rfl rfl rfl (fun a HF => ?_)
        refine wc_bin HF nS rfl rfl b_lt rfl rfl (fun a HF => ?_)
        refine wc_end ?_
        refine then_n ?_
        by_cases hb2 : z1 < (x0.length : Int)
        · have h := (if_pos hb2).symm.trans h
          refine wp_if (b' := true) HF rfl (decide_eq_true hb2) ?_
          refine wp_skip ?_
          refine then_n ?_
          refine wp_seq ?_
          refine wp_block ?_
          refine wp_seq ?_
          refine wp_region_can [(0, true), (1, true), (2, true), (3, true), (4, true), (5, true), (6, true), (7, true), (8, true), (9, true)] (fun w' => True) (by kernel_rfl) (by kernel_rfl) ?_
          have HT : St w0 (fun _ => False) w.drew [] := HT.drew
          refine wc_move HF nS rfl rfl rfl (fun a HF => ?_)
          refine wc_move HF nS rfl rfl rfl (fun a HF => ?_)
          obtain ⟨e1, hx2, h⟩ := obs h
          obtain ⟨b1, o1, ha1⟩ := (HT.ro hr_x0).any.addr hx2
          refine wc_ixaddr HF nS el35 rfl ha1 ((HT.ro hr_x0).any).neq rfl hx2 rfl rfl (fun a HF => ?_)
          have hc1 := (HT.ro hr_x0).any.flatAt ha1 hx2
          refine wc_loadA (vs := [.int .i64 e1.a, .int .i64 e1.b, .int .i64 e1.c, .int .i64 e1.d]) HF rfl ag25 rfl (hc1.part 0 4) rfl rfl (fun a HF => ?_)
          refine wc_move HF nS rfl rfl rfl (fun a HF => ?_)
          refine wc_move HF nS rfl rfl rfl (fun a HF => ?_)
          obtain ⟨e2, hx3, h⟩ := obs h
          obtain ⟨b2, o2, ha2⟩ := (HT.ro hr_x1).any.addr hx3
          refine wc_ixaddr HF nS el35 rfl ha2 ((HT.ro hr_x1).any).neq rfl hx3 rfl rfl (fun a HF => ?_)
          have hc2 := (HT.ro hr_x1).any.flatAt ha2 hx3
          refine wc_loadA (vs := [.int .i64 e2.a, .int .i64 e2.b, .int .i64 e2.c, .int .i64 e2.d]) HF rfl ag25 rfl (hc2.part 0 4) rfl rfl (fun a HF => ?_)
          obtain ⟨y1, hx4, h⟩ := obs h
          refine wc_call HF cf15 rfl (w_laws_eqOp fuel hx4) rfl rfl ?_
          rintro e w ⟨rfl, hE⟩
          have hb := hE.below
          have HT := HT.pure hE
          have HT : St w0 (fun _ => False) w [] := HT
          refine ⟨_, rfl, nS, fun a HF => ?_⟩
          refine wc_not HF nS rfl rfl rfl (fun a HF => ?_)
          refine wc_endN ?_
          refine then_n ?_
          by_cases hb3 : y1 = true
          · have h := (if_pos hb3).symm.trans h
            refine wp_if (b' := false) HF rfl (notT hb3) ?_
            refine wp_skip ?_
            refine blk_n ?_
            refine then_n ?_
            refine wc_text ?_
            refine wc_move HF nS rfl rfl rfl (fun a HF => ?_)
            obtain ⟨hg1, h⟩ := grd h
            refine wc_bin HF nS rfl rfl (b_add hg1) rfl rfl (fun a HF => ?_)
            refine wc_assign HF nS rfl rfl rfl (fun a HF => ?_)
            refine wc_end ?_
            exact then_n ⟨k1, Nat.lt_succ_self k1, z1 + 1, h, (HF.keep (HF.keep (HF.keep HF.nil rfl) rfl) rfl), HT⟩
          · have h := (if_neg hb3).symm.trans h
            refine wp_if (b' := true) HF rfl (notF (Bool.eq_false_iff.2 hb3)) ?_
            refine wp_seq ?_
            refine wc_text ?_
            refine wc_assign HF nS rfl rfl rfl (fun a HF => ?_)
            refine wc_end ?_
            refine then_n ?_
            refine wp_ret ?_
            obtain rfl := Option.some.inj h
            have h := retL hk1
            obtain rfl := Option.some.inj h
            refine blk_r (then_r (then_r (blk_r (then_r (?_)))))
            refine bp_ret HF (res_one rfl HF rfl) ?_
            exact ⟨rfl, HT⟩
        · have h := (if_neg hb2).symm.trans h
          refine wp_if (b' := false) HF rfl (decide_eq_false hb2) ?_
          refine wp_exit ?_
          refine then_x (then_x (?_))
          refine blk_x ?_
          exact then_n ⟨(Option.some.inj h).symm, HF.nil, HT⟩
    · rintro a w ⟨rfl, HF, HT⟩
      have h := brkL1u h
      refine ?_
      refine wp_seq ?_
      refine wc_text ?_
      refine wc_assign HF nS rfl rfl rfl (fun a HF => ?_)
      refine wc_end ?_
      refine then_n ?_
      refine wp_ret ?_
      obtain rfl := Option.some.inj h
      refine bp_ret HF (res_one rfl HF rfl) ?_
      exact ⟨rfl, HT⟩
  · have h := (if_neg hb1).symm.trans h
    refine wp_if (b' := true) HF rfl (notF (decide_eq_false hb1)) ?_
    refine wp_seq ?_
    refine wc_text ?_
    refine wc_assign HF nS rfl rfl rfl (fun a HF => ?_)
    refine wc_end ?_
    refine then_n ?_
    refine wp_ret ?_
    obtain rfl := Option.some.inj h
    refine then_r (?_)
    refine bp_ret HF (res_one rfl HF rfl) ?_
    exact ⟨rfl, HT⟩

def m_laws_szOpS (fuel : Nat) (x0 : List I4) (x1 : Int) : Option Int :=
  if in64 (x1 - (x0.length : Int)) then
    if (x1 - (x0.length : Int)) < 0 then
      some (-1)
    else
      some (x1 - (x0.length : Int))
  else none

set_option maxRecDepth 100000 in
set_option maxHeartbeats 4000000 in
theorem w_laws_szOpS (fuel : Nat) {x0 : List I4} {x1 : Int} {a_x0 : Option Addr} {n_x0 c_x0 : Nat} {r0 : Int} {w0 : World} (h : m_laws_szOpS fuel x0 x1 = some r0) (hr_x0 : RdT (fun b => ¬ False) w0 (rowT x0) (.slice a_x0 n_x0 c_x0)) :
    Calls Try.prog 16 #[.slice a_x0 n_x0 c_x0, .int .i64 x1] w0 fun e w => e = .returned (.int .i64 r0) ∧ St w0 (fun _ => False) w [] := by
  obtain rfl := hr_x0.neq
  have HT : St w0 (fun _ => False) w0 [] := St.init0
  rw [m_laws_szOpS] at h
  refine calls_fr (n := 12) [.slice a_x0 x0.length c_x0, .int .i64 x1] Try.func16 rfl rfl rfl (fun a HF => ?_)
  have HT : St w0 (fun _ => False) w0 [] := HT
  refine wp_seq ?_
  refine wc_text ?_
  refine wc_assign HF nS rfl rfl rfl (fun a HF => ?_)
  refine wc_end ?_
  refine then_n ?_
  refine wp_seq ?_
  refine wc_text ?_
  refine wc_move HF nS rfl rfl rfl (fun a HF => ?_)
  refine wc_move HF nS rfl rfl rfl (fun a HF => ?_)
  refine wc_lenR HF nS Try.underlying32 rfl rfl rfl (fun a HF => ?_)
  obtain ⟨hg1, h⟩ := grd h
  refine wc_bin HF nS rfl rfl (b_sub hg1) rfl rfl (fun a HF => ?_)
  refine wc_assign HF nS rfl rfl rfl (fun a HF => ?_)
  refine wc_end ?_
  refine then_n ?_
  refine wp_seq ?_
  refine wp_seq ?_
  refine wc_text ?_
  refine wc_move HF nS rfl rfl rfl (fun a HF => ?_)
  refine wc_bin HF nS rfl rfl b_lt rfl rfl (fun a HF => ?_)
  refine wc_end ?_
  refine then_n ?_
  by_cases hb1 : (x1 - (x0.length : Int)) < 0
  · have h := (if_pos hb1).symm.trans h
    refine wp_if (b' := true) HF rfl (decide_eq_true hb1) ?_
    refine wp_seq ?_
    refine wc_text ?_
    refine wc_assign HF nS rfl rfl rfl (fun a HF => ?_)
    refine wc_end ?_
    refine then_n ?_
    refine wp_ret ?_
    obtain rfl := Option.some.inj h
    refine then_r (?_)
    refine bp_ret HF (res_one rfl HF rfl) ?_
    exact ⟨rfl, HT⟩
  · have h := (if_neg hb1).symm.trans h
    refine wp_if (b' := false) HF rfl (decide_eq_false hb1) ?_
    refine wp_skip ?_
    refine then_n ?_
    refine wp_seq ?_
    refine wc_text ?_
    refine wc_move HF nS rfl rfl rfl (fun a HF => ?_)
    refine wc_assign HF nS rfl rfl rfl (fun a HF => ?_)
    refine wc_end ?_
    refine then_n ?_
    refine wp_ret ?_
    obtain rfl := Option.some.inj h
    refine bp_ret HF (res_one rfl HF rfl) ?_
    exact ⟨rfl, HT⟩

def m_laws_toOp (fuel : Nat) (x0_0 : Int) (x0_1 : Int) (x0_2 : Int) (x0_3 : Int) : Option (Int × Int × Int × Int) :=
  some (x0_0, x0_1, x0_2, x0_3)

set_option maxRecDepth 100000 in
set_option maxHeartbeats 4000000 in
theorem w_laws_toOp (fuel : Nat) {x0_0 : Int} {x0_1 : Int} {x0_2 : Int} {x0_3 : Int} {r0_0 : Int} {r0_1 : Int} {r0_2 : Int} {r0_3 : Int} {w0 : World} (h : m_laws_toOp fuel x0_0 x0_1 x0_2 x0_3 = some (r0_0, r0_1, r0_2, r0_3)) :
    Calls Try.prog 11 #[.agg #[.int .i64 x0_0, .int .i64 x0_1, .int .i64 x0_2, .int .i64 x0_3]] w0 fun e w => e = .returned (.agg #[.int .i64 r0_0, .int .i64 r0_1, .int .i64 r0_2, .int .i64 r0_3]) ∧ St w0 (fun _ => False) w [] := by
  have HT : St w0 (fun _ => False) w0 [] := St.init0
  rw [m_laws_toOp] at h
  refine calls_fr (n := 17) [.agg #[.int .i64 x0_0, .int .i64 x0_1, .int .i64 x0_2, .int .i64 x0_3]] Try.func11 rfl rfl rfl (fun a HF => ?_)
  have HT : St w0 (fun _ => False) w0 [] := HT
  refine wp_seq ?_
  refine wc_text ?_
  refine wc_box (cs := [.int .i64 x0_0, .int .i64 x0_1, .int .i64 x0_2, .int .i64 x0_3]) HF HT rfl rfl rfl rfl (fun p1 w HT hb => ⟨nS, fun a HF => ?_⟩)
  refine wc_alloc (cs := [.int .i64 0, .int .i64 0, .int .i64 0, .int .i64 0]) HF HT zr25 rfl rfl rfl (fun p2 w HT hb => ⟨nS, fun a HF => ?_⟩)
  refine wc_end ?_
  refine then_n ?_
  refine wp_seq ?_
  refine wc_text ?_
  refine wc_alloc (cs := [.int .i64 0, .int .i64 0, .int .i64 0, .int .i64 0]) HF HT zr25 rfl rfl rfl (fun p3 w HT hb => ⟨nS, fun a HF => ?_⟩)
  refine wc_end ?_
  refine then_n ?_
  refine wp_seq ?_
  refine wc_text ?_
  refine wc_faddr HF nS rfl fl23_0 rfl rfl (fun a HF => ?_)
  refine wc_load HF rfl sc3 ((HT.boxAt 2 rfl).get 0 rfl) rfl rfl (fun a HF => ?_)
  refine wc_faddr HF nS rfl fl25_0 rfl rfl (fun a HF => ?_)
  refine wc_storeB (cs' := [.int .i64 x0_0, .int .i64 0, .int .i64 0, .int .i64 0]) HF HT rfl rfl (fun w => (sc3 w).2) rfl rfl rfl rfl rfl (fun w HT => ⟨nS, ?_⟩)
  refine wc_end ?_
  refine then_n ?_
  refine wp_seq ?_
  refine wc_text ?_
  refine wc_faddr HF nS rfl fl23_1 rfl rfl (fun a HF => ?_)
  refine wc_load HF rfl sc3 ((HT.boxAt 2 rfl).get 1 rfl) rfl rfl (fun a HF => ?_)
  refine wc_faddr HF nS rfl fl25_1 rfl rfl (fun a HF => ?_)
  refine wc_storeB (cs' := [.int .i64 x0_0, .int .i64 x0_1, .int .i64 0, .int .i64 0]) HF HT rfl rfl (fun w => (sc3 w).2) rfl rfl rfl rfl rfl (fun w HT => ⟨nS, ?_⟩)
  refine wc_end ?_
  refine then_n ?_
  refine wp_seq ?_
  refine wc_text ?_
  refine wc_faddr HF nS rfl fl23_2 rfl rfl (fun a HF => ?_)
  refine wc_load HF rfl sc3 ((HT.boxAt 2 rfl).get 2 rfl) rfl rfl (fun a HF => ?_)
  refine wc_faddr HF nS rfl fl25_2 rfl rfl (fun a HF => ?_)
  refine wc_storeB (cs' := [.int .i64 x0_0, .int .i64 x0_1, .int .i64 x0_2, .int .i64 0]) HF HT rfl rfl (fun w => (sc3 w).2) rfl rfl rfl rfl rfl (fun w HT => ⟨nS, ?_⟩)
  refine wc_end ?_
  refine then_n ?_
  refine wp_seq ?_
  refine wc_text ?_
  refine wc_faddr HF nS rfl fl23_3 rfl rfl (fun a HF => ?_)
  refine wc_load HF rfl sc3 ((HT.boxAt 2 rfl).get 3 rfl) rfl rfl (fun a HF => ?_)
  refine wc_faddr HF nS rfl fl25_3 rfl rfl (fun a HF => ?_)
  refine wc_storeB (cs' := [.int .i64 x0_0, .int .i64 x0_1, .int .i64 x0_2, .int .i64 x0_3]) HF HT rfl rfl (fun w => (sc3 w).2) rfl rfl rfl rfl rfl (fun w HT => ⟨nS, ?_⟩)
  refine wc_end ?_
  refine then_n ?_
  refine wp_seq ?_
  refine wc_text ?_
  refine wc_loadA (vs := [.int .i64 x0_0, .int .i64 x0_1, .int .i64 x0_2, .int .i64 x0_3]) HF rfl ag25 rfl ((HT.boxAt 0 rfl).part 0 4) rfl rfl (fun a HF => ?_)
  have HT : St w0 (fun _ => False) w [Box p2 [.int .i64 0, .int .i64 0, .int .i64 0, .int .i64 0], Box p3 [.int .i64 x0_0, .int .i64 x0_1, .int .i64 x0_2, .int .i64 x0_3], Box p1 [.int .i64 x0_0, .int .i64 x0_1, .int .i64 x0_2, .int .i64 x0_3]] := HT.pick 1
  refine wc_storeB (cs' := [.int .i64 x0_0, .int .i64 x0_1, .int .i64 x0_2, .int .i64 x0_3]) HF HT rfl rfl (fun w => (ag25 w).2) rfl rfl rfl rfl rfl (fun w HT => ⟨nS, ?_⟩)
  refine wc_end ?_
  refine then_n ?_
  refine wp_ret ?_
  have hj1 := Option.some.inj h
  obtain ⟨hi1, hj2⟩ := Prod.mk.inj hj1
  subst hi1
  obtain ⟨hi2, hj3⟩ := Prod.mk.inj hj2
  subst hi2
  obtain ⟨hi3, hj4⟩ := Prod.mk.inj hj3
  subst hi3
  subst hj4
  refine bp_ret HF (res_cell (vs := [.int .i64 x0_0, .int .i64 x0_1, .int .i64 x0_2, .int .i64 x0_3]) rfl HF rfl ag25 rfl (HT.boxAt 0 rfl)) ?_
  have HT : St w0 (fun _ => False) w [] := HT.take 0
  exact ⟨rfl, HT⟩

def m_laws_toOpS_L0 (fuel : Nat) (x0 : List I4) : Nat → (List I4) → Int → Option (List I4)
  | 0, _, _ => none
  | k1 + 1, z2, z3 =>
    if z3 < (x0.length : Int) then
      (at? x0 z3).bind fun e1 =>
      bind4 (m_laws_toOp fuel e1.a e1.b e1.c e1.d) fun y1 y2 y3 y4 =>
      (at? z2 z3).bind fun e2 =>
      if in64 (z3 + 1) then
        m_laws_toOpS_L0 fuel x0 k1 (z2.set z3.toNat (⟨y1, y2, y3, y4⟩ : I4)) (z3 + 1)
      else none
    else
      some z2

def m_laws_toOpS (fuel : Nat) (x0 : List I4) : Option (List I4) :=
  if 0 ≤ ((x0.length : Int) : Int) ∧ (x0.length : Int) ≤ 1048576 then
    (m_laws_toOpS_L0 fuel x0 fuel (List.replicate ((x0.length : Int) : Int).toNat ((⟨0, 0, 0, 0⟩ : I4) : I4)) 0).bind fun z1 =>
    some z1
  else none

set_option maxRecDepth 100000 in
set_option maxHeartbeats 4000000 in
theorem w_laws_toOpS (fuel : Nat) {x0 : List I4} {a_x0 : Option Addr} {n_x0 c_x0 : Nat} {r0 : List I4} {w0 : World} (h : m_laws_toOpS fuel x0 = some r0) (hr_x0 : RdT (fun b => ¬ False) w0 (rowT x0) (.slice a_x0 n_x0 c_x0)) :
    Calls Try.prog 18 #[.slice a_x0 n_x0 c_x0] w0 fun e w => ∃ a_r0 n_r0 c_r0, e = .returned (.slice a_r0 n_r0 c_r0) ∧ St w0 (fun _ => False) w [Own 25 (rowT r0) (.slice a_r0 n_r0 c_r0)] := by
  obtain rfl := hr_x0.neq
  have HT : St w0 (fun _ => False) w0 [] := St.init0
  rw [m_laws_toOpS] at h
  refine calls_fr (n := 23) [.slice a_x0 x0.length c_x0] Try.func18 rfl rfl rfl (fun a HF => ?_)
  have HT : St w0 (fun _ => False) w0 [] := HT
  refine wp_seq ?_
  refine wc_text ?_
  refine wc_assign HF nS rfl rfl rfl (fun a HF => ?_)
  refine wc_end ?_
  refine then_n ?_
  refine wp_seq ?_
  refine wc_text ?_
  refine wc_move HF nS rfl rfl rfl (fun a HF => ?_)
  refine wc_lenR HF nS Try.underlying32 rfl rfl rfl (fun a HF => ?_)
  obtain ⟨hg1, h⟩ := grd h
  refine wc_make (x := ((⟨0, 0, 0, 0⟩ : I4) : I4)) HF HT el35 rfl rfl hg1 rfl rfl rfl rfl (fun p1 w HT hb => ⟨nS, fun a HF => ?_⟩)
  refine wc_assign HF nS rfl rfl rfl (fun a HF => ?_)
  refine wc_end ?_
  refine then_n ?_
  obtain ⟨z1, hx1, h⟩ := obs h
  refine wp_cut (fun a w => ∃ a1 n1 c1, Fr a 23 [(3, .slice a1 n1 c1)] ∧ St w0 (fun _ => False) w [Own 25 (rowT z1) (.slice a1 n1 c1)]) ?_ ?_
  · have hk1 := h
    have h := hx1
    refine wp_seq ?_
    refine wc_text ?_
    refine wc_assign HF nS rfl rfl rfl (fun a HF => ?_)
    refine wc_end ?_
    refine then_n ?_
    refine wp_block ?_
    refine wp_loopN (fun k1 a w => ∃ z2 z3 a2 n2 c2, m_laws_toOpS_L0 fuel x0 k1 z2 z3 = some z1 ∧ Fr a 23 [(0, .slice a_x0 x0.length c_x0), (3, .slice a2 n2 c2), (4, .int .i64 z3)] ∧ St w0 (fun _ => False) w [Own 25 (rowT z2) (.slice a2 n2 c2)]) fuel ⟨List.replicate ((x0.length : Int) : Int).toNat ((⟨0, 0, 0, 0⟩ : I4) : I4), 0, (some ⟨p1, 0, none⟩), (List.replicate ((x0.length : Int) : Int).toNat ((⟨0, 0, 0, 0⟩ : I4) : I4)).length, (List.replicate ((x0.length : Int) : Int).toNat ((⟨0, 0, 0, 0⟩ : I4) : I4)).length, h, (HF.keep (HF.keep (HF.keep HF.nil rfl) rfl) rfl), HT⟩ ?_
    rintro k1 a w ⟨z2, z3, a2, n2, c2, h, HF, HT⟩
    cases k1 with
    | zero => cases h
    | succ k1 =>
      rw [m_laws_toOpS_L0] at h
      obtain rfl := (HT.rdAt 0 rfl).neq
      refine ?_
      refine wp_seq ?_
      refine wp_seq ?_
      refine wc_text ?_
      refine wc_move HF nS rfl rfl rfl (fun a HF => ?_)
      refine wc_move HF nS rfl rfl rfl (fun a HF => ?_)
      refine wc_lenR HF nS Try.underlying32 rfl rfl rfl (fun a HF => ?_)
      refine wc_bin HF nS rfl rfl b_lt rfl rfl (fun a HF => ?_)
      refine wc_end ?_
      refine then_n ?_
      by_cases hb1 : z3 < (x0.length : Int)
      · have h := (if_pos hb1).symm.trans h
        refine wp_if (b' := true) HF rfl (decide_eq_true hb1) ?_
        refine wp_skip ?_
        refine then_n ?_
        refine wp_seq ?_
        refine wp_block ?_
        refine wc_text ?_
        refine wc_move HF nS rfl rfl rfl (fun a HF => ?_)
        refine wc_move HF nS rfl rfl rfl (fun a HF => ?_)
        refine wc_move HF nS rfl rfl rfl (fun a HF => ?_)
        refine wc_move HF nS rfl rfl rfl (fun a HF => ?_)
        obtain ⟨e1, hx2, h⟩ := obs h
        obtain ⟨b1, o1, ha1⟩ := (HT.ro hr_x0).any.addr hx2
        refine wc_ixaddr HF nS el32 rfl ha1 ((HT.ro hr_x0).any).neq rfl hx2 rfl rfl (fun a HF => ?_)
        have hc1 := (HT.ro hr_x0).any.flatAt ha1 hx2
        refine wc_loadA (vs := [.int .i64 e1.a, .int .i64 e1.b, .int .i64 e1.c, .int .i64 e1.d]) HF rfl ag23 rfl (hc1.part 0 4) rfl rfl (fun a HF => ?_)
        obtain ⟨y1, y2, y3, y4, hx3, h⟩ := obs4 h
        refine wc_call HF cf11 rfl (w_laws_toOp fuel hx3) rfl rfl ?_
        rintro e w ⟨rfl, hE⟩
        have hb := hE.below
        have HT := HT.pure hE
        have HT : St w0 (fun _ => False) w [Own 25 (rowT z2) (.slice a2 z2.length c2)] := HT
        refine ⟨_, rfl, nS, fun a HF => ?_⟩
        obtain ⟨e2, hx4, h⟩ := obs h
        obtain ⟨b2, o2, ha2⟩ := (HT.rdAt 0 rfl).addr hx4
        refine wc_ixaddr HF nS el35 rfl ha2 ((HT.rdAt 0 rfl)).neq rfl hx4 rfl rfl (fun a HF => ?_)
        refine wc_storeR (i := z3) (j := 0) (x' := (⟨y1, y2, y3, y4⟩ : I4)) HF HT ha2 rfl rfl (fun w => (ag25 w).2) rfl rfl hx4 rfl rfl rfl rfl (fun w HT => ⟨nS, ?_⟩)
        refine wc_end ?_
        refine blk_n ?_
        refine then_n ?_
        refine wc_text ?_
        refine wc_move HF nS rfl rfl rfl (fun a HF => ?_)
        obtain ⟨hg2, h⟩ := grd h
        refine wc_bin HF nS rfl rfl (b_add hg2) rfl rfl (fun a HF => ?_)
        refine wc_assign HF nS rfl rfl rfl (fun a HF => ?_)
        refine wc_end ?_
        exact then_n ⟨k1, Nat.lt_succ_self k1, z2.set z3.toNat (⟨y1, y2, y3, y4⟩ : I4), z3 + 1, a2, z2.length, c2, h, (HF.keep (HF.keep (HF.keep HF.nil rfl) rfl) rfl), HT⟩
      · have h := (if_neg hb1).symm.trans h
        refine wp_if (b' := false) HF rfl (decide_eq_false hb1) ?_
        refine wp_exit ?_
        refine then_x (then_x (?_))
        refine blk_x ?_
        obtain rfl := Option.some.inj h
        exact then_n ⟨a2, z2.length, c2, (HF.keep HF.nil rfl), HT⟩
  · rintro a w ⟨a1, n1, c1, HF, HT⟩
    obtain rfl := (HT.rdAt 0 rfl).neq
    refine ?_
    refine wp_seq ?_
    refine wc_text ?_
    refine wc_move HF nS rfl rfl rfl (fun a HF => ?_)
    refine wc_assign HF nS rfl rfl rfl (fun a HF => ?_)
    refine wc_end ?_
    refine then_n ?_
    refine wp_ret ?_
    obtain rfl := Option.some.inj h
    refine bp_ret HF (res_one rfl HF rfl) ?_
    exact ⟨a1, z1.length, c1, rfl, HT⟩

def m_spec_l1In (fuel : Nat) (x0 : Int) (x1 : Int) (x2 : Int) : Option Bool :=
  if x1 ≤ x0 then
    some (decide (x0 ≤ x2))
  else
    some false

set_option maxRecDepth 100000 in
set_option maxHeartbeats 4000000 in
theorem w_spec_l1In (fuel : Nat) {x0 : Int} {x1 : Int} {x2 : Int} {r0 : Bool} {w0 : World} (h : m_spec_l1In fuel x0 x1 x2 = some r0) :
    Calls Try.prog 76 #[.int .i64 x0, .int .i64 x1, .int .i64 x2] w0 fun e w => e = .returned (.bool r0) ∧ St w0 (fun _ => False) w [] := by
  have HT : St w0 (fun _ => False) w0 [] := St.init0
  rw [m_spec_l1In] at h
  refine calls_fr (n := 15) [.int .i64 x0, .int .i64 x1, .int .i64 x2] Try.func76 rfl rfl rfl (fun a HF => ?_)
  have HT : St w0 (fun _ => False) w0 [] := HT
  refine wp_seq ?_
  refine wc_text ?_
  refine wc_assign HF nS rfl rfl rfl (fun a HF => ?_)
  refine wc_end ?_
  refine then_n ?_
  refine wp_seq ?_
  refine wc_text ?_
  refine wc_move HF nS rfl rfl rfl (fun a HF => ?_)
  refine wc_move HF nS rfl rfl rfl (fun a HF => ?_)
  refine wc_bin HF nS rfl rfl b_ge rfl rfl (fun a HF => ?_)
  refine wc_move HF nS rfl rfl rfl (fun a HF => ?_)
  by_cases hb1 : x1 ≤ x0
  · have h := (if_pos hb1).symm.trans h
    refine wc_move HF nS rfl (HF.wy rfl rfl rfl rfl (decide_eq_true hb1)) rfl (fun a HF => ?_)
    refine wc_move HF nS rfl (HF.wy rfl rfl rfl rfl (decide_eq_true hb1)) rfl (fun a HF => ?_)
    refine wc_bin HF nS rfl rfl b_le (HF.wy rfl rfl rfl rfl (decide_eq_true hb1)) rfl (fun a HF => ?_)
    refine wc_pick (b := true) HF nS rfl (decide_eq_true hb1) rfl rfl rfl (fun a HF => ?_)
    refine wc_assign HF nS rfl rfl rfl (fun a HF => ?_)
    refine wc_end ?_
    refine then_n ?_
    refine wp_ret ?_
    obtain rfl := Option.some.inj h
    refine bp_ret HF (res_one rfl HF rfl) ?_
    exact ⟨rfl, HT⟩
  · have h := (if_neg hb1).symm.trans h
    refine wc_skip HF nS (HF.wn rfl rfl rfl rfl (decide_eq_false hb1)) rfl (fun a HF => ?_)
    refine wc_skip HF nS (HF.wn rfl rfl rfl rfl (decide_eq_false hb1)) rfl (fun a HF => ?_)
    refine wc_skip HF nS (HF.wn rfl rfl rfl rfl (decide_eq_false hb1)) rfl (fun a HF => ?_)
    refine wc_pick (b := false) HF nS rfl (decide_eq_false hb1) rfl rfl rfl (fun a HF => ?_)
    refine wc_assign HF nS rfl rfl rfl (fun a HF => ?_)
    refine wc_end ?_
    refine then_n ?_
    refine wp_ret ?_
    obtain rfl := Option.some.inj h
    refine bp_ret HF (res_one rfl HF rfl) ?_
    exact ⟨rfl, HT⟩

def m_spec_l3Cell (fuel : Nat) (x0 : Int) : Option Bool :=
  (m_spec_l1In fuel x0 0 7).bind fun y1 =>
  some y1

set_option maxRecDepth 100000 in
set_option maxHeartbeats 4000000 in
theorem w_spec_l3Cell (fuel : Nat) {x0 : Int} {r0 : Bool} {w0 : World} (h : m_spec_l3Cell fuel x0 = some r0) :
    Calls Try.prog 75 #[.int .i64 x0] w0 fun e w => e = .returned (.bool r0) ∧ St w0 (fun _ => False) w [] := by
  have HT : St w0 (fun _ => False) w0 [] := St.init0
  rw [m_spec_l3Cell] at h
  refine calls_fr (n := 5) [.int .i64 x0] Try.func75 rfl rfl rfl (fun a HF => ?_)
  have HT : St w0 (fun _ => False) w0 [] := HT
  refine wp_seq ?_
  refine wc_text ?_
  refine wc_assign HF nS rfl rfl rfl (fun a HF => ?_)
  refine wc_end ?_
  refine then_n ?_
  refine wp_seq ?_
  refine wc_text ?_
  refine wc_move HF nS rfl rfl rfl (fun a HF => ?_)
  obtain ⟨y1, hx1, h⟩ := obs h
  refine wc_call HF cf76 rfl (w_spec_l1In fuel hx1) rfl rfl ?_
  rintro e w ⟨rfl, hE⟩
  have hb := hE.below
  have HT := HT.pure hE
  have HT : St w0 (fun _ => False) w [] := HT
  refine ⟨_, rfl, nS, fun a HF => ?_⟩
  refine wc_assign HF nS rfl rfl rfl (fun a HF => ?_)
  refine wc_end ?_
  refine then_n ?_
  refine wp_ret ?_
  obtain rfl := Option.some.inj h
  refine bp_ret HF (res_one rfl HF rfl) ?_
  exact ⟨rfl, HT⟩

def m_spec_l3Val (fuel : Nat) (x0 : Int) : Option Bool :=
  (m_spec_l1In fuel x0 0 65535).bind fun y1 =>
  some y1

set_option maxRecDepth 100000 in
set_option maxHeartbeats 4000000 in
theorem w_spec_l3Val (fuel : Nat) {x0 : Int} {r0 : Bool} {w0 : World} (h : m_spec_l3Val fuel x0 = some r0) :
    Calls Try.prog 74 #[.int .i64 x0] w0 fun e w => e = .returned (.bool r0) ∧ St w0 (fun _ => False) w [] := by
  have HT : St w0 (fun _ => False) w0 [] := St.init0
  rw [m_spec_l3Val] at h
  refine calls_fr (n := 5) [.int .i64 x0] Try.func74 rfl rfl rfl (fun a HF => ?_)
  have HT : St w0 (fun _ => False) w0 [] := HT
  refine wp_seq ?_
  refine wc_text ?_
  refine wc_assign HF nS rfl rfl rfl (fun a HF => ?_)
  refine wc_end ?_
  refine then_n ?_
  refine wp_seq ?_
  refine wc_text ?_
  refine wc_move HF nS rfl rfl rfl (fun a HF => ?_)
  obtain ⟨y1, hx1, h⟩ := obs h
  refine wc_call HF cf76 rfl (w_spec_l1In fuel hx1) rfl rfl ?_
  rintro e w ⟨rfl, hE⟩
  have hb := hE.below
  have HT := HT.pure hE
  have HT : St w0 (fun _ => False) w [] := HT
  refine ⟨_, rfl, nS, fun a HF => ?_⟩
  refine wc_assign HF nS rfl rfl rfl (fun a HF => ?_)
  refine wc_end ?_
  refine then_n ?_
  refine wp_ret ?_
  obtain rfl := Option.some.inj h
  refine bp_ret HF (res_one rfl HF rfl) ?_
  exact ⟨rfl, HT⟩

def m_spec_l4Reg (fuel : Nat) (x0 : Int) : Option Bool :=
  (m_spec_l1In fuel x0 0 3).bind fun y1 =>
  some y1

set_option maxRecDepth 100000 in
set_option maxHeartbeats 4000000 in
theorem w_spec_l4Reg (fuel : Nat) {x0 : Int} {r0 : Bool} {w0 : World} (h : m_spec_l4Reg fuel x0 = some r0) :
    Calls Try.prog 73 #[.int .i64 x0] w0 fun e w => e = .returned (.bool r0) ∧ St w0 (fun _ => False) w [] := by
  have HT : St w0 (fun _ => False) w0 [] := St.init0
  rw [m_spec_l4Reg] at h
  refine calls_fr (n := 5) [.int .i64 x0] Try.func73 rfl rfl rfl (fun a HF => ?_)
  have HT : St w0 (fun _ => False) w0 [] := HT
  refine wp_seq ?_
  refine wc_text ?_
  refine wc_assign HF nS rfl rfl rfl (fun a HF => ?_)
  refine wc_end ?_
  refine then_n ?_
  refine wp_seq ?_
  refine wc_text ?_
  refine wc_move HF nS rfl rfl rfl (fun a HF => ?_)
  obtain ⟨y1, hx1, h⟩ := obs h
  refine wc_call HF cf76 rfl (w_spec_l1In fuel hx1) rfl rfl ?_
  rintro e w ⟨rfl, hE⟩
  have hb := hE.below
  have HT := HT.pure hE
  have HT : St w0 (fun _ => False) w [] := HT
  refine ⟨_, rfl, nS, fun a HF => ?_⟩
  refine wc_assign HF nS rfl rfl rfl (fun a HF => ?_)
  refine wc_end ?_
  refine then_n ?_
  refine wp_ret ?_
  obtain rfl := Option.some.inj h
  refine bp_ret HF (res_one rfl HF rfl) ?_
  exact ⟨rfl, HT⟩
end Go.Proofs.Ytpbfppelmgjfpaa
