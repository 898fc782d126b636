/- Walks of functions, by program: impl.opens, impl.DepthAt, impl.within, impl.isCell, impl.isKey, impl.isReg, impl.isValue, impl.OpOk, impl.isBalanced, impl.CodeOk, impl.Touches, impl.KidOk, impl.areValues, impl.copyInts, impl.Calc, impl.EndOf, impl.copyThings, slices.Index[[]int,int], slices.Contains[[]int,int], impl.fullOrder, impl.touch, impl.serial. -/
import Derived.Test.YtknghnmcckjjbaaTy
namespace Go.Proofs.Ytknghnmcckjjbaa
open Go Go.RowKit
set_option linter.unusedVariables false
set_option linter.unusedSimpArgs false
def m_impl_opens (fuel : Nat) (x0_0 : Int) (x0_1 : Int) (x0_2 : Int) (x0_3 : Int) : Option Int :=
  if x0_0 = 8 then
    some 1
  else
  if x0_0 = 9 then
    some (-1)
  else
  some 0

set_option maxRecDepth 100000 in
set_option maxHeartbeats 4000000 in
theorem w_impl_opens (fuel : Nat) {x0_0 : Int} {x0_1 : Int} {x0_2 : Int} {x0_3 : Int} {r0 : Int} {w0 : World} (h : m_impl_opens fuel x0_0 x0_1 x0_2 x0_3 = some r0) :
    Calls Try.prog 123 #[.agg #[.int .i64 x0_0, .int .i64 x0_1, .int .i64 x0_2, .int .i64 x0_3]] w0 fun e w => e = .returned (.int .i64 r0) ∧ St w0 (fun _ => False) w [] := by
  have HT : St w0 (fun _ => False) w0 [] := St.init0
  rw [m_impl_opens] at h
  refine calls_fr (n := 9) [.agg #[.int .i64 x0_0, .int .i64 x0_1, .int .i64 x0_2, .int .i64 x0_3]] Try.func123 rfl rfl rfl fun a HF => ?_
  have HT : St w0 (fun _ => False) w0 [] := HT
  refine wp_seq (wc_text (wc_box (cs := [.int .i64 x0_0, .int .i64 x0_1, .int .i64 x0_2, .int .i64 x0_3]) HF HT rfl rfl rfl rfl (fun p1 w HT hb => ⟨nS, fun a HF => ?_⟩)))
  refine wa HF rfl rfl rfl fun a HF => ?_
  refine wc_end (then_n (wp_seq (wp_seq (wc_text (wc_faddr HF nS rfl fl85_0 rfl rfl fun a HF => ?_)))))
  refine wc_load HF rfl sc3 ((HT.boxAt 0 rfl).get 0 rfl) rfl rfl fun a HF => ?_
  refine wc_end (then_n (wp_block (wp_seq (wc_text (wc_bin HF nS rfl rfl b_eq rfl rfl fun a HF => ?_)))))
  refine wa HF rfl rfl rfl fun a HF => ?_
  refine wc_end (then_n ?_)
  by_cases hb1 : x0_0 = 8
  have h := ifp hb1 h
  refine wp_if (b' := true) HF rfl (decide_eq_true hb1) ?_
  refine wp_seq (wc_text (wa HF rfl rfl rfl fun a HF => ?_))
  refine wc_end (then_n (wp_ret ?_))
  obtain rfl := Option.some.inj h
  refine blk_r (then_r (?_))
  refine bp_ret HF (res_one rfl HF rfl) ?_
  have HT := HT.t0
  exact ⟨rfl, HT⟩
  have h := ifn hb1 h
  refine wp_if (b' := false) HF rfl (decide_eq_false hb1) ?_
  refine wp_seq (wc_text (wc_bin HF nS rfl rfl b_eq rfl rfl fun a HF => ?_))
  refine wa HF rfl rfl rfl fun a HF => ?_
  refine wc_end (then_n ?_)
  by_cases hb2 : x0_0 = 9
  have h := ifp hb2 h
  refine wp_if (b' := true) HF rfl (decide_eq_true hb2) ?_
  refine wp_seq (wc_text (wa HF rfl rfl rfl fun a HF => ?_))
  refine wc_end (then_n (wp_ret ?_))
  obtain rfl := Option.some.inj h
  refine blk_r (then_r (?_))
  refine bp_ret HF (res_one rfl HF rfl) ?_
  have HT := HT.t0
  exact ⟨rfl, HT⟩
  have h := ifn hb2 h
  refine wp_if (b' := false) HF rfl (decide_eq_false hb2) ?_
  refine wp_skip (blk_n (then_n (wp_seq (wc_text (wa HF rfl rfl rfl fun a HF => ?_)))))
  refine wc_end (then_n (wp_ret ?_))
  obtain rfl := Option.some.inj h
  refine bp_ret HF (res_one rfl HF rfl) ?_
  have HT := HT.t0
  exact ⟨rfl, HT⟩

def m_impl_DepthAt_L0 (fuel : Nat) (x0 : List I4) (x1 : Int) : Nat → Int → Int → Option Int
  | 0, _, _ => none
  | k1 + 1, z2, z3 =>
    if z3 < (x0.length : Int) then
      (
        (at? x0 z3).bind fun e1 =>
        if z3 < x1 then
          (m_impl_opens fuel e1.a e1.b e1.c e1.d).bind fun y1 =>
          if in64 (z2 + y1) then
            some (z2 + y1)
          else none
        else
        some z2).bind fun z4 =>
      if in64 (z3 + 1) then
        m_impl_DepthAt_L0 fuel x0 x1 k1 z4 (z3 + 1)
      else none
    else
    some z2

def m_impl_DepthAt (fuel : Nat) (x0 : List I4) (x1 : Int) : Option Int :=
  (m_impl_DepthAt_L0 fuel x0 x1 fuel 0 0).bind fun z1 =>
  some z1

set_option maxRecDepth 100000 in
set_option maxHeartbeats 4000000 in
theorem w_impl_DepthAt (fuel : Nat) {x0 : List I4} {x1 : Int} {a_x0 : Option Addr} {n_x0 c_x0 : Nat} {r0 : Int} {w0 : World} (h : m_impl_DepthAt fuel x0 x1 = some r0) (hr_x0 : RdT (fun b => ¬ False) w0 (rowT x0) (.slice a_x0 n_x0 c_x0)) :
    Calls Try.prog 122 #[.slice a_x0 n_x0 c_x0, .int .i64 x1] w0 fun e w => e = .returned (.int .i64 r0) ∧ St w0 (fun _ => False) w [] := by
  obtain rfl := hr_x0.neq
  have HT : St w0 (fun _ => False) w0 [] := St.init0
  rw [m_impl_DepthAt] at h
  refine calls_fr (n := 24) [.slice a_x0 x0.length c_x0, .int .i64 x1] Try.func122 rfl rfl rfl fun a HF => ?_
  have HT : St w0 (fun _ => False) w0 [] := HT
  refine wp_seq (wc_text (wa HF rfl rfl rfl fun a HF => ?_))
  refine wc_end (then_n (wp_seq (wc_text (wa HF rfl rfl rfl fun a HF => ?_))))
  refine wc_end (then_n ?_)
  obtain ⟨z1, hx1, h⟩ := obs h
  refine wp_cut (fun a w => Fr a 24 [(5, .int .i64 z1)] ∧ St w0 (fun _ => False) w []) ?_ ?_
  have hk1 := h
  have h := hx1
  refine wp_seq (wc_text (wm HF rfl rfl rfl fun a HF => ?_))
  refine wc_lenR HF nS Try.underlying36 rfl rfl rfl fun a HF => ?_
  refine wm HF rfl rfl rfl fun a HF => ?_
  refine wc_end (then_n (wp_block (wp_loopN (fun k1 a w => ∃ z2 z3, m_impl_DepthAt_L0 fuel x0 x1 k1 z2 z3 = some z1 ∧ Fr a 24 [(1, .int .i64 x1), (5, .int .i64 z2), (8, .slice a_x0 x0.length c_x0), (9, .int .i64 (x0.length : Int)), (10, .int .i64 z3)] ∧ St w0 (fun _ => False) w []) fuel ⟨0, 0, h, (HF.keep (HF.keep (HF.keep (HF.keep (HF.keep HF.nil rfl) rfl) rfl) rfl) rfl), HT⟩ ?_)))
  rintro k1 a w ⟨z2, z3, h, HF, HT⟩
  rcases k1 with _ | k1
  cases h
  rw [m_impl_DepthAt_L0] at h
  refine ?_
  refine wp_seq (wc_text (wc_bin HF nS rfl rfl b_lt rfl rfl fun a HF => ?_))
  refine wc_end (then_n (wp_seq ?_))
  by_cases hb1 : z3 < (x0.length : Int)
  have h := ifp hb1 h
  refine wp_if (b' := true) HF rfl (decide_eq_true hb1) ?_
  refine wp_skip (then_n ?_)
  obtain ⟨z4, hx2, h⟩ := obs h
  refine wp_cut (fun a w => Fr a 24 [(1, .int .i64 x1), (5, .int .i64 z4), (8, .slice a_x0 x0.length c_x0), (9, .int .i64 (x0.length : Int)), (10, .int .i64 z3)] ∧ St w0 (fun _ => False) w []) ?_ ?_
  have hk2 := h
  have h := hx2
  refine wp_block (wp_seq (wc_text (wm HF rfl rfl rfl fun a HF => ?_)))
  obtain ⟨e1, hx3, h⟩ := obs h
  obtain ⟨b1, o1, ha1⟩ := (HT.ro hr_x0).any.addr hx3
  refine wc_ixaddr HF nS el36 rfl ha1 ((HT.ro hr_x0).any).neq rfl hx3 rfl rfl fun a HF => ?_
  have hc1 := (HT.ro hr_x0).any.flatAt ha1 hx3
  refine wc_loadA (vs := [.int .i64 e1.a, .int .i64 e1.b, .int .i64 e1.c, .int .i64 e1.d]) HF rfl ag85 rfl (hc1.part 0 4) rfl rfl fun a HF => ?_
  refine wc_alloc (cs := [.int .i64 0, .int .i64 0, .int .i64 0, .int .i64 0]) HF HT zr85 rfl rfl rfl (fun p1 w HT hb => ⟨nS, fun a HF => ?_⟩)
  refine wa HF rfl rfl rfl fun a HF => ?_
  refine wc_storeB (cs' := [.int .i64 e1.a, .int .i64 e1.b, .int .i64 e1.c, .int .i64 e1.d]) HF HT rfl rfl (fun w => (ag85 w).2) rfl rfl rfl rfl rfl (fun w HT => ⟨nS, ?_⟩)
  refine wc_end (then_n (wp_seq (wc_text (wm HF rfl rfl rfl fun a HF => ?_))))
  refine wm HF rfl rfl rfl fun a HF => ?_
  refine wc_bin HF nS rfl rfl b_lt rfl rfl fun a HF => ?_
  refine wc_end (then_n ?_)
  by_cases hb2 : z3 < x1
  have h := ifp hb2 h
  refine wp_if (b' := true) HF rfl (decide_eq_true hb2) ?_
  refine wc_text (wm HF rfl rfl rfl fun a HF => ?_)
  refine wc_loadA (vs := [.int .i64 e1.a, .int .i64 e1.b, .int .i64 e1.c, .int .i64 e1.d]) HF rfl ag85 rfl ((HT.boxAt 0 rfl).part 0 4) rfl rfl fun a HF => ?_
  obtain ⟨y1, hx4, h⟩ := obs h
  refine wc_call HF cf123 rfl (w_impl_opens fuel hx4) rfl rfl ?_
  rintro e w ⟨rfl, hE⟩
  have hb := hE.below
  have HT := HT.pure hE
  have HT : St w0 (fun _ => False) w [Box p1 [.int .i64 e1.a, .int .i64 e1.b, .int .i64 e1.c, .int .i64 e1.d]] := HT
  refine ⟨_, rfl, nS, fun a HF => ?_⟩
  obtain ⟨hg1, h⟩ := grd h
  refine wc_bin HF nS rfl rfl (b_add hg1) rfl rfl fun a HF => ?_
  refine wa HF rfl rfl rfl fun a HF => ?_
  refine wc_end (blk_n ?_)
  have HT := HT.t0
  obtain rfl := Option.some.inj h
  exact then_n ⟨(HF.keep (HF.keep (HF.keep (HF.keep (HF.keep HF.nil rfl) rfl) rfl) rfl) rfl), HT⟩
  have h := ifn hb2 h
  refine wp_if (b' := false) HF rfl (decide_eq_false hb2) ?_
  refine wp_skip (blk_n ?_)
  have HT := HT.t0
  obtain rfl := Option.some.inj h
  exact then_n ⟨(HF.keep (HF.keep (HF.keep (HF.keep (HF.keep HF.nil rfl) rfl) rfl) rfl) rfl), HT⟩
  rintro a w ⟨HF, HT⟩
  refine ?_
  refine wc_text ?_
  obtain ⟨hg2, h⟩ := grd h
  refine wc_bin HF nS rfl rfl (b_add hg2) rfl rfl fun a HF => ?_
  refine wm HF rfl rfl rfl fun a HF => ?_
  exact wc_end (then_n ⟨k1, Nat.lt_succ_self k1, z4, z3 + 1, h, (HF.keep (HF.keep (HF.keep (HF.keep (HF.keep HF.nil rfl) rfl) rfl) rfl) rfl), HT⟩)
  have h := ifn hb1 h
  refine wp_if (b' := false) HF rfl (decide_eq_false hb1) ?_
  refine wp_exit ?_
  refine then_x (then_x (?_))
  refine blk_x ?_
  obtain rfl := Option.some.inj h
  exact then_n ⟨(HF.keep HF.nil rfl), HT⟩
  rintro a w ⟨HF, HT⟩
  refine ?_
  refine wp_seq (wc_text (wm HF rfl rfl rfl fun a HF => ?_))
  refine wa HF rfl rfl rfl fun a HF => ?_
  refine wc_end (then_n (wp_ret ?_))
  obtain rfl := Option.some.inj h
  refine bp_ret HF (res_one rfl HF rfl) ?_
  exact ⟨rfl, HT⟩

def m_impl_within (fuel : Nat) (x0 : Int) (x1 : Int) (x2 : Int) : Option Bool :=
  if x1 ≤ x0 then
    some (decide (x0 ≤ x2))
  else
  some false

set_option maxRecDepth 100000 in
set_option maxHeartbeats 4000000 in
theorem w_impl_within (fuel : Nat) {x0 : Int} {x1 : Int} {x2 : Int} {r0 : Bool} {w0 : World} (h : m_impl_within fuel x0 x1 x2 = some r0) :
    Calls Try.prog 98 #[.int .i64 x0, .int .i64 x1, .int .i64 x2] w0 fun e w => e = .returned (.bool r0) ∧ St w0 (fun _ => False) w [] := by
  have HT : St w0 (fun _ => False) w0 [] := St.init0
  rw [m_impl_within] at h
  refine calls_fr (n := 15) [.int .i64 x0, .int .i64 x1, .int .i64 x2] Try.func98 rfl rfl rfl fun a HF => ?_
  have HT : St w0 (fun _ => False) w0 [] := HT
  refine wp_seq (wc_text (wa HF rfl rfl rfl fun a HF => ?_))
  refine wc_end (then_n (wp_seq (wc_text (wm HF rfl rfl rfl fun a HF => ?_))))
  refine wm HF rfl rfl rfl fun a HF => ?_
  refine wc_bin HF nS rfl rfl b_ge rfl rfl fun a HF => ?_
  refine wm HF rfl rfl rfl fun a HF => ?_
  by_cases hb1 : x1 ≤ x0
  have h := ifp hb1 h
  refine wc_move HF nS rfl (HF.wy rfl rfl rfl rfl (decide_eq_true hb1)) rfl fun a HF => ?_
  refine wc_move HF nS rfl (HF.wy rfl rfl rfl rfl (decide_eq_true hb1)) rfl fun a HF => ?_
  refine wc_bin HF nS rfl rfl b_le (HF.wy rfl rfl rfl rfl (decide_eq_true hb1)) rfl fun a HF => ?_
  refine wc_pick (b := true) HF nS rfl (decide_eq_true hb1) rfl rfl rfl fun a HF => ?_
  refine wa HF rfl rfl rfl fun a HF => ?_
  refine wc_end (then_n (wp_ret ?_))
  obtain rfl := Option.some.inj h
  refine bp_ret HF (res_one rfl HF rfl) ?_
  exact ⟨rfl, HT⟩
  have h := ifn hb1 h
  refine wc_skip HF nS (HF.wn rfl rfl rfl rfl (decide_eq_false hb1)) rfl fun a HF => ?_
  refine wc_skip HF nS (HF.wn rfl rfl rfl rfl (decide_eq_false hb1)) rfl fun a HF => ?_
  refine wc_skip HF nS (HF.wn rfl rfl rfl rfl (decide_eq_false hb1)) rfl fun a HF => ?_
  refine wc_pick (b := false) HF nS rfl (decide_eq_false hb1) rfl rfl rfl fun a HF => ?_
  refine wa HF rfl rfl rfl fun a HF => ?_
  refine wc_end (then_n (wp_ret ?_))
  obtain rfl := Option.some.inj h
  refine bp_ret HF (res_one rfl HF rfl) ?_
  exact ⟨rfl, HT⟩

def m_impl_isCell (fuel : Nat) (x0 : Int) : Option Bool :=
  (m_impl_within fuel x0 0 7).bind fun y1 =>
  some y1

set_option maxRecDepth 100000 in
set_option maxHeartbeats 4000000 in
theorem w_impl_isCell (fuel : Nat) {x0 : Int} {r0 : Bool} {w0 : World} (h : m_impl_isCell fuel x0 = some r0) :
    Calls Try.prog 134 #[.int .i64 x0] w0 fun e w => e = .returned (.bool r0) ∧ St w0 (fun _ => False) w [] := by
  have HT : St w0 (fun _ => False) w0 [] := St.init0
  rw [m_impl_isCell] at h
  refine calls_fr (n := 5) [.int .i64 x0] Try.func134 rfl rfl rfl fun a HF => ?_
  have HT : St w0 (fun _ => False) w0 [] := HT
  refine wp_seq (wc_text (wa HF rfl rfl rfl fun a HF => ?_))
  refine wc_end (then_n (wp_seq (wc_text (wm HF rfl rfl rfl fun a HF => ?_))))
  obtain ⟨y1, hx1, h⟩ := obs h
  refine wc_call HF cf98 rfl (w_impl_within fuel hx1) rfl rfl ?_
  rintro e w ⟨rfl, hE⟩
  have hb := hE.below
  have HT := HT.pure hE
  have HT : St w0 (fun _ => False) w [] := HT
  refine ⟨_, rfl, nS, fun a HF => ?_⟩
  refine wa HF rfl rfl rfl fun a HF => ?_
  refine wc_end (then_n (wp_ret ?_))
  obtain rfl := Option.some.inj h
  refine bp_ret HF (res_one rfl HF rfl) ?_
  exact ⟨rfl, HT⟩

def m_impl_isKey (fuel : Nat) (x0 : Int) : Option Bool :=
  (m_impl_within fuel x0 0 7).bind fun y1 =>
  some y1

set_option maxRecDepth 100000 in
set_option maxHeartbeats 4000000 in
theorem w_impl_isKey (fuel : Nat) {x0 : Int} {r0 : Bool} {w0 : World} (h : m_impl_isKey fuel x0 = some r0) :
    Calls Try.prog 135 #[.int .i64 x0] w0 fun e w => e = .returned (.bool r0) ∧ St w0 (fun _ => False) w [] := by
  have HT : St w0 (fun _ => False) w0 [] := St.init0
  rw [m_impl_isKey] at h
  refine calls_fr (n := 5) [.int .i64 x0] Try.func135 rfl rfl rfl fun a HF => ?_
  have HT : St w0 (fun _ => False) w0 [] := HT
  refine wp_seq (wc_text (wa HF rfl rfl rfl fun a HF => ?_))
  refine wc_end (then_n (wp_seq (wc_text (wm HF rfl rfl rfl fun a HF => ?_))))
  obtain ⟨y1, hx1, h⟩ := obs h
  refine wc_call HF cf98 rfl (w_impl_within fuel hx1) rfl rfl ?_
  rintro e w ⟨rfl, hE⟩
  have hb := hE.below
  have HT := HT.pure hE
  have HT : St w0 (fun _ => False) w [] := HT
  refine ⟨_, rfl, nS, fun a HF => ?_⟩
  refine wa HF rfl rfl rfl fun a HF => ?_
  refine wc_end (then_n (wp_ret ?_))
  obtain rfl := Option.some.inj h
  refine bp_ret HF (res_one rfl HF rfl) ?_
  exact ⟨rfl, HT⟩

def m_impl_isReg (fuel : Nat) (x0 : Int) : Option Bool :=
  (m_impl_within fuel x0 0 3).bind fun y1 =>
  some y1

set_option maxRecDepth 100000 in
set_option maxHeartbeats 4000000 in
theorem w_impl_isReg (fuel : Nat) {x0 : Int} {r0 : Bool} {w0 : World} (h : m_impl_isReg fuel x0 = some r0) :
    Calls Try.prog 133 #[.int .i64 x0] w0 fun e w => e = .returned (.bool r0) ∧ St w0 (fun _ => False) w [] := by
  have HT : St w0 (fun _ => False) w0 [] := St.init0
  rw [m_impl_isReg] at h
  refine calls_fr (n := 5) [.int .i64 x0] Try.func133 rfl rfl rfl fun a HF => ?_
  have HT : St w0 (fun _ => False) w0 [] := HT
  refine wp_seq (wc_text (wa HF rfl rfl rfl fun a HF => ?_))
  refine wc_end (then_n (wp_seq (wc_text (wm HF rfl rfl rfl fun a HF => ?_))))
  obtain ⟨y1, hx1, h⟩ := obs h
  refine wc_call HF cf98 rfl (w_impl_within fuel hx1) rfl rfl ?_
  rintro e w ⟨rfl, hE⟩
  have hb := hE.below
  have HT := HT.pure hE
  have HT : St w0 (fun _ => False) w [] := HT
  refine ⟨_, rfl, nS, fun a HF => ?_⟩
  refine wa HF rfl rfl rfl fun a HF => ?_
  refine wc_end (then_n (wp_ret ?_))
  obtain rfl := Option.some.inj h
  refine bp_ret HF (res_one rfl HF rfl) ?_
  exact ⟨rfl, HT⟩

def m_impl_isValue (fuel : Nat) (x0 : Int) : Option Bool :=
  (m_impl_within fuel x0 0 65535).bind fun y1 =>
  some y1

set_option maxRecDepth 100000 in
set_option maxHeartbeats 4000000 in
theorem w_impl_isValue (fuel : Nat) {x0 : Int} {r0 : Bool} {w0 : World} (h : m_impl_isValue fuel x0 = some r0) :
    Calls Try.prog 64 #[.int .i64 x0] w0 fun e w => e = .returned (.bool r0) ∧ St w0 (fun _ => False) w [] := by
  have HT : St w0 (fun _ => False) w0 [] := St.init0
  rw [m_impl_isValue] at h
  refine calls_fr (n := 5) [.int .i64 x0] Try.func64 rfl rfl rfl fun a HF => ?_
  have HT : St w0 (fun _ => False) w0 [] := HT
  refine wp_seq (wc_text (wa HF rfl rfl rfl fun a HF => ?_))
  refine wc_end (then_n (wp_seq (wc_text (wm HF rfl rfl rfl fun a HF => ?_))))
  obtain ⟨y1, hx1, h⟩ := obs h
  refine wc_call HF cf98 rfl (w_impl_within fuel hx1) rfl rfl ?_
  rintro e w ⟨rfl, hE⟩
  have hb := hE.below
  have HT := HT.pure hE
  have HT : St w0 (fun _ => False) w [] := HT
  refine ⟨_, rfl, nS, fun a HF => ?_⟩
  refine wa HF rfl rfl rfl fun a HF => ?_
  refine wc_end (then_n (wp_ret ?_))
  obtain rfl := Option.some.inj h
  refine bp_ret HF (res_one rfl HF rfl) ?_
  exact ⟨rfl, HT⟩

def m_impl_OpOk (fuel : Nat) (x0_0 : Int) (x0_1 : Int) (x0_2 : Int) (x0_3 : Int) : Option Bool :=
  (
    if x0_0 = 1 then
      (m_impl_isReg fuel x0_1).bind fun y1 =>
      if y1 = true then
        (m_impl_isValue fuel x0_2).bind fun y2 =>
        if y2 = true then
          some (.ret (decide (x0_3 = 0)))
        else
        some (.ret false)
      else
      some (.ret false)
    else
    (
      if x0_0 = 2 then
        some (decide (x0_0 = 2))
      else
      if x0_0 = 3 then
        some (decide (x0_0 = 3))
      else
      some (decide (x0_0 = 4))).bind fun z1 =>
    if z1 = true then
      (m_impl_isReg fuel x0_1).bind fun y3 =>
      if y3 = true then
        (m_impl_isReg fuel x0_2).bind fun y4 =>
        if y4 = true then
          (m_impl_isReg fuel x0_3).bind fun y5 =>
          some (.ret y5)
        else
        some (.ret false)
      else
      some (.ret false)
    else
    if x0_0 = 5 then
      (m_impl_isReg fuel x0_1).bind fun y6 =>
      if y6 = true then
        (m_impl_isCell fuel x0_2).bind fun y7 =>
        if y7 = true then
          some (.ret (decide (x0_3 = 0)))
        else
        some (.ret false)
      else
      some (.ret false)
    else
    if x0_0 = 6 then
      (m_impl_isCell fuel x0_1).bind fun y8 =>
      if y8 = true then
        (m_impl_isReg fuel x0_2).bind fun y9 =>
        if y9 = true then
          some (.ret (decide (x0_3 = 0)))
        else
        some (.ret false)
      else
      some (.ret false)
    else
    if x0_0 = 7 then
      (m_impl_isReg fuel x0_1).bind fun y10 =>
      if y10 = true then
        (m_impl_within fuel x0_2 1 20).bind fun y11 =>
        if y11 = true then
          some (.ret (decide (x0_3 = 0)))
        else
        some (.ret false)
      else
      some (.ret false)
    else
    (
      if x0_0 = 8 then
        some (decide (x0_0 = 8))
      else
      if x0_0 = 15 then
        some (decide (x0_0 = 15))
      else
      some (decide (x0_0 = 16))).bind fun z2 =>
    if z2 = true then
      (m_impl_isReg fuel x0_1).bind fun y12 =>
      if y12 = true then
        if x0_2 = 0 then
          some (.ret (decide (x0_3 = 0)))
        else
        some (.ret false)
      else
      some (.ret false)
    else
    (
      if x0_0 = 9 then
        some (decide (x0_0 = 9))
      else
      if x0_0 = 10 then
        some (decide (x0_0 = 10))
      else
      some (decide (x0_0 = 11))).bind fun z3 =>
    if z3 = true then
      if x0_1 = 0 then
        if x0_2 = 0 then
          some (.ret (decide (x0_3 = 0)))
        else
        some (.ret false)
      else
      some (.ret false)
    else
    if x0_0 = 12 then
      (m_impl_isKey fuel x0_1).bind fun y13 =>
      if y13 = true then
        (m_impl_isReg fuel x0_2).bind fun y14 =>
        if y14 = true then
          (m_impl_isReg fuel x0_3).bind fun y15 =>
          some (.ret y15)
        else
        some (.ret false)
      else
      some (.ret false)
    else
    if x0_0 = 13 then
      (m_impl_isReg fuel x0_1).bind fun y16 =>
      if y16 = true then
        (m_impl_isKey fuel x0_2).bind fun y17 =>
        if y17 = true then
          some (.ret (decide (x0_3 = 0)))
        else
        some (.ret false)
      else
      some (.ret false)
    else
    if x0_0 = 14 then
      (m_impl_isKey fuel x0_1).bind fun y18 =>
      if y18 = true then
        (m_impl_isReg fuel x0_2).bind fun y19 =>
        if y19 = true then
          some (.ret (decide (x0_3 = 0)))
        else
        some (.ret false)
      else
      some (.ret false)
    else
    some (.brk ())).bind <| contL <| un1 fun _ =>
  some false

set_option maxRecDepth 100000 in
set_option maxHeartbeats 4000000 in
theorem w_impl_OpOk (fuel : Nat) {x0_0 : Int} {x0_1 : Int} {x0_2 : Int} {x0_3 : Int} {r0 : Bool} {w0 : World} (h : m_impl_OpOk fuel x0_0 x0_1 x0_2 x0_3 = some r0) :
    Calls Try.prog 120 #[.agg #[.int .i64 x0_0, .int .i64 x0_1, .int .i64 x0_2, .int .i64 x0_3]] w0 fun e w => e = .returned (.bool r0) ∧ St w0 (fun _ => False) w [] := by
  have HT : St w0 (fun _ => False) w0 [] := St.init0
  rw [m_impl_OpOk] at h
  refine calls_fr (n := 161) [.agg #[.int .i64 x0_0, .int .i64 x0_1, .int .i64 x0_2, .int .i64 x0_3]] Try.func120 rfl rfl rfl fun a HF => ?_
  have HT : St w0 (fun _ => False) w0 [] := HT
  refine wp_seq (wc_text (wc_box (cs := [.int .i64 x0_0, .int .i64 x0_1, .int .i64 x0_2, .int .i64 x0_3]) HF HT rfl rfl rfl rfl (fun p1 w HT hb => ⟨nS, fun a HF => ?_⟩)))
  refine wa HF rfl rfl rfl fun a HF => ?_
  refine wc_end (then_n ?_)
  obtain ⟨q1, hx1, h⟩ := obs h
  refine wp_cut (fun a w => q1 = .brk () ∧ Fr a 161 [] ∧ St w0 (fun _ => False) w []) ?_ ?_
  have hk1 := h
  have h := hx1
  refine wp_seq (wc_text (wc_faddr HF nS rfl fl85_0 rfl rfl fun a HF => ?_))
  refine wc_load HF rfl sc3 ((HT.boxAt 0 rfl).get 0 rfl) rfl rfl fun a HF => ?_
  refine wc_end (then_n (wp_block (wp_seq (wc_text (wc_bin HF nS rfl rfl b_eq rfl rfl fun a HF => ?_)))))
  refine wa HF rfl rfl rfl fun a HF => ?_
  refine wc_end (then_n ?_)
  by_cases hb1 : x0_0 = 1
  have h := ifp hb1 h
  refine wp_if (b' := true) HF rfl (decide_eq_true hb1) ?_
  refine wp_seq (wc_text (wc_faddr HF nS rfl fl85_1 rfl rfl fun a HF => ?_))
  refine wc_load HF rfl sc3 ((HT.boxAt 0 rfl).get 1 rfl) rfl rfl fun a HF => ?_
  obtain ⟨y1, hx2, h⟩ := obs h
  refine wc_call HF cf133 rfl (w_impl_isReg fuel hx2) rfl rfl ?_
  rintro e w ⟨rfl, hE⟩
  have hb := hE.below
  have HT := HT.pure hE
  have HT : St w0 (fun _ => False) w [Box p1 [.int .i64 x0_0, .int .i64 x0_1, .int .i64 x0_2, .int .i64 x0_3]] := HT
  refine ⟨_, rfl, nS, fun a HF => ?_⟩
  refine wm HF rfl rfl rfl fun a HF => ?_
  by_cases hb2 : y1 = true
  have h := ifp hb2 h
  refine wc_faddr HF nS rfl fl85_2 (HF.wy rfl rfl rfl rfl hb2) rfl fun a HF => ?_
  refine wc_load HF rfl sc3 ((HT.boxAt 0 rfl).get 2 rfl) (HF.wy rfl rfl rfl rfl hb2) rfl fun a HF => ?_
  obtain ⟨y2, hx3, h⟩ := obs h
  refine wc_call HF cf64 rfl (w_impl_isValue fuel hx3) (HF.wy rfl rfl rfl rfl hb2) rfl ?_
  rintro e w ⟨rfl, hE⟩
  have hb := hE.below
  have HT := HT.pure hE
  have HT : St w0 (fun _ => False) w [Box p1 [.int .i64 x0_0, .int .i64 x0_1, .int .i64 x0_2, .int .i64 x0_3]] := HT
  refine ⟨_, rfl, nS, fun a HF => ?_⟩
  refine wc_pick (b := true) HF nS rfl hb2 rfl rfl rfl fun a HF => ?_
  refine wm HF rfl rfl rfl fun a HF => ?_
  by_cases hb3 : y2 = true
  have h := ifp hb3 h
  refine wc_faddr HF nS rfl fl85_3 (HF.wy rfl rfl rfl rfl hb3) rfl fun a HF => ?_
  refine wc_load HF rfl sc3 ((HT.boxAt 0 rfl).get 3 rfl) (HF.wy rfl rfl rfl rfl hb3) rfl fun a HF => ?_
  refine wc_bin HF nS rfl rfl b_eq (HF.wy rfl rfl rfl rfl hb3) rfl fun a HF => ?_
  refine wc_pick (b := true) HF nS rfl hb3 rfl rfl rfl fun a HF => ?_
  refine wa HF rfl rfl rfl fun a HF => ?_
  refine wc_end (then_n (wp_ret ?_))
  obtain rfl := Option.some.inj h
  have h := retL hk1
  obtain rfl := Option.some.inj h
  refine blk_r (then_r (?_))
  refine bp_ret HF (res_one rfl HF rfl) ?_
  have HT := HT.t0
  exact ⟨rfl, HT⟩
  have h := ifn hb3 h
  refine wc_skip HF nS (HF.wn rfl rfl rfl rfl (Bool.eq_false_iff.2 hb3)) rfl fun a HF => ?_
  refine wc_skip HF nS (HF.wn rfl rfl rfl rfl (Bool.eq_false_iff.2 hb3)) rfl fun a HF => ?_
  refine wc_skip HF nS (HF.wn rfl rfl rfl rfl (Bool.eq_false_iff.2 hb3)) rfl fun a HF => ?_
  refine wc_pick (b := false) HF nS rfl (Bool.eq_false_iff.2 hb3) rfl rfl rfl fun a HF => ?_
  refine wa HF rfl rfl rfl fun a HF => ?_
  refine wc_end (then_n (wp_ret ?_))
  obtain rfl := Option.some.inj h
  have h := retL hk1
  obtain rfl := Option.some.inj h
  refine blk_r (then_r (?_))
  refine bp_ret HF (res_one rfl HF rfl) ?_
  have HT := HT.t0
  exact ⟨rfl, HT⟩
  have h := ifn hb2 h
  refine wc_skip HF nS (HF.wn rfl rfl rfl rfl (Bool.eq_false_iff.2 hb2)) rfl fun a HF => ?_
  refine wc_skip HF nS (HF.wn rfl rfl rfl rfl (Bool.eq_false_iff.2 hb2)) rfl fun a HF => ?_
  refine wc_skip HF nS (HF.wn rfl rfl rfl rfl (Bool.eq_false_iff.2 hb2)) rfl fun a HF => ?_
  refine wc_pick (b := false) HF nS rfl (Bool.eq_false_iff.2 hb2) rfl rfl rfl fun a HF => ?_
  refine wm HF rfl rfl rfl fun a HF => ?_
  refine wc_skip HF nS (HF.wn rfl rfl rfl rfl rfl) rfl fun a HF => ?_
  refine wc_skip HF nS (HF.wn rfl rfl rfl rfl rfl) rfl fun a HF => ?_
  refine wc_skip HF nS (HF.wn rfl rfl rfl rfl rfl) rfl fun a HF => ?_
  refine wc_pick (b := false) HF nS rfl rfl rfl rfl rfl fun a HF => ?_
  refine wa HF rfl rfl rfl fun a HF => ?_
  refine wc_end (then_n (wp_ret ?_))
  obtain rfl := Option.some.inj h
  have h := retL hk1
  obtain rfl := Option.some.inj h
  refine blk_r (then_r (?_))
  refine bp_ret HF (res_one rfl HF rfl) ?_
  have HT := HT.t0
  exact ⟨rfl, HT⟩
  have h := ifn hb1 h
  refine wp_if (b' := false) HF rfl (decide_eq_false hb1) ?_
  obtain ⟨z1, hx4, h⟩ := obs h
  refine wp_cut (fun a w => Fr a 161 [(1, .pointer (some ⟨p1, 0, none⟩)), (4, .int .i64 x0_0), (20, .bool z1)] ∧ St w0 (fun _ => False) w [Box p1 [.int .i64 x0_0, .int .i64 x0_1, .int .i64 x0_2, .int .i64 x0_3]]) ?_ ?_
  have hk2 := h
  have h := hx4
  refine wp_seq (wc_text (wc_bin HF nS rfl rfl b_eq rfl rfl fun a HF => ?_))
  refine wa HF rfl rfl rfl fun a HF => ?_
  refine wc_end (then_n ?_)
  by_cases hb4 : x0_0 = 2
  have h := ifp hb4 h
  refine wp_if (b' := true) HF rfl (decide_eq_true hb4) ?_
  refine wp_skip ?_
  obtain rfl := Option.some.inj h
  exact then_n ⟨(HF.keep (HF.keep (HF.keep HF.nil rfl) rfl) rfl), HT⟩
  have h := ifn hb4 h
  refine wp_if (b' := false) HF rfl (decide_eq_false hb4) ?_
  refine wp_seq (wc_text (wc_bin HF nS rfl rfl b_eq rfl rfl fun a HF => ?_))
  refine wa HF rfl rfl rfl fun a HF => ?_
  refine wc_end (then_n ?_)
  by_cases hb5 : x0_0 = 3
  have h := ifp hb5 h
  refine wp_if (b' := true) HF rfl (decide_eq_true hb5) ?_
  refine wp_skip ?_
  obtain rfl := Option.some.inj h
  exact then_n ⟨(HF.keep (HF.keep (HF.keep HF.nil rfl) rfl) rfl), HT⟩
  have h := ifn hb5 h
  refine wp_if (b' := false) HF rfl (decide_eq_false hb5) ?_
  refine wc_text (wc_bin HF nS rfl rfl b_eq rfl rfl fun a HF => ?_)
  refine wa HF rfl rfl rfl fun a HF => ?_
  refine wc_end ?_
  obtain rfl := Option.some.inj h
  exact then_n ⟨(HF.keep (HF.keep (HF.keep HF.nil rfl) rfl) rfl), HT⟩
  rintro a w ⟨HF, HT⟩
  refine ?_
  by_cases hb6 : z1 = true
  have h := ifp hb6 h
  refine wp_if (b' := true) HF rfl hb6 ?_
  refine wp_seq (wc_text (wc_faddr HF nS rfl fl85_1 rfl rfl fun a HF => ?_))
  refine wc_load HF rfl sc3 ((HT.boxAt 0 rfl).get 1 rfl) rfl rfl fun a HF => ?_
  obtain ⟨y3, hx5, h⟩ := obs h
  refine wc_call HF cf133 rfl (w_impl_isReg fuel hx5) rfl rfl ?_
  rintro e w ⟨rfl, hE⟩
  have hb := hE.below
  have HT := HT.pure hE
  have HT : St w0 (fun _ => False) w [Box p1 [.int .i64 x0_0, .int .i64 x0_1, .int .i64 x0_2, .int .i64 x0_3]] := HT
  refine ⟨_, rfl, nS, fun a HF => ?_⟩
  refine wm HF rfl rfl rfl fun a HF => ?_
  by_cases hb7 : y3 = true
  have h := ifp hb7 h
  refine wc_faddr HF nS rfl fl85_2 (HF.wy rfl rfl rfl rfl hb7) rfl fun a HF => ?_
  refine wc_load HF rfl sc3 ((HT.boxAt 0 rfl).get 2 rfl) (HF.wy rfl rfl rfl rfl hb7) rfl fun a HF => ?_
  obtain ⟨y4, hx6, h⟩ := obs h
  refine wc_call HF cf133 rfl (w_impl_isReg fuel hx6) (HF.wy rfl rfl rfl rfl hb7) rfl ?_
  rintro e w ⟨rfl, hE⟩
  have hb := hE.below
  have HT := HT.pure hE
  have HT : St w0 (fun _ => False) w [Box p1 [.int .i64 x0_0, .int .i64 x0_1, .int .i64 x0_2, .int .i64 x0_3]] := HT
  refine ⟨_, rfl, nS, fun a HF => ?_⟩
  refine wc_pick (b := true) HF nS rfl hb7 rfl rfl rfl fun a HF => ?_
  refine wm HF rfl rfl rfl fun a HF => ?_
  by_cases hb8 : y4 = true
  have h := ifp hb8 h
  refine wc_faddr HF nS rfl fl85_3 (HF.wy rfl rfl rfl rfl hb8) rfl fun a HF => ?_
  refine wc_load HF rfl sc3 ((HT.boxAt 0 rfl).get 3 rfl) (HF.wy rfl rfl rfl rfl hb8) rfl fun a HF => ?_
  obtain ⟨y5, hx7, h⟩ := obs h
  refine wc_call HF cf133 rfl (w_impl_isReg fuel hx7) (HF.wy rfl rfl rfl rfl hb8) rfl ?_
  rintro e w ⟨rfl, hE⟩
  have hb := hE.below
  have HT := HT.pure hE
  have HT : St w0 (fun _ => False) w [Box p1 [.int .i64 x0_0, .int .i64 x0_1, .int .i64 x0_2, .int .i64 x0_3]] := HT
  refine ⟨_, rfl, nS, fun a HF => ?_⟩
  refine wc_pick (b := true) HF nS rfl hb8 rfl rfl rfl fun a HF => ?_
  refine wa HF rfl rfl rfl fun a HF => ?_
  refine wc_end (then_n (wp_ret ?_))
  obtain rfl := Option.some.inj h
  have h := retL hk1
  obtain rfl := Option.some.inj h
  refine blk_r (then_r (?_))
  refine bp_ret HF (res_one rfl HF rfl) ?_
  have HT := HT.t0
  exact ⟨rfl, HT⟩
  have h := ifn hb8 h
  refine wc_skip HF nS (HF.wn rfl rfl rfl rfl (Bool.eq_false_iff.2 hb8)) rfl fun a HF => ?_
  refine wc_skip HF nS (HF.wn rfl rfl rfl rfl (Bool.eq_false_iff.2 hb8)) rfl fun a HF => ?_
  refine wc_skip HF nS (HF.wn rfl rfl rfl rfl (Bool.eq_false_iff.2 hb8)) rfl fun a HF => ?_
  refine wc_pick (b := false) HF nS rfl (Bool.eq_false_iff.2 hb8) rfl rfl rfl fun a HF => ?_
  refine wa HF rfl rfl rfl fun a HF => ?_
  refine wc_end (then_n (wp_ret ?_))
  obtain rfl := Option.some.inj h
  have h := retL hk1
  obtain rfl := Option.some.inj h
  refine blk_r (then_r (?_))
  refine bp_ret HF (res_one rfl HF rfl) ?_
  have HT := HT.t0
  exact ⟨rfl, HT⟩
  have h := ifn hb7 h
  refine wc_skip HF nS (HF.wn rfl rfl rfl rfl (Bool.eq_false_iff.2 hb7)) rfl fun a HF => ?_
  refine wc_skip HF nS (HF.wn rfl rfl rfl rfl (Bool.eq_false_iff.2 hb7)) rfl fun a HF => ?_
  refine wc_skip HF nS (HF.wn rfl rfl rfl rfl (Bool.eq_false_iff.2 hb7)) rfl fun a HF => ?_
  refine wc_pick (b := false) HF nS rfl (Bool.eq_false_iff.2 hb7) rfl rfl rfl fun a HF => ?_
  refine wm HF rfl rfl rfl fun a HF => ?_
  refine wc_skip HF nS (HF.wn rfl rfl rfl rfl rfl) rfl fun a HF => ?_
  refine wc_skip HF nS (HF.wn rfl rfl rfl rfl rfl) rfl fun a HF => ?_
  refine wc_skip HF nS (HF.wn rfl rfl rfl rfl rfl) rfl fun a HF => ?_
  refine wc_pick (b := false) HF nS rfl rfl rfl rfl rfl fun a HF => ?_
  refine wa HF rfl rfl rfl fun a HF => ?_
  refine wc_end (then_n (wp_ret ?_))
  obtain rfl := Option.some.inj h
  have h := retL hk1
  obtain rfl := Option.some.inj h
  refine blk_r (then_r (?_))
  refine bp_ret HF (res_one rfl HF rfl) ?_
  have HT := HT.t0
  exact ⟨rfl, HT⟩
  have h := ifn hb6 h
  refine wp_if (b' := false) HF rfl (Bool.eq_false_iff.2 hb6) ?_
  refine wp_seq (wc_text (wc_bin HF nS rfl rfl b_eq rfl rfl fun a HF => ?_))
  refine wa HF rfl rfl rfl fun a HF => ?_
  refine wc_end (then_n ?_)
  by_cases hb9 : x0_0 = 5
  have h := ifp hb9 h
  refine wp_if (b' := true) HF rfl (decide_eq_true hb9) ?_
  refine wp_seq (wc_text (wc_faddr HF nS rfl fl85_1 rfl rfl fun a HF => ?_))
  refine wc_load HF rfl sc3 ((HT.boxAt 0 rfl).get 1 rfl) rfl rfl fun a HF => ?_
  obtain ⟨y6, hx8, h⟩ := obs h
  refine wc_call HF cf133 rfl (w_impl_isReg fuel hx8) rfl rfl ?_
  rintro e w ⟨rfl, hE⟩
  have hb := hE.below
  have HT := HT.pure hE
  have HT : St w0 (fun _ => False) w [Box p1 [.int .i64 x0_0, .int .i64 x0_1, .int .i64 x0_2, .int .i64 x0_3]] := HT
  refine ⟨_, rfl, nS, fun a HF => ?_⟩
  refine wm HF rfl rfl rfl fun a HF => ?_
  by_cases hb10 : y6 = true
  have h := ifp hb10 h
  refine wc_faddr HF nS rfl fl85_2 (HF.wy rfl rfl rfl rfl hb10) rfl fun a HF => ?_
  refine wc_load HF rfl sc3 ((HT.boxAt 0 rfl).get 2 rfl) (HF.wy rfl rfl rfl rfl hb10) rfl fun a HF => ?_
  obtain ⟨y7, hx9, h⟩ := obs h
  refine wc_call HF cf134 rfl (w_impl_isCell fuel hx9) (HF.wy rfl rfl rfl rfl hb10) rfl ?_
  rintro e w ⟨rfl, hE⟩
  have hb := hE.below
  have HT := HT.pure hE
  have HT : St w0 (fun _ => False) w [Box p1 [.int .i64 x0_0, .int .i64 x0_1, .int .i64 x0_2, .int .i64 x0_3]] := HT
  refine ⟨_, rfl, nS, fun a HF => ?_⟩
  refine wc_pick (b := true) HF nS rfl hb10 rfl rfl rfl fun a HF => ?_
  refine wm HF rfl rfl rfl fun a HF => ?_
  by_cases hb11 : y7 = true
  have h := ifp hb11 h
  refine wc_faddr HF nS rfl fl85_3 (HF.wy rfl rfl rfl rfl hb11) rfl fun a HF => ?_
  refine wc_load HF rfl sc3 ((HT.boxAt 0 rfl).get 3 rfl) (HF.wy rfl rfl rfl rfl hb11) rfl fun a HF => ?_
  refine wc_bin HF nS rfl rfl b_eq (HF.wy rfl rfl rfl rfl hb11) rfl fun a HF => ?_
  refine wc_pick (b := true) HF nS rfl hb11 rfl rfl rfl fun a HF => ?_
  refine wa HF rfl rfl rfl fun a HF => ?_
  refine wc_end (then_n (wp_ret ?_))
  obtain rfl := Option.some.inj h
  have h := retL hk1
  obtain rfl := Option.some.inj h
  refine blk_r (then_r (?_))
  refine bp_ret HF (res_one rfl HF rfl) ?_
  have HT := HT.t0
  exact ⟨rfl, HT⟩
  have h := ifn hb11 h
  refine wc_skip HF nS (HF.wn rfl rfl rfl rfl (Bool.eq_false_iff.2 hb11)) rfl fun a HF => ?_
  refine wc_skip HF nS (HF.wn rfl rfl rfl rfl (Bool.eq_false_iff.2 hb11)) rfl fun a HF => ?_
  refine wc_skip HF nS (HF.wn rfl rfl rfl rfl (Bool.eq_false_iff.2 hb11)) rfl fun a HF => ?_
  refine wc_pick (b := false) HF nS rfl (Bool.eq_false_iff.2 hb11) rfl rfl rfl fun a HF => ?_
  refine wa HF rfl rfl rfl fun a HF => ?_
  refine wc_end (then_n (wp_ret ?_))
  obtain rfl := Option.some.inj h
  have h := retL hk1
  obtain rfl := Option.some.inj h
  refine blk_r (then_r (?_))
  refine bp_ret HF (res_one rfl HF rfl) ?_
  have HT := HT.t0
  exact ⟨rfl, HT⟩
  have h := ifn hb10 h
  refine wc_skip HF nS (HF.wn rfl rfl rfl rfl (Bool.eq_false_iff.2 hb10)) rfl fun a HF => ?_
  refine wc_skip HF nS (HF.wn rfl rfl rfl rfl (Bool.eq_false_iff.2 hb10)) rfl fun a HF => ?_
  refine wc_skip HF nS (HF.wn rfl rfl rfl rfl (Bool.eq_false_iff.2 hb10)) rfl fun a HF => ?_
  refine wc_pick (b := false) HF nS rfl (Bool.eq_false_iff.2 hb10) rfl rfl rfl fun a HF => ?_
  refine wm HF rfl rfl rfl fun a HF => ?_
  refine wc_skip HF nS (HF.wn rfl rfl rfl rfl rfl) rfl fun a HF => ?_
  refine wc_skip HF nS (HF.wn rfl rfl rfl rfl rfl) rfl fun a HF => ?_
  refine wc_skip HF nS (HF.wn rfl rfl rfl rfl rfl) rfl fun a HF => ?_
  refine wc_pick (b := false) HF nS rfl rfl rfl rfl rfl fun a HF => ?_
  refine wa HF rfl rfl rfl fun a HF => ?_
  refine wc_end (then_n (wp_ret ?_))
  obtain rfl := Option.some.inj h
  have h := retL hk1
  obtain rfl := Option.some.inj h
  refine blk_r (then_r (?_))
  refine bp_ret HF (res_one rfl HF rfl) ?_
  have HT := HT.t0
  exact ⟨rfl, HT⟩
  have h := ifn hb9 h
  refine wp_if (b' := false) HF rfl (decide_eq_false hb9) ?_
  refine wp_seq (wc_text (wc_bin HF nS rfl rfl b_eq rfl rfl fun a HF => ?_))
  refine wa HF rfl rfl rfl fun a HF => ?_
  refine wc_end (then_n ?_)
  by_cases hb12 : x0_0 = 6
  have h := ifp hb12 h
  refine wp_if (b' := true) HF rfl (decide_eq_true hb12) ?_
  refine wp_seq (wc_text (wc_faddr HF nS rfl fl85_1 rfl rfl fun a HF => ?_))
  refine wc_load HF rfl sc3 ((HT.boxAt 0 rfl).get 1 rfl) rfl rfl fun a HF => ?_
  obtain ⟨y8, hx10, h⟩ := obs h
  refine wc_call HF cf134 rfl (w_impl_isCell fuel hx10) rfl rfl ?_
  rintro e w ⟨rfl, hE⟩
  have hb := hE.below
  have HT := HT.pure hE
  have HT : St w0 (fun _ => False) w [Box p1 [.int .i64 x0_0, .int .i64 x0_1, .int .i64 x0_2, .int .i64 x0_3]] := HT
  refine ⟨_, rfl, nS, fun a HF => ?_⟩
  refine wm HF rfl rfl rfl fun a HF => ?_
  by_cases hb13 : y8 = true
  have h := ifp hb13 h
  refine wc_faddr HF nS rfl fl85_2 (HF.wy rfl rfl rfl rfl hb13) rfl fun a HF => ?_
  refine wc_load HF rfl sc3 ((HT.boxAt 0 rfl).get 2 rfl) (HF.wy rfl rfl rfl rfl hb13) rfl fun a HF => ?_
  obtain ⟨y9, hx11, h⟩ := obs h
  refine wc_call HF cf133 rfl (w_impl_isReg fuel hx11) (HF.wy rfl rfl rfl rfl hb13) rfl ?_
  rintro e w ⟨rfl, hE⟩
  have hb := hE.below
  have HT := HT.pure hE
  have HT : St w0 (fun _ => False) w [Box p1 [.int .i64 x0_0, .int .i64 x0_1, .int .i64 x0_2, .int .i64 x0_3]] := HT
  refine ⟨_, rfl, nS, fun a HF => ?_⟩
  refine wc_pick (b := true) HF nS rfl hb13 rfl rfl rfl fun a HF => ?_
  refine wm HF rfl rfl rfl fun a HF => ?_
  by_cases hb14 : y9 = true
  have h := ifp hb14 h
  refine wc_faddr HF nS rfl fl85_3 (HF.wy rfl rfl rfl rfl hb14) rfl fun a HF => ?_
  refine wc_load HF rfl sc3 ((HT.boxAt 0 rfl).get 3 rfl) (HF.wy rfl rfl rfl rfl hb14) rfl fun a HF => ?_
  refine wc_bin HF nS rfl rfl b_eq (HF.wy rfl rfl rfl rfl hb14) rfl fun a HF => ?_
  refine wc_pick (b := true) HF nS rfl hb14 rfl rfl rfl fun a HF => ?_
  refine wa HF rfl rfl rfl fun a HF => ?_
  refine wc_end (then_n (wp_ret ?_))
  obtain rfl := Option.some.inj h
  have h := retL hk1
  obtain rfl := Option.some.inj h
  refine blk_r (then_r (?_))
  refine bp_ret HF (res_one rfl HF rfl) ?_
  have HT := HT.t0
  exact ⟨rfl, HT⟩
  have h := ifn hb14 h
  refine wc_skip HF nS (HF.wn rfl rfl rfl rfl (Bool.eq_false_iff.2 hb14)) rfl fun a HF => ?_
  refine wc_skip HF nS (HF.wn rfl rfl rfl rfl (Bool.eq_false_iff.2 hb14)) rfl fun a HF => ?_
  refine wc_skip HF nS (HF.wn rfl rfl rfl rfl (Bool.eq_false_iff.2 hb14)) rfl fun a HF => ?_
  refine wc_pick (b := false) HF nS rfl (Bool.eq_false_iff.2 hb14) rfl rfl rfl fun a HF => ?_
  refine wa HF rfl rfl rfl fun a HF => ?_
  refine wc_end (then_n (wp_ret ?_))
  obtain rfl := Option.some.inj h
  have h := retL hk1
  obtain rfl := Option.some.inj h
  refine blk_r (then_r (?_))
  refine bp_ret HF (res_one rfl HF rfl) ?_
  have HT := HT.t0
  exact ⟨rfl, HT⟩
  have h := ifn hb13 h
  refine wc_skip HF nS (HF.wn rfl rfl rfl rfl (Bool.eq_false_iff.2 hb13)) rfl fun a HF => ?_
  refine wc_skip HF nS (HF.wn rfl rfl rfl rfl (Bool.eq_false_iff.2 hb13)) rfl fun a HF => ?_
  refine wc_skip HF nS (HF.wn rfl rfl rfl rfl (Bool.eq_false_iff.2 hb13)) rfl fun a HF => ?_
  refine wc_pick (b := false) HF nS rfl (Bool.eq_false_iff.2 hb13) rfl rfl rfl fun a HF => ?_
  refine wm HF rfl rfl rfl fun a HF => ?_
  refine wc_skip HF nS (HF.wn rfl rfl rfl rfl rfl) rfl fun a HF => ?_
  refine wc_skip HF nS (HF.wn rfl rfl rfl rfl rfl) rfl fun a HF => ?_
  refine wc_skip HF nS (HF.wn rfl rfl rfl rfl rfl) rfl fun a HF => ?_
  refine wc_pick (b := false) HF nS rfl rfl rfl rfl rfl fun a HF => ?_
  refine wa HF rfl rfl rfl fun a HF => ?_
  refine wc_end (then_n (wp_ret ?_))
  obtain rfl := Option.some.inj h
  have h := retL hk1
  obtain rfl := Option.some.inj h
  refine blk_r (then_r (?_))
  refine bp_ret HF (res_one rfl HF rfl) ?_
  have HT := HT.t0
  exact ⟨rfl, HT⟩
  have h := ifn hb12 h
  refine wp_if (b' := false) HF rfl (decide_eq_false hb12) ?_
  refine wp_seq (wc_text (wc_bin HF nS rfl rfl b_eq rfl rfl fun a HF => ?_))
  refine wa HF rfl rfl rfl fun a HF => ?_
  refine wc_end (then_n ?_)
  by_cases hb15 : x0_0 = 7
  have h := ifp hb15 h
  refine wp_if (b' := true) HF rfl (decide_eq_true hb15) ?_
  refine wp_seq (wc_text (wc_faddr HF nS rfl fl85_1 rfl rfl fun a HF => ?_))
  refine wc_load HF rfl sc3 ((HT.boxAt 0 rfl).get 1 rfl) rfl rfl fun a HF => ?_
  obtain ⟨y10, hx12, h⟩ := obs h
  refine wc_call HF cf133 rfl (w_impl_isReg fuel hx12) rfl rfl ?_
  rintro e w ⟨rfl, hE⟩
  have hb := hE.below
  have HT := HT.pure hE
  have HT : St w0 (fun _ => False) w [Box p1 [.int .i64 x0_0, .int .i64 x0_1, .int .i64 x0_2, .int .i64 x0_3]] := HT
  refine ⟨_, rfl, nS, fun a HF => ?_⟩
  refine wm HF rfl rfl rfl fun a HF => ?_
  by_cases hb16 : y10 = true
  have h := ifp hb16 h
  refine wc_faddr HF nS rfl fl85_2 (HF.wy rfl rfl rfl rfl hb16) rfl fun a HF => ?_
  refine wc_load HF rfl sc3 ((HT.boxAt 0 rfl).get 2 rfl) (HF.wy rfl rfl rfl rfl hb16) rfl fun a HF => ?_
  obtain ⟨y11, hx13, h⟩ := obs h
  refine wc_call HF cf98 rfl (w_impl_within fuel hx13) (HF.wy rfl rfl rfl rfl hb16) rfl ?_
  rintro e w ⟨rfl, hE⟩
  have hb := hE.below
  have HT := HT.pure hE
  have HT : St w0 (fun _ => False) w [Box p1 [.int .i64 x0_0, .int .i64 x0_1, .int .i64 x0_2, .int .i64 x0_3]] := HT
  refine ⟨_, rfl, nS, fun a HF => ?_⟩
  refine wc_pick (b := true) HF nS rfl hb16 rfl rfl rfl fun a HF => ?_
  refine wm HF rfl rfl rfl fun a HF => ?_
  by_cases hb17 : y11 = true
  have h := ifp hb17 h
  refine wc_faddr HF nS rfl fl85_3 (HF.wy rfl rfl rfl rfl hb17) rfl fun a HF => ?_
  refine wc_load HF rfl sc3 ((HT.boxAt 0 rfl).get 3 rfl) (HF.wy rfl rfl rfl rfl hb17) rfl fun a HF => ?_
  refine wc_bin HF nS rfl rfl b_eq (HF.wy rfl rfl rfl rfl hb17) rfl fun a HF => ?_
  refine wc_pick (b := true) HF nS rfl hb17 rfl rfl rfl fun a HF => ?_
  refine wa HF rfl rfl rfl fun a HF => ?_
  refine wc_end (then_n (wp_ret ?_))
  obtain rfl := Option.some.inj h
  have h := retL hk1
  obtain rfl := Option.some.inj h
  refine blk_r (then_r (?_))
  refine bp_ret HF (res_one rfl HF rfl) ?_
  have HT := HT.t0
  exact ⟨rfl, HT⟩
  have h := ifn hb17 h
  refine wc_skip HF nS (HF.wn rfl rfl rfl rfl (Bool.eq_false_iff.2 hb17)) rfl fun a HF => ?_
  refine wc_skip HF nS (HF.wn rfl rfl rfl rfl (Bool.eq_false_iff.2 hb17)) rfl fun a HF => ?_
  refine wc_skip HF nS (HF.wn rfl rfl rfl rfl (Bool.eq_false_iff.2 hb17)) rfl fun a HF => ?_
  refine wc_pick (b := false) HF nS rfl (Bool.eq_false_iff.2 hb17) rfl rfl rfl fun a HF => ?_
  refine wa HF rfl rfl rfl fun a HF => ?_
  refine wc_end (then_n (wp_ret ?_))
  obtain rfl := Option.some.inj h
  have h := retL hk1
  obtain rfl := Option.some.inj h
  refine blk_r (then_r (?_))
  refine bp_ret HF (res_one rfl HF rfl) ?_
  have HT := HT.t0
  exact ⟨rfl, HT⟩
  have h := ifn hb16 h
  refine wc_skip HF nS (HF.wn rfl rfl rfl rfl (Bool.eq_false_iff.2 hb16)) rfl fun a HF => ?_
  refine wc_skip HF nS (HF.wn rfl rfl rfl rfl (Bool.eq_false_iff.2 hb16)) rfl fun a HF => ?_
  refine wc_skip HF nS (HF.wn rfl rfl rfl rfl (Bool.eq_false_iff.2 hb16)) rfl fun a HF => ?_
  refine wc_pick (b := false) HF nS rfl (Bool.eq_false_iff.2 hb16) rfl rfl rfl fun a HF => ?_
  refine wm HF rfl rfl rfl fun a HF => ?_
  refine wc_skip HF nS (HF.wn rfl rfl rfl rfl rfl) rfl fun a HF => ?_
  refine wc_skip HF nS (HF.wn rfl rfl rfl rfl rfl) rfl fun a HF => ?_
  refine wc_skip HF nS (HF.wn rfl rfl rfl rfl rfl) rfl fun a HF => ?_
  refine wc_pick (b := false) HF nS rfl rfl rfl rfl rfl fun a HF => ?_
  refine wa HF rfl rfl rfl fun a HF => ?_
  refine wc_end (then_n (wp_ret ?_))
  obtain rfl := Option.some.inj h
  have h := retL hk1
  obtain rfl := Option.some.inj h
  refine blk_r (then_r (?_))
  refine bp_ret HF (res_one rfl HF rfl) ?_
  have HT := HT.t0
  exact ⟨rfl, HT⟩
  have h := ifn hb15 h
  refine wp_if (b' := false) HF rfl (decide_eq_false hb15) ?_
  obtain ⟨z2, hx14, h⟩ := obs h
  refine wp_cut (fun a w => Fr a 161 [(1, .pointer (some ⟨p1, 0, none⟩)), (4, .int .i64 x0_0), (82, .bool z2)] ∧ St w0 (fun _ => False) w [Box p1 [.int .i64 x0_0, .int .i64 x0_1, .int .i64 x0_2, .int .i64 x0_3]]) ?_ ?_
  have hk2 := h
  have h := hx14
  refine wp_seq (wc_text (wc_bin HF nS rfl rfl b_eq rfl rfl fun a HF => ?_))
  refine wa HF rfl rfl rfl fun a HF => ?_
  refine wc_end (then_n ?_)
  by_cases hb18 : x0_0 = 8
  have h := ifp hb18 h
  refine wp_if (b' := true) HF rfl (decide_eq_true hb18) ?_
  refine wp_skip ?_
  obtain rfl := Option.some.inj h
  exact then_n ⟨(HF.keep (HF.keep (HF.keep HF.nil rfl) rfl) rfl), HT⟩
  have h := ifn hb18 h
  refine wp_if (b' := false) HF rfl (decide_eq_false hb18) ?_
  refine wp_seq (wc_text (wc_bin HF nS rfl rfl b_eq rfl rfl fun a HF => ?_))
  refine wa HF rfl rfl rfl fun a HF => ?_
  refine wc_end (then_n ?_)
  by_cases hb19 : x0_0 = 15
  have h := ifp hb19 h
  refine wp_if (b' := true) HF rfl (decide_eq_true hb19) ?_
  refine wp_skip ?_
  obtain rfl := Option.some.inj h
  exact then_n ⟨(HF.keep (HF.keep (HF.keep HF.nil rfl) rfl) rfl), HT⟩
  have h := ifn hb19 h
  refine wp_if (b' := false) HF rfl (decide_eq_false hb19) ?_
  refine wc_text (wc_bin HF nS rfl rfl b_eq rfl rfl fun a HF => ?_)
  refine wa HF rfl rfl rfl fun a HF => ?_
  refine wc_end ?_
  obtain rfl := Option.some.inj h
  exact then_n ⟨(HF.keep (HF.keep (HF.keep HF.nil rfl) rfl) rfl), HT⟩
  rintro a w ⟨HF, HT⟩
  refine ?_
  by_cases hb20 : z2 = true
  have h := ifp hb20 h
  refine wp_if (b' := true) HF rfl hb20 ?_
  refine wp_seq (wc_text (wc_faddr HF nS rfl fl85_1 rfl rfl fun a HF => ?_))
  refine wc_load HF rfl sc3 ((HT.boxAt 0 rfl).get 1 rfl) rfl rfl fun a HF => ?_
  obtain ⟨y12, hx15, h⟩ := obs h
  refine wc_call HF cf133 rfl (w_impl_isReg fuel hx15) rfl rfl ?_
  rintro e w ⟨rfl, hE⟩
  have hb := hE.below
  have HT := HT.pure hE
  have HT : St w0 (fun _ => False) w [Box p1 [.int .i64 x0_0, .int .i64 x0_1, .int .i64 x0_2, .int .i64 x0_3]] := HT
  refine ⟨_, rfl, nS, fun a HF => ?_⟩
  refine wm HF rfl rfl rfl fun a HF => ?_
  by_cases hb21 : y12 = true
  have h := ifp hb21 h
  refine wc_faddr HF nS rfl fl85_2 (HF.wy rfl rfl rfl rfl hb21) rfl fun a HF => ?_
  refine wc_load HF rfl sc3 ((HT.boxAt 0 rfl).get 2 rfl) (HF.wy rfl rfl rfl rfl hb21) rfl fun a HF => ?_
  refine wc_bin HF nS rfl rfl b_eq (HF.wy rfl rfl rfl rfl hb21) rfl fun a HF => ?_
  refine wc_pick (b := true) HF nS rfl hb21 rfl rfl rfl fun a HF => ?_
  refine wm HF rfl rfl rfl fun a HF => ?_
  by_cases hb22 : x0_2 = 0
  have h := ifp hb22 h
  refine wc_faddr HF nS rfl fl85_3 (HF.wy rfl rfl rfl rfl (decide_eq_true hb22)) rfl fun a HF => ?_
  refine wc_load HF rfl sc3 ((HT.boxAt 0 rfl).get 3 rfl) (HF.wy rfl rfl rfl rfl (decide_eq_true hb22)) rfl fun a HF => ?_
  refine wc_bin HF nS rfl rfl b_eq (HF.wy rfl rfl rfl rfl (decide_eq_true hb22)) rfl fun a HF => ?_
  refine wc_pick (b := true) HF nS rfl (decide_eq_true hb22) rfl rfl rfl fun a HF => ?_
  refine wa HF rfl rfl rfl fun a HF => ?_
  refine wc_end (then_n (wp_ret ?_))
  obtain rfl := Option.some.inj h
  have h := retL hk1
  obtain rfl := Option.some.inj h
  refine blk_r (then_r (?_))
  refine bp_ret HF (res_one rfl HF rfl) ?_
  have HT := HT.t0
  exact ⟨rfl, HT⟩
  have h := ifn hb22 h
  refine wc_skip HF nS (HF.wn rfl rfl rfl rfl (decide_eq_false hb22)) rfl fun a HF => ?_
  refine wc_skip HF nS (HF.wn rfl rfl rfl rfl (decide_eq_false hb22)) rfl fun a HF => ?_
  refine wc_skip HF nS (HF.wn rfl rfl rfl rfl (decide_eq_false hb22)) rfl fun a HF => ?_
  refine wc_pick (b := false) HF nS rfl (decide_eq_false hb22) rfl rfl rfl fun a HF => ?_
  refine wa HF rfl rfl rfl fun a HF => ?_
  refine wc_end (then_n (wp_ret ?_))
  obtain rfl := Option.some.inj h
  have h := retL hk1
  obtain rfl := Option.some.inj h
  refine blk_r (then_r (?_))
  refine bp_ret HF (res_one rfl HF rfl) ?_
  have HT := HT.t0
  exact ⟨rfl, HT⟩
  have h := ifn hb21 h
  refine wc_skip HF nS (HF.wn rfl rfl rfl rfl (Bool.eq_false_iff.2 hb21)) rfl fun a HF => ?_
  refine wc_skip HF nS (HF.wn rfl rfl rfl rfl (Bool.eq_false_iff.2 hb21)) rfl fun a HF => ?_
  refine wc_skip HF nS (HF.wn rfl rfl rfl rfl (Bool.eq_false_iff.2 hb21)) rfl fun a HF => ?_
  refine wc_pick (b := false) HF nS rfl (Bool.eq_false_iff.2 hb21) rfl rfl rfl fun a HF => ?_
  refine wm HF rfl rfl rfl fun a HF => ?_
  refine wc_skip HF nS (HF.wn rfl rfl rfl rfl rfl) rfl fun a HF => ?_
  refine wc_skip HF nS (HF.wn rfl rfl rfl rfl rfl) rfl fun a HF => ?_
  refine wc_skip HF nS (HF.wn rfl rfl rfl rfl rfl) rfl fun a HF => ?_
  refine wc_pick (b := false) HF nS rfl rfl rfl rfl rfl fun a HF => ?_
  refine wa HF rfl rfl rfl fun a HF => ?_
  refine wc_end (then_n (wp_ret ?_))
  obtain rfl := Option.some.inj h
  have h := retL hk1
  obtain rfl := Option.some.inj h
  refine blk_r (then_r (?_))
  refine bp_ret HF (res_one rfl HF rfl) ?_
  have HT := HT.t0
  exact ⟨rfl, HT⟩
  have h := ifn hb20 h
  refine wp_if (b' := false) HF rfl (Bool.eq_false_iff.2 hb20) ?_
  obtain ⟨z3, hx16, h⟩ := obs h
  refine wp_cut (fun a w => Fr a 161 [(1, .pointer (some ⟨p1, 0, none⟩)), (4, .int .i64 x0_0), (99, .bool z3)] ∧ St w0 (fun _ => False) w [Box p1 [.int .i64 x0_0, .int .i64 x0_1, .int .i64 x0_2, .int .i64 x0_3]]) ?_ ?_
  have hk2 := h
  have h := hx16
  refine wp_seq (wc_text (wc_bin HF nS rfl rfl b_eq rfl rfl fun a HF => ?_))
  refine wa HF rfl rfl rfl fun a HF => ?_
  refine wc_end (then_n ?_)
  by_cases hb23 : x0_0 = 9
  have h := ifp hb23 h
  refine wp_if (b' := true) HF rfl (decide_eq_true hb23) ?_
  refine wp_skip ?_
  obtain rfl := Option.some.inj h
  exact then_n ⟨(HF.keep (HF.keep (HF.keep HF.nil rfl) rfl) rfl), HT⟩
  have h := ifn hb23 h
  refine wp_if (b' := false) HF rfl (decide_eq_false hb23) ?_
  refine wp_seq (wc_text (wc_bin HF nS rfl rfl b_eq rfl rfl fun a HF => ?_))
  refine wa HF rfl rfl rfl fun a HF => ?_
  refine wc_end (then_n ?_)
  by_cases hb24 : x0_0 = 10
  have h := ifp hb24 h
  refine wp_if (b' := true) HF rfl (decide_eq_true hb24) ?_
  refine wp_skip ?_
  obtain rfl := Option.some.inj h
  exact then_n ⟨(HF.keep (HF.keep (HF.keep HF.nil rfl) rfl) rfl), HT⟩
  have h := ifn hb24 h
  refine wp_if (b' := false) HF rfl (decide_eq_false hb24) ?_
  refine wc_text (wc_bin HF nS rfl rfl b_eq rfl rfl fun a HF => ?_)
  refine wa HF rfl rfl rfl fun a HF => ?_
  refine wc_end ?_
  obtain rfl := Option.some.inj h
  exact then_n ⟨(HF.keep (HF.keep (HF.keep HF.nil rfl) rfl) rfl), HT⟩
  rintro a w ⟨HF, HT⟩
  refine ?_
  by_cases hb25 : z3 = true
  have h := ifp hb25 h
  refine wp_if (b' := true) HF rfl hb25 ?_
  refine wp_seq (wc_text (wc_faddr HF nS rfl fl85_1 rfl rfl fun a HF => ?_))
  refine wc_load HF rfl sc3 ((HT.boxAt 0 rfl).get 1 rfl) rfl rfl fun a HF => ?_
  refine wc_bin HF nS rfl rfl b_eq rfl rfl fun a HF => ?_
  refine wm HF rfl rfl rfl fun a HF => ?_
  by_cases hb26 : x0_1 = 0
  have h := ifp hb26 h
  refine wc_faddr HF nS rfl fl85_2 (HF.wy rfl rfl rfl rfl (decide_eq_true hb26)) rfl fun a HF => ?_
  refine wc_load HF rfl sc3 ((HT.boxAt 0 rfl).get 2 rfl) (HF.wy rfl rfl rfl rfl (decide_eq_true hb26)) rfl fun a HF => ?_
  refine wc_bin HF nS rfl rfl b_eq (HF.wy rfl rfl rfl rfl (decide_eq_true hb26)) rfl fun a HF => ?_
  refine wc_pick (b := true) HF nS rfl (decide_eq_true hb26) rfl rfl rfl fun a HF => ?_
  refine wm HF rfl rfl rfl fun a HF => ?_
  by_cases hb27 : x0_2 = 0
  have h := ifp hb27 h
  refine wc_faddr HF nS rfl fl85_3 (HF.wy rfl rfl rfl rfl (decide_eq_true hb27)) rfl fun a HF => ?_
  refine wc_load HF rfl sc3 ((HT.boxAt 0 rfl).get 3 rfl) (HF.wy rfl rfl rfl rfl (decide_eq_true hb27)) rfl fun a HF => ?_
  refine wc_bin HF nS rfl rfl b_eq (HF.wy rfl rfl rfl rfl (decide_eq_true hb27)) rfl fun a HF => ?_
  refine wc_pick (b := true) HF nS rfl (decide_eq_true hb27) rfl rfl rfl fun a HF => ?_
  refine wa HF rfl rfl rfl fun a HF => ?_
  refine wc_end (then_n (wp_ret ?_))
  obtain rfl := Option.some.inj h
  have h := retL hk1
  obtain rfl := Option.some.inj h
  refine blk_r (then_r (?_))
  refine bp_ret HF (res_one rfl HF rfl) ?_
  have HT := HT.t0
  exact ⟨rfl, HT⟩
  have h := ifn hb27 h
  refine wc_skip HF nS (HF.wn rfl rfl rfl rfl (decide_eq_false hb27)) rfl fun a HF => ?_
  refine wc_skip HF nS (HF.wn rfl rfl rfl rfl (decide_eq_false hb27)) rfl fun a HF => ?_
  refine wc_skip HF nS (HF.wn rfl rfl rfl rfl (decide_eq_false hb27)) rfl fun a HF => ?_
  refine wc_pick (b := false) HF nS rfl (decide_eq_false hb27) rfl rfl rfl fun a HF => ?_
  refine wa HF rfl rfl rfl fun a HF => ?_
  refine wc_end (then_n (wp_ret ?_))
  obtain rfl := Option.some.inj h
  have h := retL hk1
  obtain rfl := Option.some.inj h
  refine blk_r (then_r (?_))
  refine bp_ret HF (res_one rfl HF rfl) ?_
  have HT := HT.t0
  exact ⟨rfl, HT⟩
  have h := ifn hb26 h
  refine wc_skip HF nS (HF.wn rfl rfl rfl rfl (decide_eq_false hb26)) rfl fun a HF => ?_
  refine wc_skip HF nS (HF.wn rfl rfl rfl rfl (decide_eq_false hb26)) rfl fun a HF => ?_
  refine wc_skip HF nS (HF.wn rfl rfl rfl rfl (decide_eq_false hb26)) rfl fun a HF => ?_
  refine wc_pick (b := false) HF nS rfl (decide_eq_false hb26) rfl rfl rfl fun a HF => ?_
  refine wm HF rfl rfl rfl fun a HF => ?_
  refine wc_skip HF nS (HF.wn rfl rfl rfl rfl rfl) rfl fun a HF => ?_
  refine wc_skip HF nS (HF.wn rfl rfl rfl rfl rfl) rfl fun a HF => ?_
  refine wc_skip HF nS (HF.wn rfl rfl rfl rfl rfl) rfl fun a HF => ?_
  refine wc_pick (b := false) HF nS rfl rfl rfl rfl rfl fun a HF => ?_
  refine wa HF rfl rfl rfl fun a HF => ?_
  refine wc_end (then_n (wp_ret ?_))
  obtain rfl := Option.some.inj h
  have h := retL hk1
  obtain rfl := Option.some.inj h
  refine blk_r (then_r (?_))
  refine bp_ret HF (res_one rfl HF rfl) ?_
  have HT := HT.t0
  exact ⟨rfl, HT⟩
  have h := ifn hb25 h
  refine wp_if (b' := false) HF rfl (Bool.eq_false_iff.2 hb25) ?_
  refine wp_seq (wc_text (wc_bin HF nS rfl rfl b_eq rfl rfl fun a HF => ?_))
  refine wa HF rfl rfl rfl fun a HF => ?_
  refine wc_end (then_n ?_)
  by_cases hb28 : x0_0 = 12
  have h := ifp hb28 h
  refine wp_if (b' := true) HF rfl (decide_eq_true hb28) ?_
  refine wp_seq (wc_text (wc_faddr HF nS rfl fl85_1 rfl rfl fun a HF => ?_))
  refine wc_load HF rfl sc3 ((HT.boxAt 0 rfl).get 1 rfl) rfl rfl fun a HF => ?_
  obtain ⟨y13, hx17, h⟩ := obs h
  refine wc_call HF cf135 rfl (w_impl_isKey fuel hx17) rfl rfl ?_
  rintro e w ⟨rfl, hE⟩
  have hb := hE.below
  have HT := HT.pure hE
  have HT : St w0 (fun _ => False) w [Box p1 [.int .i64 x0_0, .int .i64 x0_1, .int .i64 x0_2, .int .i64 x0_3]] := HT
  refine ⟨_, rfl, nS, fun a HF => ?_⟩
  refine wm HF rfl rfl rfl fun a HF => ?_
  by_cases hb29 : y13 = true
  have h := ifp hb29 h
  refine wc_faddr HF nS rfl fl85_2 (HF.wy rfl rfl rfl rfl hb29) rfl fun a HF => ?_
  refine wc_load HF rfl sc3 ((HT.boxAt 0 rfl).get 2 rfl) (HF.wy rfl rfl rfl rfl hb29) rfl fun a HF => ?_
  obtain ⟨y14, hx18, h⟩ := obs h
  refine wc_call HF cf133 rfl (w_impl_isReg fuel hx18) (HF.wy rfl rfl rfl rfl hb29) rfl ?_
  rintro e w ⟨rfl, hE⟩
  have hb := hE.below
  have HT := HT.pure hE
  have HT : St w0 (fun _ => False) w [Box p1 [.int .i64 x0_0, .int .i64 x0_1, .int .i64 x0_2, .int .i64 x0_3]] := HT
  refine ⟨_, rfl, nS, fun a HF => ?_⟩
  refine wc_pick (b := true) HF nS rfl hb29 rfl rfl rfl fun a HF => ?_
  refine wm HF rfl rfl rfl fun a HF => ?_
  by_cases hb30 : y14 = true
  have h := ifp hb30 h
  refine wc_faddr HF nS rfl fl85_3 (HF.wy rfl rfl rfl rfl hb30) rfl fun a HF => ?_
  refine wc_load HF rfl sc3 ((HT.boxAt 0 rfl).get 3 rfl) (HF.wy rfl rfl rfl rfl hb30) rfl fun a HF => ?_
  obtain ⟨y15, hx19, h⟩ := obs h
  refine wc_call HF cf133 rfl (w_impl_isReg fuel hx19) (HF.wy rfl rfl rfl rfl hb30) rfl ?_
  rintro e w ⟨rfl, hE⟩
  have hb := hE.below
  have HT := HT.pure hE
  have HT : St w0 (fun _ => False) w [Box p1 [.int .i64 x0_0, .int .i64 x0_1, .int .i64 x0_2, .int .i64 x0_3]] := HT
  refine ⟨_, rfl, nS, fun a HF => ?_⟩
  refine wc_pick (b := true) HF nS rfl hb30 rfl rfl rfl fun a HF => ?_
  refine wa HF rfl rfl rfl fun a HF => ?_
  refine wc_end (then_n (wp_ret ?_))
  obtain rfl := Option.some.inj h
  have h := retL hk1
  obtain rfl := Option.some.inj h
  refine blk_r (then_r (?_))
  refine bp_ret HF (res_one rfl HF rfl) ?_
  have HT := HT.t0
  exact ⟨rfl, HT⟩
  have h := ifn hb30 h
  refine wc_skip HF nS (HF.wn rfl rfl rfl rfl (Bool.eq_false_iff.2 hb30)) rfl fun a HF => ?_
  refine wc_skip HF nS (HF.wn rfl rfl rfl rfl (Bool.eq_false_iff.2 hb30)) rfl fun a HF => ?_
  refine wc_skip HF nS (HF.wn rfl rfl rfl rfl (Bool.eq_false_iff.2 hb30)) rfl fun a HF => ?_
  refine wc_pick (b := false) HF nS rfl (Bool.eq_false_iff.2 hb30) rfl rfl rfl fun a HF => ?_
  refine wa HF rfl rfl rfl fun a HF => ?_
  refine wc_end (then_n (wp_ret ?_))
  obtain rfl := Option.some.inj h
  have h := retL hk1
  obtain rfl := Option.some.inj h
  refine blk_r (then_r (?_))
  refine bp_ret HF (res_one rfl HF rfl) ?_
  have HT := HT.t0
  exact ⟨rfl, HT⟩
  have h := ifn hb29 h
  refine wc_skip HF nS (HF.wn rfl rfl rfl rfl (Bool.eq_false_iff.2 hb29)) rfl fun a HF => ?_
  refine wc_skip HF nS (HF.wn rfl rfl rfl rfl (Bool.eq_false_iff.2 hb29)) rfl fun a HF => ?_
  refine wc_skip HF nS (HF.wn rfl rfl rfl rfl (Bool.eq_false_iff.2 hb29)) rfl fun a HF => ?_
  refine wc_pick (b := false) HF nS rfl (Bool.eq_false_iff.2 hb29) rfl rfl rfl fun a HF => ?_
  refine wm HF rfl rfl rfl fun a HF => ?_
  refine wc_skip HF nS (HF.wn rfl rfl rfl rfl rfl) rfl fun a HF => ?_
  refine wc_skip HF nS (HF.wn rfl rfl rfl rfl rfl) rfl fun a HF => ?_
  refine wc_skip HF nS (HF.wn rfl rfl rfl rfl rfl) rfl fun a HF => ?_
  refine wc_pick (b := false) HF nS rfl rfl rfl rfl rfl fun a HF => ?_
  refine wa HF rfl rfl rfl fun a HF => ?_
  refine wc_end (then_n (wp_ret ?_))
  obtain rfl := Option.some.inj h
  have h := retL hk1
  obtain rfl := Option.some.inj h
  refine blk_r (then_r (?_))
  refine bp_ret HF (res_one rfl HF rfl) ?_
  have HT := HT.t0
  exact ⟨rfl, HT⟩
  have h := ifn hb28 h
  refine wp_if (b' := false) HF rfl (decide_eq_false hb28) ?_
  refine wp_seq (wc_text (wc_bin HF nS rfl rfl b_eq rfl rfl fun a HF => ?_))
  refine wa HF rfl rfl rfl fun a HF => ?_
  refine wc_end (then_n ?_)
  by_cases hb31 : x0_0 = 13
  have h := ifp hb31 h
  refine wp_if (b' := true) HF rfl (decide_eq_true hb31) ?_
  refine wp_seq (wc_text (wc_faddr HF nS rfl fl85_1 rfl rfl fun a HF => ?_))
  refine wc_load HF rfl sc3 ((HT.boxAt 0 rfl).get 1 rfl) rfl rfl fun a HF => ?_
  obtain ⟨y16, hx20, h⟩ := obs h
  refine wc_call HF cf133 rfl (w_impl_isReg fuel hx20) rfl rfl ?_
  rintro e w ⟨rfl, hE⟩
  have hb := hE.below
  have HT := HT.pure hE
  have HT : St w0 (fun _ => False) w [Box p1 [.int .i64 x0_0, .int .i64 x0_1, .int .i64 x0_2, .int .i64 x0_3]] := HT
  refine ⟨_, rfl, nS, fun a HF => ?_⟩
  refine wm HF rfl rfl rfl fun a HF => ?_
  by_cases hb32 : y16 = true
  have h := ifp hb32 h
  refine wc_faddr HF nS rfl fl85_2 (HF.wy rfl rfl rfl rfl hb32) rfl fun a HF => ?_
  refine wc_load HF rfl sc3 ((HT.boxAt 0 rfl).get 2 rfl) (HF.wy rfl rfl rfl rfl hb32) rfl fun a HF => ?_
  obtain ⟨y17, hx21, h⟩ := obs h
  refine wc_call HF cf135 rfl (w_impl_isKey fuel hx21) (HF.wy rfl rfl rfl rfl hb32) rfl ?_
  rintro e w ⟨rfl, hE⟩
  have hb := hE.below
  have HT := HT.pure hE
  have HT : St w0 (fun _ => False) w [Box p1 [.int .i64 x0_0, .int .i64 x0_1, .int .i64 x0_2, .int .i64 x0_3]] := HT
  refine ⟨_, rfl, nS, fun a HF => ?_⟩
  refine wc_pick (b := true) HF nS rfl hb32 rfl rfl rfl fun a HF => ?_
  refine wm HF rfl rfl rfl fun a HF => ?_
  by_cases hb33 : y17 = true
  have h := ifp hb33 h
  refine wc_faddr HF nS rfl fl85_3 (HF.wy rfl rfl rfl rfl hb33) rfl fun a HF => ?_
  refine wc_load HF rfl sc3 ((HT.boxAt 0 rfl).get 3 rfl) (HF.wy rfl rfl rfl rfl hb33) rfl fun a HF => ?_
  refine wc_bin HF nS rfl rfl b_eq (HF.wy rfl rfl rfl rfl hb33) rfl fun a HF => ?_
  refine wc_pick (b := true) HF nS rfl hb33 rfl rfl rfl fun a HF => ?_
  refine wa HF rfl rfl rfl fun a HF => ?_
  refine wc_end (then_n (wp_ret ?_))
  obtain rfl := Option.some.inj h
  have h := retL hk1
  obtain rfl := Option.some.inj h
  refine blk_r (then_r (?_))
  refine bp_ret HF (res_one rfl HF rfl) ?_
  have HT := HT.t0
  exact ⟨rfl, HT⟩
  have h := ifn hb33 h
  refine wc_skip HF nS (HF.wn rfl rfl rfl rfl (Bool.eq_false_iff.2 hb33)) rfl fun a HF => ?_
  refine wc_skip HF nS (HF.wn rfl rfl rfl rfl (Bool.eq_false_iff.2 hb33)) rfl fun a HF => ?_
  refine wc_skip HF nS (HF.wn rfl rfl rfl rfl (Bool.eq_false_iff.2 hb33)) rfl fun a HF => ?_
  refine wc_pick (b := false) HF nS rfl (Bool.eq_false_iff.2 hb33) rfl rfl rfl fun a HF => ?_
  refine wa HF rfl rfl rfl fun a HF => ?_
  refine wc_end (then_n (wp_ret ?_))
  obtain rfl := Option.some.inj h
  have h := retL hk1
  obtain rfl := Option.some.inj h
  refine blk_r (then_r (?_))
  refine bp_ret HF (res_one rfl HF rfl) ?_
  have HT := HT.t0
  exact ⟨rfl, HT⟩
  have h := ifn hb32 h
  refine wc_skip HF nS (HF.wn rfl rfl rfl rfl (Bool.eq_false_iff.2 hb32)) rfl fun a HF => ?_
  refine wc_skip HF nS (HF.wn rfl rfl rfl rfl (Bool.eq_false_iff.2 hb32)) rfl fun a HF => ?_
  refine wc_skip HF nS (HF.wn rfl rfl rfl rfl (Bool.eq_false_iff.2 hb32)) rfl fun a HF => ?_
  refine wc_pick (b := false) HF nS rfl (Bool.eq_false_iff.2 hb32) rfl rfl rfl fun a HF => ?_
  refine wm HF rfl rfl rfl fun a HF => ?_
  refine wc_skip HF nS (HF.wn rfl rfl rfl rfl rfl) rfl fun a HF => ?_
  refine wc_skip HF nS (HF.wn rfl rfl rfl rfl rfl) rfl fun a HF => ?_
  refine wc_skip HF nS (HF.wn rfl rfl rfl rfl rfl) rfl fun a HF => ?_
  refine wc_pick (b := false) HF nS rfl rfl rfl rfl rfl fun a HF => ?_
  refine wa HF rfl rfl rfl fun a HF => ?_
  refine wc_end (then_n (wp_ret ?_))
  obtain rfl := Option.some.inj h
  have h := retL hk1
  obtain rfl := Option.some.inj h
  refine blk_r (then_r (?_))
  refine bp_ret HF (res_one rfl HF rfl) ?_
  have HT := HT.t0
  exact ⟨rfl, HT⟩
  have h := ifn hb31 h
  refine wp_if (b' := false) HF rfl (decide_eq_false hb31) ?_
  refine wp_seq (wc_text (wc_bin HF nS rfl rfl b_eq rfl rfl fun a HF => ?_))
  refine wa HF rfl rfl rfl fun a HF => ?_
  refine wc_end (then_n ?_)
  by_cases hb34 : x0_0 = 14
  have h := ifp hb34 h
  refine wp_if (b' := true) HF rfl (decide_eq_true hb34) ?_
  refine wp_seq (wc_text (wc_faddr HF nS rfl fl85_1 rfl rfl fun a HF => ?_))
  refine wc_load HF rfl sc3 ((HT.boxAt 0 rfl).get 1 rfl) rfl rfl fun a HF => ?_
  obtain ⟨y18, hx22, h⟩ := obs h
  refine wc_call HF cf135 rfl (w_impl_isKey fuel hx22) rfl rfl ?_
  rintro e w ⟨rfl, hE⟩
  have hb := hE.below
  have HT := HT.pure hE
  have HT : St w0 (fun _ => False) w [Box p1 [.int .i64 x0_0, .int .i64 x0_1, .int .i64 x0_2, .int .i64 x0_3]] := HT
  refine ⟨_, rfl, nS, fun a HF => ?_⟩
  refine wm HF rfl rfl rfl fun a HF => ?_
  by_cases hb35 : y18 = true
  have h := ifp hb35 h
  refine wc_faddr HF nS rfl fl85_2 (HF.wy rfl rfl rfl rfl hb35) rfl fun a HF => ?_
  refine wc_load HF rfl sc3 ((HT.boxAt 0 rfl).get 2 rfl) (HF.wy rfl rfl rfl rfl hb35) rfl fun a HF => ?_
  obtain ⟨y19, hx23, h⟩ := obs h
  refine wc_call HF cf133 rfl (w_impl_isReg fuel hx23) (HF.wy rfl rfl rfl rfl hb35) rfl ?_
  rintro e w ⟨rfl, hE⟩
  have hb := hE.below
  have HT := HT.pure hE
  have HT : St w0 (fun _ => False) w [Box p1 [.int .i64 x0_0, .int .i64 x0_1, .int .i64 x0_2, .int .i64 x0_3]] := HT
  refine ⟨_, rfl, nS, fun a HF => ?_⟩
  refine wc_pick (b := true) HF nS rfl hb35 rfl rfl rfl fun a HF => ?_
  refine wm HF rfl rfl rfl fun a HF => ?_
  by_cases hb36 : y19 = true
  have h := ifp hb36 h
  refine wc_faddr HF nS rfl fl85_3 (HF.wy rfl rfl rfl rfl hb36) rfl fun a HF => ?_
  refine wc_load HF rfl sc3 ((HT.boxAt 0 rfl).get 3 rfl) (HF.wy rfl rfl rfl rfl hb36) rfl fun a HF => ?_
  refine wc_bin HF nS rfl rfl b_eq (HF.wy rfl rfl rfl rfl hb36) rfl fun a HF => ?_
  refine wc_pick (b := true) HF nS rfl hb36 rfl rfl rfl fun a HF => ?_
  refine wa HF rfl rfl rfl fun a HF => ?_
  refine wc_end (then_n (wp_ret ?_))
  obtain rfl := Option.some.inj h
  have h := retL hk1
  obtain rfl := Option.some.inj h
  refine blk_r (then_r (?_))
  refine bp_ret HF (res_one rfl HF rfl) ?_
  have HT := HT.t0
  exact ⟨rfl, HT⟩
  have h := ifn hb36 h
  refine wc_skip HF nS (HF.wn rfl rfl rfl rfl (Bool.eq_false_iff.2 hb36)) rfl fun a HF => ?_
  refine wc_skip HF nS (HF.wn rfl rfl rfl rfl (Bool.eq_false_iff.2 hb36)) rfl fun a HF => ?_
  refine wc_skip HF nS (HF.wn rfl rfl rfl rfl (Bool.eq_false_iff.2 hb36)) rfl fun a HF => ?_
  refine wc_pick (b := false) HF nS rfl (Bool.eq_false_iff.2 hb36) rfl rfl rfl fun a HF => ?_
  refine wa HF rfl rfl rfl fun a HF => ?_
  refine wc_end (then_n (wp_ret ?_))
  obtain rfl := Option.some.inj h
  have h := retL hk1
  obtain rfl := Option.some.inj h
  refine blk_r (then_r (?_))
  refine bp_ret HF (res_one rfl HF rfl) ?_
  have HT := HT.t0
  exact ⟨rfl, HT⟩
  have h := ifn hb35 h
  refine wc_skip HF nS (HF.wn rfl rfl rfl rfl (Bool.eq_false_iff.2 hb35)) rfl fun a HF => ?_
  refine wc_skip HF nS (HF.wn rfl rfl rfl rfl (Bool.eq_false_iff.2 hb35)) rfl fun a HF => ?_
  refine wc_skip HF nS (HF.wn rfl rfl rfl rfl (Bool.eq_false_iff.2 hb35)) rfl fun a HF => ?_
  refine wc_pick (b := false) HF nS rfl (Bool.eq_false_iff.2 hb35) rfl rfl rfl fun a HF => ?_
  refine wm HF rfl rfl rfl fun a HF => ?_
  refine wc_skip HF nS (HF.wn rfl rfl rfl rfl rfl) rfl fun a HF => ?_
  refine wc_skip HF nS (HF.wn rfl rfl rfl rfl rfl) rfl fun a HF => ?_
  refine wc_skip HF nS (HF.wn rfl rfl rfl rfl rfl) rfl fun a HF => ?_
  refine wc_pick (b := false) HF nS rfl rfl rfl rfl rfl fun a HF => ?_
  refine wa HF rfl rfl rfl fun a HF => ?_
  refine wc_end (then_n (wp_ret ?_))
  obtain rfl := Option.some.inj h
  have h := retL hk1
  obtain rfl := Option.some.inj h
  refine blk_r (then_r (?_))
  refine bp_ret HF (res_one rfl HF rfl) ?_
  have HT := HT.t0
  exact ⟨rfl, HT⟩
  have h := ifn hb34 h
  refine wp_if (b' := false) HF rfl (decide_eq_false hb34) ?_
  refine wp_skip (blk_n ?_)
  have HT := HT.t0
  exact then_n ⟨(Option.some.inj h).symm, HF.nil, HT⟩
  rintro a w ⟨rfl, HF, HT⟩
  have h := brkL1u h
  refine ?_
  refine wp_seq (wc_text (wa HF rfl rfl rfl fun a HF => ?_))
  refine wc_end (then_n (wp_ret ?_))
  obtain rfl := Option.some.inj h
  refine bp_ret HF (res_one rfl HF rfl) ?_
  exact ⟨rfl, HT⟩

def m_impl_isBalanced_L0 (fuel : Nat) (x0 : List I4) : Nat → Int → Int → Option (Lp Int Bool)
  | 0, _, _ => none
  | k1 + 1, z2, z3 =>
    if z3 < (x0.length : Int) then
      (at? x0 z3).bind fun e1 =>
      (m_impl_opens fuel e1.a e1.b e1.c e1.d).bind fun y1 =>
      if in64 (z2 + y1) then
        if (z2 + y1) < 0 then
          some (.ret false)
        else
        if in64 (z3 + 1) then
          m_impl_isBalanced_L0 fuel x0 k1 (z2 + y1) (z3 + 1)
        else none
      else none
    else
    some (.brk z2)

def m_impl_isBalanced (fuel : Nat) (x0 : List I4) : Option Bool :=
  (m_impl_isBalanced_L0 fuel x0 fuel 0 0).bind <| contL <| un1 fun z1 =>
  some (decide (z1 = 0))

set_option maxRecDepth 100000 in
set_option maxHeartbeats 4000000 in
theorem w_impl_isBalanced (fuel : Nat) {x0 : List I4} {a_x0 : Option Addr} {n_x0 c_x0 : Nat} {r0 : Bool} {w0 : World} (h : m_impl_isBalanced fuel x0 = some r0) (hr_x0 : RdT (fun b => ¬ False) w0 (rowT x0) (.slice a_x0 n_x0 c_x0)) :
    Calls Try.prog 121 #[.slice a_x0 n_x0 c_x0] w0 fun e w => e = .returned (.bool r0) ∧ St w0 (fun _ => False) w [] := by
  obtain rfl := hr_x0.neq
  have HT : St w0 (fun _ => False) w0 [] := St.init0
  rw [m_impl_isBalanced] at h
  refine calls_fr (n := 21) [.slice a_x0 x0.length c_x0] Try.func121 rfl rfl rfl fun a HF => ?_
  have HT : St w0 (fun _ => False) w0 [] := HT
  refine wp_seq (wc_text (wa HF rfl rfl rfl fun a HF => ?_))
  refine wc_end (then_n (wp_seq (wc_text (wa HF rfl rfl rfl fun a HF => ?_))))
  refine wc_end (then_n ?_)
  obtain ⟨q1, hx1, h⟩ := obs h
  refine wp_cut (fun a w => ∃ z1, q1 = .brk z1 ∧ Fr a 21 [(3, .int .i64 z1)] ∧ St w0 (fun _ => False) w []) ?_ ?_
  have hk1 := h
  have h := hx1
  refine wp_seq (wc_text (wm HF rfl rfl rfl fun a HF => ?_))
  refine wc_lenR HF nS Try.underlying36 rfl rfl rfl fun a HF => ?_
  refine wm HF rfl rfl rfl fun a HF => ?_
  refine wc_end (then_n (wp_block (wp_loopN (fun k1 a w => ∃ z2 z3, m_impl_isBalanced_L0 fuel x0 k1 z2 z3 = some q1 ∧ Fr a 21 [(3, .int .i64 z2), (6, .slice a_x0 x0.length c_x0), (7, .int .i64 (x0.length : Int)), (8, .int .i64 z3)] ∧ St w0 (fun _ => False) w []) fuel ⟨0, 0, h, (HF.keep (HF.keep (HF.keep (HF.keep HF.nil rfl) rfl) rfl) rfl), HT⟩ ?_)))
  rintro k1 a w ⟨z2, z3, h, HF, HT⟩
  rcases k1 with _ | k1
  cases h
  rw [m_impl_isBalanced_L0] at h
  refine ?_
  refine wp_seq (wc_text (wc_bin HF nS rfl rfl b_lt rfl rfl fun a HF => ?_))
  refine wc_end (then_n (wp_seq ?_))
  by_cases hb1 : z3 < (x0.length : Int)
  have h := ifp hb1 h
  refine wp_if (b' := true) HF rfl (decide_eq_true hb1) ?_
  refine wp_skip (then_n (wp_seq (wp_block (wp_seq (wc_text ?_)))))
  obtain ⟨e1, hx2, h⟩ := obs h
  obtain ⟨b1, o1, ha1⟩ := (HT.ro hr_x0).any.addr hx2
  refine wc_ixaddr HF nS el36 rfl ha1 ((HT.ro hr_x0).any).neq rfl hx2 rfl rfl fun a HF => ?_
  have hc1 := (HT.ro hr_x0).any.flatAt ha1 hx2
  refine wc_loadA (vs := [.int .i64 e1.a, .int .i64 e1.b, .int .i64 e1.c, .int .i64 e1.d]) HF rfl ag85 rfl (hc1.part 0 4) rfl rfl fun a HF => ?_
  refine wc_alloc (cs := [.int .i64 0, .int .i64 0, .int .i64 0, .int .i64 0]) HF HT zr85 rfl rfl rfl (fun p1 w HT hb => ⟨nS, fun a HF => ?_⟩)
  refine wc_storeB (cs' := [.int .i64 e1.a, .int .i64 e1.b, .int .i64 e1.c, .int .i64 e1.d]) HF HT rfl rfl (fun w => (ag85 w).2) rfl rfl rfl rfl rfl (fun w HT => ⟨nS, ?_⟩)
  refine wc_end (then_n (wp_seq (wc_text (wm HF rfl rfl rfl fun a HF => ?_))))
  refine wc_loadA (vs := [.int .i64 e1.a, .int .i64 e1.b, .int .i64 e1.c, .int .i64 e1.d]) HF rfl ag85 rfl ((HT.boxAt 0 rfl).part 0 4) rfl rfl fun a HF => ?_
  obtain ⟨y1, hx3, h⟩ := obs h
  refine wc_call HF cf123 rfl (w_impl_opens fuel hx3) rfl rfl ?_
  rintro e w ⟨rfl, hE⟩
  have hb := hE.below
  have HT := HT.pure hE
  have HT : St w0 (fun _ => False) w [Box p1 [.int .i64 e1.a, .int .i64 e1.b, .int .i64 e1.c, .int .i64 e1.d]] := HT
  refine ⟨_, rfl, nS, fun a HF => ?_⟩
  obtain ⟨hg1, h⟩ := grd h
  refine wc_bin HF nS rfl rfl (b_add hg1) rfl rfl fun a HF => ?_
  refine wa HF rfl rfl rfl fun a HF => ?_
  refine wc_end (then_n (wp_seq (wc_text (wm HF rfl rfl rfl fun a HF => ?_))))
  refine wc_bin HF nS rfl rfl b_lt rfl rfl fun a HF => ?_
  refine wc_end (then_n ?_)
  by_cases hb2 : (z2 + y1) < 0
  have h := ifp hb2 h
  refine wp_if (b' := true) HF rfl (decide_eq_true hb2) ?_
  refine wp_seq (wc_text (wa HF rfl rfl rfl fun a HF => ?_))
  refine wc_end (then_n (wp_ret ?_))
  obtain rfl := Option.some.inj h
  have h := retL hk1
  obtain rfl := Option.some.inj h
  refine blk_r (then_r (then_r (blk_r (then_r (?_)))))
  refine bp_ret HF (res_one rfl HF rfl) ?_
  have HT := HT.t0
  exact ⟨rfl, HT⟩
  have h := ifn hb2 h
  refine wp_if (b' := false) HF rfl (decide_eq_false hb2) ?_
  refine wp_skip (blk_n (then_n (wc_text ?_)))
  obtain ⟨hg2, h⟩ := grd h
  refine wc_bin HF nS rfl rfl (b_add hg2) rfl rfl fun a HF => ?_
  refine wm HF rfl rfl rfl fun a HF => ?_
  refine wc_end ?_
  have HT := HT.t0
  exact then_n ⟨k1, Nat.lt_succ_self k1, z2 + y1, z3 + 1, h, (HF.keep (HF.keep (HF.keep (HF.keep HF.nil rfl) rfl) rfl) rfl), HT⟩
  have h := ifn hb1 h
  refine wp_if (b' := false) HF rfl (decide_eq_false hb1) ?_
  refine wp_exit ?_
  refine then_x (then_x (?_))
  refine blk_x ?_
  exact then_n ⟨z2, (Option.some.inj h).symm, (HF.keep HF.nil rfl), HT⟩
  rintro a w ⟨z1, rfl, HF, HT⟩
  have h := brkL1u h
  refine ?_
  refine wp_seq (wc_text (wm HF rfl rfl rfl fun a HF => ?_))
  refine wc_bin HF nS rfl rfl b_eq rfl rfl fun a HF => ?_
  refine wa HF rfl rfl rfl fun a HF => ?_
  refine wc_end (then_n (wp_ret ?_))
  obtain rfl := Option.some.inj h
  refine bp_ret HF (res_one rfl HF rfl) ?_
  exact ⟨rfl, HT⟩

def m_impl_CodeOk_L0 (fuel : Nat) (x0 : List I4) : Nat → Int → Int → Option (Lp Unit Bool)
  | 0, _, _ => none
  | k1 + 1, z1, z2 =>
    if z2 < (x0.length : Int) then
      (
        (at? x0 z2).bind fun e1 =>
        (m_impl_OpOk fuel e1.a e1.b e1.c e1.d).bind fun y2 =>
        if y2 = true then
          if e1.a = 7 then
            if in64 (z2 + 1) then
              if in64 ((z2 + 1) + e1.c) then
                if (x0.length : Int) < ((z2 + 1) + e1.c) then
                  some (.ret false)
                else
                if in64 (z2 + 1) then
                  if in64 (z2 + 1) then
                    if in64 ((z2 + 1) + e1.c) then
                      if 0 ≤ (z2 + 1 : Int) ∧ (z2 + 1 : Int) ≤ ((z2 + 1) + e1.c) ∧ ((z2 + 1) + e1.c) ≤ (x0.length : Int) then
                        (m_impl_isBalanced fuel (subl x0 (z2 + 1) ((z2 + 1) + e1.c))).bind fun y3 =>
                        if y3 = true then
                          some (.brk z1)
                        else
                        some (.ret false)
                      else none
                    else none
                  else none
                else none
              else none
            else none
          else
          if e1.a = 11 then
            if in64 (z1 + 1) then
              if 1 < (z1 + 1) then
                some (.ret false)
              else
              (m_impl_DepthAt fuel x0 z2).bind fun y4 =>
              if y4 = 0 then
                some (.brk (z1 + 1))
              else
              some (.ret false)
            else none
          else
          some (.brk z1)
        else
        some (.ret false)).bind <| contM <| un1 fun z3 =>
      if in64 (z2 + 1) then
        m_impl_CodeOk_L0 fuel x0 k1 z3 (z2 + 1)
      else none
    else
    some (.brk ())

def m_impl_CodeOk (fuel : Nat) (x0 : List I4) : Option Bool :=
  if 24 < (x0.length : Int) then
    some false
  else
  (m_impl_isBalanced fuel x0).bind fun y1 =>
  if y1 = true then
    (m_impl_CodeOk_L0 fuel x0 fuel 0 0).bind <| contL <| un1 fun _ =>
    some true
  else
  some false

set_option maxRecDepth 100000 in
set_option maxHeartbeats 4000000 in
theorem w_impl_CodeOk (fuel : Nat) {x0 : List I4} {a_x0 : Option Addr} {n_x0 c_x0 : Nat} {r0 : Bool} {w0 : World} (h : m_impl_CodeOk fuel x0 = some r0) (hr_x0 : RdT (fun b => ¬ False) w0 (rowT x0) (.slice a_x0 n_x0 c_x0)) :
    Calls Try.prog 102 #[.slice a_x0 n_x0 c_x0] w0 fun e w => e = .returned (.bool r0) ∧ St w0 (fun _ => False) w [] := by
  obtain rfl := hr_x0.neq
  have HT : St w0 (fun _ => False) w0 [] := St.init0
  rw [m_impl_CodeOk] at h
  refine calls_fr (n := 62) [.slice a_x0 x0.length c_x0] Try.func102 rfl rfl rfl fun a HF => ?_
  have HT : St w0 (fun _ => False) w0 [] := HT
  refine wp_seq (wc_text (wa HF rfl rfl rfl fun a HF => ?_))
  refine wc_end (then_n (wp_seq (wp_seq (wc_text (wm HF rfl rfl rfl fun a HF => ?_)))))
  refine wc_lenR HF nS Try.underlying36 rfl rfl rfl fun a HF => ?_
  refine wc_bin HF nS rfl rfl b_gt rfl rfl fun a HF => ?_
  refine wm HF rfl rfl rfl fun a HF => ?_
  by_cases hb1 : 24 < (x0.length : Int)
  have h := ifp hb1 h
  refine wc_skip HF nS (HF.wn rfl rfl rfl rfl (decide_eq_true hb1)) rfl fun a HF => ?_
  refine wc_skip HF nS (HF.wn rfl rfl rfl rfl (decide_eq_true hb1)) rfl fun a HF => ?_
  refine wc_skip HF nS (HF.wn rfl rfl rfl rfl (decide_eq_true hb1)) rfl fun a HF => ?_
  refine wc_pick (b := true) HF nS rfl (decide_eq_true hb1) rfl rfl rfl fun a HF => ?_
  refine wc_end (then_n (wp_if (b' := true) HF rfl rfl ?_))
  refine wp_seq (wc_text (wa HF rfl rfl rfl fun a HF => ?_))
  refine wc_end (then_n (wp_ret ?_))
  obtain rfl := Option.some.inj h
  refine then_r (?_)
  refine bp_ret HF (res_one rfl HF rfl) ?_
  exact ⟨rfl, HT⟩
  have h := ifn hb1 h
  refine wc_move HF nS rfl (HF.wy rfl rfl rfl rfl (decide_eq_false hb1)) rfl fun a HF => ?_
  obtain ⟨y1, hx1, h⟩ := obs h
  refine wc_call HF cf121 rfl (w_impl_isBalanced fuel hx1 (HT.ro hr_x0).any) (HF.wy rfl rfl rfl rfl (decide_eq_false hb1)) rfl ?_
  rintro e w ⟨rfl, hE⟩
  have hb := hE.below
  have HT := HT.pure hE
  have HT : St w0 (fun _ => False) w [] := HT
  refine ⟨_, rfl, nS, fun a HF => ?_⟩
  refine wc_not HF nS rfl (HF.wy rfl rfl rfl rfl (decide_eq_false hb1)) rfl fun a HF => ?_
  refine wc_pick (b := false) HF nS rfl (decide_eq_false hb1) rfl rfl rfl fun a HF => ?_
  refine wc_end (then_n ?_)
  by_cases hb2 : y1 = true
  have h := ifp hb2 h
  refine wp_if (b' := false) HF rfl (notT hb2) ?_
  refine wp_skip (then_n (wp_seq (wc_text (wa HF rfl rfl rfl fun a HF => ?_))))
  refine wc_end (then_n ?_)
  obtain ⟨q1, hx2, h⟩ := obs h
  refine wp_cut (fun a w => q1 = .brk () ∧ Fr a 62 [] ∧ St w0 (fun _ => False) w []) ?_ ?_
  have hk1 := h
  have h := hx2
  refine wp_seq (wc_text (wm HF rfl rfl rfl fun a HF => ?_))
  refine wc_lenR HF nS Try.underlying36 rfl rfl rfl fun a HF => ?_
  refine wm HF rfl rfl rfl fun a HF => ?_
  refine wc_end (then_n (wp_block (wp_loopN (fun k1 a w => ∃ z1 z2, m_impl_CodeOk_L0 fuel x0 k1 z1 z2 = some q1 ∧ Fr a 62 [(0, .slice a_x0 x0.length c_x0), (3, .int .i64 z1), (14, .slice a_x0 x0.length c_x0), (15, .int .i64 (x0.length : Int)), (16, .int .i64 z2)] ∧ St w0 (fun _ => False) w []) fuel ⟨0, 0, h, (HF.keep (HF.keep (HF.keep (HF.keep (HF.keep HF.nil rfl) rfl) rfl) rfl) rfl), HT⟩ ?_)))
  rintro k1 a w ⟨z1, z2, h, HF, HT⟩
  rcases k1 with _ | k1
  cases h
  rw [m_impl_CodeOk_L0] at h
  refine ?_
  refine wp_seq (wc_text (wc_bin HF nS rfl rfl b_lt rfl rfl fun a HF => ?_))
  refine wc_end (then_n (wp_seq ?_))
  by_cases hb3 : z2 < (x0.length : Int)
  have h := ifp hb3 h
  refine wp_if (b' := true) HF rfl (decide_eq_true hb3) ?_
  refine wp_skip (then_n ?_)
  obtain ⟨q2, hx3, h⟩ := obs h
  refine wp_cut (fun a w => ∃ z3, q2 = .brk z3 ∧ Fr a 62 [(0, .slice a_x0 x0.length c_x0), (3, .int .i64 z3), (14, .slice a_x0 x0.length c_x0), (15, .int .i64 (x0.length : Int)), (16, .int .i64 z2)] ∧ St w0 (fun _ => False) w []) ?_ ?_
  have hk2 := h
  have h := hx3
  refine wp_block (wp_seq (wc_text (wm HF rfl rfl rfl fun a HF => ?_)))
  obtain ⟨e1, hx4, h⟩ := obs h
  obtain ⟨b1, o1, ha1⟩ := (HT.ro hr_x0).any.addr hx4
  refine wc_ixaddr HF nS el36 rfl ha1 ((HT.ro hr_x0).any).neq rfl hx4 rfl rfl fun a HF => ?_
  have hc1 := (HT.ro hr_x0).any.flatAt ha1 hx4
  refine wc_loadA (vs := [.int .i64 e1.a, .int .i64 e1.b, .int .i64 e1.c, .int .i64 e1.d]) HF rfl ag85 rfl (hc1.part 0 4) rfl rfl fun a HF => ?_
  refine wc_alloc (cs := [.int .i64 0, .int .i64 0, .int .i64 0, .int .i64 0]) HF HT zr85 rfl rfl rfl (fun p1 w HT hb => ⟨nS, fun a HF => ?_⟩)
  refine wa HF rfl rfl rfl fun a HF => ?_
  refine wc_storeB (cs' := [.int .i64 e1.a, .int .i64 e1.b, .int .i64 e1.c, .int .i64 e1.d]) HF HT rfl rfl (fun w => (ag85 w).2) rfl rfl rfl rfl rfl (fun w HT => ⟨nS, ?_⟩)
  refine wc_end (then_n (wp_seq (wp_seq (wc_text (wc_loadA (vs := [.int .i64 e1.a, .int .i64 e1.b, .int .i64 e1.c, .int .i64 e1.d]) HF rfl ag85 rfl ((HT.boxAt 0 rfl).part 0 4) rfl rfl fun a HF => ?_)))))
  obtain ⟨y2, hx5, h⟩ := obs h
  refine wc_call HF cf120 rfl (w_impl_OpOk fuel hx5) rfl rfl ?_
  rintro e w ⟨rfl, hE⟩
  have hb := hE.below
  have HT := HT.pure hE
  have HT : St w0 (fun _ => False) w [Box p1 [.int .i64 e1.a, .int .i64 e1.b, .int .i64 e1.c, .int .i64 e1.d]] := HT
  refine ⟨_, rfl, nS, fun a HF => ?_⟩
  refine wc_not HF nS rfl rfl rfl fun a HF => ?_
  refine wc_end (then_n ?_)
  by_cases hb4 : y2 = true
  have h := ifp hb4 h
  refine wp_if (b' := false) HF rfl (notT hb4) ?_
  refine wp_skip (then_n (wp_seq (wc_text (wc_faddr HF nS rfl fl85_0 rfl rfl fun a HF => ?_))))
  refine wc_load HF rfl sc3 ((HT.boxAt 0 rfl).get 0 rfl) rfl rfl fun a HF => ?_
  refine wc_end (then_n (wp_block (wp_seq (wc_text (wc_bin HF nS rfl rfl b_eq rfl rfl fun a HF => ?_)))))
  refine wa HF rfl rfl rfl fun a HF => ?_
  refine wc_end (then_n ?_)
  by_cases hb5 : e1.a = 7
  have h := ifp hb5 h
  refine wp_if (b' := true) HF rfl (decide_eq_true hb5) ?_
  refine wp_seq (wc_text (wm HF rfl rfl rfl fun a HF => ?_))
  obtain ⟨hg1, h⟩ := grd h
  refine wc_bin HF nS rfl rfl (b_add hg1) rfl rfl fun a HF => ?_
  refine wc_faddr HF nS rfl fl85_2 rfl rfl fun a HF => ?_
  refine wc_load HF rfl sc3 ((HT.boxAt 0 rfl).get 2 rfl) rfl rfl fun a HF => ?_
  obtain ⟨hg2, h⟩ := grd h
  refine wc_bin HF nS rfl rfl (b_add hg2) rfl rfl fun a HF => ?_
  refine wm HF rfl rfl rfl fun a HF => ?_
  refine wc_lenR HF nS Try.underlying36 rfl rfl rfl fun a HF => ?_
  refine wc_bin HF nS rfl rfl b_gt rfl rfl fun a HF => ?_
  refine wm HF rfl rfl rfl fun a HF => ?_
  by_cases hb6 : (x0.length : Int) < ((z2 + 1) + e1.c)
  have h := ifp hb6 h
  refine wc_skip HF nS (HF.wn rfl rfl rfl rfl (decide_eq_true hb6)) rfl fun a HF => ?_
  refine wc_skip HF nS (HF.wn rfl rfl rfl rfl (decide_eq_true hb6)) rfl fun a HF => ?_
  refine wc_skip HF nS (HF.wn rfl rfl rfl rfl (decide_eq_true hb6)) rfl fun a HF => ?_
  refine wc_skip HF nS (HF.wn rfl rfl rfl rfl (decide_eq_true hb6)) rfl fun a HF => ?_
  refine wc_skip HF nS (HF.wn rfl rfl rfl rfl (decide_eq_true hb6)) rfl fun a HF => ?_
  refine wc_skip HF nS (HF.wn rfl rfl rfl rfl (decide_eq_true hb6)) rfl fun a HF => ?_
  refine wc_skip HF nS (HF.wn rfl rfl rfl rfl (decide_eq_true hb6)) rfl fun a HF => ?_
  refine wc_skip HF nS (HF.wn rfl rfl rfl rfl (decide_eq_true hb6)) rfl fun a HF => ?_
  refine wc_skip HF nS (HF.wn rfl rfl rfl rfl (decide_eq_true hb6)) rfl fun a HF => ?_
  refine wc_skip HF nS (HF.wn rfl rfl rfl rfl (decide_eq_true hb6)) rfl fun a HF => ?_
  refine wc_skip HF nS (HF.wn rfl rfl rfl rfl (decide_eq_true hb6)) rfl fun a HF => ?_
  refine wc_pick (b := true) HF nS rfl (decide_eq_true hb6) rfl rfl rfl fun a HF => ?_
  refine wc_end (then_n (wp_if (b' := true) HF rfl rfl ?_))
  refine wp_seq (wc_text (wa HF rfl rfl rfl fun a HF => ?_))
  refine wc_end (then_n (wp_ret ?_))
  obtain rfl := Option.some.inj h
  have h := retM hk2
  obtain rfl := Option.some.inj h
  have h := retL hk1
  obtain rfl := Option.some.inj h
  refine blk_r (blk_r (then_r (then_r (blk_r (then_r (?_))))))
  refine bp_ret HF (res_one rfl HF rfl) ?_
  have HT := HT.t0
  exact ⟨rfl, HT⟩
  have h := ifn hb6 h
  refine wc_move HF nS rfl (HF.wy rfl rfl rfl rfl (decide_eq_false hb6)) rfl fun a HF => ?_
  refine wc_move HF nS rfl (HF.wy rfl rfl rfl rfl (decide_eq_false hb6)) rfl fun a HF => ?_
  obtain ⟨hg3, h⟩ := grd h
  refine wc_bin HF nS rfl rfl (b_add hg3) (HF.wy rfl rfl rfl rfl (decide_eq_false hb6)) rfl fun a HF => ?_
  refine wc_move HF nS rfl (HF.wy rfl rfl rfl rfl (decide_eq_false hb6)) rfl fun a HF => ?_
  obtain ⟨hg4, h⟩ := grd h
  refine wc_bin HF nS rfl rfl (b_add hg4) (HF.wy rfl rfl rfl rfl (decide_eq_false hb6)) rfl fun a HF => ?_
  refine wc_faddr HF nS rfl fl85_2 (HF.wy rfl rfl rfl rfl (decide_eq_false hb6)) rfl fun a HF => ?_
  refine wc_load HF rfl sc3 ((HT.boxAt 0 rfl).get 2 rfl) (HF.wy rfl rfl rfl rfl (decide_eq_false hb6)) rfl fun a HF => ?_
  obtain ⟨hg5, h⟩ := grd h
  refine wc_bin HF nS rfl rfl (b_add hg5) (HF.wy rfl rfl rfl rfl (decide_eq_false hb6)) rfl fun a HF => ?_
  obtain ⟨hg6, h⟩ := grd h
  obtain ⟨a1, c1, hr1, hcut⟩ := RdT.cutI hr_x0 (hg6 : 0 ≤ (z2 + 1 : Int) ∧ (z2 + 1 : Int) ≤ ((z2 + 1) + e1.c) ∧ ((z2 + 1) + e1.c) ≤ (x0.length : Int))
  refine wc_slrLH HF nS el36 rfl rfl rfl hcut (HF.wy rfl rfl rfl rfl (decide_eq_false hb6)) rfl fun a HF => ?_
  obtain ⟨y3, hx6, h⟩ := obs h
  refine wc_call HF cf121 rfl (w_impl_isBalanced fuel hx6 (HT.ro hr1).any) (HF.wy rfl rfl rfl rfl (decide_eq_false hb6)) rfl ?_
  rintro e w ⟨rfl, hE⟩
  have hb := hE.below
  have HT := HT.pure hE
  have HT : St w0 (fun _ => False) w [Box p1 [.int .i64 e1.a, .int .i64 e1.b, .int .i64 e1.c, .int .i64 e1.d]] := HT
  refine ⟨_, rfl, nS, fun a HF => ?_⟩
  refine wc_not HF nS rfl (HF.wy rfl rfl rfl rfl (decide_eq_false hb6)) rfl fun a HF => ?_
  refine wc_pick (b := false) HF nS rfl (decide_eq_false hb6) rfl rfl rfl fun a HF => ?_
  refine wc_end (then_n ?_)
  by_cases hb7 : y3 = true
  have h := ifp hb7 h
  refine wp_if (b' := false) HF rfl (notT hb7) ?_
  refine wp_skip (blk_n (blk_n ?_))
  have HT := HT.t0
  exact then_n ⟨z1, (Option.some.inj h).symm, (HF.keep (HF.keep (HF.keep (HF.keep (HF.keep HF.nil rfl) rfl) rfl) rfl) rfl), HT⟩
  have h := ifn hb7 h
  refine wp_if (b' := true) HF rfl (notF (Bool.eq_false_iff.2 hb7)) ?_
  refine wp_seq (wc_text (wa HF rfl rfl rfl fun a HF => ?_))
  refine wc_end (then_n (wp_ret ?_))
  obtain rfl := Option.some.inj h
  have h := retM hk2
  obtain rfl := Option.some.inj h
  have h := retL hk1
  obtain rfl := Option.some.inj h
  refine blk_r (blk_r (then_r (then_r (blk_r (then_r (?_))))))
  refine bp_ret HF (res_one rfl HF rfl) ?_
  have HT := HT.t0
  exact ⟨rfl, HT⟩
  have h := ifn hb5 h
  refine wp_if (b' := false) HF rfl (decide_eq_false hb5) ?_
  refine wp_seq (wc_text (wc_bin HF nS rfl rfl b_eq rfl rfl fun a HF => ?_))
  refine wa HF rfl rfl rfl fun a HF => ?_
  refine wc_end (then_n ?_)
  by_cases hb8 : e1.a = 11
  have h := ifp hb8 h
  refine wp_if (b' := true) HF rfl (decide_eq_true hb8) ?_
  refine wp_seq (wc_text (wm HF rfl rfl rfl fun a HF => ?_))
  obtain ⟨hg7, h⟩ := grd h
  refine wc_bin HF nS rfl rfl (b_add hg7) rfl rfl fun a HF => ?_
  refine wa HF rfl rfl rfl fun a HF => ?_
  refine wc_end (then_n (wp_seq (wc_text (wm HF rfl rfl rfl fun a HF => ?_))))
  refine wc_bin HF nS rfl rfl b_gt rfl rfl fun a HF => ?_
  refine wm HF rfl rfl rfl fun a HF => ?_
  by_cases hb9 : 1 < (z1 + 1)
  have h := ifp hb9 h
  refine wc_skip HF nS (HF.wn rfl rfl rfl rfl (decide_eq_true hb9)) rfl fun a HF => ?_
  refine wc_skip HF nS (HF.wn rfl rfl rfl rfl (decide_eq_true hb9)) rfl fun a HF => ?_
  refine wc_skip HF nS (HF.wn rfl rfl rfl rfl (decide_eq_true hb9)) rfl fun a HF => ?_
  refine wc_skip HF nS (HF.wn rfl rfl rfl rfl (decide_eq_true hb9)) rfl fun a HF => ?_
  refine wc_pick (b := true) HF nS rfl (decide_eq_true hb9) rfl rfl rfl fun a HF => ?_
  refine wc_end (then_n (wp_if (b' := true) HF rfl rfl ?_))
  refine wp_seq (wc_text (wa HF rfl rfl rfl fun a HF => ?_))
  refine wc_end (then_n (wp_ret ?_))
  obtain rfl := Option.some.inj h
  have h := retM hk2
  obtain rfl := Option.some.inj h
  have h := retL hk1
  obtain rfl := Option.some.inj h
  refine blk_r (blk_r (then_r (then_r (blk_r (then_r (?_))))))
  refine bp_ret HF (res_one rfl HF rfl) ?_
  have HT := HT.t0
  exact ⟨rfl, HT⟩
  have h := ifn hb9 h
  refine wc_move HF nS rfl (HF.wy rfl rfl rfl rfl (decide_eq_false hb9)) rfl fun a HF => ?_
  refine wc_move HF nS rfl (HF.wy rfl rfl rfl rfl (decide_eq_false hb9)) rfl fun a HF => ?_
  obtain ⟨y4, hx7, h⟩ := obs h
  refine wc_call HF cf122 rfl (w_impl_DepthAt fuel hx7 (HT.ro hr_x0).any) (HF.wy rfl rfl rfl rfl (decide_eq_false hb9)) rfl ?_
  rintro e w ⟨rfl, hE⟩
  have hb := hE.below
  have HT := HT.pure hE
  have HT : St w0 (fun _ => False) w [Box p1 [.int .i64 e1.a, .int .i64 e1.b, .int .i64 e1.c, .int .i64 e1.d]] := HT
  refine ⟨_, rfl, nS, fun a HF => ?_⟩
  refine wc_bin HF nS rfl rfl b_ne (HF.wy rfl rfl rfl rfl (decide_eq_false hb9)) rfl fun a HF => ?_
  refine wc_pick (b := false) HF nS rfl (decide_eq_false hb9) rfl rfl rfl fun a HF => ?_
  refine wc_end (then_n ?_)
  by_cases hb10 : y4 = 0
  have h := ifp hb10 h
  refine wp_if (b' := false) HF rfl (notT (decide_eq_true hb10)) ?_
  refine wp_skip (blk_n (blk_n ?_))
  have HT := HT.t0
  exact then_n ⟨z1 + 1, (Option.some.inj h).symm, (HF.keep (HF.keep (HF.keep (HF.keep (HF.keep HF.nil rfl) rfl) rfl) rfl) rfl), HT⟩
  have h := ifn hb10 h
  refine wp_if (b' := true) HF rfl (notF (decide_eq_false hb10)) ?_
  refine wp_seq (wc_text (wa HF rfl rfl rfl fun a HF => ?_))
  refine wc_end (then_n (wp_ret ?_))
  obtain rfl := Option.some.inj h
  have h := retM hk2
  obtain rfl := Option.some.inj h
  have h := retL hk1
  obtain rfl := Option.some.inj h
  refine blk_r (blk_r (then_r (then_r (blk_r (then_r (?_))))))
  refine bp_ret HF (res_one rfl HF rfl) ?_
  have HT := HT.t0
  exact ⟨rfl, HT⟩
  have h := ifn hb8 h
  refine wp_if (b' := false) HF rfl (decide_eq_false hb8) ?_
  refine wp_skip (blk_n (blk_n ?_))
  have HT := HT.t0
  exact then_n ⟨z1, (Option.some.inj h).symm, (HF.keep (HF.keep (HF.keep (HF.keep (HF.keep HF.nil rfl) rfl) rfl) rfl) rfl), HT⟩
  have h := ifn hb4 h
  refine wp_if (b' := true) HF rfl (notF (Bool.eq_false_iff.2 hb4)) ?_
  refine wp_seq (wc_text (wa HF rfl rfl rfl fun a HF => ?_))
  refine wc_end (then_n (wp_ret ?_))
  obtain rfl := Option.some.inj h
  have h := retM hk2
  obtain rfl := Option.some.inj h
  have h := retL hk1
  obtain rfl := Option.some.inj h
  refine then_r (blk_r (then_r (then_r (blk_r (then_r (?_))))))
  refine bp_ret HF (res_one rfl HF rfl) ?_
  have HT := HT.t0
  exact ⟨rfl, HT⟩
  rintro a w ⟨z3, rfl, HF, HT⟩
  have h := brkM1u h
  refine ?_
  refine wc_text ?_
  obtain ⟨hg8, h⟩ := grd h
  refine wc_bin HF nS rfl rfl (b_add hg8) rfl rfl fun a HF => ?_
  refine wm HF rfl rfl rfl fun a HF => ?_
  exact wc_end (then_n ⟨k1, Nat.lt_succ_self k1, z3, z2 + 1, h, (HF.keep (HF.keep (HF.keep (HF.keep (HF.keep HF.nil rfl) rfl) rfl) rfl) rfl), HT⟩)
  have h := ifn hb3 h
  refine wp_if (b' := false) HF rfl (decide_eq_false hb3) ?_
  refine wp_exit ?_
  refine then_x (then_x (?_))
  refine blk_x ?_
  exact then_n ⟨(Option.some.inj h).symm, HF.nil, HT⟩
  rintro a w ⟨rfl, HF, HT⟩
  have h := brkL1u h
  refine ?_
  refine wp_seq (wc_text (wa HF rfl rfl rfl fun a HF => ?_))
  refine wc_end (then_n (wp_ret ?_))
  obtain rfl := Option.some.inj h
  refine bp_ret HF (res_one rfl HF rfl) ?_
  exact ⟨rfl, HT⟩
  have h := ifn hb2 h
  refine wp_if (b' := true) HF rfl (notF (Bool.eq_false_iff.2 hb2)) ?_
  refine wp_seq (wc_text (wa HF rfl rfl rfl fun a HF => ?_))
  refine wc_end (then_n (wp_ret ?_))
  obtain rfl := Option.some.inj h
  refine then_r (?_)
  refine bp_ret HF (res_one rfl HF rfl) ?_
  exact ⟨rfl, HT⟩

def m_impl_Touches (fuel : Nat) (x0_0 : Int) (x0_1 : Int) (x0_2 : Int) (x0_3 : Int) : Option Int :=
  (m_impl_OpOk fuel x0_0 x0_1 x0_2 x0_3).bind fun y1 =>
  if y1 = true then
    (
      (
        if x0_0 = 5 then
          some (decide (x0_0 = 5))
        else
        some (decide (x0_0 = 6))).bind fun z1 =>
      if z1 = true then
        some (.ret 1)
      else
      (
        if x0_0 = 12 then
          some (decide (x0_0 = 12))
        else
        if x0_0 = 13 then
          some (decide (x0_0 = 13))
        else
        if x0_0 = 14 then
          some (decide (x0_0 = 14))
        else
        if x0_0 = 15 then
          some (decide (x0_0 = 15))
        else
        some (decide (x0_0 = 16))).bind fun z2 =>
      if z2 = true then
        some (.ret 2)
      else
      some (.brk ())).bind <| contL <| un1 fun _ =>
    some 0
  else
  some 0

set_option maxRecDepth 100000 in
set_option maxHeartbeats 4000000 in
theorem w_impl_Touches (fuel : Nat) {x0_0 : Int} {x0_1 : Int} {x0_2 : Int} {x0_3 : Int} {r0 : Int} {w0 : World} (h : m_impl_Touches fuel x0_0 x0_1 x0_2 x0_3 = some r0) :
    Calls Try.prog 101 #[.agg #[.int .i64 x0_0, .int .i64 x0_1, .int .i64 x0_2, .int .i64 x0_3]] w0 fun e w => e = .returned (.int .i64 r0) ∧ St w0 (fun _ => False) w [] := by
  have HT : St w0 (fun _ => False) w0 [] := St.init0
  rw [m_impl_Touches] at h
  refine calls_fr (n := 17) [.agg #[.int .i64 x0_0, .int .i64 x0_1, .int .i64 x0_2, .int .i64 x0_3]] Try.func101 rfl rfl rfl fun a HF => ?_
  have HT : St w0 (fun _ => False) w0 [] := HT
  refine wp_seq (wc_text (wc_box (cs := [.int .i64 x0_0, .int .i64 x0_1, .int .i64 x0_2, .int .i64 x0_3]) HF HT rfl rfl rfl rfl (fun p1 w HT hb => ⟨nS, fun a HF => ?_⟩)))
  refine wa HF rfl rfl rfl fun a HF => ?_
  refine wc_end (then_n (wp_seq (wp_seq (wc_text (wc_loadA (vs := [.int .i64 x0_0, .int .i64 x0_1, .int .i64 x0_2, .int .i64 x0_3]) HF rfl ag85 rfl ((HT.boxAt 0 rfl).part 0 4) rfl rfl fun a HF => ?_)))))
  obtain ⟨y1, hx1, h⟩ := obs h
  refine wc_call HF cf120 rfl (w_impl_OpOk fuel hx1) rfl rfl ?_
  rintro e w ⟨rfl, hE⟩
  have hb := hE.below
  have HT := HT.pure hE
  have HT : St w0 (fun _ => False) w [Box p1 [.int .i64 x0_0, .int .i64 x0_1, .int .i64 x0_2, .int .i64 x0_3]] := HT
  refine ⟨_, rfl, nS, fun a HF => ?_⟩
  refine wc_not HF nS rfl rfl rfl fun a HF => ?_
  refine wc_end (then_n ?_)
  by_cases hb1 : y1 = true
  have h := ifp hb1 h
  refine wp_if (b' := false) HF rfl (notT hb1) ?_
  refine wp_skip (then_n ?_)
  obtain ⟨q1, hx2, h⟩ := obs h
  refine wp_cut (fun a w => q1 = .brk () ∧ Fr a 17 [] ∧ St w0 (fun _ => False) w []) ?_ ?_
  have hk1 := h
  have h := hx2
  refine wp_seq (wc_text (wc_faddr HF nS rfl fl85_0 rfl rfl fun a HF => ?_))
  refine wc_load HF rfl sc3 ((HT.boxAt 0 rfl).get 0 rfl) rfl rfl fun a HF => ?_
  refine wc_end (then_n (wp_block ?_))
  obtain ⟨z1, hx3, h⟩ := obs h
  refine wp_cut (fun a w => Fr a 17 [(7, .int .i64 x0_0), (8, .bool z1)] ∧ St w0 (fun _ => False) w []) ?_ ?_
  have hk2 := h
  have h := hx3
  refine wp_seq (wc_text (wc_bin HF nS rfl rfl b_eq rfl rfl fun a HF => ?_))
  refine wa HF rfl rfl rfl fun a HF => ?_
  refine wc_end (then_n ?_)
  by_cases hb2 : x0_0 = 5
  have h := ifp hb2 h
  refine wp_if (b' := true) HF rfl (decide_eq_true hb2) ?_
  refine wp_skip ?_
  have HT := HT.t0
  obtain rfl := Option.some.inj h
  exact then_n ⟨(HF.keep (HF.keep HF.nil rfl) rfl), HT⟩
  have h := ifn hb2 h
  refine wp_if (b' := false) HF rfl (decide_eq_false hb2) ?_
  refine wc_text (wc_bin HF nS rfl rfl b_eq rfl rfl fun a HF => ?_)
  refine wa HF rfl rfl rfl fun a HF => ?_
  refine wc_end ?_
  have HT := HT.t0
  obtain rfl := Option.some.inj h
  exact then_n ⟨(HF.keep (HF.keep HF.nil rfl) rfl), HT⟩
  rintro a w ⟨HF, HT⟩
  refine ?_
  by_cases hb3 : z1 = true
  have h := ifp hb3 h
  refine wp_if (b' := true) HF rfl hb3 ?_
  refine wp_seq (wc_text (wa HF rfl rfl rfl fun a HF => ?_))
  refine wc_end (then_n (wp_ret ?_))
  obtain rfl := Option.some.inj h
  have h := retL hk1
  obtain rfl := Option.some.inj h
  refine blk_r (then_r (?_))
  refine bp_ret HF (res_one rfl HF rfl) ?_
  exact ⟨rfl, HT⟩
  have h := ifn hb3 h
  refine wp_if (b' := false) HF rfl (Bool.eq_false_iff.2 hb3) ?_
  obtain ⟨z2, hx4, h⟩ := obs h
  refine wp_cut (fun a w => Fr a 17 [(11, .bool z2)] ∧ St w0 (fun _ => False) w []) ?_ ?_
  have hk2 := h
  have h := hx4
  refine wp_seq (wc_text (wc_bin HF nS rfl rfl b_eq rfl rfl fun a HF => ?_))
  refine wa HF rfl rfl rfl fun a HF => ?_
  refine wc_end (then_n ?_)
  by_cases hb4 : x0_0 = 12
  have h := ifp hb4 h
  refine wp_if (b' := true) HF rfl (decide_eq_true hb4) ?_
  refine wp_skip ?_
  obtain rfl := Option.some.inj h
  exact then_n ⟨(HF.keep HF.nil rfl), HT⟩
  have h := ifn hb4 h
  refine wp_if (b' := false) HF rfl (decide_eq_false hb4) ?_
  refine wp_seq (wc_text (wc_bin HF nS rfl rfl b_eq rfl rfl fun a HF => ?_))
  refine wa HF rfl rfl rfl fun a HF => ?_
  refine wc_end (then_n ?_)
  by_cases hb5 : x0_0 = 13
  have h := ifp hb5 h
  refine wp_if (b' := true) HF rfl (decide_eq_true hb5) ?_
  refine wp_skip ?_
  obtain rfl := Option.some.inj h
  exact then_n ⟨(HF.keep HF.nil rfl), HT⟩
  have h := ifn hb5 h
  refine wp_if (b' := false) HF rfl (decide_eq_false hb5) ?_
  refine wp_seq (wc_text (wc_bin HF nS rfl rfl b_eq rfl rfl fun a HF => ?_))
  refine wa HF rfl rfl rfl fun a HF => ?_
  refine wc_end (then_n ?_)
  by_cases hb6 : x0_0 = 14
  have h := ifp hb6 h
  refine wp_if (b' := true) HF rfl (decide_eq_true hb6) ?_
  refine wp_skip ?_
  obtain rfl := Option.some.inj h
  exact then_n ⟨(HF.keep HF.nil rfl), HT⟩
  have h := ifn hb6 h
  refine wp_if (b' := false) HF rfl (decide_eq_false hb6) ?_
  refine wp_seq (wc_text (wc_bin HF nS rfl rfl b_eq rfl rfl fun a HF => ?_))
  refine wa HF rfl rfl rfl fun a HF => ?_
  refine wc_end (then_n ?_)
  by_cases hb7 : x0_0 = 15
  have h := ifp hb7 h
  refine wp_if (b' := true) HF rfl (decide_eq_true hb7) ?_
  refine wp_skip ?_
  obtain rfl := Option.some.inj h
  exact then_n ⟨(HF.keep HF.nil rfl), HT⟩
  have h := ifn hb7 h
  refine wp_if (b' := false) HF rfl (decide_eq_false hb7) ?_
  refine wc_text (wc_bin HF nS rfl rfl b_eq rfl rfl fun a HF => ?_)
  refine wa HF rfl rfl rfl fun a HF => ?_
  refine wc_end ?_
  obtain rfl := Option.some.inj h
  exact then_n ⟨(HF.keep HF.nil rfl), HT⟩
  rintro a w ⟨HF, HT⟩
  refine ?_
  by_cases hb8 : z2 = true
  have h := ifp hb8 h
  refine wp_if (b' := true) HF rfl hb8 ?_
  refine wp_seq (wc_text (wa HF rfl rfl rfl fun a HF => ?_))
  refine wc_end (then_n (wp_ret ?_))
  obtain rfl := Option.some.inj h
  have h := retL hk1
  obtain rfl := Option.some.inj h
  refine blk_r (then_r (?_))
  refine bp_ret HF (res_one rfl HF rfl) ?_
  exact ⟨rfl, HT⟩
  have h := ifn hb8 h
  refine wp_if (b' := false) HF rfl (Bool.eq_false_iff.2 hb8) ?_
  exact wp_skip (blk_n (then_n ⟨(Option.some.inj h).symm, HF.nil, HT⟩))
  rintro a w ⟨rfl, HF, HT⟩
  have h := brkL1u h
  refine ?_
  refine wp_seq (wc_text (wa HF rfl rfl rfl fun a HF => ?_))
  refine wc_end (then_n (wp_ret ?_))
  obtain rfl := Option.some.inj h
  refine bp_ret HF (res_one rfl HF rfl) ?_
  exact ⟨rfl, HT⟩
  have h := ifn hb1 h
  refine wp_if (b' := true) HF rfl (notF (Bool.eq_false_iff.2 hb1)) ?_
  refine wp_seq (wc_text (wa HF rfl rfl rfl fun a HF => ?_))
  refine wc_end (then_n (wp_ret ?_))
  obtain rfl := Option.some.inj h
  refine then_r (?_)
  refine bp_ret HF (res_one rfl HF rfl) ?_
  have HT := HT.t0
  exact ⟨rfl, HT⟩

def m_impl_KidOk_L0 (fuel : Nat) (x0 : List I4) : Nat → Int → Option (Lp Unit Bool)
  | 0, _ => none
  | k1 + 1, z1 =>
    if z1 < (x0.length : Int) then
      (at? x0 z1).bind fun e1 =>
      if e1.a = 11 then
        some (.ret false)
      else
      (m_impl_Touches fuel e1.a e1.b e1.c e1.d).bind fun y1 =>
      if y1 = 2 then
        some (.ret false)
      else
      if in64 (z1 + 1) then
        m_impl_KidOk_L0 fuel x0 k1 (z1 + 1)
      else none
    else
    some (.brk ())

def m_impl_KidOk (fuel : Nat) (x0 : List I4) : Option Bool :=
  (m_impl_KidOk_L0 fuel x0 fuel 0).bind <| contL <| un1 fun _ =>
  (m_impl_CodeOk fuel x0).bind fun y2 =>
  some y2

set_option maxRecDepth 100000 in
set_option maxHeartbeats 4000000 in
theorem w_impl_KidOk (fuel : Nat) {x0 : List I4} {a_x0 : Option Addr} {n_x0 c_x0 : Nat} {r0 : Bool} {w0 : World} (h : m_impl_KidOk fuel x0 = some r0) (hr_x0 : RdT (fun b => ¬ False) w0 (rowT x0) (.slice a_x0 n_x0 c_x0)) :
    Calls Try.prog 68 #[.slice a_x0 n_x0 c_x0] w0 fun e w => e = .returned (.bool r0) ∧ St w0 (fun _ => False) w [] := by
  obtain rfl := hr_x0.neq
  have HT : St w0 (fun _ => False) w0 [] := St.init0
  rw [m_impl_KidOk] at h
  refine calls_fr (n := 22) [.slice a_x0 x0.length c_x0] Try.func68 rfl rfl rfl fun a HF => ?_
  have HT : St w0 (fun _ => False) w0 [] := HT
  refine wp_seq (wc_text (wa HF rfl rfl rfl fun a HF => ?_))
  refine wc_end (then_n ?_)
  obtain ⟨q1, hx1, h⟩ := obs h
  refine wp_cut (fun a w => q1 = .brk () ∧ Fr a 22 [(0, .slice a_x0 x0.length c_x0)] ∧ St w0 (fun _ => False) w []) ?_ ?_
  have hk1 := h
  have h := hx1
  refine wp_seq (wc_text (wm HF rfl rfl rfl fun a HF => ?_))
  refine wc_lenR HF nS Try.underlying36 rfl rfl rfl fun a HF => ?_
  refine wm HF rfl rfl rfl fun a HF => ?_
  refine wc_end (then_n (wp_block (wp_loopN (fun k1 a w => ∃ z1, m_impl_KidOk_L0 fuel x0 k1 z1 = some q1 ∧ Fr a 22 [(0, .slice a_x0 x0.length c_x0), (5, .slice a_x0 x0.length c_x0), (6, .int .i64 (x0.length : Int)), (7, .int .i64 z1)] ∧ St w0 (fun _ => False) w []) fuel ⟨0, h, (HF.keep (HF.keep (HF.keep (HF.keep HF.nil rfl) rfl) rfl) rfl), HT⟩ ?_)))
  rintro k1 a w ⟨z1, h, HF, HT⟩
  rcases k1 with _ | k1
  cases h
  rw [m_impl_KidOk_L0] at h
  refine ?_
  refine wp_seq (wc_text (wc_bin HF nS rfl rfl b_lt rfl rfl fun a HF => ?_))
  refine wc_end (then_n (wp_seq ?_))
  by_cases hb1 : z1 < (x0.length : Int)
  have h := ifp hb1 h
  refine wp_if (b' := true) HF rfl (decide_eq_true hb1) ?_
  refine wp_skip (then_n (wp_seq (wp_block (wp_seq (wc_text ?_)))))
  obtain ⟨e1, hx2, h⟩ := obs h
  obtain ⟨b1, o1, ha1⟩ := (HT.ro hr_x0).any.addr hx2
  refine wc_ixaddr HF nS el36 rfl ha1 ((HT.ro hr_x0).any).neq rfl hx2 rfl rfl fun a HF => ?_
  have hc1 := (HT.ro hr_x0).any.flatAt ha1 hx2
  refine wc_loadA (vs := [.int .i64 e1.a, .int .i64 e1.b, .int .i64 e1.c, .int .i64 e1.d]) HF rfl ag85 rfl (hc1.part 0 4) rfl rfl fun a HF => ?_
  refine wc_alloc (cs := [.int .i64 0, .int .i64 0, .int .i64 0, .int .i64 0]) HF HT zr85 rfl rfl rfl (fun p1 w HT hb => ⟨nS, fun a HF => ?_⟩)
  refine wc_storeB (cs' := [.int .i64 e1.a, .int .i64 e1.b, .int .i64 e1.c, .int .i64 e1.d]) HF HT rfl rfl (fun w => (ag85 w).2) rfl rfl rfl rfl rfl (fun w HT => ⟨nS, ?_⟩)
  refine wc_end (then_n (wp_seq (wc_text (wc_faddr HF nS rfl fl85_0 rfl rfl fun a HF => ?_))))
  refine wc_load HF rfl sc3 ((HT.boxAt 0 rfl).get 0 rfl) rfl rfl fun a HF => ?_
  refine wc_bin HF nS rfl rfl b_eq rfl rfl fun a HF => ?_
  refine wm HF rfl rfl rfl fun a HF => ?_
  by_cases hb2 : e1.a = 11
  have h := ifp hb2 h
  refine wc_skip HF nS (HF.wn rfl rfl rfl rfl (decide_eq_true hb2)) rfl fun a HF => ?_
  refine wc_skip HF nS (HF.wn rfl rfl rfl rfl (decide_eq_true hb2)) rfl fun a HF => ?_
  refine wc_skip HF nS (HF.wn rfl rfl rfl rfl (decide_eq_true hb2)) rfl fun a HF => ?_
  refine wc_pick (b := true) HF nS rfl (decide_eq_true hb2) rfl rfl rfl fun a HF => ?_
  refine wc_end (then_n (wp_if (b' := true) HF rfl rfl ?_))
  refine wp_seq (wc_text (wa HF rfl rfl rfl fun a HF => ?_))
  refine wc_end (then_n (wp_ret ?_))
  obtain rfl := Option.some.inj h
  have h := retL hk1
  obtain rfl := Option.some.inj h
  refine blk_r (then_r (then_r (blk_r (then_r (?_)))))
  refine bp_ret HF (res_one rfl HF rfl) ?_
  have HT := HT.t0
  exact ⟨rfl, HT⟩
  have h := ifn hb2 h
  refine wc_loadA (vs := [.int .i64 e1.a, .int .i64 e1.b, .int .i64 e1.c, .int .i64 e1.d]) HF rfl ag85 rfl ((HT.boxAt 0 rfl).part 0 4) (HF.wy rfl rfl rfl rfl (decide_eq_false hb2)) rfl fun a HF => ?_
  obtain ⟨y1, hx3, h⟩ := obs h
  refine wc_call HF cf101 rfl (w_impl_Touches fuel hx3) (HF.wy rfl rfl rfl rfl (decide_eq_false hb2)) rfl ?_
  rintro e w ⟨rfl, hE⟩
  have hb := hE.below
  have HT := HT.pure hE
  have HT : St w0 (fun _ => False) w [Box p1 [.int .i64 e1.a, .int .i64 e1.b, .int .i64 e1.c, .int .i64 e1.d]] := HT
  refine ⟨_, rfl, nS, fun a HF => ?_⟩
  refine wc_bin HF nS rfl rfl b_eq (HF.wy rfl rfl rfl rfl (decide_eq_false hb2)) rfl fun a HF => ?_
  refine wc_pick (b := false) HF nS rfl (decide_eq_false hb2) rfl rfl rfl fun a HF => ?_
  refine wc_end (then_n ?_)
  by_cases hb3 : y1 = 2
  have h := ifp hb3 h
  refine wp_if (b' := true) HF rfl (decide_eq_true hb3) ?_
  refine wp_seq (wc_text (wa HF rfl rfl rfl fun a HF => ?_))
  refine wc_end (then_n (wp_ret ?_))
  obtain rfl := Option.some.inj h
  have h := retL hk1
  obtain rfl := Option.some.inj h
  refine blk_r (then_r (then_r (blk_r (then_r (?_)))))
  refine bp_ret HF (res_one rfl HF rfl) ?_
  have HT := HT.t0
  exact ⟨rfl, HT⟩
  have h := ifn hb3 h
  refine wp_if (b' := false) HF rfl (decide_eq_false hb3) ?_
  refine wp_skip (blk_n (then_n (wc_text ?_)))
  obtain ⟨hg1, h⟩ := grd h
  refine wc_bin HF nS rfl rfl (b_add hg1) rfl rfl fun a HF => ?_
  refine wm HF rfl rfl rfl fun a HF => ?_
  refine wc_end ?_
  have HT := HT.t0
  exact then_n ⟨k1, Nat.lt_succ_self k1, z1 + 1, h, (HF.keep (HF.keep (HF.keep (HF.keep HF.nil rfl) rfl) rfl) rfl), HT⟩
  have h := ifn hb1 h
  refine wp_if (b' := false) HF rfl (decide_eq_false hb1) ?_
  refine wp_exit ?_
  refine then_x (then_x (?_))
  refine blk_x ?_
  exact then_n ⟨(Option.some.inj h).symm, (HF.keep HF.nil rfl), HT⟩
  rintro a w ⟨rfl, HF, HT⟩
  have h := brkL1u h
  refine ?_
  refine wp_seq (wc_text (wm HF rfl rfl rfl fun a HF => ?_))
  obtain ⟨y2, hx4, h⟩ := obs h
  refine wc_call HF cf102 rfl (w_impl_CodeOk fuel hx4 (HT.ro hr_x0).any) rfl rfl ?_
  rintro e w ⟨rfl, hE⟩
  have hb := hE.below
  have HT := HT.pure hE
  have HT : St w0 (fun _ => False) w [] := HT
  refine ⟨_, rfl, nS, fun a HF => ?_⟩
  refine wa HF rfl rfl rfl fun a HF => ?_
  refine wc_end (then_n (wp_ret ?_))
  obtain rfl := Option.some.inj h
  refine bp_ret HF (res_one rfl HF rfl) ?_
  exact ⟨rfl, HT⟩

def m_impl_areValues_L0 (fuel : Nat) (x0 : List Int) : Nat → Int → Option (Lp Unit Bool)
  | 0, _ => none
  | k1 + 1, z1 =>
    if z1 < (x0.length : Int) then
      (at? x0 z1).bind fun e1 =>
      (m_impl_isValue fuel e1).bind fun y1 =>
      if y1 = true then
        if in64 (z1 + 1) then
          m_impl_areValues_L0 fuel x0 k1 (z1 + 1)
        else none
      else
      some (.ret false)
    else
    some (.brk ())

def m_impl_areValues (fuel : Nat) (x0 : List Int) (x1 : Int) : Option Bool :=
  (m_impl_areValues_L0 fuel x0 fuel 0).bind <| contL <| un1 fun _ =>
  some (decide ((x0.length : Int) = x1))

set_option maxRecDepth 100000 in
set_option maxHeartbeats 4000000 in
theorem w_impl_areValues (fuel : Nat) {x0 : List Int} {x1 : Int} {a_x0 : Option Addr} {n_x0 c_x0 : Nat} {r0 : Bool} {w0 : World} (h : m_impl_areValues fuel x0 x1 = some r0) (hr_x0 : RdT (fun b => ¬ False) w0 (rowT x0) (.slice a_x0 n_x0 c_x0)) :
    Calls Try.prog 62 #[.slice a_x0 n_x0 c_x0, .int .i64 x1] w0 fun e w => e = .returned (.bool r0) ∧ St w0 (fun _ => False) w [] := by
  obtain rfl := hr_x0.neq
  have HT : St w0 (fun _ => False) w0 [] := St.init0
  rw [m_impl_areValues] at h
  refine calls_fr (n := 21) [.slice a_x0 x0.length c_x0, .int .i64 x1] Try.func62 rfl rfl rfl fun a HF => ?_
  have HT : St w0 (fun _ => False) w0 [] := HT
  refine wp_seq (wc_text (wa HF rfl rfl rfl fun a HF => ?_))
  refine wc_end (then_n ?_)
  obtain ⟨q1, hx1, h⟩ := obs h
  refine wp_cut (fun a w => q1 = .brk () ∧ Fr a 21 [(0, .slice a_x0 x0.length c_x0), (1, .int .i64 x1)] ∧ St w0 (fun _ => False) w []) ?_ ?_
  have hk1 := h
  have h := hx1
  refine wp_seq (wc_text (wm HF rfl rfl rfl fun a HF => ?_))
  refine wc_lenR HF nS Try.underlying22 rfl rfl rfl fun a HF => ?_
  refine wm HF rfl rfl rfl fun a HF => ?_
  refine wc_end (then_n (wp_block (wp_loopN (fun k1 a w => ∃ z1, m_impl_areValues_L0 fuel x0 k1 z1 = some q1 ∧ Fr a 21 [(0, .slice a_x0 x0.length c_x0), (1, .int .i64 x1), (7, .slice a_x0 x0.length c_x0), (8, .int .i64 (x0.length : Int)), (9, .int .i64 z1)] ∧ St w0 (fun _ => False) w []) fuel ⟨0, h, (HF.keep (HF.keep (HF.keep (HF.keep (HF.keep HF.nil rfl) rfl) rfl) rfl) rfl), HT⟩ ?_)))
  rintro k1 a w ⟨z1, h, HF, HT⟩
  rcases k1 with _ | k1
  cases h
  rw [m_impl_areValues_L0] at h
  refine ?_
  refine wp_seq (wc_text (wc_bin HF nS rfl rfl b_lt rfl rfl fun a HF => ?_))
  refine wc_end (then_n (wp_seq ?_))
  by_cases hb1 : z1 < (x0.length : Int)
  have h := ifp hb1 h
  refine wp_if (b' := true) HF rfl (decide_eq_true hb1) ?_
  refine wp_skip (then_n (wp_seq (wp_block (wp_seq (wc_text ?_)))))
  obtain ⟨e1, hx2, h⟩ := obs h
  obtain ⟨b1, o1, ha1⟩ := (HT.ro hr_x0).any.addr hx2
  refine wc_ixaddr HF nS el22 rfl ha1 ((HT.ro hr_x0).any).neq rfl hx2 rfl rfl fun a HF => ?_
  have hc1 := (HT.ro hr_x0).any.flatAt ha1 hx2
  refine wc_load HF rfl sc3 (hc1.get 0 rfl) rfl rfl fun a HF => ?_
  refine wa HF rfl rfl rfl fun a HF => ?_
  refine wc_end (then_n (wp_seq (wc_text (wm HF rfl rfl rfl fun a HF => ?_))))
  obtain ⟨y1, hx3, h⟩ := obs h
  refine wc_call HF cf64 rfl (w_impl_isValue fuel hx3) rfl rfl ?_
  rintro e w ⟨rfl, hE⟩
  have hb := hE.below
  have HT := HT.pure hE
  have HT : St w0 (fun _ => False) w [] := HT
  refine ⟨_, rfl, nS, fun a HF => ?_⟩
  refine wc_not HF nS rfl rfl rfl fun a HF => ?_
  refine wc_end (then_n ?_)
  by_cases hb2 : y1 = true
  have h := ifp hb2 h
  refine wp_if (b' := false) HF rfl (notT hb2) ?_
  refine wp_skip (blk_n (then_n (wc_text ?_)))
  obtain ⟨hg1, h⟩ := grd h
  refine wc_bin HF nS rfl rfl (b_add hg1) rfl rfl fun a HF => ?_
  refine wm HF rfl rfl rfl fun a HF => ?_
  exact wc_end (then_n ⟨k1, Nat.lt_succ_self k1, z1 + 1, h, (HF.keep (HF.keep (HF.keep (HF.keep (HF.keep HF.nil rfl) rfl) rfl) rfl) rfl), HT⟩)
  have h := ifn hb2 h
  refine wp_if (b' := true) HF rfl (notF (Bool.eq_false_iff.2 hb2)) ?_
  refine wp_seq (wc_text (wa HF rfl rfl rfl fun a HF => ?_))
  refine wc_end (then_n (wp_ret ?_))
  obtain rfl := Option.some.inj h
  have h := retL hk1
  obtain rfl := Option.some.inj h
  refine blk_r (then_r (then_r (blk_r (then_r (?_)))))
  refine bp_ret HF (res_one rfl HF rfl) ?_
  exact ⟨rfl, HT⟩
  have h := ifn hb1 h
  refine wp_if (b' := false) HF rfl (decide_eq_false hb1) ?_
  refine wp_exit ?_
  refine then_x (then_x (?_))
  refine blk_x ?_
  exact then_n ⟨(Option.some.inj h).symm, (HF.keep (HF.keep HF.nil rfl) rfl), HT⟩
  rintro a w ⟨rfl, HF, HT⟩
  have h := brkL1u h
  refine ?_
  refine wp_seq (wc_text (wm HF rfl rfl rfl fun a HF => ?_))
  refine wc_lenR HF nS Try.underlying22 rfl rfl rfl fun a HF => ?_
  refine wm HF rfl rfl rfl fun a HF => ?_
  refine wc_bin HF nS rfl rfl b_eq rfl rfl fun a HF => ?_
  refine wa HF rfl rfl rfl fun a HF => ?_
  refine wc_end (then_n (wp_ret ?_))
  obtain rfl := Option.some.inj h
  refine bp_ret HF (res_one rfl HF rfl) ?_
  exact ⟨rfl, HT⟩

def m_impl_copyInts (fuel : Nat) (x0 : List Int) : Option (List Int) :=
  if ([] : List Int).length + x0.length ≤ 17179869184 then
    some (([] : List Int) ++ x0)
  else none

set_option maxRecDepth 100000 in
set_option maxHeartbeats 4000000 in
theorem w_impl_copyInts (fuel : Nat) {x0 : List Int} {a_x0 : Option Addr} {n_x0 c_x0 : Nat} {r0 : List Int} {w0 : World} (h : m_impl_copyInts fuel x0 = some r0) (hr_x0 : RdT (fun b => ¬ False) w0 (rowT x0) (.slice a_x0 n_x0 c_x0)) :
    Calls Try.prog 103 #[.slice a_x0 n_x0 c_x0] w0 fun e w => ∃ a_r0 n_r0 c_r0, e = .returned (.slice a_r0 n_r0 c_r0) ∧ St w0 (fun _ => False) w [Own 3 (rowT r0) (.slice a_r0 n_r0 c_r0)] := by
  obtain rfl := hr_x0.neq
  have HT : St w0 (fun _ => False) w0 [] := St.init0
  rw [m_impl_copyInts] at h
  refine calls_fr (n := 5) [.slice a_x0 x0.length c_x0] Try.func103 rfl rfl rfl fun a HF => ?_
  have HT : St w0 (fun _ => False) w0 [] := HT
  refine wp_seq (wc_text (wa HF rfl rfl rfl fun a HF => ?_))
  refine wc_end (then_n (wp_seq (wc_text (wm HF rfl rfl rfl fun a HF => ?_))))
  have HT := HT.nilrow (E := Int) 3
  obtain ⟨hg1, h⟩ := grd h
  refine wc_appendR HF HT (HT.ro hr_x0).any el22 rfl rfl hg1 rfl rfl rfl (fun a1 c1 w HT => ⟨nS, fun a HF => ?_⟩)
  refine wa HF rfl rfl rfl fun a HF => ?_
  refine wc_end (then_n (wp_ret ?_))
  obtain rfl := Option.some.inj h
  refine bp_ret HF (res_one rfl HF rfl) ?_
  exact ⟨a1, (([] : List Int) ++ x0).length, c1, rfl, HT⟩

def m_impl_Calc (fuel : Nat) (x0_0 : Int) (x0_1 : Int) (x0_2 : Int) (x0_3 : Int) (x1 : List Int) : Option (List Int × Bool) :=
  (m_impl_copyInts fuel x1).bind fun y1 =>
  (m_impl_OpOk fuel x0_0 x0_1 x0_2 x0_3).bind fun y2 =>
  if y2 = true then
    if 4 < x0_0 then
      some (y1, false)
    else
    (m_impl_areValues fuel x1 4).bind fun y3 =>
    if y3 = true then
      (
        if x0_0 = 1 then
          (at? y1 x0_1).bind fun e1 =>
          some (y1.set x0_1.toNat x0_2)
        else
        if x0_0 = 2 then
          (at? x1 x0_2).bind fun e2 =>
          (at? x1 x0_3).bind fun e3 =>
          if in64 (e2 + e3) then
            if (65536 : Int) ≠ 0 then
              (at? y1 x0_1).bind fun e4 =>
              some (y1.set x0_1.toNat ((e2 + e3).tmod 65536))
            else none
          else none
        else
        if x0_0 = 3 then
          (at? x1 x0_2).bind fun e5 =>
          (at? x1 x0_3).bind fun e6 =>
          if in64 (e5 - e6) then
            if in64 ((e5 - e6) + 65536) then
              if (65536 : Int) ≠ 0 then
                (at? y1 x0_1).bind fun e7 =>
                some (y1.set x0_1.toNat (((e5 - e6) + 65536).tmod 65536))
              else none
            else none
          else none
        else
        (at? y1 x0_1).bind fun e8 =>
        (at? x1 x0_2).bind fun e9 =>
        (at? x1 x0_3).bind fun e10 =>
        if e9 < e10 then
          (at? (y1.set x0_1.toNat 0) x0_1).bind fun e11 =>
          some ((y1.set x0_1.toNat 0).set x0_1.toNat 1)
        else
        some (y1.set x0_1.toNat 0)).bind fun z1 =>
      some (z1, true)
    else
    some (y1, false)
  else
  some (y1, false)

set_option maxRecDepth 100000 in
set_option maxHeartbeats 4000000 in
theorem w_impl_Calc (fuel : Nat) {x0_0 : Int} {x0_1 : Int} {x0_2 : Int} {x0_3 : Int} {x1 : List Int} {a_x1 : Option Addr} {n_x1 c_x1 : Nat} {r0 : List Int} {r1 : Bool} {w0 : World} (h : m_impl_Calc fuel x0_0 x0_1 x0_2 x0_3 x1 = some (r0, r1)) (hr_x1 : RdT (fun b => ¬ False) w0 (rowT x1) (.slice a_x1 n_x1 c_x1)) :
    Calls Try.prog 104 #[.agg #[.int .i64 x0_0, .int .i64 x0_1, .int .i64 x0_2, .int .i64 x0_3], .slice a_x1 n_x1 c_x1] w0 fun e w => ∃ a_r0 n_r0 c_r0, e = .returned (.tuple #[.slice a_r0 n_r0 c_r0, .bool r1]) ∧ St w0 (fun _ => False) w [Own 3 (rowT r0) (.slice a_r0 n_r0 c_r0)] := by
  obtain rfl := hr_x1.neq
  have HT : St w0 (fun _ => False) w0 [] := St.init0
  rw [m_impl_Calc] at h
  refine calls_fr (n := 90) [.agg #[.int .i64 x0_0, .int .i64 x0_1, .int .i64 x0_2, .int .i64 x0_3], .slice a_x1 x1.length c_x1] Try.func104 rfl rfl rfl fun a HF => ?_
  have HT : St w0 (fun _ => False) w0 [] := HT
  refine wp_seq (wc_text (wc_box (cs := [.int .i64 x0_0, .int .i64 x0_1, .int .i64 x0_2, .int .i64 x0_3]) HF HT rfl rfl rfl rfl (fun p1 w HT hb => ⟨nS, fun a HF => ?_⟩)))
  refine wa HF rfl rfl rfl fun a HF => ?_
  refine wa HF rfl rfl rfl fun a HF => ?_
  refine wc_end (then_n (wp_seq (wc_text (wm HF rfl rfl rfl fun a HF => ?_))))
  obtain ⟨y1, hx1, h⟩ := obs h
  refine wc_call HF cf103 rfl (w_impl_copyInts fuel hx1 (HT.ro hr_x1).any) rfl rfl ?_
  rintro e w ⟨a1, n1, c1, rfl, hE⟩
  have hb := hE.below
  have HT := HT.pure hE
  obtain rfl := (HT.rdAt 0 rfl).neq
  have HT : St w0 (fun _ => False) w [Own 3 (rowT y1) (.slice a1 y1.length c1), Box p1 [.int .i64 x0_0, .int .i64 x0_1, .int .i64 x0_2, .int .i64 x0_3]] := HT
  refine ⟨_, rfl, nS, fun a HF => ?_⟩
  refine wa HF rfl rfl rfl fun a HF => ?_
  refine wc_end (then_n (wp_seq (wp_seq (wc_text (wc_loadA (vs := [.int .i64 x0_0, .int .i64 x0_1, .int .i64 x0_2, .int .i64 x0_3]) HF rfl ag85 rfl ((HT.boxAt 1 rfl).part 0 4) rfl rfl fun a HF => ?_)))))
  obtain ⟨y2, hx2, h⟩ := obs h
  refine wc_call HF cf120 rfl (w_impl_OpOk fuel hx2) rfl rfl ?_
  rintro e w ⟨rfl, hE⟩
  have hb := hE.below
  have HT := HT.pure hE
  have HT : St w0 (fun _ => False) w [Own 3 (rowT y1) (.slice a1 y1.length c1), Box p1 [.int .i64 x0_0, .int .i64 x0_1, .int .i64 x0_2, .int .i64 x0_3]] := HT
  refine ⟨_, rfl, nS, fun a HF => ?_⟩
  refine wc_not HF nS rfl rfl rfl fun a HF => ?_
  refine wm HF rfl rfl rfl fun a HF => ?_
  by_cases hb1 : y2 = true
  have h := ifp hb1 h
  refine wc_faddr HF nS rfl fl85_0 (HF.wy rfl rfl rfl rfl (notT hb1)) rfl fun a HF => ?_
  refine wc_load HF rfl sc3 ((HT.boxAt 1 rfl).get 0 rfl) (HF.wy rfl rfl rfl rfl (notT hb1)) rfl fun a HF => ?_
  refine wc_bin HF nS rfl rfl b_gt (HF.wy rfl rfl rfl rfl (notT hb1)) rfl fun a HF => ?_
  refine wc_pick (b := false) HF nS rfl (notT hb1) rfl rfl rfl fun a HF => ?_
  refine wm HF rfl rfl rfl fun a HF => ?_
  by_cases hb2 : 4 < x0_0
  have h := ifp hb2 h
  refine wc_skip HF nS (HF.wn rfl rfl rfl rfl (decide_eq_true hb2)) rfl fun a HF => ?_
  refine wc_skip HF nS (HF.wn rfl rfl rfl rfl (decide_eq_true hb2)) rfl fun a HF => ?_
  refine wc_skip HF nS (HF.wn rfl rfl rfl rfl (decide_eq_true hb2)) rfl fun a HF => ?_
  refine wc_pick (b := true) HF nS rfl (decide_eq_true hb2) rfl rfl rfl fun a HF => ?_
  refine wc_end (then_n (wp_if (b' := true) HF rfl rfl ?_))
  refine wp_seq (wc_text (wm HF rfl rfl rfl fun a HF => ?_))
  refine wa HF rfl rfl rfl fun a HF => ?_
  refine wa HF rfl rfl rfl fun a HF => ?_
  refine wc_end (then_n (wp_ret ?_))
  have hj1 := Option.some.inj h
  obtain ⟨rfl, hj2⟩ := Prod.mk.inj hj1
  subst hj2
  refine then_r (?_)
  refine bp_ret HF (res_two rfl HF rfl rfl) ?_
  have HT := HT.t1
  exact ⟨a1, y1.length, c1, rfl, HT⟩
  have h := ifn hb2 h
  refine wc_move HF nS rfl (HF.wy rfl rfl rfl rfl (decide_eq_false hb2)) rfl fun a HF => ?_
  obtain ⟨y3, hx3, h⟩ := obs h
  refine wc_call HF cf62 rfl (w_impl_areValues fuel hx3 (HT.ro hr_x1).any) (HF.wy rfl rfl rfl rfl (decide_eq_false hb2)) rfl ?_
  rintro e w ⟨rfl, hE⟩
  have hb := hE.below
  have HT := HT.pure hE
  have HT : St w0 (fun _ => False) w [Own 3 (rowT y1) (.slice a1 y1.length c1), Box p1 [.int .i64 x0_0, .int .i64 x0_1, .int .i64 x0_2, .int .i64 x0_3]] := HT
  refine ⟨_, rfl, nS, fun a HF => ?_⟩
  refine wc_not HF nS rfl (HF.wy rfl rfl rfl rfl (decide_eq_false hb2)) rfl fun a HF => ?_
  refine wc_pick (b := false) HF nS rfl (decide_eq_false hb2) rfl rfl rfl fun a HF => ?_
  refine wc_end (then_n ?_)
  by_cases hb3 : y3 = true
  have h := ifp hb3 h
  refine wp_if (b' := false) HF rfl (notT hb3) ?_
  refine wp_skip (then_n ?_)
  obtain ⟨z1, hx4, h⟩ := obs h
  refine wp_cut (fun a w => Fr a 90 [(6, .slice a1 y1.length c1)] ∧ St w0 (fun _ => False) w [Own 3 (rowT z1) (.slice a1 y1.length c1)]) ?_ ?_
  have hk1 := h
  have h := hx4
  refine wp_seq (wc_text (wc_faddr HF nS rfl fl85_0 rfl rfl fun a HF => ?_))
  refine wc_load HF rfl sc3 ((HT.boxAt 1 rfl).get 0 rfl) rfl rfl fun a HF => ?_
  refine wc_end (then_n (wp_block (wp_seq (wc_text (wc_bin HF nS rfl rfl b_eq rfl rfl fun a HF => ?_)))))
  refine wa HF rfl rfl rfl fun a HF => ?_
  refine wc_end (then_n ?_)
  by_cases hb4 : x0_0 = 1
  have h := ifp hb4 h
  refine wp_if (b' := true) HF rfl (decide_eq_true hb4) ?_
  refine wc_text (wm HF rfl rfl rfl fun a HF => ?_)
  refine wc_faddr HF nS rfl fl85_1 rfl rfl fun a HF => ?_
  refine wc_load HF rfl sc3 ((HT.boxAt 1 rfl).get 1 rfl) rfl rfl fun a HF => ?_
  refine wc_faddr HF nS rfl fl85_2 rfl rfl fun a HF => ?_
  refine wc_load HF rfl sc3 ((HT.boxAt 1 rfl).get 2 rfl) rfl rfl fun a HF => ?_
  obtain ⟨e1, hx5, h⟩ := obs h
  obtain ⟨b1, o1, ha1⟩ := (HT.rdAt 0 rfl).addr hx5
  refine wc_ixaddr HF nS el22 rfl ha1 ((HT.rdAt 0 rfl)).neq rfl hx5 rfl rfl fun a HF => ?_
  refine wc_storeR (i := x0_1) (j := 0) (x' := x0_2) HF HT ha1 rfl rfl (fun w => (sc3 w).2) rfl rfl hx5 rfl rfl rfl rfl (fun w HT => ⟨nS, ?_⟩)
  refine wc_end (blk_n ?_)
  have HT := HT.t1
  obtain rfl := Option.some.inj h
  exact then_n ⟨(HF.keep HF.nil rfl), HT⟩
  have h := ifn hb4 h
  refine wp_if (b' := false) HF rfl (decide_eq_false hb4) ?_
  refine wp_seq (wc_text (wc_bin HF nS rfl rfl b_eq rfl rfl fun a HF => ?_))
  refine wa HF rfl rfl rfl fun a HF => ?_
  refine wc_end (then_n ?_)
  by_cases hb5 : x0_0 = 2
  have h := ifp hb5 h
  refine wp_if (b' := true) HF rfl (decide_eq_true hb5) ?_
  refine wp_region_can [(0, true), (1, true), (2, true), (3, true), (4, true), (5, true), (6, true), (7, true), (8, true), (9, true), (10, true), (11, true), (12, true), (13, true), (14, true), (15, true), (16, true)] (fun w' => True) (by kernel_rfl) (by kernel_rfl) ?_
  have HT := HT.drew
  refine wm HF rfl rfl rfl fun a HF => ?_
  refine wc_faddr HF nS rfl fl85_1 rfl rfl fun a HF => ?_
  refine wc_load HF rfl sc3 ((HT.boxAt 1 rfl).get 1 rfl) rfl rfl fun a HF => ?_
  refine wm HF rfl rfl rfl fun a HF => ?_
  refine wc_faddr HF nS rfl fl85_2 rfl rfl fun a HF => ?_
  refine wc_load HF rfl sc3 ((HT.boxAt 1 rfl).get 2 rfl) rfl rfl fun a HF => ?_
  obtain ⟨e2, hx6, h⟩ := obs h
  obtain ⟨b2, o2, ha2⟩ := (HT.ro hr_x1).any.addr hx6
  refine wc_ixaddr HF nS el22 rfl ha2 ((HT.ro hr_x1).any).neq rfl hx6 rfl rfl fun a HF => ?_
  have hc1 := (HT.ro hr_x1).any.flatAt ha2 hx6
  refine wc_load HF rfl sc3 (hc1.get 0 rfl) rfl rfl fun a HF => ?_
  refine wm HF rfl rfl rfl fun a HF => ?_
  refine wc_faddr HF nS rfl fl85_3 rfl rfl fun a HF => ?_
  refine wc_load HF rfl sc3 ((HT.boxAt 1 rfl).get 3 rfl) rfl rfl fun a HF => ?_
  obtain ⟨e3, hx7, h⟩ := obs h
  refine wc_ixaddr HF nS el22 rfl ha2 ((HT.ro hr_x1).any).neq rfl hx7 rfl rfl fun a HF => ?_
  have hc2 := (HT.ro hr_x1).any.flatAt ha2 hx7
  refine wc_load HF rfl sc3 (hc2.get 0 rfl) rfl rfl fun a HF => ?_
  obtain ⟨hg1, h⟩ := grd h
  refine wc_bin HF nS rfl rfl (b_add hg1) rfl rfl fun a HF => ?_
  obtain ⟨hg2, h⟩ := grd h
  refine wc_bin HF nS rfl rfl (b_rem hg2) rfl rfl fun a HF => ?_
  obtain ⟨e4, hx8, h⟩ := obs h
  obtain ⟨b3, o3, ha3⟩ := (HT.rdAt 0 rfl).addr hx8
  refine wc_ixaddr HF nS el22 rfl ha3 ((HT.rdAt 0 rfl)).neq rfl hx8 rfl rfl fun a HF => ?_
  refine wc_storeR (i := x0_1) (j := 0) (x' := (e2 + e3).tmod 65536) HF HT ha3 rfl rfl (fun w => (sc3 w).2) rfl rfl hx8 rfl rfl rfl rfl (fun w HT => ⟨nS, ?_⟩)
  refine wc_endN (blk_n ?_)
  have HT := HT.t1
  obtain rfl := Option.some.inj h
  exact then_n ⟨(HF.keep HF.nil rfl), HT⟩
  have h := ifn hb5 h
  refine wp_if (b' := false) HF rfl (decide_eq_false hb5) ?_
  refine wp_seq (wc_text (wc_bin HF nS rfl rfl b_eq rfl rfl fun a HF => ?_))
  refine wa HF rfl rfl rfl fun a HF => ?_
  refine wc_end (then_n ?_)
  by_cases hb6 : x0_0 = 3
  have h := ifp hb6 h
  refine wp_if (b' := true) HF rfl (decide_eq_true hb6) ?_
  refine wp_region_can [(0, true), (1, true), (2, true), (3, true), (4, true), (5, true), (6, true), (7, true), (8, true), (9, true), (10, true), (11, true), (12, true), (13, true), (14, true), (15, true), (16, true), (17, true)] (fun w' => True) (by kernel_rfl) (by kernel_rfl) ?_
  have HT := HT.drew
  refine wm HF rfl rfl rfl fun a HF => ?_
  refine wc_faddr HF nS rfl fl85_1 rfl rfl fun a HF => ?_
  refine wc_load HF rfl sc3 ((HT.boxAt 1 rfl).get 1 rfl) rfl rfl fun a HF => ?_
  refine wm HF rfl rfl rfl fun a HF => ?_
  refine wc_faddr HF nS rfl fl85_2 rfl rfl fun a HF => ?_
  refine wc_load HF rfl sc3 ((HT.boxAt 1 rfl).get 2 rfl) rfl rfl fun a HF => ?_
  obtain ⟨e5, hx9, h⟩ := obs h
  obtain ⟨b4, o4, ha4⟩ := (HT.ro hr_x1).any.addr hx9
  refine wc_ixaddr HF nS el22 rfl ha4 ((HT.ro hr_x1).any).neq rfl hx9 rfl rfl fun a HF => ?_
  have hc3 := (HT.ro hr_x1).any.flatAt ha4 hx9
  refine wc_load HF rfl sc3 (hc3.get 0 rfl) rfl rfl fun a HF => ?_
  refine wm HF rfl rfl rfl fun a HF => ?_
  refine wc_faddr HF nS rfl fl85_3 rfl rfl fun a HF => ?_
  refine wc_load HF rfl sc3 ((HT.boxAt 1 rfl).get 3 rfl) rfl rfl fun a HF => ?_
  obtain ⟨e6, hx10, h⟩ := obs h
  refine wc_ixaddr HF nS el22 rfl ha4 ((HT.ro hr_x1).any).neq rfl hx10 rfl rfl fun a HF => ?_
  have hc4 := (HT.ro hr_x1).any.flatAt ha4 hx10
  refine wc_load HF rfl sc3 (hc4.get 0 rfl) rfl rfl fun a HF => ?_
  obtain ⟨hg3, h⟩ := grd h
  refine wc_bin HF nS rfl rfl (b_sub hg3) rfl rfl fun a HF => ?_
  obtain ⟨hg4, h⟩ := grd h
  refine wc_bin HF nS rfl rfl (b_add hg4) rfl rfl fun a HF => ?_
  obtain ⟨hg5, h⟩ := grd h
  refine wc_bin HF nS rfl rfl (b_rem hg5) rfl rfl fun a HF => ?_
  obtain ⟨e7, hx11, h⟩ := obs h
  obtain ⟨b5, o5, ha5⟩ := (HT.rdAt 0 rfl).addr hx11
  refine wc_ixaddr HF nS el22 rfl ha5 ((HT.rdAt 0 rfl)).neq rfl hx11 rfl rfl fun a HF => ?_
  refine wc_storeR (i := x0_1) (j := 0) (x' := ((e5 - e6) + 65536).tmod 65536) HF HT ha5 rfl rfl (fun w => (sc3 w).2) rfl rfl hx11 rfl rfl rfl rfl (fun w HT => ⟨nS, ?_⟩)
  refine wc_endN (blk_n ?_)
  have HT := HT.t1
  obtain rfl := Option.some.inj h
  exact then_n ⟨(HF.keep HF.nil rfl), HT⟩
  have h := ifn hb6 h
  refine wp_if (b' := false) HF rfl (decide_eq_false hb6) ?_
  refine wp_seq (wc_text (wm HF rfl rfl rfl fun a HF => ?_))
  refine wc_faddr HF nS rfl fl85_1 rfl rfl fun a HF => ?_
  refine wc_load HF rfl sc3 ((HT.boxAt 1 rfl).get 1 rfl) rfl rfl fun a HF => ?_
  obtain ⟨e8, hx12, h⟩ := obs h
  obtain ⟨b6, o6, ha6⟩ := (HT.rdAt 0 rfl).addr hx12
  refine wc_ixaddr HF nS el22 rfl ha6 ((HT.rdAt 0 rfl)).neq rfl hx12 rfl rfl fun a HF => ?_
  refine wc_storeR (i := x0_1) (j := 0) (x' := 0) HF HT ha6 rfl rfl (fun w => (sc3 w).2) rfl rfl hx12 rfl rfl rfl rfl (fun w HT => ⟨nS, ?_⟩)
  refine wc_end (then_n (wp_seq (wp_region_can [(0, true), (1, true), (2, true), (3, true), (4, true), (5, true), (6, true), (7, true), (8, true), (9, true), (10, true)] (fun w' => True) (by kernel_rfl) (by kernel_rfl) ?_)))
  have HT := HT.drew
  refine wm HF rfl rfl rfl fun a HF => ?_
  refine wc_faddr HF nS rfl fl85_2 rfl rfl fun a HF => ?_
  refine wc_load HF rfl sc3 ((HT.boxAt 1 rfl).get 2 rfl) rfl rfl fun a HF => ?_
  obtain ⟨e9, hx13, h⟩ := obs h
  obtain ⟨b7, o7, ha7⟩ := (HT.ro hr_x1).any.addr hx13
  refine wc_ixaddr HF nS el22 rfl ha7 ((HT.ro hr_x1).any).neq rfl hx13 rfl rfl fun a HF => ?_
  have hc5 := (HT.ro hr_x1).any.flatAt ha7 hx13
  refine wc_load HF rfl sc3 (hc5.get 0 rfl) rfl rfl fun a HF => ?_
  refine wm HF rfl rfl rfl fun a HF => ?_
  refine wc_faddr HF nS rfl fl85_3 rfl rfl fun a HF => ?_
  refine wc_load HF rfl sc3 ((HT.boxAt 1 rfl).get 3 rfl) rfl rfl fun a HF => ?_
  obtain ⟨e10, hx14, h⟩ := obs h
  refine wc_ixaddr HF nS el22 rfl ha7 ((HT.ro hr_x1).any).neq rfl hx14 rfl rfl fun a HF => ?_
  have hc6 := (HT.ro hr_x1).any.flatAt ha7 hx14
  refine wc_load HF rfl sc3 (hc6.get 0 rfl) rfl rfl fun a HF => ?_
  refine wc_bin HF nS rfl rfl b_lt rfl rfl fun a HF => ?_
  refine wc_endN (then_n ?_)
  by_cases hb7 : e9 < e10
  have h := ifp hb7 h
  refine wp_if (b' := true) HF rfl (decide_eq_true hb7) ?_
  refine wc_text (wm HF rfl rfl rfl fun a HF => ?_)
  refine wc_faddr HF nS rfl fl85_1 rfl rfl fun a HF => ?_
  refine wc_load HF rfl sc3 ((HT.boxAt 1 rfl).get 1 rfl) rfl rfl fun a HF => ?_
  obtain ⟨e11, hx15, h⟩ := obs h
  refine wc_ixaddr HF nS el22 rfl ha6 ((HT.rdAt 0 rfl)).neq rfl hx15 rfl rfl fun a HF => ?_
  refine wc_storeR (i := x0_1) (j := 0) (x' := 1) HF HT ha6 rfl rfl (fun w => (sc3 w).2) rfl rfl hx15 rfl rfl rfl rfl (fun w HT => ⟨nS, ?_⟩)
  refine wc_end (blk_n ?_)
  have HT := HT.t1
  obtain rfl := Option.some.inj h
  exact then_n ⟨(HF.keep HF.nil rfl), HT⟩
  have h := ifn hb7 h
  refine wp_if (b' := false) HF rfl (decide_eq_false hb7) ?_
  refine wp_skip (blk_n ?_)
  have HT := HT.t1
  obtain rfl := Option.some.inj h
  exact then_n ⟨(HF.keep HF.nil rfl), HT⟩
  rintro a w ⟨HF, HT⟩
  refine ?_
  refine wp_seq (wc_text (wm HF rfl rfl rfl fun a HF => ?_))
  refine wa HF rfl rfl rfl fun a HF => ?_
  refine wa HF rfl rfl rfl fun a HF => ?_
  refine wc_end (then_n (wp_ret ?_))
  have hj3 := Option.some.inj h
  obtain ⟨rfl, hj4⟩ := Prod.mk.inj hj3
  subst hj4
  refine bp_ret HF (res_two rfl HF rfl rfl) ?_
  exact ⟨a1, y1.length, c1, rfl, HT⟩
  have h := ifn hb3 h
  refine wp_if (b' := true) HF rfl (notF (Bool.eq_false_iff.2 hb3)) ?_
  refine wp_seq (wc_text (wm HF rfl rfl rfl fun a HF => ?_))
  refine wa HF rfl rfl rfl fun a HF => ?_
  refine wa HF rfl rfl rfl fun a HF => ?_
  refine wc_end (then_n (wp_ret ?_))
  have hj5 := Option.some.inj h
  obtain ⟨rfl, hj6⟩ := Prod.mk.inj hj5
  subst hj6
  refine then_r (?_)
  refine bp_ret HF (res_two rfl HF rfl rfl) ?_
  have HT := HT.t1
  exact ⟨a1, y1.length, c1, rfl, HT⟩
  have h := ifn hb1 h
  refine wc_skip HF nS (HF.wn rfl rfl rfl rfl (notF (Bool.eq_false_iff.2 hb1))) rfl fun a HF => ?_
  refine wc_skip HF nS (HF.wn rfl rfl rfl rfl (notF (Bool.eq_false_iff.2 hb1))) rfl fun a HF => ?_
  refine wc_skip HF nS (HF.wn rfl rfl rfl rfl (notF (Bool.eq_false_iff.2 hb1))) rfl fun a HF => ?_
  refine wc_pick (b := true) HF nS rfl (notF (Bool.eq_false_iff.2 hb1)) rfl rfl rfl fun a HF => ?_
  refine wm HF rfl rfl rfl fun a HF => ?_
  refine wc_skip HF nS (HF.wn rfl rfl rfl rfl rfl) rfl fun a HF => ?_
  refine wc_skip HF nS (HF.wn rfl rfl rfl rfl rfl) rfl fun a HF => ?_
  refine wc_skip HF nS (HF.wn rfl rfl rfl rfl rfl) rfl fun a HF => ?_
  refine wc_pick (b := true) HF nS rfl rfl rfl rfl rfl fun a HF => ?_
  refine wc_end (then_n (wp_if (b' := true) HF rfl rfl ?_))
  refine wp_seq (wc_text (wm HF rfl rfl rfl fun a HF => ?_))
  refine wa HF rfl rfl rfl fun a HF => ?_
  refine wa HF rfl rfl rfl fun a HF => ?_
  refine wc_end (then_n (wp_ret ?_))
  have hj7 := Option.some.inj h
  obtain ⟨rfl, hj8⟩ := Prod.mk.inj hj7
  subst hj8
  refine then_r (?_)
  refine bp_ret HF (res_two rfl HF rfl rfl) ?_
  have HT := HT.t1
  exact ⟨a1, y1.length, c1, rfl, HT⟩

def m_impl_EndOf_L0 (fuel : Nat) (x0 : List I4) : Nat → Int → Int → Option (Lp Unit Int)
  | 0, _, _ => none
  | k1 + 1, z1, z2 =>
    if z2 < (x0.length : Int) then
      (at? x0 z2).bind fun e2 =>
      (m_impl_opens fuel e2.a e2.b e2.c e2.d).bind fun y2 =>
      if in64 (z1 + y2) then
        if (z1 + y2) = 0 then
          some (.ret z2)
        else
        if in64 (z2 + 1) then
          m_impl_EndOf_L0 fuel x0 k1 (z1 + y2) (z2 + 1)
        else none
      else none
    else
    some (.brk ())

def m_impl_EndOf (fuel : Nat) (x0 : List I4) (x1 : Int) : Option Int :=
  if in64 ((x0.length : Int) - 1) then
    (m_impl_within fuel x1 0 ((x0.length : Int) - 1)).bind fun y1 =>
    if y1 = true then
      (at? x0 x1).bind fun e1 =>
      if e1.a = 8 then
        (m_impl_EndOf_L0 fuel x0 fuel 0 x1).bind <| contL <| un1 fun _ =>
        some (-1)
      else
      some (-1)
    else
    some (-1)
  else none

set_option maxRecDepth 100000 in
set_option maxHeartbeats 4000000 in
theorem w_impl_EndOf (fuel : Nat) {x0 : List I4} {x1 : Int} {a_x0 : Option Addr} {n_x0 c_x0 : Nat} {r0 : Int} {w0 : World} (h : m_impl_EndOf fuel x0 x1 = some r0) (hr_x0 : RdT (fun b => ¬ False) w0 (rowT x0) (.slice a_x0 n_x0 c_x0)) :
    Calls Try.prog 105 #[.slice a_x0 n_x0 c_x0, .int .i64 x1] w0 fun e w => e = .returned (.int .i64 r0) ∧ St w0 (fun _ => False) w [] := by
  obtain rfl := hr_x0.neq
  have HT : St w0 (fun _ => False) w0 [] := St.init0
  rw [m_impl_EndOf] at h
  refine calls_fr (n := 38) [.slice a_x0 x0.length c_x0, .int .i64 x1] Try.func105 rfl rfl rfl fun a HF => ?_
  have HT : St w0 (fun _ => False) w0 [] := HT
  refine wp_seq (wc_text (wa HF rfl rfl rfl fun a HF => ?_))
  refine wc_end (then_n (wp_seq (wp_seq (wc_text (wm HF rfl rfl rfl fun a HF => ?_)))))
  refine wm HF rfl rfl rfl fun a HF => ?_
  refine wc_lenR HF nS Try.underlying36 rfl rfl rfl fun a HF => ?_
  obtain ⟨hg1, h⟩ := grd h
  refine wc_bin HF nS rfl rfl (b_sub hg1) rfl rfl fun a HF => ?_
  obtain ⟨y1, hx1, h⟩ := obs h
  refine wc_call HF cf98 rfl (w_impl_within fuel hx1) rfl rfl ?_
  rintro e w ⟨rfl, hE⟩
  have hb := hE.below
  have HT := HT.pure hE
  have HT : St w0 (fun _ => False) w [] := HT
  refine ⟨_, rfl, nS, fun a HF => ?_⟩
  refine wc_not HF nS rfl rfl rfl fun a HF => ?_
  refine wm HF rfl rfl rfl fun a HF => ?_
  by_cases hb1 : y1 = true
  have h := ifp hb1 h
  refine wc_move HF nS rfl (HF.wy rfl rfl rfl rfl (notT hb1)) rfl fun a HF => ?_
  refine wc_move HF nS rfl (HF.wy rfl rfl rfl rfl (notT hb1)) rfl fun a HF => ?_
  obtain ⟨e1, hx2, h⟩ := obs h
  obtain ⟨b1, o1, ha1⟩ := (HT.ro hr_x0).any.addr hx2
  refine wc_ixaddr HF nS el36 rfl ha1 ((HT.ro hr_x0).any).neq rfl hx2 (HF.wy rfl rfl rfl rfl (notT hb1)) rfl fun a HF => ?_
  refine wc_faddr HF nS rfl fl85_0 (HF.wy rfl rfl rfl rfl (notT hb1)) rfl fun a HF => ?_
  have hc1 := (HT.ro hr_x0).any.flatAt ha1 hx2
  refine wc_load HF rfl sc3 (hc1.get 0 rfl) (HF.wy rfl rfl rfl rfl (notT hb1)) rfl fun a HF => ?_
  refine wc_bin HF nS rfl rfl b_ne (HF.wy rfl rfl rfl rfl (notT hb1)) rfl fun a HF => ?_
  refine wc_pick (b := false) HF nS rfl (notT hb1) rfl rfl rfl fun a HF => ?_
  refine wc_end (then_n ?_)
  by_cases hb2 : e1.a = 8
  have h := ifp hb2 h
  refine wp_if (b' := false) HF rfl (notT (decide_eq_true hb2)) ?_
  refine wp_skip (then_n (wp_seq (wc_text (wa HF rfl rfl rfl fun a HF => ?_))))
  refine wc_end (then_n ?_)
  obtain ⟨q1, hx3, h⟩ := obs h
  refine wp_cut (fun a w => q1 = .brk () ∧ Fr a 38 [] ∧ St w0 (fun _ => False) w []) ?_ ?_
  have hk1 := h
  have h := hx3
  refine wp_seq (wc_text (wm HF rfl rfl rfl fun a HF => ?_))
  refine wa HF rfl rfl rfl fun a HF => ?_
  refine wc_end (then_n (wp_block (wp_loopN (fun k1 a w => ∃ z1 z2, m_impl_EndOf_L0 fuel x0 k1 z1 z2 = some q1 ∧ Fr a 38 [(0, .slice a_x0 x0.length c_x0), (5, .int .i64 z1), (6, .int .i64 z2)] ∧ St w0 (fun _ => False) w []) fuel ⟨0, x1, h, (HF.keep (HF.keep (HF.keep HF.nil rfl) rfl) rfl), HT⟩ ?_)))
  rintro k1 a w ⟨z1, z2, h, HF, HT⟩
  rcases k1 with _ | k1
  cases h
  rw [m_impl_EndOf_L0] at h
  refine ?_
  refine wp_seq (wp_seq (wc_text (wm HF rfl rfl rfl fun a HF => ?_)))
  refine wm HF rfl rfl rfl fun a HF => ?_
  refine wc_lenR HF nS Try.underlying36 rfl rfl rfl fun a HF => ?_
  refine wc_bin HF nS rfl rfl b_lt rfl rfl fun a HF => ?_
  refine wc_end (then_n ?_)
  by_cases hb3 : z2 < (x0.length : Int)
  have h := ifp hb3 h
  refine wp_if (b' := true) HF rfl (decide_eq_true hb3) ?_
  refine wp_skip (then_n (wp_seq (wp_block (wp_seq (wc_text (wm HF rfl rfl rfl fun a HF => ?_))))))
  refine wm HF rfl rfl rfl fun a HF => ?_
  refine wm HF rfl rfl rfl fun a HF => ?_
  obtain ⟨e2, hx4, h⟩ := obs h
  refine wc_ixaddr HF nS el36 rfl ha1 ((HT.ro hr_x0).any).neq rfl hx4 rfl rfl fun a HF => ?_
  have hc2 := (HT.ro hr_x0).any.flatAt ha1 hx4
  refine wc_loadA (vs := [.int .i64 e2.a, .int .i64 e2.b, .int .i64 e2.c, .int .i64 e2.d]) HF rfl ag85 rfl (hc2.part 0 4) rfl rfl fun a HF => ?_
  obtain ⟨y2, hx5, h⟩ := obs h
  refine wc_call HF cf123 rfl (w_impl_opens fuel hx5) rfl rfl ?_
  rintro e w ⟨rfl, hE⟩
  have hb := hE.below
  have HT := HT.pure hE
  have HT : St w0 (fun _ => False) w [] := HT
  refine ⟨_, rfl, nS, fun a HF => ?_⟩
  obtain ⟨hg2, h⟩ := grd h
  refine wc_bin HF nS rfl rfl (b_add hg2) rfl rfl fun a HF => ?_
  refine wa HF rfl rfl rfl fun a HF => ?_
  refine wc_end (then_n (wp_seq (wc_text (wm HF rfl rfl rfl fun a HF => ?_))))
  refine wc_bin HF nS rfl rfl b_eq rfl rfl fun a HF => ?_
  refine wc_end (then_n ?_)
  by_cases hb4 : (z1 + y2) = 0
  have h := ifp hb4 h
  refine wp_if (b' := true) HF rfl (decide_eq_true hb4) ?_
  refine wp_seq (wc_text (wm HF rfl rfl rfl fun a HF => ?_))
  refine wa HF rfl rfl rfl fun a HF => ?_
  refine wc_end (then_n (wp_ret ?_))
  obtain rfl := Option.some.inj h
  have h := retL hk1
  obtain rfl := Option.some.inj h
  refine blk_r (then_r (then_r (blk_r (then_r (?_)))))
  refine bp_ret HF (res_one rfl HF rfl) ?_
  exact ⟨rfl, HT⟩
  have h := ifn hb4 h
  refine wp_if (b' := false) HF rfl (decide_eq_false hb4) ?_
  refine wp_skip (blk_n (then_n (wc_text (wm HF rfl rfl rfl fun a HF => ?_))))
  obtain ⟨hg3, h⟩ := grd h
  refine wc_bin HF nS rfl rfl (b_add hg3) rfl rfl fun a HF => ?_
  refine wa HF rfl rfl rfl fun a HF => ?_
  exact wc_end (then_n ⟨k1, Nat.lt_succ_self k1, z1 + y2, z2 + 1, h, (HF.keep (HF.keep (HF.keep HF.nil rfl) rfl) rfl), HT⟩)
  have h := ifn hb3 h
  refine wp_if (b' := false) HF rfl (decide_eq_false hb3) ?_
  refine wp_exit ?_
  refine then_x (then_x (?_))
  refine blk_x ?_
  exact then_n ⟨(Option.some.inj h).symm, HF.nil, HT⟩
  rintro a w ⟨rfl, HF, HT⟩
  have h := brkL1u h
  refine ?_
  refine wp_seq (wc_text (wa HF rfl rfl rfl fun a HF => ?_))
  refine wc_end (then_n (wp_ret ?_))
  obtain rfl := Option.some.inj h
  refine bp_ret HF (res_one rfl HF rfl) ?_
  exact ⟨rfl, HT⟩
  have h := ifn hb2 h
  refine wp_if (b' := true) HF rfl (notF (decide_eq_false hb2)) ?_
  refine wp_seq (wc_text (wa HF rfl rfl rfl fun a HF => ?_))
  refine wc_end (then_n (wp_ret ?_))
  obtain rfl := Option.some.inj h
  refine then_r (?_)
  refine bp_ret HF (res_one rfl HF rfl) ?_
  exact ⟨rfl, HT⟩
  have h := ifn hb1 h
  refine wc_skip HF nS (HF.wn rfl rfl rfl rfl (notF (Bool.eq_false_iff.2 hb1))) rfl fun a HF => ?_
  refine wc_skip HF nS (HF.wn rfl rfl rfl rfl (notF (Bool.eq_false_iff.2 hb1))) rfl fun a HF => ?_
  refine wc_skip HF nS (HF.wn rfl rfl rfl rfl (notF (Bool.eq_false_iff.2 hb1))) rfl fun a HF => ?_
  refine wc_skip HF nS (HF.wn rfl rfl rfl rfl (notF (Bool.eq_false_iff.2 hb1))) rfl fun a HF => ?_
  refine wc_skip HF nS (HF.wn rfl rfl rfl rfl (notF (Bool.eq_false_iff.2 hb1))) rfl fun a HF => ?_
  refine wc_skip HF nS (HF.wn rfl rfl rfl rfl (notF (Bool.eq_false_iff.2 hb1))) rfl fun a HF => ?_
  refine wc_pick (b := true) HF nS rfl (notF (Bool.eq_false_iff.2 hb1)) rfl rfl rfl fun a HF => ?_
  refine wc_end (then_n (wp_if (b' := true) HF rfl rfl ?_))
  refine wp_seq (wc_text (wa HF rfl rfl rfl fun a HF => ?_))
  refine wc_end (then_n (wp_ret ?_))
  obtain rfl := Option.some.inj h
  refine then_r (?_)
  refine bp_ret HF (res_one rfl HF rfl) ?_
  exact ⟨rfl, HT⟩

def m_impl_copyThings (fuel : Nat) (x0_0 : List Int) (x0_1 : List Int) (x0_2 : Int) : Option (List Int × List Int × Int) :=
  (m_impl_copyInts fuel x0_0).bind fun y1 =>
  (m_impl_copyInts fuel x0_1).bind fun y2 =>
  some (y1, y2, x0_2)

set_option maxRecDepth 100000 in
set_option maxHeartbeats 4000000 in
theorem w_impl_copyThings (fuel : Nat) {x0_0 : List Int} {x0_1 : List Int} {x0_2 : Int} {a_x0_0 : Option Addr} {n_x0_0 c_x0_0 : Nat} {a_x0_1 : Option Addr} {n_x0_1 c_x0_1 : Nat} {r0_0 : List Int} {r0_1 : List Int} {r0_2 : Int} {w0 : World} (h : m_impl_copyThings fuel x0_0 x0_1 x0_2 = some (r0_0, r0_1, r0_2)) (hr_x0_0 : RdT (fun b => ¬ False) w0 (rowT x0_0) (.slice a_x0_0 n_x0_0 c_x0_0)) (hr_x0_1 : RdT (fun b => ¬ False) w0 (rowT x0_1) (.slice a_x0_1 n_x0_1 c_x0_1)) :
    Calls Try.prog 82 #[.agg #[.slice a_x0_0 n_x0_0 c_x0_0, .slice a_x0_1 n_x0_1 c_x0_1, .int .i64 x0_2]] w0 fun e w => ∃ a_r0_0 n_r0_0 c_r0_0, ∃ a_r0_1 n_r0_1 c_r0_1, e = .returned (.agg #[.slice a_r0_0 n_r0_0 c_r0_0, .slice a_r0_1 n_r0_1 c_r0_1, .int .i64 r0_2]) ∧ St w0 (fun _ => False) w [Own 3 (rowT r0_0) (.slice a_r0_0 n_r0_0 c_r0_0), Own 3 (rowT r0_1) (.slice a_r0_1 n_r0_1 c_r0_1)] := by
  obtain rfl := hr_x0_0.neq
  obtain rfl := hr_x0_1.neq
  have HT : St w0 (fun _ => False) w0 [] := St.init0
  rw [m_impl_copyThings] at h
  refine calls_fr (n := 12) [.agg #[.slice a_x0_0 x0_0.length c_x0_0, .slice a_x0_1 x0_1.length c_x0_1, .int .i64 x0_2]] Try.func82 rfl rfl rfl fun a HF => ?_
  have HT : St w0 (fun _ => False) w0 [] := HT
  refine wp_seq (wc_text (wc_box (cs := [.slice a_x0_0 x0_0.length c_x0_0, .slice a_x0_1 x0_1.length c_x0_1, .int .i64 x0_2]) HF HT rfl rfl rfl rfl (fun p1 w HT hb => ⟨nS, fun a HF => ?_⟩)))
  refine wc_alloc (cs := [.slice none 0 0, .slice none 0 0, .int .i64 0]) HF HT zr27 rfl rfl rfl (fun p2 w HT hb => ⟨nS, fun a HF => ?_⟩)
  refine wc_end (then_n (wp_seq (wp_region_can [(0, true), (1, true), (3, false), (4, false), (6, false), (7, false), (2, false), (5, false), (8, true), (9, true)] (fun w' => w'.cell? ⟨p1, 1, none⟩ = some (.slice a_x0_1 x0_1.length c_x0_1) ∧ w'.cell? ⟨p1, 2, none⟩ = some (.int .i64 x0_2) ∧ True) (by kernel_rfl) (by kernel_rfl) ?_)))
  have HT := HT.drew
  refine wc_faddr HF nS rfl fl27_0 rfl rfl fun a HF => ?_
  refine wc_load HF rfl sc22 ((HT.boxAt 1 rfl).get 0 rfl) rfl rfl fun a HF => ?_
  refine wc_faddr HF (fun _ => ⟨(HT.boxAt 1 rfl).get 1 rfl, (HT.boxAt 1 rfl).get 2 rfl, trivial⟩) rfl fl27_1 rfl rfl fun a HF => ?_
  refine wc_loadS HF ⟨(HT.boxAt 1 rfl).get 1 rfl, (HT.boxAt 1 rfl).get 2 rfl, trivial⟩ rfl sc22 (fun w hS => hS.1) rfl rfl fun a HF => ?_
  refine wc_faddr HF (fun _ => ⟨(HT.boxAt 1 rfl).get 1 rfl, (HT.boxAt 1 rfl).get 2 rfl, trivial⟩) rfl fl27_2 rfl rfl fun a HF => ?_
  refine wc_loadS HF ⟨(HT.boxAt 1 rfl).get 1 rfl, (HT.boxAt 1 rfl).get 2 rfl, trivial⟩ rfl sc3 (fun w hS => hS.2.1) rfl rfl fun a HF => ?_
  obtain ⟨y1, hx1, h⟩ := obs h
  refine wc_call HF cf103 rfl (w_impl_copyInts fuel hx1 (HT.ro hr_x0_0).any) rfl rfl ?_
  rintro e w ⟨a1, n1, c1, rfl, hE⟩
  have hb := hE.below
  have HT := HT.pure hE
  obtain rfl := (HT.rdAt 0 rfl).neq
  have HT : St w0 (fun _ => False) w [Own 3 (rowT y1) (.slice a1 y1.length c1), Box p2 [.slice none 0 0, .slice none 0 0, .int .i64 0], Box p1 [.slice a_x0_0 x0_0.length c_x0_0, .slice a_x0_1 x0_1.length c_x0_1, .int .i64 x0_2]] := HT
  refine ⟨_, rfl, (fun _ => ⟨(HT.boxAt 2 rfl).get 1 rfl, (HT.boxAt 2 rfl).get 2 rfl, trivial⟩), fun a HF => ?_⟩
  obtain ⟨y2, hx2, h⟩ := obs h
  refine wc_call HF cf103 rfl (w_impl_copyInts fuel hx2 (HT.ro hr_x0_1).any) rfl rfl ?_
  rintro e w ⟨a2, n2, c2, rfl, hE⟩
  have hb := hE.below
  have HT := HT.pure hE
  obtain rfl := (HT.rdAt 0 rfl).neq
  have HT : St w0 (fun _ => False) w [Own 3 (rowT y2) (.slice a2 y2.length c2), Own 3 (rowT y1) (.slice a1 y1.length c1), Box p2 [.slice none 0 0, .slice none 0 0, .int .i64 0], Box p1 [.slice a_x0_0 x0_0.length c_x0_0, .slice a_x0_1 x0_1.length c_x0_1, .int .i64 x0_2]] := HT
  refine ⟨_, rfl, (fun _ => ⟨(HT.boxAt 3 rfl).get 1 rfl, (HT.boxAt 3 rfl).get 2 rfl, trivial⟩), fun a HF => ?_⟩
  refine wc_build (cs := #[.slice a1 y1.length c1, .slice a2 y2.length c2, .int .i64 x0_2]) HF nS bd27 rfl rfl rfl rfl fun a HF => ?_
  have HT := HT.p2
  refine wc_storeB (cs' := [.slice a1 y1.length c1, .slice a2 y2.length c2, .int .i64 x0_2]) HF HT rfl rfl (fun w => (ag27 w).2) rfl rfl rfl rfl rfl (fun w HT => ⟨nS, ?_⟩)
  refine wc_endN (then_n (wp_ret ?_))
  have hj1 := Option.some.inj h
  obtain ⟨rfl, hj2⟩ := Prod.mk.inj hj1
  obtain ⟨rfl, hj3⟩ := Prod.mk.inj hj2
  subst hj3
  refine bp_ret HF (res_cell (vs := [.slice a1 y1.length c1, .slice a2 y2.length c2, .int .i64 x0_2]) rfl HF rfl ag27 rfl (HT.boxAt 0 rfl)) ?_
  have HT := HT.p1.p2.t2
  exact ⟨a1, y1.length, c1, a2, y2.length, c2, rfl, HT⟩

def m_slices_Index___int_int__L0 (fuel : Nat) (x0 : List Int) (x1 : Int) : Nat → Int → Option (Lp Unit Int)
  | 0, _ => none
  | k1 + 1, z1 =>
    if z1 < (x0.length : Int) then
      (at? x0 z1).bind fun e1 =>
      if x1 = e1 then
        some (.ret z1)
      else
      if in64 (z1 + 1) then
        m_slices_Index___int_int__L0 fuel x0 x1 k1 (z1 + 1)
      else none
    else
    some (.brk ())

def m_slices_Index___int_int_ (fuel : Nat) (x0 : List Int) (x1 : Int) : Option Int :=
  (m_slices_Index___int_int__L0 fuel x0 x1 fuel 0).bind <| contL <| un1 fun _ =>
  some (-1)

set_option maxRecDepth 100000 in
set_option maxHeartbeats 4000000 in
theorem w_slices_Index___int_int_ (fuel : Nat) {x0 : List Int} {x1 : Int} {a_x0 : Option Addr} {n_x0 c_x0 : Nat} {r0 : Int} {w0 : World} (h : m_slices_Index___int_int_ fuel x0 x1 = some r0) (hr_x0 : RdT (fun b => ¬ False) w0 (rowT x0) (.slice a_x0 n_x0 c_x0)) :
    Calls Try.prog 126 #[.slice a_x0 n_x0 c_x0, .int .i64 x1] w0 fun e w => e = .returned (.int .i64 r0) ∧ St w0 (fun _ => False) w [] := by
  obtain rfl := hr_x0.neq
  have HT : St w0 (fun _ => False) w0 [] := St.init0
  rw [m_slices_Index___int_int_] at h
  refine calls_fr (n := 19) [.slice a_x0 x0.length c_x0, .int .i64 x1] Try.func126 rfl rfl rfl fun a HF => ?_
  have HT : St w0 (fun _ => False) w0 [] := HT
  refine wp_seq (wc_text (wa HF rfl rfl rfl fun a HF => ?_))
  refine wc_end (then_n ?_)
  obtain ⟨q1, hx1, h⟩ := obs h
  refine wp_cut (fun a w => q1 = .brk () ∧ Fr a 19 [] ∧ St w0 (fun _ => False) w []) ?_ ?_
  have hk1 := h
  have h := hx1
  refine wp_seq (wc_text (wm HF rfl rfl rfl fun a HF => ?_))
  refine wc_lenR HF nS Try.underlying22 rfl rfl rfl fun a HF => ?_
  refine wm HF rfl rfl rfl fun a HF => ?_
  refine wc_end (then_n (wp_block (wp_loopN (fun k1 a w => ∃ z1, m_slices_Index___int_int__L0 fuel x0 x1 k1 z1 = some q1 ∧ Fr a 19 [(0, .slice a_x0 x0.length c_x0), (1, .int .i64 x1), (7, .int .i64 (x0.length : Int)), (8, .int .i64 z1)] ∧ St w0 (fun _ => False) w []) fuel ⟨0, h, (HF.keep (HF.keep (HF.keep (HF.keep HF.nil rfl) rfl) rfl) rfl), HT⟩ ?_)))
  rintro k1 a w ⟨z1, h, HF, HT⟩
  rcases k1 with _ | k1
  cases h
  rw [m_slices_Index___int_int__L0] at h
  refine ?_
  refine wp_seq (wc_text (wc_bin HF nS rfl rfl b_lt rfl rfl fun a HF => ?_))
  refine wc_end (then_n (wp_seq ?_))
  by_cases hb1 : z1 < (x0.length : Int)
  have h := ifp hb1 h
  refine wp_if (b' := true) HF rfl (decide_eq_true hb1) ?_
  refine wp_skip (then_n (wp_seq (wp_block (wp_seq (wc_text (wm HF rfl rfl rfl fun a HF => ?_))))))
  refine wa HF rfl rfl rfl fun a HF => ?_
  refine wc_end (then_n (wp_seq (wc_text (wm HF rfl rfl rfl fun a HF => ?_))))
  refine wm HF rfl rfl rfl fun a HF => ?_
  refine wm HF rfl rfl rfl fun a HF => ?_
  obtain ⟨e1, hx2, h⟩ := obs h
  obtain ⟨b1, o1, ha1⟩ := (HT.ro hr_x0).any.addr hx2
  refine wc_ixaddr HF nS el22 rfl ha1 ((HT.ro hr_x0).any).neq rfl hx2 rfl rfl fun a HF => ?_
  have hc1 := (HT.ro hr_x0).any.flatAt ha1 hx2
  refine wc_load HF rfl sc3 (hc1.get 0 rfl) rfl rfl fun a HF => ?_
  refine wc_bin HF nS rfl rfl b_eq rfl rfl fun a HF => ?_
  refine wc_end (then_n ?_)
  by_cases hb2 : x1 = e1
  have h := ifp hb2 h
  refine wp_if (b' := true) HF rfl (decide_eq_true hb2) ?_
  refine wp_seq (wc_text (wm HF rfl rfl rfl fun a HF => ?_))
  refine wa HF rfl rfl rfl fun a HF => ?_
  refine wc_end (then_n (wp_ret ?_))
  obtain rfl := Option.some.inj h
  have h := retL hk1
  obtain rfl := Option.some.inj h
  refine blk_r (then_r (then_r (blk_r (then_r (?_)))))
  refine bp_ret HF (res_one rfl HF rfl) ?_
  exact ⟨rfl, HT⟩
  have h := ifn hb2 h
  refine wp_if (b' := false) HF rfl (decide_eq_false hb2) ?_
  refine wp_skip (blk_n (then_n (wc_text ?_)))
  obtain ⟨hg1, h⟩ := grd h
  refine wc_bin HF nS rfl rfl (b_add hg1) rfl rfl fun a HF => ?_
  refine wm HF rfl rfl rfl fun a HF => ?_
  exact wc_end (then_n ⟨k1, Nat.lt_succ_self k1, z1 + 1, h, (HF.keep (HF.keep (HF.keep (HF.keep HF.nil rfl) rfl) rfl) rfl), HT⟩)
  have h := ifn hb1 h
  refine wp_if (b' := false) HF rfl (decide_eq_false hb1) ?_
  refine wp_exit ?_
  refine then_x (then_x (?_))
  refine blk_x ?_
  exact then_n ⟨(Option.some.inj h).symm, HF.nil, HT⟩
  rintro a w ⟨rfl, HF, HT⟩
  have h := brkL1u h
  refine ?_
  refine wp_seq (wc_text (wa HF rfl rfl rfl fun a HF => ?_))
  refine wc_end (then_n (wp_ret ?_))
  obtain rfl := Option.some.inj h
  refine bp_ret HF (res_one rfl HF rfl) ?_
  exact ⟨rfl, HT⟩

def m_slices_Contains___int_int_ (fuel : Nat) (x0 : List Int) (x1 : Int) : Option Bool :=
  (m_slices_Index___int_int_ fuel x0 x1).bind fun y1 =>
  some (decide (0 ≤ y1))

set_option maxRecDepth 100000 in
set_option maxHeartbeats 4000000 in
theorem w_slices_Contains___int_int_ (fuel : Nat) {x0 : List Int} {x1 : Int} {a_x0 : Option Addr} {n_x0 c_x0 : Nat} {r0 : Bool} {w0 : World} (h : m_slices_Contains___int_int_ fuel x0 x1 = some r0) (hr_x0 : RdT (fun b => ¬ False) w0 (rowT x0) (.slice a_x0 n_x0 c_x0)) :
    Calls Try.prog 111 #[.slice a_x0 n_x0 c_x0, .int .i64 x1] w0 fun e w => e = .returned (.bool r0) ∧ St w0 (fun _ => False) w [] := by
  obtain rfl := hr_x0.neq
  have HT : St w0 (fun _ => False) w0 [] := St.init0
  rw [m_slices_Contains___int_int_] at h
  refine calls_fr (n := 9) [.slice a_x0 x0.length c_x0, .int .i64 x1] Try.func111 rfl rfl rfl fun a HF => ?_
  have HT : St w0 (fun _ => False) w0 [] := HT
  refine wp_seq (wc_text (wa HF rfl rfl rfl fun a HF => ?_))
  refine wc_end (then_n (wp_seq (wc_text (wm HF rfl rfl rfl fun a HF => ?_))))
  refine wm HF rfl rfl rfl fun a HF => ?_
  obtain ⟨y1, hx1, h⟩ := obs h
  refine wc_call HF cf126 rfl (w_slices_Index___int_int_ fuel hx1 (HT.ro hr_x0).any) rfl rfl ?_
  rintro e w ⟨rfl, hE⟩
  have hb := hE.below
  have HT := HT.pure hE
  have HT : St w0 (fun _ => False) w [] := HT
  refine ⟨_, rfl, nS, fun a HF => ?_⟩
  refine wc_bin HF nS rfl rfl b_ge rfl rfl fun a HF => ?_
  refine wa HF rfl rfl rfl fun a HF => ?_
  refine wc_end (then_n (wp_ret ?_))
  obtain rfl := Option.some.inj h
  refine bp_ret HF (res_one rfl HF rfl) ?_
  exact ⟨rfl, HT⟩

def m_impl_fullOrder_L0 (fuel : Nat) (x0 : List Int) (x1 : Int) : Nat → (List Int) → Int → Option (List Int)
  | 0, _, _ => none
  | k1 + 1, z2, z3 =>
    if z3 < x1 then
      (
        (m_slices_Contains___int_int_ fuel x0 z3).bind fun y2 =>
        if y2 = true then
          some z2
        else
        if z2.length + 1 ≤ 17179869184 then
          some (z2 ++ ([z3] : List Int))
        else none).bind fun z4 =>
      if in64 (z3 + 1) then
        m_impl_fullOrder_L0 fuel x0 x1 k1 z4 (z3 + 1)
      else none
    else
    some z2

def m_impl_fullOrder (fuel : Nat) (x0 : List Int) (x1 : Int) : Option (List Int) :=
  (m_impl_copyInts fuel x0).bind fun y1 =>
  (m_impl_fullOrder_L0 fuel x0 x1 fuel y1 0).bind fun z1 =>
  some z1

set_option maxRecDepth 100000 in
set_option maxHeartbeats 4000000 in
theorem w_impl_fullOrder (fuel : Nat) {x0 : List Int} {x1 : Int} {a_x0 : Option Addr} {n_x0 c_x0 : Nat} {r0 : List Int} {w0 : World} (h : m_impl_fullOrder fuel x0 x1 = some r0) (hr_x0 : RdT (fun b => ¬ False) w0 (rowT x0) (.slice a_x0 n_x0 c_x0)) :
    Calls Try.prog 106 #[.slice a_x0 n_x0 c_x0, .int .i64 x1] w0 fun e w => ∃ a_r0 n_r0 c_r0, e = .returned (.slice a_r0 n_r0 c_r0) ∧ St w0 (fun _ => False) w [Own 3 (rowT r0) (.slice a_r0 n_r0 c_r0)] := by
  obtain rfl := hr_x0.neq
  have HT : St w0 (fun _ => False) w0 [] := St.init0
  rw [m_impl_fullOrder] at h
  refine calls_fr (n := 23) [.slice a_x0 x0.length c_x0, .int .i64 x1] Try.func106 rfl rfl rfl fun a HF => ?_
  have HT : St w0 (fun _ => False) w0 [] := HT
  refine wp_seq (wc_text (wa HF rfl rfl rfl fun a HF => ?_))
  refine wc_end (then_n (wp_seq (wc_text (wm HF rfl rfl rfl fun a HF => ?_))))
  obtain ⟨y1, hx1, h⟩ := obs h
  refine wc_call HF cf103 rfl (w_impl_copyInts fuel hx1 (HT.ro hr_x0).any) rfl rfl ?_
  rintro e w ⟨a1, n1, c1, rfl, hE⟩
  have hb := hE.below
  have HT := HT.pure hE
  obtain rfl := (HT.rdAt 0 rfl).neq
  have HT : St w0 (fun _ => False) w [Own 3 (rowT y1) (.slice a1 y1.length c1)] := HT
  refine ⟨_, rfl, nS, fun a HF => ?_⟩
  refine wa HF rfl rfl rfl fun a HF => ?_
  refine wc_end (then_n ?_)
  obtain ⟨z1, hx2, h⟩ := obs h
  refine wp_cut (fun a w => ∃ a2 n2 c2, Fr a 23 [(5, .slice a2 n2 c2)] ∧ St w0 (fun _ => False) w [Own 3 (rowT z1) (.slice a2 n2 c2)]) ?_ ?_
  have hk1 := h
  have h := hx2
  refine wp_seq (wc_text (wm HF rfl rfl rfl fun a HF => ?_))
  refine wm HF rfl rfl rfl fun a HF => ?_
  refine wc_end (then_n (wp_block (wp_loopN (fun k1 a w => ∃ z2 z3 a3 n3 c3, m_impl_fullOrder_L0 fuel x0 x1 k1 z2 z3 = some z1 ∧ Fr a 23 [(0, .slice a_x0 x0.length c_x0), (5, .slice a3 n3 c3), (9, .int .i64 x1), (10, .int .i64 z3)] ∧ St w0 (fun _ => False) w [Own 3 (rowT z2) (.slice a3 n3 c3)]) fuel ⟨y1, 0, a1, y1.length, c1, h, (HF.keep (HF.keep (HF.keep (HF.keep HF.nil rfl) rfl) rfl) rfl), HT⟩ ?_)))
  rintro k1 a w ⟨z2, z3, a3, n3, c3, h, HF, HT⟩
  rcases k1 with _ | k1
  cases h
  rw [m_impl_fullOrder_L0] at h
  obtain rfl := (HT.rdAt 0 rfl).neq
  refine ?_
  refine wp_seq (wc_text (wc_bin HF nS rfl rfl b_lt rfl rfl fun a HF => ?_))
  refine wc_end (then_n (wp_seq ?_))
  by_cases hb1 : z3 < x1
  have h := ifp hb1 h
  refine wp_if (b' := true) HF rfl (decide_eq_true hb1) ?_
  refine wp_skip (then_n ?_)
  obtain ⟨z4, hx3, h⟩ := obs h
  refine wp_cut (fun a w => ∃ a4 n4 c4, Fr a 23 [(0, .slice a_x0 x0.length c_x0), (5, .slice a4 n4 c4), (9, .int .i64 x1), (10, .int .i64 z3)] ∧ St w0 (fun _ => False) w [Own 3 (rowT z4) (.slice a4 n4 c4)]) ?_ ?_
  have hk2 := h
  have h := hx3
  refine wp_block (wp_seq (wc_text (wm HF rfl rfl rfl fun a HF => ?_)))
  refine wa HF rfl rfl rfl fun a HF => ?_
  refine wc_end (then_n (wp_seq (wc_text (wm HF rfl rfl rfl fun a HF => ?_))))
  refine wm HF rfl rfl rfl fun a HF => ?_
  obtain ⟨y2, hx4, h⟩ := obs h
  refine wc_call HF cf111 rfl (w_slices_Contains___int_int_ fuel hx4 (HT.ro hr_x0).any) rfl rfl ?_
  rintro e w ⟨rfl, hE⟩
  have hb := hE.below
  have HT := HT.pure hE
  have HT : St w0 (fun _ => False) w [Own 3 (rowT z2) (.slice a3 z2.length c3)] := HT
  refine ⟨_, rfl, nS, fun a HF => ?_⟩
  refine wc_not HF nS rfl rfl rfl fun a HF => ?_
  refine wc_end (then_n ?_)
  by_cases hb2 : y2 = true
  have h := ifp hb2 h
  refine wp_if (b' := false) HF rfl (notT hb2) ?_
  refine wp_skip (blk_n ?_)
  obtain rfl := Option.some.inj h
  exact then_n ⟨a3, z2.length, c3, (HF.keep (HF.keep (HF.keep (HF.keep HF.nil rfl) rfl) rfl) rfl), HT⟩
  have h := ifn hb2 h
  refine wp_if (b' := true) HF rfl (notF (Bool.eq_false_iff.2 hb2)) ?_
  refine wc_text (wm HF rfl rfl rfl fun a HF => ?_)
  refine wm HF rfl rfl rfl fun a HF => ?_
  refine wc_bslice (l := ([z3] : List Int)) (cs := [.int .i64 z3]) (A := []) HF HT bs22_1 rfl rfl (gives_flat rfl) rfl (by decide) rfl rfl (fun p1 w HT hb  => ⟨nS, fun a HF => ?_⟩)
  obtain ⟨hg1, h⟩ := grd h
  have HT := HT.p1
  refine wc_append HF HT el22 rfl rfl (Nat.zero_lt_succ _) hg1 rfl rfl rfl (fun a5 c5 w HT => ⟨nS, fun a HF => ?_⟩)
  refine wa HF rfl rfl rfl fun a HF => ?_
  refine wc_end (blk_n ?_)
  obtain rfl := Option.some.inj h
  exact then_n ⟨a5, (z2 ++ ([z3] : List Int)).length, c5, (HF.keep (HF.keep (HF.keep (HF.keep HF.nil rfl) rfl) rfl) rfl), HT⟩
  rintro a w ⟨a4, n4, c4, HF, HT⟩
  obtain rfl := (HT.rdAt 0 rfl).neq
  refine ?_
  refine wc_text ?_
  obtain ⟨hg2, h⟩ := grd h
  refine wc_bin HF nS rfl rfl (b_add hg2) rfl rfl fun a HF => ?_
  refine wm HF rfl rfl rfl fun a HF => ?_
  exact wc_end (then_n ⟨k1, Nat.lt_succ_self k1, z4, z3 + 1, a4, z4.length, c4, h, (HF.keep (HF.keep (HF.keep (HF.keep HF.nil rfl) rfl) rfl) rfl), HT⟩)
  have h := ifn hb1 h
  refine wp_if (b' := false) HF rfl (decide_eq_false hb1) ?_
  refine wp_exit ?_
  refine then_x (then_x (?_))
  refine blk_x ?_
  obtain rfl := Option.some.inj h
  exact then_n ⟨a3, z2.length, c3, (HF.keep HF.nil rfl), HT⟩
  rintro a w ⟨a2, n2, c2, HF, HT⟩
  obtain rfl := (HT.rdAt 0 rfl).neq
  refine ?_
  refine wp_seq (wc_text (wm HF rfl rfl rfl fun a HF => ?_))
  refine wa HF rfl rfl rfl fun a HF => ?_
  refine wc_end (then_n (wp_ret ?_))
  obtain rfl := Option.some.inj h
  refine bp_ret HF (res_one rfl HF rfl) ?_
  exact ⟨a2, z1.length, c2, rfl, HT⟩

def m_impl_touch (fuel : Nat) (x0_0 : Int) (x0_1 : Int) (x0_2 : Int) (x0_3 : Int) (x1 : List Int) (x2_0 : List Int) (x2_1 : List Int) (x2_2 : Int) : Option (List Int × List Int × List Int × Int) :=
  if x0_0 = 5 then
    (at? x2_0 x0_2).bind fun e1 =>
    (at? x1 x0_1).bind fun e2 =>
    some (x1.set x0_1.toNat e1, x2_0, x2_1, x2_2)
  else
  if x0_0 = 6 then
    (at? x1 x0_2).bind fun e3 =>
    (at? x2_0 x0_1).bind fun e4 =>
    some (x1, x2_0.set x0_1.toNat e3, x2_1, x2_2)
  else
  if x0_0 = 12 then
    (at? x2_1 x0_1).bind fun e5 =>
    (at? x1 x0_2).bind fun e6 =>
    if in64 (e6 + 1) then
      if (65536 : Int) ≠ 0 then
        (at? x1 x0_3).bind fun e7 =>
        some (x1.set x0_3.toNat (e5.tmod 65536), x2_0, x2_1.set x0_1.toNat (e6 + 1), x2_2)
      else none
    else none
  else
  if x0_0 = 13 then
    (at? x2_1 x0_2).bind fun e8 =>
    if (65536 : Int) ≠ 0 then
      (at? x1 x0_1).bind fun e9 =>
      some (x1.set x0_1.toNat (e8.tmod 65536), x2_0, x2_1, x2_2)
    else none
  else
  if x0_0 = 14 then
    (at? x2_1 x0_1).bind fun e10 =>
    if (65536 : Int) ≠ 0 then
      (at? x1 x0_2).bind fun e11 =>
      some (x1.set x0_2.toNat (e10.tmod 65536), x2_0, x2_1.set x0_1.toNat 0, x2_2)
    else none
  else
  if x0_0 = 15 then
    (at? x1 x0_1).bind fun e12 =>
    if in64 (x2_2 + e12) then
      if (65536 : Int) ≠ 0 then
        some (x1, x2_0, x2_1, (x2_2 + e12).tmod 65536)
      else none
    else none
  else
  if x0_0 = 16 then
    (at? x1 x0_1).bind fun e13 =>
    some (x1.set x0_1.toNat x2_2, x2_0, x2_1, x2_2)
  else
  some (x1, x2_0, x2_1, x2_2)

set_option maxRecDepth 100000 in
set_option maxHeartbeats 4000000 in
theorem w_impl_touch (fuel : Nat) {x0_0 : Int} {x0_1 : Int} {x0_2 : Int} {x0_3 : Int} {x1 : List Int} {x2_0 : List Int} {x2_1 : List Int} {x2_2 : Int} {a_x1 : Option Addr} {n_x1 c_x1 : Nat} {a_x2_0 : Option Addr} {n_x2_0 c_x2_0 : Nat} {a_x2_1 : Option Addr} {n_x2_1 c_x2_1 : Nat} {p_2 : Nat} {x1' : List Int} {x2_0' : List Int} {x2_1' : List Int} {x2_2' : Int} {F : Foot} {w0 : World} (h : m_impl_touch fuel x0_0 x0_1 x0_2 x0_3 x1 x2_0 x2_1 x2_2 = some (x1', x2_0', x2_1', x2_2')) (hA : StF w0 F [OwnA (rowT x1) (.slice a_x1 n_x1 c_x1), Box p_2 [.slice a_x2_0 n_x2_0 c_x2_0, .slice a_x2_1 n_x2_1 c_x2_1, .int .i64 x2_2], OwnA (rowT x2_0) (.slice a_x2_0 n_x2_0 c_x2_0), OwnA (rowT x2_1) (.slice a_x2_1 n_x2_1 c_x2_1)]) :
    Calls Try.prog 107 #[.agg #[.int .i64 x0_0, .int .i64 x0_1, .int .i64 x0_2, .int .i64 x0_3], .slice a_x1 n_x1 c_x1, .pointer (some ⟨p_2, 0, none⟩)] w0 fun e w => e = .returned (.tuple #[]) ∧ St w0 F w [OwnA (rowT x1') (.slice a_x1 n_x1 c_x1), Box p_2 [.slice a_x2_0 n_x2_0 c_x2_0, .slice a_x2_1 n_x2_1 c_x2_1, .int .i64 x2_2'], OwnA (rowT x2_0') (.slice a_x2_0 n_x2_0 c_x2_0), OwnA (rowT x2_1') (.slice a_x2_1 n_x2_1 c_x2_1)] := by
  have HT0 := St.init hA
  obtain rfl := (HT0.rdAAt 0 rfl).neq
  obtain rfl := (HT0.rdAAt 2 rfl).neq
  obtain rfl := (HT0.rdAAt 3 rfl).neq
  have HT : St w0 F w0 [OwnA (rowT x1) (.slice a_x1 x1.length c_x1), Box p_2 [.slice a_x2_0 x2_0.length c_x2_0, .slice a_x2_1 x2_1.length c_x2_1, .int .i64 x2_2], OwnA (rowT x2_0) (.slice a_x2_0 x2_0.length c_x2_0), OwnA (rowT x2_1) (.slice a_x2_1 x2_1.length c_x2_1)] := St.init hA
  rw [m_impl_touch] at h
  refine calls_fr (n := 129) [.agg #[.int .i64 x0_0, .int .i64 x0_1, .int .i64 x0_2, .int .i64 x0_3], .slice a_x1 x1.length c_x1, .pointer (some ⟨p_2, 0, none⟩)] Try.func107 rfl rfl rfl fun a HF => ?_
  have HT : St w0 F w0 [OwnA (rowT x1) (.slice a_x1 x1.length c_x1), Box p_2 [.slice a_x2_0 x2_0.length c_x2_0, .slice a_x2_1 x2_1.length c_x2_1, .int .i64 x2_2], OwnA (rowT x2_0) (.slice a_x2_0 x2_0.length c_x2_0), OwnA (rowT x2_1) (.slice a_x2_1 x2_1.length c_x2_1)] := HT
  refine wp_seq (wc_text (wc_box (cs := [.int .i64 x0_0, .int .i64 x0_1, .int .i64 x0_2, .int .i64 x0_3]) HF HT rfl rfl rfl rfl (fun p1 w HT hb => ⟨nS, fun a HF => ?_⟩)))
  refine wc_end (then_n (wp_seq (wc_text (wc_faddr HF nS rfl fl85_0 rfl rfl fun a HF => ?_))))
  refine wc_load HF rfl sc3 ((HT.boxAt 0 rfl).get 0 rfl) rfl rfl fun a HF => ?_
  refine wc_end (then_n (wp_block (wp_seq (wc_text (wc_bin HF nS rfl rfl b_eq rfl rfl fun a HF => ?_)))))
  refine wa HF rfl rfl rfl fun a HF => ?_
  refine wc_end (then_n ?_)
  by_cases hb1 : x0_0 = 5
  have h := ifp hb1 h
  refine wp_if (b' := true) HF rfl (decide_eq_true hb1) ?_
  refine wp_region_can [(0, true), (1, true), (2, true), (3, true), (4, true), (5, true), (6, true), (7, true), (8, true), (9, true), (10, true), (11, true), (12, true)] (fun w' => True) (by kernel_rfl) (by kernel_rfl) ?_
  have HT := HT.drew
  refine wm HF rfl rfl rfl fun a HF => ?_
  refine wc_faddr HF nS rfl fl85_1 rfl rfl fun a HF => ?_
  refine wc_load HF rfl sc3 ((HT.boxAt 0 rfl).get 1 rfl) rfl rfl fun a HF => ?_
  refine wm HF rfl rfl rfl fun a HF => ?_
  refine wc_nilCheck HF nS rfl rfl rfl fun a HF => ?_
  refine wc_faddr HF nS rfl fl27_0 rfl rfl fun a HF => ?_
  refine wc_load HF rfl sc22 ((HT.boxAt 2 rfl).get 0 rfl) rfl rfl fun a HF => ?_
  refine wc_faddr HF nS rfl fl85_2 rfl rfl fun a HF => ?_
  refine wc_load HF rfl sc3 ((HT.boxAt 0 rfl).get 2 rfl) rfl rfl fun a HF => ?_
  obtain ⟨e1, hx1, h⟩ := obs h
  obtain ⟨b1, o1, ha1⟩ := (HT.rdAAt 3 rfl).addr hx1
  refine wc_ixaddr HF nS el22 rfl ha1 ((HT.rdAAt 3 rfl)).neq rfl hx1 rfl rfl fun a HF => ?_
  have hc1 := (HT.rdAAt 3 rfl).flatAt ha1 hx1
  refine wc_load HF rfl sc3 (hc1.get 0 rfl) rfl rfl fun a HF => ?_
  obtain ⟨e2, hx2, h⟩ := obs h
  obtain ⟨b2, o2, ha2⟩ := (HT.rdAAt 1 rfl).addr hx2
  refine wc_ixaddr HF nS el22 rfl ha2 ((HT.rdAAt 1 rfl)).neq rfl hx2 rfl rfl fun a HF => ?_
  have HT := HT.p1
  refine wc_storeRA (i := x0_1) (j := 0) (x' := e1) HF HT ha2 rfl rfl (fun w => (sc3 w).2) rfl rfl hx2 rfl rfl rfl rfl (fun w HT => ⟨nS, ?_⟩)
  refine wc_endN (blk_n ?_)
  have hj1 := Option.some.inj h
  obtain ⟨rfl, hj2⟩ := Prod.mk.inj hj1
  obtain ⟨rfl, hj3⟩ := Prod.mk.inj hj2
  obtain ⟨rfl, hj4⟩ := Prod.mk.inj hj3
  subst hj4
  refine bp_end HF (results_none rfl _ _ _) ?_
  have HT := HT.p4.p4.p4.p3.t4
  exact ⟨rfl, HT⟩
  have h := ifn hb1 h
  refine wp_if (b' := false) HF rfl (decide_eq_false hb1) ?_
  refine wp_seq (wc_text (wc_bin HF nS rfl rfl b_eq rfl rfl fun a HF => ?_))
  refine wa HF rfl rfl rfl fun a HF => ?_
  refine wc_end (then_n ?_)
  by_cases hb2 : x0_0 = 6
  have h := ifp hb2 h
  refine wp_if (b' := true) HF rfl (decide_eq_true hb2) ?_
  refine wp_region_can [(0, true), (1, true), (2, true), (3, true), (4, true), (5, true), (6, true), (7, true), (8, true), (9, true), (10, true), (11, true), (12, true)] (fun w' => True) (by kernel_rfl) (by kernel_rfl) ?_
  have HT := HT.drew
  refine wm HF rfl rfl rfl fun a HF => ?_
  refine wc_nilCheck HF nS rfl rfl rfl fun a HF => ?_
  refine wc_faddr HF nS rfl fl27_0 rfl rfl fun a HF => ?_
  refine wc_load HF rfl sc22 ((HT.boxAt 2 rfl).get 0 rfl) rfl rfl fun a HF => ?_
  refine wc_faddr HF nS rfl fl85_1 rfl rfl fun a HF => ?_
  refine wc_load HF rfl sc3 ((HT.boxAt 0 rfl).get 1 rfl) rfl rfl fun a HF => ?_
  refine wm HF rfl rfl rfl fun a HF => ?_
  refine wc_faddr HF nS rfl fl85_2 rfl rfl fun a HF => ?_
  refine wc_load HF rfl sc3 ((HT.boxAt 0 rfl).get 2 rfl) rfl rfl fun a HF => ?_
  obtain ⟨e3, hx3, h⟩ := obs h
  obtain ⟨b3, o3, ha3⟩ := (HT.rdAAt 1 rfl).addr hx3
  refine wc_ixaddr HF nS el22 rfl ha3 ((HT.rdAAt 1 rfl)).neq rfl hx3 rfl rfl fun a HF => ?_
  have hc2 := (HT.rdAAt 1 rfl).flatAt ha3 hx3
  refine wc_load HF rfl sc3 (hc2.get 0 rfl) rfl rfl fun a HF => ?_
  obtain ⟨e4, hx4, h⟩ := obs h
  obtain ⟨b4, o4, ha4⟩ := (HT.rdAAt 3 rfl).addr hx4
  refine wc_ixaddr HF nS el22 rfl ha4 ((HT.rdAAt 3 rfl)).neq rfl hx4 rfl rfl fun a HF => ?_
  have HT := HT.p3
  refine wc_storeRA (i := x0_1) (j := 0) (x' := e3) HF HT ha4 rfl rfl (fun w => (sc3 w).2) rfl rfl hx4 rfl rfl rfl rfl (fun w HT => ⟨nS, ?_⟩)
  refine wc_endN (blk_n ?_)
  have hj5 := Option.some.inj h
  obtain ⟨rfl, hj6⟩ := Prod.mk.inj hj5
  obtain ⟨rfl, hj7⟩ := Prod.mk.inj hj6
  obtain ⟨rfl, hj8⟩ := Prod.mk.inj hj7
  subst hj8
  refine bp_end HF (results_none rfl _ _ _) ?_
  have HT := HT.p4.p1.p4.p4.t4
  exact ⟨rfl, HT⟩
  have h := ifn hb2 h
  refine wp_if (b' := false) HF rfl (decide_eq_false hb2) ?_
  refine wp_seq (wc_text (wc_bin HF nS rfl rfl b_eq rfl rfl fun a HF => ?_))
  refine wa HF rfl rfl rfl fun a HF => ?_
  refine wc_end (then_n ?_)
  by_cases hb3 : x0_0 = 12
  have h := ifp hb3 h
  refine wp_if (b' := true) HF rfl (decide_eq_true hb3) ?_
  refine wp_seq (wp_region_can [(0, true), (1, true), (2, true), (3, true), (4, true), (5, true), (6, true), (7, true), (8, true)] (fun w' => True) (by kernel_rfl) (by kernel_rfl) ?_)
  have HT := HT.drew
  refine wm HF rfl rfl rfl fun a HF => ?_
  refine wc_nilCheck HF nS rfl rfl rfl fun a HF => ?_
  refine wc_faddr HF nS rfl fl27_1 rfl rfl fun a HF => ?_
  refine wc_load HF rfl sc22 ((HT.boxAt 2 rfl).get 1 rfl) rfl rfl fun a HF => ?_
  refine wc_faddr HF nS rfl fl85_1 rfl rfl fun a HF => ?_
  refine wc_load HF rfl sc3 ((HT.boxAt 0 rfl).get 1 rfl) rfl rfl fun a HF => ?_
  obtain ⟨e5, hx5, h⟩ := obs h
  obtain ⟨b5, o5, ha5⟩ := (HT.rdAAt 4 rfl).addr hx5
  refine wc_ixaddr HF nS el22 rfl ha5 ((HT.rdAAt 4 rfl)).neq rfl hx5 rfl rfl fun a HF => ?_
  have hc3 := (HT.rdAAt 4 rfl).flatAt ha5 hx5
  refine wc_load HF rfl sc3 (hc3.get 0 rfl) rfl rfl fun a HF => ?_
  refine wa HF rfl rfl rfl fun a HF => ?_
  refine wc_endN (then_n (wp_seq (wp_region_can [(0, true), (1, true), (2, true), (3, true), (4, true), (5, true), (6, true), (7, true), (8, true), (9, true), (10, true), (11, true), (12, true), (13, true)] (fun w' => True) (by kernel_rfl) (by kernel_rfl) ?_)))
  have HT := HT.drew
  refine wm HF rfl rfl rfl fun a HF => ?_
  refine wc_nilCheck HF nS rfl rfl rfl fun a HF => ?_
  refine wc_faddr HF nS rfl fl27_1 rfl rfl fun a HF => ?_
  refine wc_load HF rfl sc22 ((HT.boxAt 2 rfl).get 1 rfl) rfl rfl fun a HF => ?_
  refine wc_faddr HF nS rfl fl85_1 rfl rfl fun a HF => ?_
  refine wc_load HF rfl sc3 ((HT.boxAt 0 rfl).get 1 rfl) rfl rfl fun a HF => ?_
  refine wm HF rfl rfl rfl fun a HF => ?_
  refine wc_faddr HF nS rfl fl85_2 rfl rfl fun a HF => ?_
  refine wc_load HF rfl sc3 ((HT.boxAt 0 rfl).get 2 rfl) rfl rfl fun a HF => ?_
  obtain ⟨e6, hx6, h⟩ := obs h
  obtain ⟨b6, o6, ha6⟩ := (HT.rdAAt 1 rfl).addr hx6
  refine wc_ixaddr HF nS el22 rfl ha6 ((HT.rdAAt 1 rfl)).neq rfl hx6 rfl rfl fun a HF => ?_
  have hc4 := (HT.rdAAt 1 rfl).flatAt ha6 hx6
  refine wc_load HF rfl sc3 (hc4.get 0 rfl) rfl rfl fun a HF => ?_
  obtain ⟨hg1, h⟩ := grd h
  refine wc_bin HF nS rfl rfl (b_add hg1) rfl rfl fun a HF => ?_
  refine wc_ixaddr HF nS el22 rfl ha5 ((HT.rdAAt 4 rfl)).neq rfl hx5 rfl rfl fun a HF => ?_
  have HT := HT.p4
  refine wc_storeRA (i := x0_1) (j := 0) (x' := e6 + 1) HF HT ha5 rfl rfl (fun w => (sc3 w).2) rfl rfl hx5 rfl rfl rfl rfl (fun w HT => ⟨nS, ?_⟩)
  refine wc_endN (then_n (wc_text (wm HF rfl rfl rfl fun a HF => ?_)))
  refine wc_faddr HF nS rfl fl85_3 rfl rfl fun a HF => ?_
  refine wc_load HF rfl sc3 ((HT.boxAt 1 rfl).get 3 rfl) rfl rfl fun a HF => ?_
  refine wm HF rfl rfl rfl fun a HF => ?_
  obtain ⟨hg2, h⟩ := grd h
  refine wc_bin HF nS rfl rfl (b_rem hg2) rfl rfl fun a HF => ?_
  obtain ⟨e7, hx7, h⟩ := obs h
  refine wc_ixaddr HF nS el22 rfl ha6 ((HT.rdAAt 2 rfl)).neq rfl hx7 rfl rfl fun a HF => ?_
  have HT := HT.p2
  refine wc_storeRA (i := x0_3) (j := 0) (x' := e5.tmod 65536) HF HT ha6 rfl rfl (fun w => (sc3 w).2) rfl rfl hx7 rfl rfl rfl rfl (fun w HT => ⟨nS, ?_⟩)
  refine wc_end (blk_n ?_)
  have hj9 := Option.some.inj h
  obtain ⟨rfl, hj10⟩ := Prod.mk.inj hj9
  obtain ⟨rfl, hj11⟩ := Prod.mk.inj hj10
  obtain ⟨rfl, hj12⟩ := Prod.mk.inj hj11
  subst hj12
  refine bp_end HF (results_none rfl _ _ _) ?_
  have HT := HT.p1.p4.p4.p3.t4
  exact ⟨rfl, HT⟩
  have h := ifn hb3 h
  refine wp_if (b' := false) HF rfl (decide_eq_false hb3) ?_
  refine wp_seq (wc_text (wc_bin HF nS rfl rfl b_eq rfl rfl fun a HF => ?_))
  refine wa HF rfl rfl rfl fun a HF => ?_
  refine wc_end (then_n ?_)
  by_cases hb4 : x0_0 = 13
  have h := ifp hb4 h
  refine wp_if (b' := true) HF rfl (decide_eq_true hb4) ?_
  refine wp_region_can [(0, true), (1, true), (2, true), (3, true), (4, true), (5, true), (6, true), (7, true), (8, true), (9, true), (10, true), (11, true), (12, true), (13, true)] (fun w' => True) (by kernel_rfl) (by kernel_rfl) ?_
  have HT := HT.drew
  refine wm HF rfl rfl rfl fun a HF => ?_
  refine wc_faddr HF nS rfl fl85_1 rfl rfl fun a HF => ?_
  refine wc_load HF rfl sc3 ((HT.boxAt 0 rfl).get 1 rfl) rfl rfl fun a HF => ?_
  refine wm HF rfl rfl rfl fun a HF => ?_
  refine wc_nilCheck HF nS rfl rfl rfl fun a HF => ?_
  refine wc_faddr HF nS rfl fl27_1 rfl rfl fun a HF => ?_
  refine wc_load HF rfl sc22 ((HT.boxAt 2 rfl).get 1 rfl) rfl rfl fun a HF => ?_
  refine wc_faddr HF nS rfl fl85_2 rfl rfl fun a HF => ?_
  refine wc_load HF rfl sc3 ((HT.boxAt 0 rfl).get 2 rfl) rfl rfl fun a HF => ?_
  obtain ⟨e8, hx8, h⟩ := obs h
  obtain ⟨b7, o7, ha7⟩ := (HT.rdAAt 4 rfl).addr hx8
  refine wc_ixaddr HF nS el22 rfl ha7 ((HT.rdAAt 4 rfl)).neq rfl hx8 rfl rfl fun a HF => ?_
  have hc5 := (HT.rdAAt 4 rfl).flatAt ha7 hx8
  refine wc_load HF rfl sc3 (hc5.get 0 rfl) rfl rfl fun a HF => ?_
  obtain ⟨hg3, h⟩ := grd h
  refine wc_bin HF nS rfl rfl (b_rem hg3) rfl rfl fun a HF => ?_
  obtain ⟨e9, hx9, h⟩ := obs h
  obtain ⟨b8, o8, ha8⟩ := (HT.rdAAt 1 rfl).addr hx9
  refine wc_ixaddr HF nS el22 rfl ha8 ((HT.rdAAt 1 rfl)).neq rfl hx9 rfl rfl fun a HF => ?_
  have HT := HT.p1
  refine wc_storeRA (i := x0_1) (j := 0) (x' := e8.tmod 65536) HF HT ha8 rfl rfl (fun w => (sc3 w).2) rfl rfl hx9 rfl rfl rfl rfl (fun w HT => ⟨nS, ?_⟩)
  refine wc_endN (blk_n ?_)
  have hj13 := Option.some.inj h
  obtain ⟨rfl, hj14⟩ := Prod.mk.inj hj13
  obtain ⟨rfl, hj15⟩ := Prod.mk.inj hj14
  obtain ⟨rfl, hj16⟩ := Prod.mk.inj hj15
  subst hj16
  refine bp_end HF (results_none rfl _ _ _) ?_
  have HT := HT.p4.p4.p4.p3.t4
  exact ⟨rfl, HT⟩
  have h := ifn hb4 h
  refine wp_if (b' := false) HF rfl (decide_eq_false hb4) ?_
  refine wp_seq (wc_text (wc_bin HF nS rfl rfl b_eq rfl rfl fun a HF => ?_))
  refine wa HF rfl rfl rfl fun a HF => ?_
  refine wc_end (then_n ?_)
  by_cases hb5 : x0_0 = 14
  have h := ifp hb5 h
  refine wp_if (b' := true) HF rfl (decide_eq_true hb5) ?_
  refine wp_seq (wp_region_can [(0, true), (1, true), (2, true), (3, true), (4, true), (5, true), (6, true), (7, true), (8, true), (9, true), (10, true), (11, true), (12, true), (13, true)] (fun w' => True) (by kernel_rfl) (by kernel_rfl) ?_)
  have HT := HT.drew
  refine wm HF rfl rfl rfl fun a HF => ?_
  refine wc_faddr HF nS rfl fl85_2 rfl rfl fun a HF => ?_
  refine wc_load HF rfl sc3 ((HT.boxAt 0 rfl).get 2 rfl) rfl rfl fun a HF => ?_
  refine wm HF rfl rfl rfl fun a HF => ?_
  refine wc_nilCheck HF nS rfl rfl rfl fun a HF => ?_
  refine wc_faddr HF nS rfl fl27_1 rfl rfl fun a HF => ?_
  refine wc_load HF rfl sc22 ((HT.boxAt 2 rfl).get 1 rfl) rfl rfl fun a HF => ?_
  refine wc_faddr HF nS rfl fl85_1 rfl rfl fun a HF => ?_
  refine wc_load HF rfl sc3 ((HT.boxAt 0 rfl).get 1 rfl) rfl rfl fun a HF => ?_
  obtain ⟨e10, hx10, h⟩ := obs h
  obtain ⟨b9, o9, ha9⟩ := (HT.rdAAt 4 rfl).addr hx10
  refine wc_ixaddr HF nS el22 rfl ha9 ((HT.rdAAt 4 rfl)).neq rfl hx10 rfl rfl fun a HF => ?_
  have hc6 := (HT.rdAAt 4 rfl).flatAt ha9 hx10
  refine wc_load HF rfl sc3 (hc6.get 0 rfl) rfl rfl fun a HF => ?_
  obtain ⟨hg4, h⟩ := grd h
  refine wc_bin HF nS rfl rfl (b_rem hg4) rfl rfl fun a HF => ?_
  obtain ⟨e11, hx11, h⟩ := obs h
  obtain ⟨b10, o10, ha10⟩ := (HT.rdAAt 1 rfl).addr hx11
  refine wc_ixaddr HF nS el22 rfl ha10 ((HT.rdAAt 1 rfl)).neq rfl hx11 rfl rfl fun a HF => ?_
  have HT := HT.p1
  refine wc_storeRA (i := x0_2) (j := 0) (x' := e10.tmod 65536) HF HT ha10 rfl rfl (fun w => (sc3 w).2) rfl rfl hx11 rfl rfl rfl rfl (fun w HT => ⟨nS, ?_⟩)
  refine wc_endN (then_n (wp_region_can [(0, true), (1, true), (2, true), (3, true), (4, true), (5, true), (6, true), (7, true)] (fun w' => True) (by kernel_rfl) (by kernel_rfl) ?_))
  have HT := HT.drew
  refine wm HF rfl rfl rfl fun a HF => ?_
  refine wc_nilCheck HF nS rfl rfl rfl fun a HF => ?_
  refine wc_faddr HF nS rfl fl27_1 rfl rfl fun a HF => ?_
  refine wc_load HF rfl sc22 ((HT.boxAt 2 rfl).get 1 rfl) rfl rfl fun a HF => ?_
  refine wc_faddr HF nS rfl fl85_1 rfl rfl fun a HF => ?_
  refine wc_load HF rfl sc3 ((HT.boxAt 1 rfl).get 1 rfl) rfl rfl fun a HF => ?_
  refine wc_ixaddr HF nS el22 rfl ha9 ((HT.rdAAt 4 rfl)).neq rfl hx10 rfl rfl fun a HF => ?_
  have HT := HT.p4
  refine wc_storeRA (i := x0_1) (j := 0) (x' := 0) HF HT ha9 rfl rfl (fun w => (sc3 w).2) rfl rfl hx10 rfl rfl rfl rfl (fun w HT => ⟨nS, ?_⟩)
  refine wc_endN (blk_n ?_)
  have hj17 := Option.some.inj h
  obtain ⟨rfl, hj18⟩ := Prod.mk.inj hj17
  obtain ⟨rfl, hj19⟩ := Prod.mk.inj hj18
  obtain ⟨rfl, hj20⟩ := Prod.mk.inj hj19
  subst hj20
  refine bp_end HF (results_none rfl _ _ _) ?_
  have HT := HT.p4.p4.p3.t4
  exact ⟨rfl, HT⟩
  have h := ifn hb5 h
  refine wp_if (b' := false) HF rfl (decide_eq_false hb5) ?_
  refine wp_seq (wc_text (wc_bin HF nS rfl rfl b_eq rfl rfl fun a HF => ?_))
  refine wa HF rfl rfl rfl fun a HF => ?_
  refine wc_end (then_n ?_)
  by_cases hb6 : x0_0 = 15
  have h := ifp hb6 h
  refine wp_if (b' := true) HF rfl (decide_eq_true hb6) ?_
  refine wp_region_can [(0, true), (1, true), (2, true), (3, true), (4, true), (5, true), (6, true), (7, true), (8, true), (9, true), (10, true), (11, true), (12, true), (13, true), (14, true)] (fun w' => True) (by kernel_rfl) (by kernel_rfl) ?_
  have HT := HT.drew
  refine wm HF rfl rfl rfl fun a HF => ?_
  refine wm HF rfl rfl rfl fun a HF => ?_
  refine wc_nilCheck HF nS rfl rfl rfl fun a HF => ?_
  refine wc_faddr HF nS rfl fl27_2 rfl rfl fun a HF => ?_
  refine wc_load HF rfl sc3 ((HT.boxAt 2 rfl).get 2 rfl) rfl rfl fun a HF => ?_
  refine wm HF rfl rfl rfl fun a HF => ?_
  refine wc_faddr HF nS rfl fl85_1 rfl rfl fun a HF => ?_
  refine wc_load HF rfl sc3 ((HT.boxAt 0 rfl).get 1 rfl) rfl rfl fun a HF => ?_
  obtain ⟨e12, hx12, h⟩ := obs h
  obtain ⟨b11, o11, ha11⟩ := (HT.rdAAt 1 rfl).addr hx12
  refine wc_ixaddr HF nS el22 rfl ha11 ((HT.rdAAt 1 rfl)).neq rfl hx12 rfl rfl fun a HF => ?_
  have hc7 := (HT.rdAAt 1 rfl).flatAt ha11 hx12
  refine wc_load HF rfl sc3 (hc7.get 0 rfl) rfl rfl fun a HF => ?_
  obtain ⟨hg5, h⟩ := grd h
  refine wc_bin HF nS rfl rfl (b_add hg5) rfl rfl fun a HF => ?_
  obtain ⟨hg6, h⟩ := grd h
  refine wc_bin HF nS rfl rfl (b_rem hg6) rfl rfl fun a HF => ?_
  refine wc_nilCheck HF nS rfl rfl rfl fun a HF => ?_
  refine wc_faddr HF nS rfl fl27_2 rfl rfl fun a HF => ?_
  have HT := HT.p2
  refine wc_storeB (cs' := [.slice a_x2_0 x2_0.length c_x2_0, .slice a_x2_1 x2_1.length c_x2_1, .int .i64 ((x2_2 + e12).tmod 65536)]) HF HT rfl rfl (fun w => (sc3 w).2) rfl rfl rfl rfl rfl (fun w HT => ⟨nS, ?_⟩)
  refine wc_endN (blk_n ?_)
  have hj21 := Option.some.inj h
  obtain ⟨rfl, hj22⟩ := Prod.mk.inj hj21
  obtain ⟨rfl, hj23⟩ := Prod.mk.inj hj22
  obtain ⟨rfl, hj24⟩ := Prod.mk.inj hj23
  subst hj24
  refine bp_end HF (results_none rfl _ _ _) ?_
  have HT := HT.p4.p4.p2.p4.t4
  exact ⟨rfl, HT⟩
  have h := ifn hb6 h
  refine wp_if (b' := false) HF rfl (decide_eq_false hb6) ?_
  refine wp_seq (wc_text (wc_bin HF nS rfl rfl b_eq rfl rfl fun a HF => ?_))
  refine wa HF rfl rfl rfl fun a HF => ?_
  refine wc_end (then_n ?_)
  by_cases hb7 : x0_0 = 16
  have h := ifp hb7 h
  refine wp_if (b' := true) HF rfl (decide_eq_true hb7) ?_
  refine wp_region_can [(0, true), (1, true), (2, true), (3, true), (4, true), (5, true), (6, true), (7, true), (8, true)] (fun w' => True) (by kernel_rfl) (by kernel_rfl) ?_
  have HT := HT.drew
  refine wm HF rfl rfl rfl fun a HF => ?_
  refine wc_faddr HF nS rfl fl85_1 rfl rfl fun a HF => ?_
  refine wc_load HF rfl sc3 ((HT.boxAt 0 rfl).get 1 rfl) rfl rfl fun a HF => ?_
  refine wm HF rfl rfl rfl fun a HF => ?_
  refine wc_nilCheck HF nS rfl rfl rfl fun a HF => ?_
  refine wc_faddr HF nS rfl fl27_2 rfl rfl fun a HF => ?_
  refine wc_load HF rfl sc3 ((HT.boxAt 2 rfl).get 2 rfl) rfl rfl fun a HF => ?_
  obtain ⟨e13, hx13, h⟩ := obs h
  obtain ⟨b12, o12, ha12⟩ := (HT.rdAAt 1 rfl).addr hx13
  refine wc_ixaddr HF nS el22 rfl ha12 ((HT.rdAAt 1 rfl)).neq rfl hx13 rfl rfl fun a HF => ?_
  have HT := HT.p1
  refine wc_storeRA (i := x0_1) (j := 0) (x' := x2_2) HF HT ha12 rfl rfl (fun w => (sc3 w).2) rfl rfl hx13 rfl rfl rfl rfl (fun w HT => ⟨nS, ?_⟩)
  refine wc_endN (blk_n ?_)
  have hj25 := Option.some.inj h
  obtain ⟨rfl, hj26⟩ := Prod.mk.inj hj25
  obtain ⟨rfl, hj27⟩ := Prod.mk.inj hj26
  obtain ⟨rfl, hj28⟩ := Prod.mk.inj hj27
  subst hj28
  refine bp_end HF (results_none rfl _ _ _) ?_
  have HT := HT.p4.p4.p4.p3.t4
  exact ⟨rfl, HT⟩
  have h := ifn hb7 h
  refine wp_if (b' := false) HF rfl (decide_eq_false hb7) ?_
  refine wp_skip (blk_n ?_)
  have hj29 := Option.some.inj h
  obtain ⟨rfl, hj30⟩ := Prod.mk.inj hj29
  obtain ⟨rfl, hj31⟩ := Prod.mk.inj hj30
  obtain ⟨rfl, hj32⟩ := Prod.mk.inj hj31
  subst hj32
  refine bp_end HF (results_none rfl _ _ _) ?_
  have HT := HT.p4.p4.p4.p4.t4
  exact ⟨rfl, HT⟩

def m_impl_serial_L1 (fuel : Nat) (x1 : List KidD) (rcf : (List I4) → (List KidD) → (List Int) → (List Int) → (List Int) → (List Int) → Int → Option (Int × List Int × List Int × List Int × Int)) (y15 : List Int) (y16 : List Int) (z5 : List Int) (z6 : List Int) (z7 : List Int) (z8 : Int) (z9 : List MarkD) (z10 : Int) : Nat → (List Int) → (List Int) → Int → Option (Lp (List Int × List Int × List Int × Int × List MarkD × Int) (Int × List Int × List Int × List Int × Int))
  | 0, _, _, _ => none
  | k2 + 1, z18, z19, z20 =>
    if z20 < (y16.length : Int) then
      bind2 (
        (at? y16 z20).bind fun e9 =>
        bind5 (
          (at? x1 e9).bind fun e10 =>
          if 0 ≤ (8 : Int) ∧ (8 : Int) ≤ 1048576 then
            bind5 (rcf e10.code ([] : List KidD) ([] : List Int) y15 z19 (List.replicate (8 : Int).toNat (0 : Int)) 0) fun y17 y18 y19 y20 y21 =>
            some (y17, y18, y19, y20, y21)
          else none) fun z23 z24 z25 z26 z27 =>
        (at? z18 e9).bind fun e11 =>
        if z23 = 1 then
          (at? z24 0).bind fun e12 =>
          (at? (z18.set e9.toNat 0) e9).bind fun e13 =>
          some ((z18.set e9.toNat 0).set e9.toNat e12, z25)
        else
        some (z18.set e9.toNat 0, z25)) fun z21 z22 =>
      if in64 (z20 + 1) then
        m_impl_serial_L1 fuel x1 rcf y15 y16 z5 z6 z7 z8 z9 z10 k2 z21 z22 (z20 + 1)
      else none
    else
    some (.brk (z18, z19, z7, z8, z9, z10))

def m_impl_serial_L0 (fuel : Nat) (x0 : List I4) (x1 : List KidD) (x2 : List Int) (x4_0 : List Int) (x4_1 : List Int) (x4_2 : Int) (rcf : (List I4) → (List KidD) → (List Int) → (List Int) → (List Int) → (List Int) → Int → Option (Int × List Int × List Int × List Int × Int)) (y3 : List Int) (y4 : Int) : Nat → (List Int) → (List Int) → (List Int) → Int → (List MarkD) → Int → Option (Lp (List Int × List Int × List Int × Int) (Int × List Int × List Int × List Int × Int))
  | 0, _, _, _, _, _, _ => none
  | k1 + 1, z5, z6, z7, z8, z9, z10 =>
    if z10 < (x0.length : Int) then
      (
        (at? x0 z10).bind fun e1 =>
        (
          if e1.a = 1 then
            some (decide (e1.a = 1))
          else
          if e1.a = 2 then
            some (decide (e1.a = 2))
          else
          if e1.a = 3 then
            some (decide (e1.a = 3))
          else
          some (decide (e1.a = 4))).bind fun z17 =>
        if z17 = true then
          bind2 (m_impl_Calc fuel e1.a e1.b e1.c e1.d z5) fun y5 y6 =>
          some (.brk (y5, z6, z7, z8, z9, z10))
        else
        if e1.a = 7 then
          (at? z5 e1.b).bind fun e2 =>
          if e2 = 0 then
            if in64 (z10 + e1.c) then
              some (.brk (z5, z6, z7, z8, z9, z10 + e1.c))
            else none
          else
          some (.brk (z5, z6, z7, z8, z9, z10))
        else
        if e1.a = 8 then
          (m_impl_copyInts fuel z5).bind fun y7 =>
          bind3 (m_impl_copyThings fuel z6 z7 z8) fun y8 y9 y10 =>
          if z9.length + 1 ≤ 17179869184 then
            some (.brk (z5, z6, z7, z8, z9 ++ ([(⟨z10, y7, y8, y9, y10⟩ : MarkD)] : List MarkD), z10))
          else none
        else
        if e1.a = 9 then
          if in64 ((z9.length : Int) - 1) then
            (at? z9 ((z9.length : Int) - 1)).bind fun e3 =>
            if in64 ((z9.length : Int) - 1) then
              (at? x0 e3.at_).bind fun e4 =>
              (at? z5 e4.b).bind fun e5 =>
              some (.brk (z5.set e4.b.toNat 1, z6, z7, z8, subl z9 0 ((z9.length : Int) - 1), z10))
            else none
          else none
        else
        if e1.a = 10 then
          if (z9.length : Int) = 0 then
            bind3 (m_impl_copyThings fuel x4_0 x4_1 x4_2) fun y11 y12 y13 =>
            some (.ret (2, z5, y11, y12, y13))
          else
          if in64 ((z9.length : Int) - 1) then
            (at? z9 ((z9.length : Int) - 1)).bind fun e6 =>
            if in64 ((z9.length : Int) - 1) then
              (at? x0 e6.at_).bind fun e7 =>
              (at? e6.regs e7.b).bind fun e8 =>
              (m_impl_EndOf fuel x0 e6.at_).bind fun y14 =>
              some (.brk (e6.regs.set e7.b.toNat 0, e6.cells, e6.map, e6.count, subl z9 0 ((z9.length : Int) - 1), y14))
            else none
          else none
        else
        if e1.a = 11 then
          (m_impl_copyInts fuel z5).bind fun y15 =>
          (m_impl_fullOrder fuel x2 (x1.length : Int)).bind fun y16 =>
          m_impl_serial_L1 fuel x1 rcf y15 y16 z5 z6 z7 z8 z9 z10 fuel z5 z6 0
        else
        bind4 (m_impl_touch fuel e1.a e1.b e1.c e1.d z5 z6 z7 z8) fun y22 y23 y24 y25 =>
        some (.brk (y22, y23, y24, y25, z9, z10))).bind <| contM <| un6 fun z11 z12 z13 z14 z15 z16 =>
      if in64 (z16 + 1) then
        m_impl_serial_L0 fuel x0 x1 x2 x4_0 x4_1 x4_2 rcf y3 y4 k1 z11 z12 z13 z14 z15 (z16 + 1)
      else none
    else
    some (.brk (z5, z6, z7, z8))

def m_impl_serial_S (rcf : (List I4) → (List KidD) → (List Int) → (List Int) → (List Int) → (List Int) → Int → Option (Int × List Int × List Int × List Int × Int)) (fuel : Nat) (x0 : List I4) (x1 : List KidD) (x2 : List Int) (x3 : List Int) (x4_0 : List Int) (x4_1 : List Int) (x4_2 : Int) : Option (Int × List Int × List Int × List Int × Int) :=
  (m_impl_copyInts fuel x3).bind fun y1 =>
  bind3 (m_impl_copyThings fuel x4_0 x4_1 x4_2) fun y2 y3 y4 =>
  (m_impl_serial_L0 fuel x0 x1 x2 x4_0 x4_1 x4_2 rcf y3 y4 fuel y1 y2 y3 y4 ([] : List MarkD) 0).bind <| contL <| un4 fun z1 z2 z3 z4 =>
  some (1, z1, z2, z3, z4)
def m_impl_serial_R (fuel : Nat) : Nat → (List I4) → (List KidD) → (List Int) → (List Int) → (List Int) → (List Int) → Int → Option (Int × List Int × List Int × List Int × Int)
  | 0, _, _, _, _, _, _, _ => none
  | k + 1, x0, x1, x2, x3, x4_0, x4_1, x4_2 => m_impl_serial_S (m_impl_serial_R fuel k) fuel x0 x1 x2 x3 x4_0 x4_1 x4_2
def m_impl_serial (fuel : Nat) (x0 : List I4) (x1 : List KidD) (x2 : List Int) (x3 : List Int) (x4_0 : List Int) (x4_1 : List Int) (x4_2 : Int) : Option (Int × List Int × List Int × List Int × Int) := m_impl_serial_R fuel fuel x0 x1 x2 x3 x4_0 x4_1 x4_2

set_option maxRecDepth 100000 in
set_option maxHeartbeats 4000000 in
theorem w_impl_serial_S (rcf : (List I4) → (List KidD) → (List Int) → (List Int) → (List Int) → (List Int) → Int → Option (Int × List Int × List Int × List Int × Int)) (ih : ∀ {x0 : List I4} {x1 : List KidD} {x2 : List Int} {x3 : List Int} {x4_0 : List Int} {x4_1 : List Int} {x4_2 : Int} {a_x0 : Option Addr} {n_x0 c_x0 : Nat} {a_x1 : Option Addr} {n_x1 c_x1 : Nat} {a_x2 : Option Addr} {n_x2 c_x2 : Nat} {a_x3 : Option Addr} {n_x3 c_x3 : Nat} {a_x4_0 : Option Addr} {n_x4_0 c_x4_0 : Nat} {a_x4_1 : Option Addr} {n_x4_1 c_x4_1 : Nat} {r0_0 : Int} {r0_1 : List Int} {r0_2 : List Int} {r0_3 : List Int} {r0_4 : Int} {w0 : World} (h : rcf x0 x1 x2 x3 x4_0 x4_1 x4_2 = some (r0_0, r0_1, r0_2, r0_3, r0_4)) (hr_x0 : RdT (fun b => ¬ False) w0 (rowT x0) (.slice a_x0 n_x0 c_x0)) (hr_x1 : RdT (fun b => ¬ False) w0 (rowT x1) (.slice a_x1 n_x1 c_x1)) (hr_x2 : RdT (fun b => ¬ False) w0 (rowT x2) (.slice a_x2 n_x2 c_x2)) (hr_x3 : RdT (fun b => ¬ False) w0 (rowT x3) (.slice a_x3 n_x3 c_x3)) (hr_x4_0 : RdT (fun b => ¬ False) w0 (rowT x4_0) (.slice a_x4_0 n_x4_0 c_x4_0)) (hr_x4_1 : RdT (fun b => ¬ False) w0 (rowT x4_1) (.slice a_x4_1 n_x4_1 c_x4_1)), Calls Try.prog 69 #[.slice a_x0 n_x0 c_x0, .slice a_x1 n_x1 c_x1, .slice a_x2 n_x2 c_x2, .slice a_x3 n_x3 c_x3, .agg #[.slice a_x4_0 n_x4_0 c_x4_0, .slice a_x4_1 n_x4_1 c_x4_1, .int .i64 x4_2]] w0 fun e w => ∃ a_r0_1 n_r0_1 c_r0_1, ∃ a_r0_2 n_r0_2 c_r0_2, ∃ a_r0_3 n_r0_3 c_r0_3, e = .returned (.agg #[.int .i64 r0_0, .slice a_r0_1 n_r0_1 c_r0_1, .slice a_r0_2 n_r0_2 c_r0_2, .slice a_r0_3 n_r0_3 c_r0_3, .int .i64 r0_4]) ∧ St w0 (fun _ => False) w [OwnA (rowT r0_1) (.slice a_r0_1 n_r0_1 c_r0_1), OwnA (rowT r0_2) (.slice a_r0_2 n_r0_2 c_r0_2), OwnA (rowT r0_3) (.slice a_r0_3 n_r0_3 c_r0_3)]) (fuel : Nat) {x0 : List I4} {x1 : List KidD} {x2 : List Int} {x3 : List Int} {x4_0 : List Int} {x4_1 : List Int} {x4_2 : Int} {a_x0 : Option Addr} {n_x0 c_x0 : Nat} {a_x1 : Option Addr} {n_x1 c_x1 : Nat} {a_x2 : Option Addr} {n_x2 c_x2 : Nat} {a_x3 : Option Addr} {n_x3 c_x3 : Nat} {a_x4_0 : Option Addr} {n_x4_0 c_x4_0 : Nat} {a_x4_1 : Option Addr} {n_x4_1 c_x4_1 : Nat} {r0_0 : Int} {r0_1 : List Int} {r0_2 : List Int} {r0_3 : List Int} {r0_4 : Int} {w0 : World} (h : m_impl_serial_S rcf fuel x0 x1 x2 x3 x4_0 x4_1 x4_2 = some (r0_0, r0_1, r0_2, r0_3, r0_4)) (hr_x0 : RdT (fun b => ¬ False) w0 (rowT x0) (.slice a_x0 n_x0 c_x0)) (hr_x1 : RdT (fun b => ¬ False) w0 (rowT x1) (.slice a_x1 n_x1 c_x1)) (hr_x2 : RdT (fun b => ¬ False) w0 (rowT x2) (.slice a_x2 n_x2 c_x2)) (hr_x3 : RdT (fun b => ¬ False) w0 (rowT x3) (.slice a_x3 n_x3 c_x3)) (hr_x4_0 : RdT (fun b => ¬ False) w0 (rowT x4_0) (.slice a_x4_0 n_x4_0 c_x4_0)) (hr_x4_1 : RdT (fun b => ¬ False) w0 (rowT x4_1) (.slice a_x4_1 n_x4_1 c_x4_1)) :
    Calls Try.prog 69 #[.slice a_x0 n_x0 c_x0, .slice a_x1 n_x1 c_x1, .slice a_x2 n_x2 c_x2, .slice a_x3 n_x3 c_x3, .agg #[.slice a_x4_0 n_x4_0 c_x4_0, .slice a_x4_1 n_x4_1 c_x4_1, .int .i64 x4_2]] w0 fun e w => ∃ a_r0_1 n_r0_1 c_r0_1, ∃ a_r0_2 n_r0_2 c_r0_2, ∃ a_r0_3 n_r0_3 c_r0_3, e = .returned (.agg #[.int .i64 r0_0, .slice a_r0_1 n_r0_1 c_r0_1, .slice a_r0_2 n_r0_2 c_r0_2, .slice a_r0_3 n_r0_3 c_r0_3, .int .i64 r0_4]) ∧ St w0 (fun _ => False) w [OwnA (rowT r0_1) (.slice a_r0_1 n_r0_1 c_r0_1), OwnA (rowT r0_2) (.slice a_r0_2 n_r0_2 c_r0_2), OwnA (rowT r0_3) (.slice a_r0_3 n_r0_3 c_r0_3)] := by
  obtain rfl := hr_x0.neq
  obtain rfl := hr_x1.neq
  obtain rfl := hr_x2.neq
  obtain rfl := hr_x3.neq
  obtain rfl := hr_x4_0.neq
  obtain rfl := hr_x4_1.neq
  have HT : St w0 (fun _ => False) w0 [] := St.init0
  rw [m_impl_serial_S] at h
  refine calls_fr (n := 177) [.slice a_x0 x0.length c_x0, .slice a_x1 x1.length c_x1, .slice a_x2 x2.length c_x2, .slice a_x3 x3.length c_x3, .agg #[.slice a_x4_0 x4_0.length c_x4_0, .slice a_x4_1 x4_1.length c_x4_1, .int .i64 x4_2]] Try.func69 rfl rfl rfl fun a HF => ?_
  have HT : St w0 (fun _ => False) w0 [] := HT
  refine wp_seq (wc_text (wc_box (cs := [.slice a_x4_0 x4_0.length c_x4_0, .slice a_x4_1 x4_1.length c_x4_1, .int .i64 x4_2]) HF HT rfl rfl rfl rfl (fun p1 w HT hb => ⟨nS, fun a HF => ?_⟩)))
  refine wc_alloc (cs := [.int .i64 0, .slice none 0 0, .slice none 0 0, .slice none 0 0, .int .i64 0]) HF HT zr49 rfl rfl rfl (fun p2 w HT hb => ⟨nS, fun a HF => ?_⟩)
  refine wc_end (then_n (wp_seq (wc_text (wm HF rfl rfl rfl fun a HF => ?_))))
  obtain ⟨y1, hx1, h⟩ := obs h
  refine wc_call HF cf103 rfl (w_impl_copyInts fuel hx1 (HT.ro hr_x3).any) rfl rfl ?_
  rintro e w ⟨a1, n1, c1, rfl, hE⟩
  have hb := hE.below
  have HT := HT.pure hE
  obtain rfl := (HT.rdAt 0 rfl).neq
  have HT : St w0 (fun _ => False) w [Own 3 (rowT y1) (.slice a1 y1.length c1), Box p2 [.int .i64 0, .slice none 0 0, .slice none 0 0, .slice none 0 0, .int .i64 0], Box p1 [.slice a_x4_0 x4_0.length c_x4_0, .slice a_x4_1 x4_1.length c_x4_1, .int .i64 x4_2]] := HT
  refine ⟨_, rfl, nS, fun a HF => ?_⟩
  refine wa HF rfl rfl rfl fun a HF => ?_
  refine wc_end (then_n (wp_seq (wc_text (wc_loadA (vs := [.slice a_x4_0 x4_0.length c_x4_0, .slice a_x4_1 x4_1.length c_x4_1, .int .i64 x4_2]) HF rfl ag27 rfl ((HT.boxAt 2 rfl).part 0 3) rfl rfl fun a HF => ?_))))
  obtain ⟨y2, y3, y4, hx2, h⟩ := obs3 h
  refine wc_call HF cf82 rfl (w_impl_copyThings fuel hx2 (HT.ro hr_x4_0).any (HT.ro hr_x4_1).any) rfl rfl ?_
  rintro e w ⟨a2, n2, c2, a3, n3, c3, rfl, hE⟩
  have hb := hE.below
  have HT := HT.pure hE
  obtain rfl := (HT.rdAt 0 rfl).neq
  obtain rfl := (HT.rdAt 1 rfl).neq
  have HT : St w0 (fun _ => False) w [Own 3 (rowT y2) (.slice a2 y2.length c2), Own 3 (rowT y3) (.slice a3 y3.length c3), Own 3 (rowT y1) (.slice a1 y1.length c1), Box p2 [.int .i64 0, .slice none 0 0, .slice none 0 0, .slice none 0 0, .int .i64 0], Box p1 [.slice a_x4_0 x4_0.length c_x4_0, .slice a_x4_1 x4_1.length c_x4_1, .int .i64 x4_2]] := HT
  refine ⟨_, rfl, nS, fun a HF => ?_⟩
  refine wc_alloc (cs := [.slice none 0 0, .slice none 0 0, .int .i64 0]) HF HT zr27 rfl rfl rfl (fun p3 w HT hb => ⟨nS, fun a HF => ?_⟩)
  refine wc_storeB (cs' := [.slice a2 y2.length c2, .slice a3 y3.length c3, .int .i64 y4]) HF HT rfl rfl (fun w => (ag27 w).2) rfl rfl rfl rfl rfl (fun w HT => ⟨nS, ?_⟩)
  refine wc_end (then_n (wp_seq (wc_text (wc_bslice (l := ([] : List MarkD)) (cs := []) (A := []) HF HT bs129_0 rfl rfl gives_nil rfl (by decide) rfl rfl (fun p4 w HT hb  => ⟨nS, fun a HF => ?_⟩)))))
  refine wa HF rfl rfl rfl fun a HF => ?_
  refine wc_end (then_n ?_)
  obtain ⟨q1, hx3, h⟩ := obs h
  refine wp_cut (fun a w => ∃ z1 z2 z3 z4 a4 n4 c4 a5 n5 c5 a6 n6 c6, q1 = .brk (z1, z2, z3, z4) ∧ Fr a 177 [(3, .slice a4 n4 c4), (10, .pointer (some ⟨p2, 0, none⟩)), (11, .pointer (some ⟨p3, 0, none⟩))] ∧ St w0 (fun _ => False) w [OwnA (rowT z1) (.slice a4 n4 c4), Box p2 [.int .i64 0, .slice none 0 0, .slice none 0 0, .slice none 0 0, .int .i64 0], OwnA (rowT z2) (.slice a5 n5 c5), OwnA (rowT z3) (.slice a6 n6 c6), Box p3 [.slice a5 n5 c5, .slice a6 n6 c6, .int .i64 z4]]) ?_ ?_
  have hk1 := h
  have h := hx3
  refine wp_seq (wc_text (wa HF rfl rfl rfl fun a HF => ?_))
  refine wc_end (then_n (wp_block ?_))
  have HT := HT.p4
  have HT := HT.weak
  have HT := HT.p3
  have HT := HT.weak
  have HT := HT.p4
  have HT := HT.weak
  have HT := HT.p3.p4.p2.p3.p5.p6.p6
  refine wp_loopN (fun k1 a w => ∃ z5 z6 z7 z8 z9 z10 a7 n7 c7 a8 n8 c8 a9 n9 c9 a10 n10 c10, m_impl_serial_L0 fuel x0 x1 x2 x4_0 x4_1 x4_2 rcf y3 y4 k1 z5 z6 z7 z8 z9 z10 = some q1 ∧ Fr a 177 [(0, .slice a_x0 x0.length c_x0), (1, .slice a_x1 x1.length c_x1), (2, .slice a_x2 x2.length c_x2), (3, .slice a7 n7 c7), (9, .pointer (some ⟨p1, 0, none⟩)), (10, .pointer (some ⟨p2, 0, none⟩)), (11, .pointer (some ⟨p3, 0, none⟩)), (12, .slice a10 n10 c10), (13, .int .i64 z10)] ∧ St w0 (fun _ => False) w [OwnA (rowT z5) (.slice a7 n7 c7), Box p1 [.slice a_x4_0 x4_0.length c_x4_0, .slice a_x4_1 x4_1.length c_x4_1, .int .i64 x4_2], Box p2 [.int .i64 0, .slice none 0 0, .slice none 0 0, .slice none 0 0, .int .i64 0], OwnA (rowT z6) (.slice a8 n8 c8), OwnA (rowT z7) (.slice a9 n9 c9), Box p3 [.slice a8 n8 c8, .slice a9 n9 c9, .int .i64 z8], Own 131 (rowT z9) (.slice a10 n10 c10)]) fuel ⟨y1, y2, y3, y4, ([] : List MarkD), 0, a1, y1.length, c1, a2, y2.length, c2, a3, y3.length, c3, (some ⟨p4, 0, none⟩), 0, 0, h, (HF.keep (HF.keep (HF.keep (HF.keep (HF.keep (HF.keep (HF.keep (HF.keep (HF.keep HF.nil rfl) rfl) rfl) rfl) rfl) rfl) rfl) rfl) rfl), HT⟩ ?_
  rintro k1 a w ⟨z5, z6, z7, z8, z9, z10, a7, n7, c7, a8, n8, c8, a9, n9, c9, a10, n10, c10, h, HF, HT⟩
  rcases k1 with _ | k1
  cases h
  rw [m_impl_serial_L0] at h
  obtain rfl := (HT.rdAAt 0 rfl).neq
  obtain rfl := (HT.rdAAt 3 rfl).neq
  obtain rfl := (HT.rdAAt 4 rfl).neq
  obtain rfl := (HT.rdAt 6 rfl).neq
  refine ?_
  refine wp_seq (wp_seq (wc_text (wm HF rfl rfl rfl fun a HF => ?_)))
  refine wm HF rfl rfl rfl fun a HF => ?_
  refine wc_lenR HF nS Try.underlying36 rfl rfl rfl fun a HF => ?_
  refine wc_bin HF nS rfl rfl b_lt rfl rfl fun a HF => ?_
  refine wc_end (then_n ?_)
  by_cases hb1 : z10 < (x0.length : Int)
  have h := ifp hb1 h
  refine wp_if (b' := true) HF rfl (decide_eq_true hb1) ?_
  refine wp_skip (then_n ?_)
  obtain ⟨q2, hx4, h⟩ := obs h
  refine wp_cut (fun a w => ∃ z11 z12 z13 z14 z15 z16 a11 n11 c11 a12 n12 c12 a13 n13 c13 a14 n14 c14, q2 = .brk (z11, z12, z13, z14, z15, z16) ∧ Fr a 177 [(0, .slice a_x0 x0.length c_x0), (1, .slice a_x1 x1.length c_x1), (2, .slice a_x2 x2.length c_x2), (3, .slice a11 n11 c11), (9, .pointer (some ⟨p1, 0, none⟩)), (10, .pointer (some ⟨p2, 0, none⟩)), (11, .pointer (some ⟨p3, 0, none⟩)), (12, .slice a14 n14 c14), (13, .int .i64 z16)] ∧ St w0 (fun _ => False) w [OwnA (rowT z11) (.slice a11 n11 c11), Box p1 [.slice a_x4_0 x4_0.length c_x4_0, .slice a_x4_1 x4_1.length c_x4_1, .int .i64 x4_2], Box p2 [.int .i64 0, .slice none 0 0, .slice none 0 0, .slice none 0 0, .int .i64 0], OwnA (rowT z12) (.slice a12 n12 c12), OwnA (rowT z13) (.slice a13 n13 c13), Box p3 [.slice a12 n12 c12, .slice a13 n13 c13, .int .i64 z14], Own 131 (rowT z15) (.slice a14 n14 c14)]) ?_ ?_
  have hk2 := h
  have h := hx4
  refine wp_block (wp_seq (wc_text (wm HF rfl rfl rfl fun a HF => ?_)))
  refine wm HF rfl rfl rfl fun a HF => ?_
  obtain ⟨e1, hx5, h⟩ := obs h
  obtain ⟨b1, o1, ha1⟩ := (HT.ro hr_x0).any.addr hx5
  refine wc_ixaddr HF nS el36 rfl ha1 ((HT.ro hr_x0).any).neq rfl hx5 rfl rfl fun a HF => ?_
  have hc1 := (HT.ro hr_x0).any.flatAt ha1 hx5
  refine wc_loadA (vs := [.int .i64 e1.a, .int .i64 e1.b, .int .i64 e1.c, .int .i64 e1.d]) HF rfl ag85 rfl (hc1.part 0 4) rfl rfl fun a HF => ?_
  refine wc_alloc (cs := [.int .i64 0, .int .i64 0, .int .i64 0, .int .i64 0]) HF HT zr85 rfl rfl rfl (fun p5 w HT hb => ⟨nS, fun a HF => ?_⟩)
  refine wc_storeB (cs' := [.int .i64 e1.a, .int .i64 e1.b, .int .i64 e1.c, .int .i64 e1.d]) HF HT rfl rfl (fun w => (ag85 w).2) rfl rfl rfl rfl rfl (fun w HT => ⟨nS, ?_⟩)
  refine wc_end (then_n (wp_seq (wc_text (wc_faddr HF nS rfl fl85_0 rfl rfl fun a HF => ?_))))
  refine wc_load HF rfl sc3 ((HT.boxAt 0 rfl).get 0 rfl) rfl rfl fun a HF => ?_
  refine wc_end (then_n (wp_block ?_))
  obtain ⟨z17, hx6, h⟩ := obs h
  refine wp_cut (fun a w => Fr a 177 [(0, .slice a_x0 x0.length c_x0), (1, .slice a_x1 x1.length c_x1), (2, .slice a_x2 x2.length c_x2), (3, .slice a7 z5.length c7), (9, .pointer (some ⟨p1, 0, none⟩)), (10, .pointer (some ⟨p2, 0, none⟩)), (11, .pointer (some ⟨p3, 0, none⟩)), (12, .slice a10 z9.length c10), (13, .int .i64 z10), (14, .pointer (some ⟨p5, 0, none⟩)), (37, .int .i64 e1.a), (41, .bool z17)] ∧ St w0 (fun _ => False) w [OwnA (rowT z5) (.slice a7 z5.length c7), Box p1 [.slice a_x4_0 x4_0.length c_x4_0, .slice a_x4_1 x4_1.length c_x4_1, .int .i64 x4_2], Box p2 [.int .i64 0, .slice none 0 0, .slice none 0 0, .slice none 0 0, .int .i64 0], OwnA (rowT z6) (.slice a8 z6.length c8), OwnA (rowT z7) (.slice a9 z7.length c9), Box p3 [.slice a8 z6.length c8, .slice a9 z7.length c9, .int .i64 z8], Own 131 (rowT z9) (.slice a10 z9.length c10), Box p5 [.int .i64 e1.a, .int .i64 e1.b, .int .i64 e1.c, .int .i64 e1.d]]) ?_ ?_
  have hk3 := h
  have h := hx6
  refine wp_seq (wc_text (wc_bin HF nS rfl rfl b_eq rfl rfl fun a HF => ?_))
  refine wa HF rfl rfl rfl fun a HF => ?_
  refine wc_end (then_n ?_)
  by_cases hb2 : e1.a = 1
  have h := ifp hb2 h
  refine wp_if (b' := true) HF rfl (decide_eq_true hb2) ?_
  refine wp_skip ?_
  have HT := HT.p7.p7.p7.p7.p7.p7.p7
  obtain rfl := Option.some.inj h
  exact then_n ⟨(HF.keep (HF.keep (HF.keep (HF.keep (HF.keep (HF.keep (HF.keep (HF.keep (HF.keep (HF.keep (HF.keep (HF.keep HF.nil rfl) rfl) rfl) rfl) rfl) rfl) rfl) rfl) rfl) rfl) rfl) rfl), HT⟩
  have h := ifn hb2 h
  refine wp_if (b' := false) HF rfl (decide_eq_false hb2) ?_
  refine wp_seq (wc_text (wc_bin HF nS rfl rfl b_eq rfl rfl fun a HF => ?_))
  refine wa HF rfl rfl rfl fun a HF => ?_
  refine wc_end (then_n ?_)
  by_cases hb3 : e1.a = 2
  have h := ifp hb3 h
  refine wp_if (b' := true) HF rfl (decide_eq_true hb3) ?_
  refine wp_skip ?_
  have HT := HT.p7.p7.p7.p7.p7.p7.p7
  obtain rfl := Option.some.inj h
  exact then_n ⟨(HF.keep (HF.keep (HF.keep (HF.keep (HF.keep (HF.keep (HF.keep (HF.keep (HF.keep (HF.keep (HF.keep (HF.keep HF.nil rfl) rfl) rfl) rfl) rfl) rfl) rfl) rfl) rfl) rfl) rfl) rfl), HT⟩
  have h := ifn hb3 h
  refine wp_if (b' := false) HF rfl (decide_eq_false hb3) ?_
  refine wp_seq (wc_text (wc_bin HF nS rfl rfl b_eq rfl rfl fun a HF => ?_))
  refine wa HF rfl rfl rfl fun a HF => ?_
  refine wc_end (then_n ?_)
  by_cases hb4 : e1.a = 3
  have h := ifp hb4 h
  refine wp_if (b' := true) HF rfl (decide_eq_true hb4) ?_
  refine wp_skip ?_
  have HT := HT.p7.p7.p7.p7.p7.p7.p7
  obtain rfl := Option.some.inj h
  exact then_n ⟨(HF.keep (HF.keep (HF.keep (HF.keep (HF.keep (HF.keep (HF.keep (HF.keep (HF.keep (HF.keep (HF.keep (HF.keep HF.nil rfl) rfl) rfl) rfl) rfl) rfl) rfl) rfl) rfl) rfl) rfl) rfl), HT⟩
  have h := ifn hb4 h
  refine wp_if (b' := false) HF rfl (decide_eq_false hb4) ?_
  refine wc_text (wc_bin HF nS rfl rfl b_eq rfl rfl fun a HF => ?_)
  refine wa HF rfl rfl rfl fun a HF => ?_
  refine wc_end ?_
  have HT := HT.p7.p7.p7.p7.p7.p7.p7
  obtain rfl := Option.some.inj h
  exact then_n ⟨(HF.keep (HF.keep (HF.keep (HF.keep (HF.keep (HF.keep (HF.keep (HF.keep (HF.keep (HF.keep (HF.keep (HF.keep HF.nil rfl) rfl) rfl) rfl) rfl) rfl) rfl) rfl) rfl) rfl) rfl) rfl), HT⟩
  rintro a w ⟨HF, HT⟩
  refine ?_
  by_cases hb5 : z17 = true
  have h := ifp hb5 h
  refine wp_if (b' := true) HF rfl hb5 ?_
  refine wc_text (wc_loadA (vs := [.int .i64 e1.a, .int .i64 e1.b, .int .i64 e1.c, .int .i64 e1.d]) HF rfl ag85 rfl ((HT.boxAt 7 rfl).part 0 4) rfl rfl fun a HF => ?_)
  refine wm HF rfl rfl rfl fun a HF => ?_
  obtain ⟨y5, y6, hx7, h⟩ := obs2 h
  refine wc_call HF cf104 rfl (w_impl_Calc fuel hx7 (HT.rdAAt 0 rfl)) rfl rfl ?_
  rintro e w ⟨a15, n15, c15, rfl, hE⟩
  have hb := hE.below
  have HT := HT.pure hE
  obtain rfl := (HT.rdAt 0 rfl).neq
  have HT : St w0 (fun _ => False) w [Own 3 (rowT y5) (.slice a15 y5.length c15), OwnA (rowT z5) (.slice a7 z5.length c7), Box p1 [.slice a_x4_0 x4_0.length c_x4_0, .slice a_x4_1 x4_1.length c_x4_1, .int .i64 x4_2], Box p2 [.int .i64 0, .slice none 0 0, .slice none 0 0, .slice none 0 0, .int .i64 0], OwnA (rowT z6) (.slice a8 z6.length c8), OwnA (rowT z7) (.slice a9 z7.length c9), Box p3 [.slice a8 z6.length c8, .slice a9 z7.length c9, .int .i64 z8], Own 131 (rowT z9) (.slice a10 z9.length c10), Box p5 [.int .i64 e1.a, .int .i64 e1.b, .int .i64 e1.c, .int .i64 e1.d]] := HT
  refine ⟨_, rfl, nS, fun a HF => ?_⟩
  refine wm HF rfl rfl rfl fun a HF => ?_
  refine wc_extract (v := .slice a15 y5.length c15) HF nS rfl rfl rfl rfl fun a HF => ?_
  refine wc_extract (v := .bool y6) HF nS rfl rfl rfl rfl fun a HF => ?_
  refine wa HF rfl rfl rfl fun a HF => ?_
  refine wc_end (blk_n (blk_n ?_))
  have HT := HT.weak
  have HT := HT.p7.p7.p7.p7.p7.p7.p6.t7
  exact then_n ⟨y5, z6, z7, z8, z9, z10, a15, y5.length, c15, a8, z6.length, c8, a9, z7.length, c9, a10, z9.length, c10, (Option.some.inj h).symm, (HF.keep (HF.keep (HF.keep (HF.keep (HF.keep (HF.keep (HF.keep (HF.keep (HF.keep HF.nil rfl) rfl) rfl) rfl) rfl) rfl) rfl) rfl) rfl), HT⟩
  have h := ifn hb5 h
  refine wp_if (b' := false) HF rfl (Bool.eq_false_iff.2 hb5) ?_
  refine wp_seq (wc_text (wc_bin HF nS rfl rfl b_eq rfl rfl fun a HF => ?_))
  refine wa HF rfl rfl rfl fun a HF => ?_
  refine wc_end (then_n ?_)
  by_cases hb6 : e1.a = 7
  have h := ifp hb6 h
  refine wp_if (b' := true) HF rfl (decide_eq_true hb6) ?_
  refine wp_seq (wc_text (wm HF rfl rfl rfl fun a HF => ?_))
  refine wc_faddr HF nS rfl fl85_1 rfl rfl fun a HF => ?_
  refine wc_load HF rfl sc3 ((HT.boxAt 7 rfl).get 1 rfl) rfl rfl fun a HF => ?_
  obtain ⟨e2, hx8, h⟩ := obs h
  obtain ⟨b2, o2, ha2⟩ := (HT.rdAAt 0 rfl).addr hx8
  refine wc_ixaddr HF nS el22 rfl ha2 ((HT.rdAAt 0 rfl)).neq rfl hx8 rfl rfl fun a HF => ?_
  have hc2 := (HT.rdAAt 0 rfl).flatAt ha2 hx8
  refine wc_load HF rfl sc3 (hc2.get 0 rfl) rfl rfl fun a HF => ?_
  refine wc_bin HF nS rfl rfl b_eq rfl rfl fun a HF => ?_
  refine wc_end (then_n ?_)
  by_cases hb7 : e2 = 0
  have h := ifp hb7 h
  refine wp_if (b' := true) HF rfl (decide_eq_true hb7) ?_
  refine wc_text (wm HF rfl rfl rfl fun a HF => ?_)
  refine wc_faddr HF nS rfl fl85_2 rfl rfl fun a HF => ?_
  refine wc_load HF rfl sc3 ((HT.boxAt 7 rfl).get 2 rfl) rfl rfl fun a HF => ?_
  obtain ⟨hg1, h⟩ := grd h
  refine wc_bin HF nS rfl rfl (b_add hg1) rfl rfl fun a HF => ?_
  refine wa HF rfl rfl rfl fun a HF => ?_
  refine wc_end (blk_n (blk_n ?_))
  have HT := HT.t7
  exact then_n ⟨z5, z6, z7, z8, z9, z10 + e1.c, a7, z5.length, c7, a8, z6.length, c8, a9, z7.length, c9, a10, z9.length, c10, (Option.some.inj h).symm, (HF.keep (HF.keep (HF.keep (HF.keep (HF.keep (HF.keep (HF.keep (HF.keep (HF.keep HF.nil rfl) rfl) rfl) rfl) rfl) rfl) rfl) rfl) rfl), HT⟩
  have h := ifn hb7 h
  refine wp_if (b' := false) HF rfl (decide_eq_false hb7) ?_
  refine wp_skip (blk_n (blk_n ?_))
  have HT := HT.t7
  exact then_n ⟨z5, z6, z7, z8, z9, z10, a7, z5.length, c7, a8, z6.length, c8, a9, z7.length, c9, a10, z9.length, c10, (Option.some.inj h).symm, (HF.keep (HF.keep (HF.keep (HF.keep (HF.keep (HF.keep (HF.keep (HF.keep (HF.keep HF.nil rfl) rfl) rfl) rfl) rfl) rfl) rfl) rfl) rfl), HT⟩
  have h := ifn hb6 h
  refine wp_if (b' := false) HF rfl (decide_eq_false hb6) ?_
  refine wp_seq (wc_text (wc_bin HF nS rfl rfl b_eq rfl rfl fun a HF => ?_))
  refine wa HF rfl rfl rfl fun a HF => ?_
  refine wc_end (then_n ?_)
  by_cases hb8 : e1.a = 8
  have h := ifp hb8 h
  refine wp_if (b' := true) HF rfl (decide_eq_true hb8) ?_
  refine wp_region_can [(0, false), (1, false), (2, true), (4, false), (3, false), (5, false), (6, true), (7, false), (8, true), (9, true)] (fun w' => LdC w' p3 0 [.slice a8 z6.length c8, .slice a9 z7.length c9, .int .i64 z8] ∧ True) (by kernel_rfl) (by kernel_rfl) ?_
  have HT := HT.drew
  refine wc_move HF (fun _ => ⟨(HT.boxAt 5 rfl).part 0 3, trivial⟩) rfl rfl rfl fun a HF => ?_
  refine wc_move HF (fun _ => ⟨(HT.boxAt 5 rfl).part 0 3, trivial⟩) rfl rfl rfl fun a HF => ?_
  refine wm HF rfl rfl rfl fun a HF => ?_
  refine wc_loadAS (vs := [.slice a8 z6.length c8, .slice a9 z7.length c9, .int .i64 z8]) HF ⟨(HT.boxAt 5 rfl).part 0 3, trivial⟩ rfl ag27 rfl (fun w hS => hS.1) rfl rfl fun a HF => ?_
  obtain ⟨y7, hx9, h⟩ := obs h
  refine wc_call HF cf103 rfl (w_impl_copyInts fuel hx9 (HT.rdAAt 0 rfl)) rfl rfl ?_
  rintro e w ⟨a16, n16, c16, rfl, hE⟩
  have hb := hE.below
  have HT := HT.pure hE
  obtain rfl := (HT.rdAt 0 rfl).neq
  have HT : St w0 (fun _ => False) w [Own 3 (rowT y7) (.slice a16 y7.length c16), OwnA (rowT z5) (.slice a7 z5.length c7), Box p1 [.slice a_x4_0 x4_0.length c_x4_0, .slice a_x4_1 x4_1.length c_x4_1, .int .i64 x4_2], Box p2 [.int .i64 0, .slice none 0 0, .slice none 0 0, .slice none 0 0, .int .i64 0], OwnA (rowT z6) (.slice a8 z6.length c8), OwnA (rowT z7) (.slice a9 z7.length c9), Box p3 [.slice a8 z6.length c8, .slice a9 z7.length c9, .int .i64 z8], Own 131 (rowT z9) (.slice a10 z9.length c10), Box p5 [.int .i64 e1.a, .int .i64 e1.b, .int .i64 e1.c, .int .i64 e1.d]] := HT
  refine ⟨_, rfl, (fun _ => ⟨(HT.boxAt 6 rfl).part 0 3, trivial⟩), fun a HF => ?_⟩
  obtain ⟨y8, y9, y10, hx10, h⟩ := obs3 h
  refine wc_call HF cf82 rfl (w_impl_copyThings fuel hx10 (HT.rdAAt 4 rfl) (HT.rdAAt 5 rfl)) rfl rfl ?_
  rintro e w ⟨a17, n17, c17, a18, n18, c18, rfl, hE⟩
  have hb := hE.below
  have HT := HT.pure hE
  obtain rfl := (HT.rdAt 0 rfl).neq
  obtain rfl := (HT.rdAt 1 rfl).neq
  have HT : St w0 (fun _ => False) w [Own 3 (rowT y8) (.slice a17 y8.length c17), Own 3 (rowT y9) (.slice a18 y9.length c18), Own 3 (rowT y7) (.slice a16 y7.length c16), OwnA (rowT z5) (.slice a7 z5.length c7), Box p1 [.slice a_x4_0 x4_0.length c_x4_0, .slice a_x4_1 x4_1.length c_x4_1, .int .i64 x4_2], Box p2 [.int .i64 0, .slice none 0 0, .slice none 0 0, .slice none 0 0, .int .i64 0], OwnA (rowT z6) (.slice a8 z6.length c8), OwnA (rowT z7) (.slice a9 z7.length c9), Box p3 [.slice a8 z6.length c8, .slice a9 z7.length c9, .int .i64 z8], Own 131 (rowT z9) (.slice a10 z9.length c10), Box p5 [.int .i64 e1.a, .int .i64 e1.b, .int .i64 e1.c, .int .i64 e1.d]] := HT
  refine ⟨_, rfl, (fun _ => ⟨(HT.boxAt 8 rfl).part 0 3, trivial⟩), fun a HF => ?_⟩
  refine wc_build (cs := #[.int .i64 z10, .slice a16 y7.length c16, .slice a17 y8.length c17, .slice a18 y9.length c18, .int .i64 y10]) HF nS bd131 rfl rfl rfl rfl fun a HF => ?_
  have HT := HT.p1.p1.p2
  refine wc_bslice (l := ([(⟨z10, y7, y8, y9, y10⟩ : MarkD)] : List MarkD)) (cs := [.int .i64 z10, .slice a16 y7.length c16, .slice a17 y8.length c17, .slice a18 y9.length c18, .int .i64 y10]) (A := [Own 3 (rowT y7) (.slice a16 y7.length c16), Own 3 (rowT y8) (.slice a17 y8.length c17), Own 3 (rowT y9) (.slice a18 y9.length c18)]) HF HT bs129_1 rfl rfl (gives_lit (gives_own (gives_own (gives_own (gives_lit gives_nil))))) rfl (by decide) rfl rfl (fun p6 w HT hb  => ⟨(fun _ => ⟨(HT.boxAt 6 rfl).part 0 3, trivial⟩), fun a HF => ?_⟩)
  obtain ⟨hg2, h⟩ := grd h
  have HT := HT.p7
  refine wc_append HF HT el129 rfl rfl (Nat.zero_lt_succ _) hg2 rfl rfl rfl (fun a19 c19 w HT => ⟨nS, fun a HF => ?_⟩)
  refine wa HF rfl rfl rfl fun a HF => ?_
  refine wc_endN (blk_n (blk_n ?_))
  have HT := HT.p6.p6.p6.p6.p6.p6.t7
  exact then_n ⟨z5, z6, z7, z8, z9 ++ ([(⟨z10, y7, y8, y9, y10⟩ : MarkD)] : List MarkD), z10, a7, z5.length, c7, a8, z6.length, c8, a9, z7.length, c9, a19, (z9 ++ ([(⟨z10, y7, y8, y9, y10⟩ : MarkD)] : List MarkD)).length, c19, (Option.some.inj h).symm, (HF.keep (HF.keep (HF.keep (HF.keep (HF.keep (HF.keep (HF.keep (HF.keep (HF.keep HF.nil rfl) rfl) rfl) rfl) rfl) rfl) rfl) rfl) rfl), HT⟩
  have h := ifn hb8 h
  refine wp_if (b' := false) HF rfl (decide_eq_false hb8) ?_
  refine wp_seq (wc_text (wc_bin HF nS rfl rfl b_eq rfl rfl fun a HF => ?_))
  refine wa HF rfl rfl rfl fun a HF => ?_
  refine wc_end (then_n ?_)
  by_cases hb9 : e1.a = 9
  have h := ifp hb9 h
  refine wp_if (b' := true) HF rfl (decide_eq_true hb9) ?_
  refine wp_seq (wc_text (wm HF rfl rfl rfl fun a HF => ?_))
  refine wm HF rfl rfl rfl fun a HF => ?_
  refine wc_lenR HF nS Try.underlying129 rfl rfl rfl fun a HF => ?_
  obtain ⟨hg3, h⟩ := grd h
  refine wc_bin HF nS rfl rfl (b_sub hg3) rfl rfl fun a HF => ?_
  obtain ⟨e3, hx11, h⟩ := obs h
  obtain ⟨b3, o3, ha3⟩ := (HT.rdAt 6 rfl).addr hx11
  refine wc_ixaddr HF nS el129 rfl ha3 ((HT.rdAt 6 rfl)).neq rfl hx11 rfl rfl fun a HF => ?_
  have hq1 := ((HT.rdAt 6 rfl)).neq
  have HT := HT.p6
  obtain ⟨us1, HT⟩ := HT.focus hx11
  obtain ⟨a20, c20, a21, c21, a22, c22, rfl, HT⟩ := HT.pieces_Mark
  have HT : St w0 (fun _ => False) w [OwnA (rowT e3.regs) (.slice a20 e3.regs.length c20), OwnA (rowT e3.cells) (.slice a21 e3.cells.length c21), OwnA (rowT e3.map) (.slice a22 e3.map.length c22), HoleR (some 131) z9 ((z9.length : Int) - 1 : Int).toNat (.slice a10 z9.length c10) [.int .i64 e3.at_, .slice a20 e3.regs.length c20, .slice a21 e3.cells.length c21, .slice a22 e3.map.length c22, .int .i64 e3.count], OwnA (rowT z5) (.slice a7 z5.length c7), Box p1 [.slice a_x4_0 x4_0.length c_x4_0, .slice a_x4_1 x4_1.length c_x4_1, .int .i64 x4_2], Box p2 [.int .i64 0, .slice none 0 0, .slice none 0 0, .slice none 0 0, .int .i64 0], OwnA (rowT z6) (.slice a8 z6.length c8), OwnA (rowT z7) (.slice a9 z7.length c9), Box p3 [.slice a8 z6.length c8, .slice a9 z7.length c9, .int .i64 z8], Box p5 [.int .i64 e1.a, .int .i64 e1.b, .int .i64 e1.c, .int .i64 e1.d]] := HT
  have hc3 := HT.holeAt 3 rfl ha3
  refine wc_loadA (vs := [.int .i64 e3.at_, .slice a20 e3.regs.length c20, .slice a21 e3.cells.length c21, .slice a22 e3.map.length c22, .int .i64 e3.count]) HF rfl ag131 rfl (hc3.part 0 5) rfl rfl fun a HF => ?_
  refine wc_alloc (cs := [.int .i64 0, .slice none 0 0, .slice none 0 0, .slice none 0 0, .int .i64 0]) HF HT zr131 rfl rfl rfl (fun p7 w HT hb => ⟨nS, fun a HF => ?_⟩)
  refine wc_storeB (cs' := [.int .i64 e3.at_, .slice a20 e3.regs.length c20, .slice a21 e3.cells.length c21, .slice a22 e3.map.length c22, .int .i64 e3.count]) HF HT rfl rfl (fun w => (ag131 w).2) rfl rfl rfl rfl rfl (fun w HT => ⟨nS, ?_⟩)
  refine wc_end (then_n (wp_seq (wc_text (wm HF rfl rfl rfl fun a HF => ?_))))
  refine wm HF rfl rfl rfl fun a HF => ?_
  refine wc_lenR HF nS Try.underlying129 rfl rfl rfl fun a HF => ?_
  obtain ⟨hg4, h⟩ := grd h
  refine wc_bin HF nS rfl rfl (b_sub hg4) rfl rfl fun a HF => ?_
  have HT := HT.p4
  obtain ⟨HT, hcut⟩ := St.cutH HT (at?_some hx11).1 rfl
  refine wc_slrH HF nS el129 rfl rfl hcut rfl rfl fun a HF => ?_
  refine wa HF rfl rfl rfl fun a HF => ?_
  refine wc_end (then_n (wc_text (wm HF rfl rfl rfl fun a HF => ?_)))
  refine wm HF rfl rfl rfl fun a HF => ?_
  refine wc_faddr HF nS rfl fl131_0 rfl rfl fun a HF => ?_
  refine wc_load HF rfl sc3 ((HT.boxAt 1 rfl).get 0 rfl) rfl rfl fun a HF => ?_
  obtain ⟨e4, hx12, h⟩ := obs h
  refine wc_ixaddr HF nS el36 rfl ha1 ((HT.ro hr_x0).any).neq rfl hx12 rfl rfl fun a HF => ?_
  refine wc_faddr HF nS rfl fl85_1 rfl rfl fun a HF => ?_
  have hc4 := (HT.ro hr_x0).any.flatAt ha1 hx12
  refine wc_load HF rfl sc3 (hc4.get 1 rfl) rfl rfl fun a HF => ?_
  obtain ⟨e5, hx13, h⟩ := obs h
  obtain ⟨b4, o4, ha4⟩ := (HT.rdAAt 5 rfl).addr hx13
  refine wc_ixaddr HF nS el22 rfl ha4 ((HT.rdAAt 5 rfl)).neq rfl hx13 rfl rfl fun a HF => ?_
  have HT := HT.p5
  refine wc_storeRA (i := e4.b) (j := 0) (x' := 1) HF HT ha4 rfl rfl (fun w => (sc3 w).2) rfl rfl hx13 rfl rfl rfl rfl (fun w HT => ⟨nS, ?_⟩)
  refine wc_end (blk_n (blk_n ?_))
  have HT := HT.p1.p10.p10.p10.p10.p10.p6.t7
  exact then_n ⟨z5.set e4.b.toNat 1, z6, z7, z8, subl z9 0 ((z9.length : Int) - 1), z10, a7, z5.length, c7, a8, z6.length, c8, a9, z7.length, c9, a10, (subl z9 0 ((z9.length : Int) - 1)).length, c10, (Option.some.inj h).symm, (HF.keep (HF.keep (HF.keep (HF.keep (HF.keep (HF.keep (HF.keep (HF.keep (HF.keep HF.nil rfl) rfl) rfl) rfl) rfl) rfl) rfl) rfl) rfl), HT⟩
  have h := ifn hb9 h
  refine wp_if (b' := false) HF rfl (decide_eq_false hb9) ?_
  refine wp_seq (wc_text (wc_bin HF nS rfl rfl b_eq rfl rfl fun a HF => ?_))
  refine wa HF rfl rfl rfl fun a HF => ?_
  refine wc_end (then_n ?_)
  by_cases hb10 : e1.a = 10
  have h := ifp hb10 h
  refine wp_if (b' := true) HF rfl (decide_eq_true hb10) ?_
  refine wp_seq (wp_seq (wc_text (wm HF rfl rfl rfl fun a HF => ?_)))
  refine wc_lenR HF nS Try.underlying129 rfl rfl rfl fun a HF => ?_
  refine wc_bin HF nS rfl rfl b_eq rfl rfl fun a HF => ?_
  refine wc_end (then_n ?_)
  by_cases hb11 : (z9.length : Int) = 0
  have h := ifp hb11 h
  refine wp_if (b' := true) HF rfl (decide_eq_true hb11) ?_
  refine wp_seq (wc_text (wm HF rfl rfl rfl fun a HF => ?_))
  refine wc_loadA (vs := [.slice a_x4_0 x4_0.length c_x4_0, .slice a_x4_1 x4_1.length c_x4_1, .int .i64 x4_2]) HF rfl ag27 rfl ((HT.boxAt 1 rfl).part 0 3) rfl rfl fun a HF => ?_
  obtain ⟨y11, y12, y13, hx14, h⟩ := obs3 h
  refine wc_call HF cf82 rfl (w_impl_copyThings fuel hx14 (HT.ro hr_x4_0).any (HT.ro hr_x4_1).any) rfl rfl ?_
  rintro e w ⟨a23, n19, c23, a24, n20, c24, rfl, hE⟩
  have hb := hE.below
  have HT := HT.pure hE
  obtain rfl := (HT.rdAt 0 rfl).neq
  obtain rfl := (HT.rdAt 1 rfl).neq
  have HT : St w0 (fun _ => False) w [Own 3 (rowT y11) (.slice a23 y11.length c23), Own 3 (rowT y12) (.slice a24 y12.length c24), OwnA (rowT z5) (.slice a7 z5.length c7), Box p1 [.slice a_x4_0 x4_0.length c_x4_0, .slice a_x4_1 x4_1.length c_x4_1, .int .i64 x4_2], Box p2 [.int .i64 0, .slice none 0 0, .slice none 0 0, .slice none 0 0, .int .i64 0], OwnA (rowT z6) (.slice a8 z6.length c8), OwnA (rowT z7) (.slice a9 z7.length c9), Box p3 [.slice a8 z6.length c8, .slice a9 z7.length c9, .int .i64 z8], Own 131 (rowT z9) (.slice a10 z9.length c10), Box p5 [.int .i64 e1.a, .int .i64 e1.b, .int .i64 e1.c, .int .i64 e1.d]] := HT
  refine ⟨_, rfl, nS, fun a HF => ?_⟩
  refine wc_build (cs := #[.int .i64 2, .slice a7 z5.length c7, .slice a23 y11.length c23, .slice a24 y12.length c24, .int .i64 y13]) HF nS bd49 rfl rfl rfl rfl fun a HF => ?_
  have HT := HT.p4
  refine wc_storeB (cs' := [.int .i64 2, .slice a7 z5.length c7, .slice a23 y11.length c23, .slice a24 y12.length c24, .int .i64 y13]) HF HT rfl rfl (fun w => (ag49 w).2) rfl rfl rfl rfl rfl (fun w HT => ⟨nS, ?_⟩)
  refine wc_end (then_n (wp_ret ?_))
  have HT := HT.p1
  have HT := HT.weak
  have HT := HT.p2
  have HT := HT.weak
  obtain rfl := Option.some.inj h
  have h := retM hk2
  obtain rfl := Option.some.inj h
  have h := retL hk1
  have hj1 := Option.some.inj h
  obtain ⟨rfl, hj2⟩ := Prod.mk.inj hj1
  obtain ⟨rfl, hj3⟩ := Prod.mk.inj hj2
  obtain ⟨rfl, hj4⟩ := Prod.mk.inj hj3
  obtain ⟨rfl, hj5⟩ := Prod.mk.inj hj4
  subst hj5
  refine then_r (blk_r (blk_r (then_r (then_r (blk_r (then_r (?_)))))))
  refine bp_ret HF (res_cell (vs := [.int .i64 2, .slice a7 z5.length c7, .slice a23 y11.length c23, .slice a24 y12.length c24, .int .i64 y13]) rfl HF rfl ag49 rfl (HT.boxAt 2 rfl)) ?_
  have HT := HT.p1.p3.t3
  exact ⟨a7, z5.length, c7, a23, y11.length, c23, a24, y12.length, c24, rfl, HT⟩
  have h := ifn hb11 h
  refine wp_if (b' := false) HF rfl (decide_eq_false hb11) ?_
  refine wp_skip (then_n (wp_seq (wc_text (wm HF rfl rfl rfl fun a HF => ?_))))
  refine wm HF rfl rfl rfl fun a HF => ?_
  refine wc_lenR HF nS Try.underlying129 rfl rfl rfl fun a HF => ?_
  obtain ⟨hg5, h⟩ := grd h
  refine wc_bin HF nS rfl rfl (b_sub hg5) rfl rfl fun a HF => ?_
  obtain ⟨e6, hx15, h⟩ := obs h
  obtain ⟨b5, o5, ha5⟩ := (HT.rdAt 6 rfl).addr hx15
  refine wc_ixaddr HF nS el129 rfl ha5 ((HT.rdAt 6 rfl)).neq rfl hx15 rfl rfl fun a HF => ?_
  have hq2 := ((HT.rdAt 6 rfl)).neq
  have HT := HT.p6
  obtain ⟨us2, HT⟩ := HT.focus hx15
  obtain ⟨a25, c25, a26, c26, a27, c27, rfl, HT⟩ := HT.pieces_Mark
  have HT : St w0 (fun _ => False) w [OwnA (rowT e6.regs) (.slice a25 e6.regs.length c25), OwnA (rowT e6.cells) (.slice a26 e6.cells.length c26), OwnA (rowT e6.map) (.slice a27 e6.map.length c27), HoleR (some 131) z9 ((z9.length : Int) - 1 : Int).toNat (.slice a10 z9.length c10) [.int .i64 e6.at_, .slice a25 e6.regs.length c25, .slice a26 e6.cells.length c26, .slice a27 e6.map.length c27, .int .i64 e6.count], OwnA (rowT z5) (.slice a7 z5.length c7), Box p1 [.slice a_x4_0 x4_0.length c_x4_0, .slice a_x4_1 x4_1.length c_x4_1, .int .i64 x4_2], Box p2 [.int .i64 0, .slice none 0 0, .slice none 0 0, .slice none 0 0, .int .i64 0], OwnA (rowT z6) (.slice a8 z6.length c8), OwnA (rowT z7) (.slice a9 z7.length c9), Box p3 [.slice a8 z6.length c8, .slice a9 z7.length c9, .int .i64 z8], Box p5 [.int .i64 e1.a, .int .i64 e1.b, .int .i64 e1.c, .int .i64 e1.d]] := HT
  have hc5 := HT.holeAt 3 rfl ha5
  refine wc_loadA (vs := [.int .i64 e6.at_, .slice a25 e6.regs.length c25, .slice a26 e6.cells.length c26, .slice a27 e6.map.length c27, .int .i64 e6.count]) HF rfl ag131 rfl (hc5.part 0 5) rfl rfl fun a HF => ?_
  refine wc_alloc (cs := [.int .i64 0, .slice none 0 0, .slice none 0 0, .slice none 0 0, .int .i64 0]) HF HT zr131 rfl rfl rfl (fun p8 w HT hb => ⟨nS, fun a HF => ?_⟩)
  refine wc_storeB (cs' := [.int .i64 e6.at_, .slice a25 e6.regs.length c25, .slice a26 e6.cells.length c26, .slice a27 e6.map.length c27, .int .i64 e6.count]) HF HT rfl rfl (fun w => (ag131 w).2) rfl rfl rfl rfl rfl (fun w HT => ⟨nS, ?_⟩)
  refine wc_end (then_n (wp_seq (wc_text (wm HF rfl rfl rfl fun a HF => ?_))))
  refine wm HF rfl rfl rfl fun a HF => ?_
  refine wc_lenR HF nS Try.underlying129 rfl rfl rfl fun a HF => ?_
  obtain ⟨hg6, h⟩ := grd h
  refine wc_bin HF nS rfl rfl (b_sub hg6) rfl rfl fun a HF => ?_
  have HT := HT.p4
  obtain ⟨HT, hcut⟩ := St.cutH HT (at?_some hx15).1 rfl
  refine wc_slrH HF nS el129 rfl rfl hcut rfl rfl fun a HF => ?_
  refine wa HF rfl rfl rfl fun a HF => ?_
  refine wc_end (then_n (wp_seq (wp_region_can [(0, true), (1, true), (2, true), (3, true), (4, true), (5, true)] (fun w' => True) (by kernel_rfl) (by kernel_rfl) ?_)))
  have HT := HT.drew
  refine wc_faddr HF nS rfl fl131_1 rfl rfl fun a HF => ?_
  refine wc_load HF rfl sc22 ((HT.boxAt 1 rfl).get 1 rfl) rfl rfl fun a HF => ?_
  refine wc_faddr HF nS rfl fl131_2 rfl rfl fun a HF => ?_
  refine wc_loadA (vs := [.slice a26 e6.cells.length c26, .slice a27 e6.map.length c27, .int .i64 e6.count]) HF rfl ag27 rfl ((HT.boxAt 1 rfl).part 2 3) rfl rfl fun a HF => ?_
  refine wa HF rfl rfl rfl fun a HF => ?_
  have HT := HT.p10
  refine wc_storeB (cs' := [.slice a26 e6.cells.length c26, .slice a27 e6.map.length c27, .int .i64 e6.count]) HF HT rfl rfl (fun w => (ag27 w).2) rfl rfl rfl rfl rfl (fun w HT => ⟨nS, ?_⟩)
  refine wc_endN (then_n (wp_seq (wc_text (wm HF rfl rfl rfl fun a HF => ?_))))
  refine wm HF rfl rfl rfl fun a HF => ?_
  refine wc_faddr HF nS rfl fl131_0 rfl rfl fun a HF => ?_
  refine wc_load HF rfl sc3 ((HT.boxAt 2 rfl).get 0 rfl) rfl rfl fun a HF => ?_
  obtain ⟨e7, hx16, h⟩ := obs h
  refine wc_ixaddr HF nS el36 rfl ha1 ((HT.ro hr_x0).any).neq rfl hx16 rfl rfl fun a HF => ?_
  refine wc_faddr HF nS rfl fl85_1 rfl rfl fun a HF => ?_
  have hc6 := (HT.ro hr_x0).any.flatAt ha1 hx16
  refine wc_load HF rfl sc3 (hc6.get 1 rfl) rfl rfl fun a HF => ?_
  obtain ⟨e8, hx17, h⟩ := obs h
  obtain ⟨b6, o6, ha6⟩ := (HT.rdAAt 3 rfl).addr hx17
  refine wc_ixaddr HF nS el22 rfl ha6 ((HT.rdAAt 3 rfl)).neq rfl hx17 rfl rfl fun a HF => ?_
  have HT := HT.p3
  refine wc_storeRA (i := e7.b) (j := 0) (x' := 0) HF HT ha6 rfl rfl (fun w => (sc3 w).2) rfl rfl hx17 rfl rfl rfl rfl (fun w HT => ⟨nS, ?_⟩)
  refine wc_end (then_n (wc_text (wm HF rfl rfl rfl fun a HF => ?_)))
  refine wc_faddr HF nS rfl fl131_0 rfl rfl fun a HF => ?_
  refine wc_load HF rfl sc3 ((HT.boxAt 3 rfl).get 0 rfl) rfl rfl fun a HF => ?_
  obtain ⟨y14, hx18, h⟩ := obs h
  refine wc_call HF cf105 rfl (w_impl_EndOf fuel hx18 (HT.ro hr_x0).any) rfl rfl ?_
  rintro e w ⟨rfl, hE⟩
  have hb := hE.below
  have HT := HT.pure hE
  have HT : St w0 (fun _ => False) w [OwnA (rowT (e6.regs.set e7.b.toNat 0)) (.slice a25 e6.regs.length c25), Box p3 [.slice a26 e6.cells.length c26, .slice a27 e6.map.length c27, .int .i64 e6.count], Own 131 (rowT (subl z9 0 ((z9.length : Int) - 1))) (.slice a10 ((subl z9 0 ((z9.length : Int) - 1)).length) c10), Box p8 [.int .i64 e6.at_, .slice a25 e6.regs.length c25, .slice a26 e6.cells.length c26, .slice a27 e6.map.length c27, .int .i64 e6.count], OwnA (rowT e6.cells) (.slice a26 e6.cells.length c26), OwnA (rowT e6.map) (.slice a27 e6.map.length c27), OwnA (rowT z5) (.slice a7 z5.length c7), Box p1 [.slice a_x4_0 x4_0.length c_x4_0, .slice a_x4_1 x4_1.length c_x4_1, .int .i64 x4_2], Box p2 [.int .i64 0, .slice none 0 0, .slice none 0 0, .slice none 0 0, .int .i64 0], OwnA (rowT z6) (.slice a8 z6.length c8), OwnA (rowT z7) (.slice a9 z7.length c9), Box p5 [.int .i64 e1.a, .int .i64 e1.b, .int .i64 e1.c, .int .i64 e1.d]] := HT
  refine ⟨_, rfl, nS, fun a HF => ?_⟩
  refine wa HF rfl rfl rfl fun a HF => ?_
  refine wc_end (blk_n (blk_n ?_))
  have HT := HT.p2.p2.p5.p5.p8.p8.p6.t7
  exact then_n ⟨e6.regs.set e7.b.toNat 0, e6.cells, e6.map, e6.count, subl z9 0 ((z9.length : Int) - 1), y14, a25, e6.regs.length, c25, a26, e6.cells.length, c26, a27, e6.map.length, c27, a10, (subl z9 0 ((z9.length : Int) - 1)).length, c10, (Option.some.inj h).symm, (HF.keep (HF.keep (HF.keep (HF.keep (HF.keep (HF.keep (HF.keep (HF.keep (HF.keep HF.nil rfl) rfl) rfl) rfl) rfl) rfl) rfl) rfl) rfl), HT⟩
  have h := ifn hb10 h
  refine wp_if (b' := false) HF rfl (decide_eq_false hb10) ?_
  refine wp_seq (wc_text (wc_bin HF nS rfl rfl b_eq rfl rfl fun a HF => ?_))
  refine wa HF rfl rfl rfl fun a HF => ?_
  refine wc_end (then_n ?_)
  by_cases hb12 : e1.a = 11
  have h := ifp hb12 h
  refine wp_if (b' := true) HF rfl (decide_eq_true hb12) ?_
  refine wp_seq (wc_text (wm HF rfl rfl rfl fun a HF => ?_))
  obtain ⟨y15, hx19, h⟩ := obs h
  refine wc_call HF cf103 rfl (w_impl_copyInts fuel hx19 (HT.rdAAt 0 rfl)) rfl rfl ?_
  rintro e w ⟨a28, n21, c28, rfl, hE⟩
  have hb := hE.below
  have HT := HT.pure hE
  obtain rfl := (HT.rdAt 0 rfl).neq
  have HT : St w0 (fun _ => False) w [Own 3 (rowT y15) (.slice a28 y15.length c28), OwnA (rowT z5) (.slice a7 z5.length c7), Box p1 [.slice a_x4_0 x4_0.length c_x4_0, .slice a_x4_1 x4_1.length c_x4_1, .int .i64 x4_2], Box p2 [.int .i64 0, .slice none 0 0, .slice none 0 0, .slice none 0 0, .int .i64 0], OwnA (rowT z6) (.slice a8 z6.length c8), OwnA (rowT z7) (.slice a9 z7.length c9), Box p3 [.slice a8 z6.length c8, .slice a9 z7.length c9, .int .i64 z8], Own 131 (rowT z9) (.slice a10 z9.length c10), Box p5 [.int .i64 e1.a, .int .i64 e1.b, .int .i64 e1.c, .int .i64 e1.d]] := HT
  refine ⟨_, rfl, nS, fun a HF => ?_⟩
  refine wa HF rfl rfl rfl fun a HF => ?_
  refine wc_end (then_n (wp_seq (wc_text (wm HF rfl rfl rfl fun a HF => ?_))))
  refine wm HF rfl rfl rfl fun a HF => ?_
  refine wc_lenR HF nS Try.underlying51 rfl rfl rfl fun a HF => ?_
  obtain ⟨y16, hx20, h⟩ := obs h
  refine wc_call HF cf106 rfl (w_impl_fullOrder fuel hx20 (HT.ro hr_x2).any) rfl rfl ?_
  rintro e w ⟨a29, n22, c29, rfl, hE⟩
  have hb := hE.below
  have HT := HT.pure hE
  obtain rfl := (HT.rdAt 0 rfl).neq
  have HT : St w0 (fun _ => False) w [Own 3 (rowT y16) (.slice a29 y16.length c29), Own 3 (rowT y15) (.slice a28 y15.length c28), OwnA (rowT z5) (.slice a7 z5.length c7), Box p1 [.slice a_x4_0 x4_0.length c_x4_0, .slice a_x4_1 x4_1.length c_x4_1, .int .i64 x4_2], Box p2 [.int .i64 0, .slice none 0 0, .slice none 0 0, .slice none 0 0, .int .i64 0], OwnA (rowT z6) (.slice a8 z6.length c8), OwnA (rowT z7) (.slice a9 z7.length c9), Box p3 [.slice a8 z6.length c8, .slice a9 z7.length c9, .int .i64 z8], Own 131 (rowT z9) (.slice a10 z9.length c10), Box p5 [.int .i64 e1.a, .int .i64 e1.b, .int .i64 e1.c, .int .i64 e1.d]] := HT
  refine ⟨_, rfl, nS, fun a HF => ?_⟩
  refine wc_lenR HF nS Try.underlying22 rfl rfl rfl fun a HF => ?_
  refine wm HF rfl rfl rfl fun a HF => ?_
  refine wc_end (then_n (wp_block ?_))
  have HT := HT.p1.p8.p8.p8.p8.p8.p8.p8.t9
  refine wp_loopN (fun k2 a w => ∃ z18 z19 z20 a30 n23 c30, m_impl_serial_L1 fuel x1 rcf y15 y16 z5 z6 z7 z8 z9 z10 k2 z18 z19 z20 = some q2 ∧ Fr a 177 [(0, .slice a_x0 x0.length c_x0), (1, .slice a_x1 x1.length c_x1), (2, .slice a_x2 x2.length c_x2), (3, .slice a7 z5.length c7), (9, .pointer (some ⟨p1, 0, none⟩)), (10, .pointer (some ⟨p2, 0, none⟩)), (11, .pointer (some ⟨p3, 0, none⟩)), (12, .slice a10 z9.length c10), (13, .int .i64 z10), (17, .slice a28 y15.length c28), (139, .slice a29 y16.length c29), (140, .int .i64 (y16.length : Int)), (141, .int .i64 z20)] ∧ St w0 (fun _ => False) w [OwnA (rowT z18) (.slice a7 z5.length c7), Box p1 [.slice a_x4_0 x4_0.length c_x4_0, .slice a_x4_1 x4_1.length c_x4_1, .int .i64 x4_2], Box p2 [.int .i64 0, .slice none 0 0, .slice none 0 0, .slice none 0 0, .int .i64 0], OwnA (rowT z19) (.slice a30 n23 c30), OwnA (rowT z7) (.slice a9 z7.length c9), Box p3 [.slice a30 n23 c30, .slice a9 z7.length c9, .int .i64 z8], Own 131 (rowT z9) (.slice a10 z9.length c10), Own 3 (rowT y15) (.slice a28 y15.length c28), Own 3 (rowT y16) (.slice a29 y16.length c29)]) fuel ⟨z5, z6, 0, a8, z6.length, c8, h, (HF.keep (HF.keep (HF.keep (HF.keep (HF.keep (HF.keep (HF.keep (HF.keep (HF.keep (HF.keep (HF.keep (HF.keep (HF.keep HF.nil rfl) rfl) rfl) rfl) rfl) rfl) rfl) rfl) rfl) rfl) rfl) rfl) rfl), HT⟩ ?_
  rintro k2 a w ⟨z18, z19, z20, a30, n23, c30, h, HF, HT⟩
  rcases k2 with _ | k2
  cases h
  rw [m_impl_serial_L1] at h
  obtain rfl := (HT.rdAAt 3 rfl).neq
  refine ?_
  refine wp_seq (wc_text (wc_bin HF nS rfl rfl b_lt rfl rfl fun a HF => ?_))
  refine wc_end (then_n (wp_seq ?_))
  by_cases hb13 : z20 < (y16.length : Int)
  have h := ifp hb13 h
  refine wp_if (b' := true) HF rfl (decide_eq_true hb13) ?_
  refine wp_skip (then_n ?_)
  obtain ⟨z21, z22, hx21, h⟩ := obs2 h
  refine wp_cut (fun a w => ∃ a31 n24 c31, Fr a 177 [(0, .slice a_x0 x0.length c_x0), (1, .slice a_x1 x1.length c_x1), (2, .slice a_x2 x2.length c_x2), (3, .slice a7 z5.length c7), (9, .pointer (some ⟨p1, 0, none⟩)), (10, .pointer (some ⟨p2, 0, none⟩)), (11, .pointer (some ⟨p3, 0, none⟩)), (12, .slice a10 z9.length c10), (13, .int .i64 z10), (17, .slice a28 y15.length c28), (139, .slice a29 y16.length c29), (140, .int .i64 (y16.length : Int)), (141, .int .i64 z20)] ∧ St w0 (fun _ => False) w [OwnA (rowT z21) (.slice a7 z5.length c7), Box p1 [.slice a_x4_0 x4_0.length c_x4_0, .slice a_x4_1 x4_1.length c_x4_1, .int .i64 x4_2], Box p2 [.int .i64 0, .slice none 0 0, .slice none 0 0, .slice none 0 0, .int .i64 0], OwnA (rowT z22) (.slice a31 n24 c31), OwnA (rowT z7) (.slice a9 z7.length c9), Box p3 [.slice a31 n24 c31, .slice a9 z7.length c9, .int .i64 z8], Own 131 (rowT z9) (.slice a10 z9.length c10), Own 3 (rowT y15) (.slice a28 y15.length c28), Own 3 (rowT y16) (.slice a29 y16.length c29)]) ?_ ?_
  have hk3 := h
  have h := hx21
  refine wp_block (wp_seq (wc_text ?_))
  obtain ⟨e9, hx22, h⟩ := obs h
  obtain ⟨b7, o7, ha7⟩ := (HT.rdAt 8 rfl).addr hx22
  refine wc_ixaddr HF nS el22 rfl ha7 ((HT.rdAt 8 rfl)).neq rfl hx22 rfl rfl fun a HF => ?_
  have hc7 := (HT.rdAt 8 rfl).flatAt ha7 hx22
  refine wc_load HF rfl sc3 (hc7.get 0 rfl) rfl rfl fun a HF => ?_
  refine wa HF rfl rfl rfl fun a HF => ?_
  refine wc_end (then_n ?_)
  obtain ⟨z23, z24, z25, z26, z27, hx23, h⟩ := obs5 h
  refine wp_cut (fun a w => ∃ a32 n25 c32 a33 n26 c33 a34 n27 c34 p9, Fr a 177 [(0, .slice a_x0 x0.length c_x0), (1, .slice a_x1 x1.length c_x1), (2, .slice a_x2 x2.length c_x2), (3, .slice a7 z5.length c7), (9, .pointer (some ⟨p1, 0, none⟩)), (10, .pointer (some ⟨p2, 0, none⟩)), (11, .pointer (some ⟨p3, 0, none⟩)), (12, .slice a10 z9.length c10), (13, .int .i64 z10), (17, .slice a28 y15.length c28), (19, .int .i64 e9), (20, .pointer (some ⟨p9, 0, none⟩)), (139, .slice a29 y16.length c29), (140, .int .i64 (y16.length : Int)), (141, .int .i64 z20)] ∧ St w0 (fun _ => False) w [OwnA (rowT z18) (.slice a7 z5.length c7), Box p1 [.slice a_x4_0 x4_0.length c_x4_0, .slice a_x4_1 x4_1.length c_x4_1, .int .i64 x4_2], Box p2 [.int .i64 0, .slice none 0 0, .slice none 0 0, .slice none 0 0, .int .i64 0], OwnA (rowT z19) (.slice a30 z19.length c30), OwnA (rowT z7) (.slice a9 z7.length c9), Box p3 [.slice a30 z19.length c30, .slice a9 z7.length c9, .int .i64 z8], Own 131 (rowT z9) (.slice a10 z9.length c10), Own 3 (rowT y15) (.slice a28 y15.length c28), OwnA (rowT z24) (.slice a32 n25 c32), OwnA (rowT z25) (.slice a33 n26 c33), OwnA (rowT z26) (.slice a34 n27 c34), Box p9 [.int .i64 z23, .slice a32 n25 c32, .slice a33 n26 c33, .slice a34 n27 c34, .int .i64 z27], Own 3 (rowT y16) (.slice a29 y16.length c29)]) ?_ ?_
  have hk4 := h
  have h := hx23
  obtain ⟨e10, hx24, h⟩ := obs h
  obtain ⟨b8, o8, ha8⟩ := (HT.ro hr_x1).any.addr hx24
  obtain ⟨_, hP1, hc8, hr1⟩ := hr_x1.elemAt ha8 hx24
  obtain ⟨a35, c35, rfl, hr2⟩ := cells_Kid hr1
  have hc9 := HT.roLd hP1 hc8
  refine wp_region_tree (.seg [(0, false), (1, false), (2, false), (3, false), (4, false), (5, false), (6, false), (7, false)] (.alt 8 false (.seg [(9, false)] (.alt 10 true (.seg [(11, false), (12, true)] .stop) (.alt 11 false (.seg [(10, true), (12, true)] .stop) .none))) (.alt 11 false (.seg [(8, false), (9, true), (10, true), (12, true)] .stop) .none))) (fun w' => LdC w' b8 (o8 + (e9 : Int).toNat * Dat.size KidD) [.slice a35 e10.code.length c35] ∧ w'.cell? ⟨p3, 0, none⟩ = some (.slice a30 z19.length c30) ∧ True) (by kernel_rfl) (by kernel_rfl) ?_
  have HT := HT.drew
  refine wt_seg (wc_move HF (fun _ => ⟨(HT.roLd hP1 hc8), (HT.boxAt 5 rfl).get 0 rfl, trivial⟩) rfl rfl rfl fun a HF => ?_)
  refine wc_move HF (fun _ => ⟨(HT.roLd hP1 hc8), (HT.boxAt 5 rfl).get 0 rfl, trivial⟩) rfl rfl rfl fun a HF => ?_
  refine wc_ixaddr HF (fun _ => ⟨(HT.roLd hP1 hc8), (HT.boxAt 5 rfl).get 0 rfl, trivial⟩) el51 rfl ha8 ((HT.ro hr_x1).any).neq rfl hx24 rfl rfl fun a HF => ?_
  refine wc_faddr HF (fun _ => ⟨(HT.roLd hP1 hc8), (HT.boxAt 5 rfl).get 0 rfl, trivial⟩) rfl fl127_0 rfl rfl fun a HF => ?_
  refine wc_loadS HF ⟨(HT.roLd hP1 hc8), (HT.boxAt 5 rfl).get 0 rfl, trivial⟩ rfl sc36 (fun w hS => (hS.1).get 0 rfl) rfl rfl fun a HF => ?_
  refine wc_move HF (fun _ => ⟨(HT.roLd hP1 hc8), (HT.boxAt 5 rfl).get 0 rfl, trivial⟩) rfl rfl rfl fun a HF => ?_
  refine wc_faddr HF (fun _ => ⟨(HT.roLd hP1 hc8), (HT.boxAt 5 rfl).get 0 rfl, trivial⟩) rfl fl27_0 rfl rfl fun a HF => ?_
  refine wc_loadS HF ⟨(HT.roLd hP1 hc8), (HT.boxAt 5 rfl).get 0 rfl, trivial⟩ rfl sc22 (fun w hS => hS.2.1) rfl rfl fun a HF => ?_
  refine wc_endT ?_
  obtain ⟨hg7, h⟩ := grd h
  obtain ⟨y17, y18, y19, y20, y21, hx25, h⟩ := obs5 h
  refine wt_alt ?_ ?_
  refine wc_make (x := (0 : Int)) HF HT el22 rfl rfl hg7 rfl rfl rfl rfl (fun p14 w HT hb => ⟨(fun _ => ⟨(HT.roLd hP1 hc8), (HT.boxAt 6 rfl).get 0 rfl, trivial⟩), fun a HF => ?_⟩)
  refine wc_endT (wt_seg (wc_build (cs := #[.slice a30 z19.length c30, .slice (some ⟨p14, 0, none⟩) ((List.replicate (8 : Int).toNat (0 : Int)).length) ((List.replicate (8 : Int).toNat (0 : Int)).length), .int .i64 0]) HF (fun _ => ⟨(HT.roLd hP1 hc8), (HT.boxAt 6 rfl).get 0 rfl, trivial⟩) bd27 rfl rfl rfl rfl fun a HF => ?_))
  refine wc_endT (wt_alt ?_ ?_)
  refine wc_call HF cf69 rfl (ih hx25 (HT.ro hr2).any (rd_nil (E := KidD) _ _) (rd_nil (E := Int) _ _) (HT.rdAt 8 rfl) (HT.rdAAt 4 rfl) (HT.rdAt 0 rfl)) rfl rfl ?_
  rintro e w ⟨a48, n40, c48, a49, n41, c49, a50, n42, c50, rfl, hE⟩
  have hb := hE.below
  have HT := HT.pure hE
  obtain rfl := (HT.rdAAt 0 rfl).neq
  obtain rfl := (HT.rdAAt 1 rfl).neq
  obtain rfl := (HT.rdAAt 2 rfl).neq
  have HT : St w0 (fun _ => False) w [OwnA (rowT y18) (.slice a48 y18.length c48), OwnA (rowT y19) (.slice a49 y19.length c49), OwnA (rowT y20) (.slice a50 y20.length c50), Own 3 (rowT (List.replicate (8 : Int).toNat (0 : Int))) (.slice (some ⟨p14, 0, none⟩) ((List.replicate (8 : Int).toNat (0 : Int)).length) ((List.replicate (8 : Int).toNat (0 : Int)).length)), OwnA (rowT z18) (.slice a7 z5.length c7), Box p1 [.slice a_x4_0 x4_0.length c_x4_0, .slice a_x4_1 x4_1.length c_x4_1, .int .i64 x4_2], Box p2 [.int .i64 0, .slice none 0 0, .slice none 0 0, .slice none 0 0, .int .i64 0], OwnA (rowT z19) (.slice a30 z19.length c30), OwnA (rowT z7) (.slice a9 z7.length c9), Box p3 [.slice a30 z19.length c30, .slice a9 z7.length c9, .int .i64 z8], Own 131 (rowT z9) (.slice a10 z9.length c10), Own 3 (rowT y15) (.slice a28 y15.length c28), Own 3 (rowT y16) (.slice a29 y16.length c29)] := HT
  refine ⟨_, rfl, nS, fun a HF => ?_⟩
  refine wc_endT (wt_seg (wc_alloc (cs := [.int .i64 0, .slice none 0 0, .slice none 0 0, .slice none 0 0, .int .i64 0]) HF HT zr49 rfl rfl rfl (fun p16 w HT hb => ⟨(fun _ => ⟨(HT.roLd hP1 hc8), (HT.boxAt 10 rfl).get 0 rfl, trivial⟩), fun a HF => ?_⟩)))
  refine wc_storeB (cs' := [.int .i64 y17, .slice a48 y18.length c48, .slice a49 y19.length c49, .slice a50 y20.length c50, .int .i64 y21]) HF HT rfl rfl (fun w => (ag49 w).2) rfl rfl rfl rfl rfl (fun w HT => ⟨nS, ?_⟩)
  refine wc_endT (wt_stop ?_)
  have HT := HT.p13.p1.p4.p4.p4.p13.p13.p13.p13.p13.p13.p13.p13.t13
  have hj6 := Option.some.inj h
  obtain ⟨rfl, hj7⟩ := Prod.mk.inj hj6
  obtain ⟨rfl, hj8⟩ := Prod.mk.inj hj7
  obtain ⟨rfl, hj9⟩ := Prod.mk.inj hj8
  obtain ⟨rfl, hj10⟩ := Prod.mk.inj hj9
  subst hj10
  exact then_n ⟨a48, y18.length, c48, a49, y19.length, c49, a50, y20.length, c50, p16, (HF.keep (HF.keep (HF.keep (HF.keep (HF.keep (HF.keep (HF.keep (HF.keep (HF.keep (HF.keep (HF.keep (HF.keep (HF.keep (HF.keep (HF.keep HF.nil rfl) rfl) rfl) rfl) rfl) rfl) rfl) rfl) rfl) rfl) rfl) rfl) rfl) rfl) rfl), HT⟩
  refine wt_alt ?_ ?_
  refine wc_alloc (cs := [.int .i64 0, .slice none 0 0, .slice none 0 0, .slice none 0 0, .int .i64 0]) HF HT zr49 rfl rfl rfl (fun p17 w HT hb => ⟨(fun _ => ⟨(HT.roLd hP1 hc8), (HT.boxAt 7 rfl).get 0 rfl, trivial⟩), fun a HF => ?_⟩)
  refine wc_endT (wt_seg (wc_call HF cf69 rfl (ih hx25 (HT.ro hr2).any (rd_nil (E := KidD) _ _) (rd_nil (E := Int) _ _) (HT.rdAt 9 rfl) (HT.rdAAt 5 rfl) (HT.rdAt 1 rfl)) rfl rfl ?_))
  rintro e w ⟨a51, n43, c51, a52, n44, c52, a53, n45, c53, rfl, hE⟩
  have hb := hE.below
  have HT := HT.pure hE
  obtain rfl := (HT.rdAAt 0 rfl).neq
  obtain rfl := (HT.rdAAt 1 rfl).neq
  obtain rfl := (HT.rdAAt 2 rfl).neq
  have HT : St w0 (fun _ => False) w [OwnA (rowT y18) (.slice a51 y18.length c51), OwnA (rowT y19) (.slice a52 y19.length c52), OwnA (rowT y20) (.slice a53 y20.length c53), Box p17 [.int .i64 0, .slice none 0 0, .slice none 0 0, .slice none 0 0, .int .i64 0], Own 3 (rowT (List.replicate (8 : Int).toNat (0 : Int))) (.slice (some ⟨p14, 0, none⟩) ((List.replicate (8 : Int).toNat (0 : Int)).length) ((List.replicate (8 : Int).toNat (0 : Int)).length)), OwnA (rowT z18) (.slice a7 z5.length c7), Box p1 [.slice a_x4_0 x4_0.length c_x4_0, .slice a_x4_1 x4_1.length c_x4_1, .int .i64 x4_2], Box p2 [.int .i64 0, .slice none 0 0, .slice none 0 0, .slice none 0 0, .int .i64 0], OwnA (rowT z19) (.slice a30 z19.length c30), OwnA (rowT z7) (.slice a9 z7.length c9), Box p3 [.slice a30 z19.length c30, .slice a9 z7.length c9, .int .i64 z8], Own 131 (rowT z9) (.slice a10 z9.length c10), Own 3 (rowT y15) (.slice a28 y15.length c28), Own 3 (rowT y16) (.slice a29 y16.length c29)] := HT
  refine ⟨_, rfl, nS, fun a HF => ?_⟩
  have HT := HT.p3
  refine wc_storeB (cs' := [.int .i64 y17, .slice a51 y18.length c51, .slice a52 y19.length c52, .slice a53 y20.length c53, .int .i64 y21]) HF HT rfl rfl (fun w => (ag49 w).2) rfl rfl rfl rfl rfl (fun w HT => ⟨nS, ?_⟩)
  refine wc_endT (wt_stop ?_)
  have HT := HT.p13.p1.p4.p4.p4.p13.p13.p13.p13.p13.p13.p13.p13.t13
  have hj11 := Option.some.inj h
  obtain ⟨rfl, hj12⟩ := Prod.mk.inj hj11
  obtain ⟨rfl, hj13⟩ := Prod.mk.inj hj12
  obtain ⟨rfl, hj14⟩ := Prod.mk.inj hj13
  obtain ⟨rfl, hj15⟩ := Prod.mk.inj hj14
  subst hj15
  exact then_n ⟨a51, y18.length, c51, a52, y19.length, c52, a53, y20.length, c53, p17, (HF.keep (HF.keep (HF.keep (HF.keep (HF.keep (HF.keep (HF.keep (HF.keep (HF.keep (HF.keep (HF.keep (HF.keep (HF.keep (HF.keep (HF.keep HF.nil rfl) rfl) rfl) rfl) rfl) rfl) rfl) rfl) rfl) rfl) rfl) rfl) rfl) rfl) rfl), HT⟩
  exact wt_none
  refine wt_alt ?_ ?_
  refine wc_alloc (cs := [.int .i64 0, .slice none 0 0, .slice none 0 0, .slice none 0 0, .int .i64 0]) HF HT zr49 rfl rfl rfl (fun p18 w HT hb => ⟨(fun _ => ⟨(HT.roLd hP1 hc8), (HT.boxAt 6 rfl).get 0 rfl, trivial⟩), fun a HF => ?_⟩)
  refine wc_endT (wt_seg (wc_make (x := (0 : Int)) HF HT el22 rfl rfl hg7 rfl rfl rfl rfl (fun p19 w HT hb => ⟨(fun _ => ⟨(HT.roLd hP1 hc8), (HT.boxAt 7 rfl).get 0 rfl, trivial⟩), fun a HF => ?_⟩)))
  refine wc_build (cs := #[.slice a30 z19.length c30, .slice (some ⟨p19, 0, none⟩) ((List.replicate (8 : Int).toNat (0 : Int)).length) ((List.replicate (8 : Int).toNat (0 : Int)).length), .int .i64 0]) HF nS bd27 rfl rfl rfl rfl fun a HF => ?_
  refine wc_call HF cf69 rfl (ih hx25 (HT.ro hr2).any (rd_nil (E := KidD) _ _) (rd_nil (E := Int) _ _) (HT.rdAt 9 rfl) (HT.rdAAt 5 rfl) (HT.rdAt 0 rfl)) rfl rfl ?_
  rintro e w ⟨a54, n46, c54, a55, n47, c55, a56, n48, c56, rfl, hE⟩
  have hb := hE.below
  have HT := HT.pure hE
  obtain rfl := (HT.rdAAt 0 rfl).neq
  obtain rfl := (HT.rdAAt 1 rfl).neq
  obtain rfl := (HT.rdAAt 2 rfl).neq
  have HT : St w0 (fun _ => False) w [OwnA (rowT y18) (.slice a54 y18.length c54), OwnA (rowT y19) (.slice a55 y19.length c55), OwnA (rowT y20) (.slice a56 y20.length c56), Own 3 (rowT (List.replicate (8 : Int).toNat (0 : Int))) (.slice (some ⟨p19, 0, none⟩) ((List.replicate (8 : Int).toNat (0 : Int)).length) ((List.replicate (8 : Int).toNat (0 : Int)).length)), Box p18 [.int .i64 0, .slice none 0 0, .slice none 0 0, .slice none 0 0, .int .i64 0], OwnA (rowT z18) (.slice a7 z5.length c7), Box p1 [.slice a_x4_0 x4_0.length c_x4_0, .slice a_x4_1 x4_1.length c_x4_1, .int .i64 x4_2], Box p2 [.int .i64 0, .slice none 0 0, .slice none 0 0, .slice none 0 0, .int .i64 0], OwnA (rowT z19) (.slice a30 z19.length c30), OwnA (rowT z7) (.slice a9 z7.length c9), Box p3 [.slice a30 z19.length c30, .slice a9 z7.length c9, .int .i64 z8], Own 131 (rowT z9) (.slice a10 z9.length c10), Own 3 (rowT y15) (.slice a28 y15.length c28), Own 3 (rowT y16) (.slice a29 y16.length c29)] := HT
  refine ⟨_, rfl, nS, fun a HF => ?_⟩
  have HT := HT.p4
  refine wc_storeB (cs' := [.int .i64 y17, .slice a54 y18.length c54, .slice a55 y19.length c55, .slice a56 y20.length c56, .int .i64 y21]) HF HT rfl rfl (fun w => (ag49 w).2) rfl rfl rfl rfl rfl (fun w HT => ⟨nS, ?_⟩)
  refine wc_endT (wt_stop ?_)
  have HT := HT.p13.p1.p4.p4.p4.p13.p13.p13.p13.p13.p13.p13.p13.t13
  have hj16 := Option.some.inj h
  obtain ⟨rfl, hj17⟩ := Prod.mk.inj hj16
  obtain ⟨rfl, hj18⟩ := Prod.mk.inj hj17
  obtain ⟨rfl, hj19⟩ := Prod.mk.inj hj18
  obtain ⟨rfl, hj20⟩ := Prod.mk.inj hj19
  subst hj20
  exact then_n ⟨a54, y18.length, c54, a55, y19.length, c55, a56, y20.length, c56, p18, (HF.keep (HF.keep (HF.keep (HF.keep (HF.keep (HF.keep (HF.keep (HF.keep (HF.keep (HF.keep (HF.keep (HF.keep (HF.keep (HF.keep (HF.keep HF.nil rfl) rfl) rfl) rfl) rfl) rfl) rfl) rfl) rfl) rfl) rfl) rfl) rfl) rfl) rfl), HT⟩
  exact wt_none
  rintro a w ⟨a32, n25, c32, a33, n26, c33, a34, n27, c34, p9, HF, HT⟩
  obtain rfl := (HT.rdAAt 8 rfl).neq
  obtain rfl := (HT.rdAAt 9 rfl).neq
  obtain rfl := (HT.rdAAt 10 rfl).neq
  refine ?_
  refine wp_seq (wc_text (wc_faddr HF nS rfl fl49_2 rfl rfl fun a HF => ?_))
  refine wc_faddr HF nS rfl fl27_0 rfl rfl fun a HF => ?_
  refine wc_load HF rfl sc22 ((HT.boxAt 11 rfl).get 2 rfl) rfl rfl fun a HF => ?_
  refine wc_faddr HF nS rfl fl27_0 rfl rfl fun a HF => ?_
  have HT := HT.p5
  refine wc_storeB (cs' := [.slice a33 z25.length c33, .slice a9 z7.length c9, .int .i64 z8]) HF HT rfl rfl (fun w => (sc22 w).2) rfl rfl rfl rfl rfl (fun w HT => ⟨nS, ?_⟩)
  refine wc_end (then_n (wp_seq (wc_text (wm HF rfl rfl rfl fun a HF => ?_))))
  refine wm HF rfl rfl rfl fun a HF => ?_
  obtain ⟨e11, hx26, h⟩ := obs h
  obtain ⟨b9, o9, ha9⟩ := (HT.rdAAt 1 rfl).addr hx26
  refine wc_ixaddr HF nS el22 rfl ha9 ((HT.rdAAt 1 rfl)).neq rfl hx26 rfl rfl fun a HF => ?_
  have HT := HT.p1
  refine wc_storeRA (i := e9) (j := 0) (x' := 0) HF HT ha9 rfl rfl (fun w => (sc3 w).2) rfl rfl hx26 rfl rfl rfl rfl (fun w HT => ⟨nS, ?_⟩)
  refine wc_end (then_n (wp_seq (wc_text (wc_faddr HF nS rfl fl49_0 rfl rfl fun a HF => ?_))))
  refine wc_load HF rfl sc3 ((HT.boxAt 11 rfl).get 0 rfl) rfl rfl fun a HF => ?_
  refine wc_bin HF nS rfl rfl b_eq rfl rfl fun a HF => ?_
  refine wc_end (then_n ?_)
  by_cases hb14 : z23 = 1
  have h := ifp hb14 h
  refine wp_if (b' := true) HF rfl (decide_eq_true hb14) ?_
  refine wc_text (wm HF rfl rfl rfl fun a HF => ?_)
  refine wm HF rfl rfl rfl fun a HF => ?_
  refine wc_faddr HF nS rfl fl49_1 rfl rfl fun a HF => ?_
  refine wc_load HF rfl sc22 ((HT.boxAt 11 rfl).get 1 rfl) rfl rfl fun a HF => ?_
  obtain ⟨e12, hx27, h⟩ := obs h
  obtain ⟨b10, o10, ha10⟩ := (HT.rdAAt 8 rfl).addr hx27
  refine wc_ixaddr HF nS el22 rfl ha10 ((HT.rdAAt 8 rfl)).neq rfl hx27 rfl rfl fun a HF => ?_
  have hc10 := (HT.rdAAt 8 rfl).flatAt ha10 hx27
  refine wc_load HF rfl sc3 (hc10.get 0 rfl) rfl rfl fun a HF => ?_
  obtain ⟨e13, hx28, h⟩ := obs h
  refine wc_ixaddr HF nS el22 rfl ha9 ((HT.rdAAt 0 rfl)).neq rfl hx28 rfl rfl fun a HF => ?_
  refine wc_storeRA (i := e9) (j := 0) (x' := e12) HF HT ha9 rfl rfl (fun w => (sc3 w).2) rfl rfl hx28 rfl rfl rfl rfl (fun w HT => ⟨nS, ?_⟩)
  refine wc_end (blk_n ?_)
  have HT := HT.p12.p8.p8.p4.p8.p10.p8.p8.p8.t9
  have hj21 := Option.some.inj h
  obtain ⟨rfl, hj22⟩ := Prod.mk.inj hj21
  subst hj22
  exact then_n ⟨a33, z25.length, c33, (HF.keep (HF.keep (HF.keep (HF.keep (HF.keep (HF.keep (HF.keep (HF.keep (HF.keep (HF.keep (HF.keep (HF.keep (HF.keep HF.nil rfl) rfl) rfl) rfl) rfl) rfl) rfl) rfl) rfl) rfl) rfl) rfl) rfl), HT⟩
  have h := ifn hb14 h
  refine wp_if (b' := false) HF rfl (decide_eq_false hb14) ?_
  refine wp_skip (blk_n ?_)
  have HT := HT.p12.p8.p8.p4.p8.p10.p8.p8.p8.t9
  have hj23 := Option.some.inj h
  obtain ⟨rfl, hj24⟩ := Prod.mk.inj hj23
  subst hj24
  exact then_n ⟨a33, z25.length, c33, (HF.keep (HF.keep (HF.keep (HF.keep (HF.keep (HF.keep (HF.keep (HF.keep (HF.keep (HF.keep (HF.keep (HF.keep (HF.keep HF.nil rfl) rfl) rfl) rfl) rfl) rfl) rfl) rfl) rfl) rfl) rfl) rfl) rfl), HT⟩
  rintro a w ⟨a31, n24, c31, HF, HT⟩
  obtain rfl := (HT.rdAAt 3 rfl).neq
  refine ?_
  refine wc_text ?_
  obtain ⟨hg8, h⟩ := grd h
  refine wc_bin HF nS rfl rfl (b_add hg8) rfl rfl fun a HF => ?_
  refine wm HF rfl rfl rfl fun a HF => ?_
  exact wc_end (then_n ⟨k2, Nat.lt_succ_self k2, z21, z22, z20 + 1, a31, z22.length, c31, h, (HF.keep (HF.keep (HF.keep (HF.keep (HF.keep (HF.keep (HF.keep (HF.keep (HF.keep (HF.keep (HF.keep (HF.keep (HF.keep HF.nil rfl) rfl) rfl) rfl) rfl) rfl) rfl) rfl) rfl) rfl) rfl) rfl) rfl), HT⟩)
  have h := ifn hb13 h
  refine wp_if (b' := false) HF rfl (decide_eq_false hb13) ?_
  refine wp_exit ?_
  refine then_x (then_x (?_))
  refine blk_x ?_
  refine blk_n (blk_n ?_)
  have HT := HT.t7
  exact then_n ⟨z18, z19, z7, z8, z9, z10, a7, z5.length, c7, a30, z19.length, c30, a9, z7.length, c9, a10, z9.length, c10, (Option.some.inj h).symm, (HF.keep (HF.keep (HF.keep (HF.keep (HF.keep (HF.keep (HF.keep (HF.keep (HF.keep HF.nil rfl) rfl) rfl) rfl) rfl) rfl) rfl) rfl) rfl), HT⟩
  have h := ifn hb12 h
  refine wp_if (b' := false) HF rfl (decide_eq_false hb12) ?_
  refine wc_text (wc_loadA (vs := [.int .i64 e1.a, .int .i64 e1.b, .int .i64 e1.c, .int .i64 e1.d]) HF rfl ag85 rfl ((HT.boxAt 7 rfl).part 0 4) rfl rfl fun a HF => ?_)
  refine wm HF rfl rfl rfl fun a HF => ?_
  obtain ⟨y22, y23, y24, y25, hx29, h⟩ := obs4 h
  have HT := HT.p4.p4.p5.p3
  obtain ⟨F1, hAF1, hFF1, hbackF1, hroF1, hownF1, hownAF1⟩ := St.handR2 (A := [OwnA (rowT z5) (.slice a7 z5.length c7), Box p3 [.slice a8 z6.length c8, .slice a9 z7.length c9, .int .i64 z8], OwnA (rowT z6) (.slice a8 z6.length c8), OwnA (rowT z7) (.slice a9 z7.length c9)]) HT
  refine wc_call HF cf107 rfl (w_impl_touch fuel hx29 hAF1) rfl rfl ?_
  rintro e w ⟨rfl, hE⟩
  have HT := hbackF1 _ _ hE
  have HT : St w0 (fun _ => False) w [OwnA (rowT y22) (.slice a7 z5.length c7), Box p3 [.slice a8 z6.length c8, .slice a9 z7.length c9, .int .i64 y25], OwnA (rowT y23) (.slice a8 z6.length c8), OwnA (rowT y24) (.slice a9 z7.length c9), Box p1 [.slice a_x4_0 x4_0.length c_x4_0, .slice a_x4_1 x4_1.length c_x4_1, .int .i64 x4_2], Box p2 [.int .i64 0, .slice none 0 0, .slice none 0 0, .slice none 0 0, .int .i64 0], Own 131 (rowT z9) (.slice a10 z9.length c10), Box p5 [.int .i64 e1.a, .int .i64 e1.b, .int .i64 e1.c, .int .i64 e1.d]] := HT
  refine ⟨_, rfl, nS, fun a HF => ?_⟩
  refine wc_end (blk_n (blk_n ?_))
  have HT := HT.p6.p2.p4.p4.p6.p6.p6.t7
  exact then_n ⟨y22, y23, y24, y25, z9, z10, a7, z5.length, c7, a8, z6.length, c8, a9, z7.length, c9, a10, z9.length, c10, (Option.some.inj h).symm, (HF.keep (HF.keep (HF.keep (HF.keep (HF.keep (HF.keep (HF.keep (HF.keep (HF.keep HF.nil rfl) rfl) rfl) rfl) rfl) rfl) rfl) rfl) rfl), HT⟩
  rintro a w ⟨z11, z12, z13, z14, z15, z16, a11, n11, c11, a12, n12, c12, a13, n13, c13, a14, n14, c14, rfl, HF, HT⟩
  have h := brkM6 h
  obtain rfl := (HT.rdAAt 0 rfl).neq
  obtain rfl := (HT.rdAAt 3 rfl).neq
  obtain rfl := (HT.rdAAt 4 rfl).neq
  obtain rfl := (HT.rdAt 6 rfl).neq
  refine ?_
  refine wc_text (wm HF rfl rfl rfl fun a HF => ?_)
  obtain ⟨hg9, h⟩ := grd h
  refine wc_bin HF nS rfl rfl (b_add hg9) rfl rfl fun a HF => ?_
  refine wa HF rfl rfl rfl fun a HF => ?_
  exact wc_end (then_n ⟨k1, Nat.lt_succ_self k1, z11, z12, z13, z14, z15, z16 + 1, a11, z11.length, c11, a12, z12.length, c12, a13, z13.length, c13, a14, z15.length, c14, h, (HF.keep (HF.keep (HF.keep (HF.keep (HF.keep (HF.keep (HF.keep (HF.keep (HF.keep HF.nil rfl) rfl) rfl) rfl) rfl) rfl) rfl) rfl) rfl), HT⟩)
  have h := ifn hb1 h
  refine wp_if (b' := false) HF rfl (decide_eq_false hb1) ?_
  refine wp_exit ?_
  refine then_x (then_x (?_))
  refine blk_x ?_
  have HT := HT.p5.p5.p5.p5.p4.t5
  exact then_n ⟨z5, z6, z7, z8, a7, z5.length, c7, a8, z6.length, c8, a9, z7.length, c9, (Option.some.inj h).symm, (HF.keep (HF.keep (HF.keep HF.nil rfl) rfl) rfl), HT⟩
  rintro a w ⟨z1, z2, z3, z4, a4, n4, c4, a5, n5, c5, a6, n6, c6, rfl, HF, HT⟩
  have h := brkL4 h
  obtain rfl := (HT.rdAAt 0 rfl).neq
  obtain rfl := (HT.rdAAt 2 rfl).neq
  obtain rfl := (HT.rdAAt 3 rfl).neq
  refine ?_
  refine wp_seq (wc_text (wm HF rfl rfl rfl fun a HF => ?_))
  refine wc_loadA (vs := [.slice a5 z2.length c5, .slice a6 z3.length c6, .int .i64 z4]) HF rfl ag27 rfl ((HT.boxAt 4 rfl).part 0 3) rfl rfl fun a HF => ?_
  refine wc_build (cs := #[.int .i64 1, .slice a4 z1.length c4, .slice a5 z2.length c5, .slice a6 z3.length c6, .int .i64 z4]) HF nS bd49 rfl rfl rfl rfl fun a HF => ?_
  have HT := HT.p1
  refine wc_storeB (cs' := [.int .i64 1, .slice a4 z1.length c4, .slice a5 z2.length c5, .slice a6 z3.length c6, .int .i64 z4]) HF HT rfl rfl (fun w => (ag49 w).2) rfl rfl rfl rfl rfl (fun w HT => ⟨nS, ?_⟩)
  refine wc_end (then_n (wp_ret ?_))
  have hj25 := Option.some.inj h
  obtain ⟨rfl, hj26⟩ := Prod.mk.inj hj25
  obtain ⟨rfl, hj27⟩ := Prod.mk.inj hj26
  obtain ⟨rfl, hj28⟩ := Prod.mk.inj hj27
  obtain ⟨rfl, hj29⟩ := Prod.mk.inj hj28
  subst hj29
  refine bp_ret HF (res_cell (vs := [.int .i64 1, .slice a4 z1.length c4, .slice a5 z2.length c5, .slice a6 z3.length c6, .int .i64 z4]) rfl HF rfl ag49 rfl (HT.boxAt 0 rfl)) ?_
  have HT := HT.p3.p3.p3.t3
  exact ⟨a4, z1.length, c4, a5, z2.length, c5, a6, z3.length, c6, rfl, HT⟩

theorem w_impl_serial_R (fuel : Nat) : ∀ (k : Nat) {x0 : List I4} {x1 : List KidD} {x2 : List Int} {x3 : List Int} {x4_0 : List Int} {x4_1 : List Int} {x4_2 : Int} {a_x0 : Option Addr} {n_x0 c_x0 : Nat} {a_x1 : Option Addr} {n_x1 c_x1 : Nat} {a_x2 : Option Addr} {n_x2 c_x2 : Nat} {a_x3 : Option Addr} {n_x3 c_x3 : Nat} {a_x4_0 : Option Addr} {n_x4_0 c_x4_0 : Nat} {a_x4_1 : Option Addr} {n_x4_1 c_x4_1 : Nat} {r0_0 : Int} {r0_1 : List Int} {r0_2 : List Int} {r0_3 : List Int} {r0_4 : Int} {w0 : World} (h : m_impl_serial_R fuel k x0 x1 x2 x3 x4_0 x4_1 x4_2 = some (r0_0, r0_1, r0_2, r0_3, r0_4)) (hr_x0 : RdT (fun b => ¬ False) w0 (rowT x0) (.slice a_x0 n_x0 c_x0)) (hr_x1 : RdT (fun b => ¬ False) w0 (rowT x1) (.slice a_x1 n_x1 c_x1)) (hr_x2 : RdT (fun b => ¬ False) w0 (rowT x2) (.slice a_x2 n_x2 c_x2)) (hr_x3 : RdT (fun b => ¬ False) w0 (rowT x3) (.slice a_x3 n_x3 c_x3)) (hr_x4_0 : RdT (fun b => ¬ False) w0 (rowT x4_0) (.slice a_x4_0 n_x4_0 c_x4_0)) (hr_x4_1 : RdT (fun b => ¬ False) w0 (rowT x4_1) (.slice a_x4_1 n_x4_1 c_x4_1)), Calls Try.prog 69 #[.slice a_x0 n_x0 c_x0, .slice a_x1 n_x1 c_x1, .slice a_x2 n_x2 c_x2, .slice a_x3 n_x3 c_x3, .agg #[.slice a_x4_0 n_x4_0 c_x4_0, .slice a_x4_1 n_x4_1 c_x4_1, .int .i64 x4_2]] w0 fun e w => ∃ a_r0_1 n_r0_1 c_r0_1, ∃ a_r0_2 n_r0_2 c_r0_2, ∃ a_r0_3 n_r0_3 c_r0_3, e = .returned (.agg #[.int .i64 r0_0, .slice a_r0_1 n_r0_1 c_r0_1, .slice a_r0_2 n_r0_2 c_r0_2, .slice a_r0_3 n_r0_3 c_r0_3, .int .i64 r0_4]) ∧ St w0 (fun _ => False) w [OwnA (rowT r0_1) (.slice a_r0_1 n_r0_1 c_r0_1), OwnA (rowT r0_2) (.slice a_r0_2 n_r0_2 c_r0_2), OwnA (rowT r0_3) (.slice a_r0_3 n_r0_3 c_r0_3)] := by
  intro k
  induction k with
  | zero => intro x0 x1 x2 x3 x4_0 x4_1 x4_2 a_x0 n_x0 c_x0 a_x1 n_x1 c_x1 a_x2 n_x2 c_x2 a_x3 n_x3 c_x3 a_x4_0 n_x4_0 c_x4_0 a_x4_1 n_x4_1 c_x4_1 r0_0 r0_1 r0_2 r0_3 r0_4 w0 h hr_x0 hr_x1 hr_x2 hr_x3 hr_x4_0 hr_x4_1; simp [m_impl_serial_R] at h
  | succ k ih => intro x0 x1 x2 x3 x4_0 x4_1 x4_2 a_x0 n_x0 c_x0 a_x1 n_x1 c_x1 a_x2 n_x2 c_x2 a_x3 n_x3 c_x3 a_x4_0 n_x4_0 c_x4_0 a_x4_1 n_x4_1 c_x4_1 r0_0 r0_1 r0_2 r0_3 r0_4 w0 h hr_x0 hr_x1 hr_x2 hr_x3 hr_x4_0 hr_x4_1; exact w_impl_serial_S (m_impl_serial_R fuel k) (fun h hr_x0 hr_x1 hr_x2 hr_x3 hr_x4_0 hr_x4_1 => ih h hr_x0 hr_x1 hr_x2 hr_x3 hr_x4_0 hr_x4_1) fuel h hr_x0 hr_x1 hr_x2 hr_x3 hr_x4_0 hr_x4_1
theorem w_impl_serial (fuel : Nat) {x0 : List I4} {x1 : List KidD} {x2 : List Int} {x3 : List Int} {x4_0 : List Int} {x4_1 : List Int} {x4_2 : Int} {a_x0 : Option Addr} {n_x0 c_x0 : Nat} {a_x1 : Option Addr} {n_x1 c_x1 : Nat} {a_x2 : Option Addr} {n_x2 c_x2 : Nat} {a_x3 : Option Addr} {n_x3 c_x3 : Nat} {a_x4_0 : Option Addr} {n_x4_0 c_x4_0 : Nat} {a_x4_1 : Option Addr} {n_x4_1 c_x4_1 : Nat} {r0_0 : Int} {r0_1 : List Int} {r0_2 : List Int} {r0_3 : List Int} {r0_4 : Int} {w0 : World} (h : m_impl_serial fuel x0 x1 x2 x3 x4_0 x4_1 x4_2 = some (r0_0, r0_1, r0_2, r0_3, r0_4)) (hr_x0 : RdT (fun b => ¬ False) w0 (rowT x0) (.slice a_x0 n_x0 c_x0)) (hr_x1 : RdT (fun b => ¬ False) w0 (rowT x1) (.slice a_x1 n_x1 c_x1)) (hr_x2 : RdT (fun b => ¬ False) w0 (rowT x2) (.slice a_x2 n_x2 c_x2)) (hr_x3 : RdT (fun b => ¬ False) w0 (rowT x3) (.slice a_x3 n_x3 c_x3)) (hr_x4_0 : RdT (fun b => ¬ False) w0 (rowT x4_0) (.slice a_x4_0 n_x4_0 c_x4_0)) (hr_x4_1 : RdT (fun b => ¬ False) w0 (rowT x4_1) (.slice a_x4_1 n_x4_1 c_x4_1)) :
    Calls Try.prog 69 #[.slice a_x0 n_x0 c_x0, .slice a_x1 n_x1 c_x1, .slice a_x2 n_x2 c_x2, .slice a_x3 n_x3 c_x3, .agg #[.slice a_x4_0 n_x4_0 c_x4_0, .slice a_x4_1 n_x4_1 c_x4_1, .int .i64 x4_2]] w0 fun e w => ∃ a_r0_1 n_r0_1 c_r0_1, ∃ a_r0_2 n_r0_2 c_r0_2, ∃ a_r0_3 n_r0_3 c_r0_3, e = .returned (.agg #[.int .i64 r0_0, .slice a_r0_1 n_r0_1 c_r0_1, .slice a_r0_2 n_r0_2 c_r0_2, .slice a_r0_3 n_r0_3 c_r0_3, .int .i64 r0_4]) ∧ St w0 (fun _ => False) w [OwnA (rowT r0_1) (.slice a_r0_1 n_r0_1 c_r0_1), OwnA (rowT r0_2) (.slice a_r0_2 n_r0_2 c_r0_2), OwnA (rowT r0_3) (.slice a_r0_3 n_r0_3 c_r0_3)] := w_impl_serial_R fuel fuel h hr_x0 hr_x1 hr_x2 hr_x3 hr_x4_0 hr_x4_1
end Go.Proofs.Ytknghnmcckjjbaa
