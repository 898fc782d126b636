/- Walks of functions, by program: impl.EndOf, spec.EndOf, laws.FnExactEndOf, impl.isBalanced, impl.CodeOk, spec.l5Skip, spec.CodeOk, laws.FnExactCodeOk, impl.areValues, impl.copyInts, impl.Calc, laws.eqIntS, laws.heldIntS, laws.markIntS, laws.toIntS, spec.l4Regs, spec.Calc, laws.FnExactCalc, impl.KidOk, spec.HasFork. -/
import Derived.Test.YtinlleepikjopaaTy
import Derived.Test.YtinlleepikjopaaG1
namespace Go.Proofs.Ytinlleepikjopaa
open Go Go.RowKit
set_option linter.unusedVariables false
set_option linter.unusedSimpArgs false
def m_impl_EndOf_L0 (fuel : Nat) (x0 : List I4) : Nat → Int → Int → Option (Lp Unit Int)
  | 0, _, _ => none
  | k1 + 1, z1, z2 =>
    if z2 < (x0.length : Int) then
      (at? x0 z2).bind fun e2 =>
      (m_impl_opens fuel e2.a e2.b e2.c e2.d).bind fun y2 =>
      if in64 (z1 + y2) then
        if (z1 + y2) = 0 then
          some (.ret z2)
        else
          if in64 (z2 + 1) then
            m_impl_EndOf_L0 fuel x0 k1 (z1 + y2) (z2 + 1)
          else none
      else none
    else
      some (.brk ())

def m_impl_EndOf (fuel : Nat) (x0 : List I4) (x1 : Int) : Option Int :=
  if in64 ((x0.length : Int) - 1) then
    (m_impl_within fuel x1 0 ((x0.length : Int) - 1)).bind fun y1 =>
    if y1 = true then
      (at? x0 x1).bind fun e1 =>
      if e1.a = 8 then
        (m_impl_EndOf_L0 fuel x0 fuel 0 x1).bind <| contL <| un1 fun _ =>
        some (-1)
      else
        some (-1)
    else
      some (-1)
  else none

set_option maxRecDepth 100000 in
set_option maxHeartbeats 4000000 in
theorem w_impl_EndOf (fuel : Nat) {x0 : List I4} {x1 : Int} {a_x0 : Option Addr} {n_x0 c_x0 : Nat} {r0 : Int} {w0 : World} (h : m_impl_EndOf fuel x0 x1 = some r0) (hr_x0 : RdT (fun b => ¬ False) w0 (rowT x0) (.slice a_x0 n_x0 c_x0)) :
    Calls Try.prog 37 #[.slice a_x0 n_x0 c_x0, .int .i64 x1] w0 fun e w => e = .returned (.int .i64 r0) ∧ St w0 (fun _ => False) w [] := by
  obtain rfl := hr_x0.neq
  have HT : St w0 (fun _ => False) w0 [] := St.init0
  rw [m_impl_EndOf] at h
  refine calls_fr (n := 38) [.slice a_x0 x0.length c_x0, .int .i64 x1] Try.func37 rfl rfl rfl (fun a HF => ?_)
  have HT : St w0 (fun _ => False) w0 [] := HT
  refine wp_seq ?_
  refine wc_text ?_
  refine wc_assign HF nS rfl rfl rfl (fun a HF => ?_)
  refine wc_end ?_
  refine then_n ?_
  refine wp_seq ?_
  refine wp_seq ?_
  refine wc_text ?_
  refine wc_move HF nS rfl rfl rfl (fun a HF => ?_)
  refine wc_move HF nS rfl rfl rfl (fun a HF => ?_)
  refine wc_lenR HF nS Try.underlying43 rfl rfl rfl (fun a HF => ?_)
  obtain ⟨hg1, h⟩ := grd h
  refine wc_bin HF nS rfl rfl (b_sub hg1) rfl rfl (fun a HF => ?_)
  obtain ⟨y1, hx1, h⟩ := obs h
  refine wc_call HF cf57 rfl (w_impl_within fuel hx1) rfl rfl ?_
  rintro e w ⟨rfl, hE⟩
  have hb := hE.below
  have HT := HT.pure hE
  have HT : St w0 (fun _ => False) w [] := HT
  refine ⟨_, rfl, nS, fun a HF => ?_⟩
  refine wc_not HF nS rfl rfl rfl (fun a HF => ?_)
  refine wc_move HF nS rfl rfl rfl (fun a HF => ?_)
  by_cases hb1 : y1 = true
  · have h := (if_pos hb1).symm.trans h
    refine wc_move HF nS rfl (HF.wy rfl rfl rfl rfl (notT hb1)) rfl (fun a HF => ?_)
    refine wc_move HF nS rfl (HF.wy rfl rfl rfl rfl (notT hb1)) rfl (fun a HF => ?_)
    obtain ⟨e1, hx2, h⟩ := obs h
    obtain ⟨b1, o1, ha1⟩ := (HT.ro hr_x0).any.addr hx2
    refine wc_ixaddr HF nS el43 rfl ha1 ((HT.ro hr_x0).any).neq rfl hx2 (HF.wy rfl rfl rfl rfl (notT hb1)) rfl (fun a HF => ?_)
    refine wc_faddr HF nS rfl fl25_0 (HF.wy rfl rfl rfl rfl (notT hb1)) rfl (fun a HF => ?_)
    have hc1 := (HT.ro hr_x0).any.flatAt ha1 hx2
    refine wc_load HF rfl sc3 (hc1.get 0 rfl) (HF.wy rfl rfl rfl rfl (notT hb1)) rfl (fun a HF => ?_)
    refine wc_bin HF nS rfl rfl b_ne (HF.wy rfl rfl rfl rfl (notT hb1)) rfl (fun a HF => ?_)
    refine wc_pick (b := false) HF nS rfl (notT hb1) rfl rfl rfl (fun a HF => ?_)
    refine wc_end ?_
    refine then_n ?_
    by_cases hb2 : e1.a = 8
    · have h := (if_pos hb2).symm.trans h
      refine wp_if (b' := false) HF rfl (notT (decide_eq_true hb2)) ?_
      refine wp_skip ?_
      refine then_n ?_
      refine wp_seq ?_
      refine wc_text ?_
      refine wc_assign HF nS rfl rfl rfl (fun a HF => ?_)
      refine wc_end ?_
      refine then_n ?_
      obtain ⟨q1, hx3, h⟩ := obs h
      refine wp_cut (fun a w => q1 = .brk () ∧ Fr a 38 [] ∧ St w0 (fun _ => False) w []) ?_ ?_
      · have hk1 := h
        have h := hx3
        refine wp_seq ?_
        refine wc_text ?_
        refine wc_move HF nS rfl rfl rfl (fun a HF => ?_)
        refine wc_assign HF nS rfl rfl rfl (fun a HF => ?_)
        refine wc_end ?_
        refine then_n ?_
        refine wp_block ?_
        refine wp_loopN (fun k1 a w => ∃ z1 z2, m_impl_EndOf_L0 fuel x0 k1 z1 z2 = some q1 ∧ Fr a 38 [(0, .slice a_x0 x0.length c_x0), (5, .int .i64 z1), (6, .int .i64 z2)] ∧ St w0 (fun _ => False) w []) fuel ⟨0, x1, h, (HF.keep (HF.keep (HF.keep HF.nil rfl) rfl) rfl), HT⟩ ?_
        rintro k1 a w ⟨z1, z2, h, HF, HT⟩
        cases k1 with
        | zero => cases h
        | succ k1 =>
          rw [m_impl_EndOf_L0] at h
          refine ?_
          refine wp_seq ?_
          refine wp_seq ?_
          refine wc_text ?_
          refine wc_move HF nS rfl rfl rfl (fun a HF => ?_)
          refine wc_move HF nS rfl rfl rfl (fun a HF => ?_)
          refine wc_lenR HF nS Try.underlying43 rfl rfl rfl (fun a HF => ?_)
          refine wc_bin HF nS rfl rfl b_lt rfl rfl (fun a HF => ?_)
          refine wc_end ?_
          refine then_n ?_
          by_cases hb3 : z2 < (x0.length : Int)
          · have h := (if_pos hb3).symm.trans h
            refine wp_if (b' := true) HF rfl (decide_eq_true hb3) ?_
            refine wp_skip ?_
            refine then_n ?_
            refine wp_seq ?_
            refine wp_block ?_
            refine wp_seq ?_
            refine wc_text ?_
            refine wc_move HF nS rfl rfl rfl (fun a HF => ?_)
            refine wc_move HF nS rfl rfl rfl (fun a HF => ?_)
            refine wc_move HF nS rfl rfl rfl (fun a HF => ?_)
            obtain ⟨e2, hx4, h⟩ := obs h
            refine wc_ixaddr HF nS el43 rfl ha1 ((HT.ro hr_x0).any).neq rfl hx4 rfl rfl (fun a HF => ?_)
            have hc2 := (HT.ro hr_x0).any.flatAt ha1 hx4
            refine wc_loadA (vs := [.int .i64 e2.a, .int .i64 e2.b, .int .i64 e2.c, .int .i64 e2.d]) HF rfl ag25 rfl (hc2.part 0 4) rfl rfl (fun a HF => ?_)
            obtain ⟨y2, hx5, h⟩ := obs h
            refine wc_call HF cf71 rfl (w_impl_opens fuel hx5) rfl rfl ?_
            rintro e w ⟨rfl, hE⟩
            have hb := hE.below
            have HT := HT.pure hE
            have HT : St w0 (fun _ => False) w [] := HT
            refine ⟨_, rfl, nS, fun a HF => ?_⟩
            obtain ⟨hg2, h⟩ := grd h
            refine wc_bin HF nS rfl rfl (b_add hg2) rfl rfl (fun a HF => ?_)
            refine wc_assign HF nS rfl rfl rfl (fun a HF => ?_)
            refine wc_end ?_
            refine then_n ?_
            refine wp_seq ?_
            refine wc_text ?_
            refine wc_move HF nS rfl rfl rfl (fun a HF => ?_)
            refine wc_bin HF nS rfl rfl b_eq rfl rfl (fun a HF => ?_)
            refine wc_end ?_
            refine then_n ?_
            by_cases hb4 : (z1 + y2) = 0
            · have h := (if_pos hb4).symm.trans h
              refine wp_if (b' := true) HF rfl (decide_eq_true hb4) ?_
              refine wp_seq ?_
              refine wc_text ?_
              refine wc_move HF nS rfl rfl rfl (fun a HF => ?_)
              refine wc_assign HF nS rfl rfl rfl (fun a HF => ?_)
              refine wc_end ?_
              refine then_n ?_
              refine wp_ret ?_
              obtain rfl := Option.some.inj h
              have h := retL hk1
              obtain rfl := Option.some.inj h
              refine blk_r (then_r (then_r (blk_r (then_r (?_)))))
              refine bp_ret HF (res_one rfl HF rfl) ?_
              exact ⟨rfl, HT⟩
            · have h := (if_neg hb4).symm.trans h
              refine wp_if (b' := false) HF rfl (decide_eq_false hb4) ?_
              refine wp_skip ?_
              refine blk_n ?_
              refine then_n ?_
              refine wc_text ?_
              refine wc_move HF nS rfl rfl rfl (fun a HF => ?_)
              obtain ⟨hg3, h⟩ := grd h
              refine wc_bin HF nS rfl rfl (b_add hg3) rfl rfl (fun a HF => ?_)
              refine wc_assign HF nS rfl rfl rfl (fun a HF => ?_)
              refine wc_end ?_
              exact then_n ⟨k1, Nat.lt_succ_self k1, z1 + y2, z2 + 1, h, (HF.keep (HF.keep (HF.keep HF.nil rfl) rfl) rfl), HT⟩
          · have h := (if_neg hb3).symm.trans h
            refine wp_if (b' := false) HF rfl (decide_eq_false hb3) ?_
            refine wp_exit ?_
            refine then_x (then_x (?_))
            refine blk_x ?_
            exact then_n ⟨(Option.some.inj h).symm, HF.nil, HT⟩
      · rintro a w ⟨rfl, HF, HT⟩
        have h := brkL1 h
        refine ?_
        refine wp_seq ?_
        refine wc_text ?_
        refine wc_assign HF nS rfl rfl rfl (fun a HF => ?_)
        refine wc_end ?_
        refine then_n ?_
        refine wp_ret ?_
        obtain rfl := Option.some.inj h
        refine bp_ret HF (res_one rfl HF rfl) ?_
        exact ⟨rfl, HT⟩
    · have h := (if_neg hb2).symm.trans h
      refine wp_if (b' := true) HF rfl (notF (decide_eq_false hb2)) ?_
      refine wp_seq ?_
      refine wc_text ?_
      refine wc_assign HF nS rfl rfl rfl (fun a HF => ?_)
      refine wc_end ?_
      refine then_n ?_
      refine wp_ret ?_
      obtain rfl := Option.some.inj h
      refine then_r (?_)
      refine bp_ret HF (res_one rfl HF rfl) ?_
      exact ⟨rfl, HT⟩
  · have h := (if_neg hb1).symm.trans h
    refine wc_skip HF nS (HF.wn rfl rfl rfl rfl (notF (Bool.eq_false_iff.2 hb1))) rfl (fun a HF => ?_)
    refine wc_skip HF nS (HF.wn rfl rfl rfl rfl (notF (Bool.eq_false_iff.2 hb1))) rfl (fun a HF => ?_)
    refine wc_skip HF nS (HF.wn rfl rfl rfl rfl (notF (Bool.eq_false_iff.2 hb1))) rfl (fun a HF => ?_)
    refine wc_skip HF nS (HF.wn rfl rfl rfl rfl (notF (Bool.eq_false_iff.2 hb1))) rfl (fun a HF => ?_)
    refine wc_skip HF nS (HF.wn rfl rfl rfl rfl (notF (Bool.eq_false_iff.2 hb1))) rfl (fun a HF => ?_)
    refine wc_skip HF nS (HF.wn rfl rfl rfl rfl (notF (Bool.eq_false_iff.2 hb1))) rfl (fun a HF => ?_)
    refine wc_pick (b := true) HF nS rfl (notF (Bool.eq_false_iff.2 hb1)) rfl rfl rfl (fun a HF => ?_)
    refine wc_end ?_
    refine then_n ?_
    refine wp_if (b' := true) HF rfl rfl ?_
    refine wp_seq ?_
    refine wc_text ?_
    refine wc_assign HF nS rfl rfl rfl (fun a HF => ?_)
    refine wc_end ?_
    refine then_n ?_
    refine wp_ret ?_
    obtain rfl := Option.some.inj h
    refine then_r (?_)
    refine bp_ret HF (res_one rfl HF rfl) ?_
    exact ⟨rfl, HT⟩

def m_spec_EndOf_L0 (fuel : Nat) (x0 : List I4) : Nat → Int → Int → Option (Lp Unit Int)
  | 0, _, _ => none
  | k1 + 1, z1, z2 =>
    if z2 < (x0.length : Int) then
      (
        (
          (at? x0 z2).bind fun e2 =>
          if e2.a = 8 then
            if in64 (z1 + 1) then
              some (z1 + 1)
            else none
          else
            some z1).bind fun z4 =>
        (
          (at? x0 z2).bind fun e3 =>
          if e3.a = 9 then
            if in64 (z4 - 1) then
              some (z4 - 1)
            else none
          else
            some z4).bind fun z5 =>
        if z5 = 0 then
          some (.ret z2)
        else
          some (.brk z5)).bind <| contM <| un1 fun z3 =>
      if in64 (z2 + 1) then
        m_spec_EndOf_L0 fuel x0 k1 z3 (z2 + 1)
      else none
    else
      some (.brk ())

def m_spec_EndOf (fuel : Nat) (x0 : List I4) (x1 : Int) : Option Int :=
  if x1 < 0 then
    some (-1)
  else
    if (x0.length : Int) ≤ x1 then
      some (-1)
    else
      (at? x0 x1).bind fun e1 =>
      if e1.a = 8 then
        (m_spec_EndOf_L0 fuel x0 fuel 0 x1).bind <| contL <| un1 fun _ =>
        some (-1)
      else
        some (-1)

set_option maxRecDepth 100000 in
set_option maxHeartbeats 4000000 in
theorem w_spec_EndOf (fuel : Nat) {x0 : List I4} {x1 : Int} {a_x0 : Option Addr} {n_x0 c_x0 : Nat} {r0 : Int} {w0 : World} (h : m_spec_EndOf fuel x0 x1 = some r0) (hr_x0 : RdT (fun b => ¬ False) w0 (rowT x0) (.slice a_x0 n_x0 c_x0)) :
    Calls Try.prog 36 #[.slice a_x0 n_x0 c_x0, .int .i64 x1] w0 fun e w => e = .returned (.int .i64 r0) ∧ St w0 (fun _ => False) w [] := by
  obtain rfl := hr_x0.neq
  have HT : St w0 (fun _ => False) w0 [] := St.init0
  rw [m_spec_EndOf] at h
  refine calls_fr (n := 49) [.slice a_x0 x0.length c_x0, .int .i64 x1] Try.func36 rfl rfl rfl (fun a HF => ?_)
  have HT : St w0 (fun _ => False) w0 [] := HT
  refine wp_seq ?_
  refine wc_text ?_
  refine wc_assign HF nS rfl rfl rfl (fun a HF => ?_)
  refine wc_end ?_
  refine then_n ?_
  refine wp_seq ?_
  refine wp_seq ?_
  refine wc_text ?_
  refine wc_move HF nS rfl rfl rfl (fun a HF => ?_)
  refine wc_bin HF nS rfl rfl b_lt rfl rfl (fun a HF => ?_)
  refine wc_move HF nS rfl rfl rfl (fun a HF => ?_)
  by_cases hb1 : x1 < 0
  · have h := (if_pos hb1).symm.trans h
    refine wc_skip HF nS (HF.wn rfl rfl rfl rfl (decide_eq_true hb1)) rfl (fun a HF => ?_)
    refine wc_skip HF nS (HF.wn rfl rfl rfl rfl (decide_eq_true hb1)) rfl (fun a HF => ?_)
    refine wc_skip HF nS (HF.wn rfl rfl rfl rfl (decide_eq_true hb1)) rfl (fun a HF => ?_)
    refine wc_skip HF nS (HF.wn rfl rfl rfl rfl (decide_eq_true hb1)) rfl (fun a HF => ?_)
    refine wc_pick (b := true) HF nS rfl (decide_eq_true hb1) rfl rfl rfl (fun a HF => ?_)
    refine wc_move HF nS rfl rfl rfl (fun a HF => ?_)
    refine wc_skip HF nS (HF.wn rfl rfl rfl rfl rfl) rfl (fun a HF => ?_)
    refine wc_skip HF nS (HF.wn rfl rfl rfl rfl rfl) rfl (fun a HF => ?_)
    refine wc_skip HF nS (HF.wn rfl rfl rfl rfl rfl) rfl (fun a HF => ?_)
    refine wc_skip HF nS (HF.wn rfl rfl rfl rfl rfl) rfl (fun a HF => ?_)
    refine wc_skip HF nS (HF.wn rfl rfl rfl rfl rfl) rfl (fun a HF => ?_)
    refine wc_skip HF nS (HF.wn rfl rfl rfl rfl rfl) rfl (fun a HF => ?_)
    refine wc_pick (b := true) HF nS rfl rfl rfl rfl rfl (fun a HF => ?_)
    refine wc_end ?_
    refine then_n ?_
    refine wp_if (b' := true) HF rfl rfl ?_
    refine wp_seq ?_
    refine wc_text ?_
    refine wc_assign HF nS rfl rfl rfl (fun a HF => ?_)
    refine wc_end ?_
    refine then_n ?_
    refine wp_ret ?_
    obtain rfl := Option.some.inj h
    refine then_r (?_)
    refine bp_ret HF (res_one rfl HF rfl) ?_
    exact ⟨rfl, HT⟩
  · have h := (if_neg hb1).symm.trans h
    refine wc_move HF nS rfl (HF.wy rfl rfl rfl rfl (decide_eq_false hb1)) rfl (fun a HF => ?_)
    refine wc_move HF nS rfl (HF.wy rfl rfl rfl rfl (decide_eq_false hb1)) rfl (fun a HF => ?_)
    refine wc_lenR HF nS Try.underlying43 rfl (HF.wy rfl rfl rfl rfl (decide_eq_false hb1)) rfl (fun a HF => ?_)
    refine wc_bin HF nS rfl rfl b_ge (HF.wy rfl rfl rfl rfl (decide_eq_false hb1)) rfl (fun a HF => ?_)
    refine wc_pick (b := false) HF nS rfl (decide_eq_false hb1) rfl rfl rfl (fun a HF => ?_)
    refine wc_move HF nS rfl rfl rfl (fun a HF => ?_)
    by_cases hb2 : (x0.length : Int) ≤ x1
    · have h := (if_pos hb2).symm.trans h
      refine wc_skip HF nS (HF.wn rfl rfl rfl rfl (decide_eq_true hb2)) rfl (fun a HF => ?_)
      refine wc_skip HF nS (HF.wn rfl rfl rfl rfl (decide_eq_true hb2)) rfl (fun a HF => ?_)
      refine wc_skip HF nS (HF.wn rfl rfl rfl rfl (decide_eq_true hb2)) rfl (fun a HF => ?_)
      refine wc_skip HF nS (HF.wn rfl rfl rfl rfl (decide_eq_true hb2)) rfl (fun a HF => ?_)
      refine wc_skip HF nS (HF.wn rfl rfl rfl rfl (decide_eq_true hb2)) rfl (fun a HF => ?_)
      refine wc_skip HF nS (HF.wn rfl rfl rfl rfl (decide_eq_true hb2)) rfl (fun a HF => ?_)
      refine wc_pick (b := true) HF nS rfl (decide_eq_true hb2) rfl rfl rfl (fun a HF => ?_)
      refine wc_end ?_
      refine then_n ?_
      refine wp_if (b' := true) HF rfl rfl ?_
      refine wp_seq ?_
      refine wc_text ?_
      refine wc_assign HF nS rfl rfl rfl (fun a HF => ?_)
      refine wc_end ?_
      refine then_n ?_
      refine wp_ret ?_
      obtain rfl := Option.some.inj h
      refine then_r (?_)
      refine bp_ret HF (res_one rfl HF rfl) ?_
      exact ⟨rfl, HT⟩
    · have h := (if_neg hb2).symm.trans h
      refine wc_move HF nS rfl (HF.wy rfl rfl rfl rfl (decide_eq_false hb2)) rfl (fun a HF => ?_)
      refine wc_move HF nS rfl (HF.wy rfl rfl rfl rfl (decide_eq_false hb2)) rfl (fun a HF => ?_)
      obtain ⟨e1, hx1, h⟩ := obs h
      obtain ⟨b1, o1, ha1⟩ := (HT.ro hr_x0).any.addr hx1
      refine wc_ixaddr HF nS el43 rfl ha1 ((HT.ro hr_x0).any).neq rfl hx1 (HF.wy rfl rfl rfl rfl (decide_eq_false hb2)) rfl (fun a HF => ?_)
      refine wc_faddr HF nS rfl fl25_0 (HF.wy rfl rfl rfl rfl (decide_eq_false hb2)) rfl (fun a HF => ?_)
      have hc1 := (HT.ro hr_x0).any.flatAt ha1 hx1
      refine wc_load HF rfl sc3 (hc1.get 0 rfl) (HF.wy rfl rfl rfl rfl (decide_eq_false hb2)) rfl (fun a HF => ?_)
      refine wc_bin HF nS rfl rfl b_ne (HF.wy rfl rfl rfl rfl (decide_eq_false hb2)) rfl (fun a HF => ?_)
      refine wc_pick (b := false) HF nS rfl (decide_eq_false hb2) rfl rfl rfl (fun a HF => ?_)
      refine wc_end ?_
      refine then_n ?_
      by_cases hb3 : e1.a = 8
      · have h := (if_pos hb3).symm.trans h
        refine wp_if (b' := false) HF rfl (notT (decide_eq_true hb3)) ?_
        refine wp_skip ?_
        refine then_n ?_
        refine wp_seq ?_
        refine wc_text ?_
        refine wc_assign HF nS rfl rfl rfl (fun a HF => ?_)
        refine wc_end ?_
        refine then_n ?_
        obtain ⟨q1, hx2, h⟩ := obs h
        refine wp_cut (fun a w => q1 = .brk () ∧ Fr a 49 [] ∧ St w0 (fun _ => False) w []) ?_ ?_
        · have hk1 := h
          have h := hx2
          refine wp_seq ?_
          refine wc_text ?_
          refine wc_move HF nS rfl rfl rfl (fun a HF => ?_)
          refine wc_assign HF nS rfl rfl rfl (fun a HF => ?_)
          refine wc_end ?_
          refine then_n ?_
          refine wp_block ?_
          refine wp_loopN (fun k1 a w => ∃ z1 z2, m_spec_EndOf_L0 fuel x0 k1 z1 z2 = some q1 ∧ Fr a 49 [(0, .slice a_x0 x0.length c_x0), (5, .int .i64 z1), (6, .int .i64 z2)] ∧ St w0 (fun _ => False) w []) fuel ⟨0, x1, h, (HF.keep (HF.keep (HF.keep HF.nil rfl) rfl) rfl), HT⟩ ?_
          rintro k1 a w ⟨z1, z2, h, HF, HT⟩
          cases k1 with
          | zero => cases h
          | succ k1 =>
            rw [m_spec_EndOf_L0] at h
            refine ?_
            refine wp_seq ?_
            refine wp_seq ?_
            refine wc_text ?_
            refine wc_move HF nS rfl rfl rfl (fun a HF => ?_)
            refine wc_move HF nS rfl rfl rfl (fun a HF => ?_)
            refine wc_lenR HF nS Try.underlying43 rfl rfl rfl (fun a HF => ?_)
            refine wc_bin HF nS rfl rfl b_lt rfl rfl (fun a HF => ?_)
            refine wc_end ?_
            refine then_n ?_
            by_cases hb4 : z2 < (x0.length : Int)
            · have h := (if_pos hb4).symm.trans h
              refine wp_if (b' := true) HF rfl (decide_eq_true hb4) ?_
              refine wp_skip ?_
              refine then_n ?_
              obtain ⟨q2, hx3, h⟩ := obs h
              refine wp_cut (fun a w => ∃ z3, q2 = .brk z3 ∧ Fr a 49 [(0, .slice a_x0 x0.length c_x0), (5, .int .i64 z3), (6, .int .i64 z2)] ∧ St w0 (fun _ => False) w []) ?_ ?_
              · have hk2 := h
                have h := hx3
                refine wp_block ?_
                obtain ⟨z4, hx4, h⟩ := obs h
                refine wp_cut (fun a w => Fr a 49 [(0, .slice a_x0 x0.length c_x0), (5, .int .i64 z4), (6, .int .i64 z2)] ∧ St w0 (fun _ => False) w []) ?_ ?_
                · have hk3 := h
                  have h := hx4
                  refine wp_seq ?_
                  refine wc_text ?_
                  refine wc_move HF nS rfl rfl rfl (fun a HF => ?_)
                  refine wc_move HF nS rfl rfl rfl (fun a HF => ?_)
                  obtain ⟨e2, hx5, h⟩ := obs h
                  refine wc_ixaddr HF nS el43 rfl ha1 ((HT.ro hr_x0).any).neq rfl hx5 rfl rfl (fun a HF => ?_)
                  refine wc_faddr HF nS rfl fl25_0 rfl rfl (fun a HF => ?_)
                  have hc2 := (HT.ro hr_x0).any.flatAt ha1 hx5
                  refine wc_load HF rfl sc3 (hc2.get 0 rfl) rfl rfl (fun a HF => ?_)
                  refine wc_bin HF nS rfl rfl b_eq rfl rfl (fun a HF => ?_)
                  refine wc_end ?_
                  refine then_n ?_
                  by_cases hb5 : e2.a = 8
                  · have h := (if_pos hb5).symm.trans h
                    refine wp_if (b' := true) HF rfl (decide_eq_true hb5) ?_
                    refine wc_text ?_
                    refine wc_move HF nS rfl rfl rfl (fun a HF => ?_)
                    obtain ⟨hg1, h⟩ := grd h
                    refine wc_bin HF nS rfl rfl (b_add hg1) rfl rfl (fun a HF => ?_)
                    refine wc_assign HF nS rfl rfl rfl (fun a HF => ?_)
                    refine wc_end ?_
                    obtain rfl := Option.some.inj h
                    exact then_n ⟨(HF.keep (HF.keep (HF.keep HF.nil rfl) rfl) rfl), HT⟩
                  · have h := (if_neg hb5).symm.trans h
                    refine wp_if (b' := false) HF rfl (decide_eq_false hb5) ?_
                    refine wp_skip ?_
                    obtain rfl := Option.some.inj h
                    exact then_n ⟨(HF.keep (HF.keep (HF.keep HF.nil rfl) rfl) rfl), HT⟩
                · rintro a w ⟨HF, HT⟩
                  refine ?_
                  obtain ⟨z5, hx6, h⟩ := obs h
                  refine wp_cut (fun a w => Fr a 49 [(0, .slice a_x0 x0.length c_x0), (5, .int .i64 z5), (6, .int .i64 z2)] ∧ St w0 (fun _ => False) w []) ?_ ?_
                  · have hk3 := h
                    have h := hx6
                    refine wp_seq ?_
                    refine wc_text ?_
                    refine wc_move HF nS rfl rfl rfl (fun a HF => ?_)
                    refine wc_move HF nS rfl rfl rfl (fun a HF => ?_)
                    obtain ⟨e3, hx7, h⟩ := obs h
                    refine wc_ixaddr HF nS el43 rfl ha1 ((HT.ro hr_x0).any).neq rfl hx7 rfl rfl (fun a HF => ?_)
                    refine wc_faddr HF nS rfl fl25_0 rfl rfl (fun a HF => ?_)
                    have hc3 := (HT.ro hr_x0).any.flatAt ha1 hx7
                    refine wc_load HF rfl sc3 (hc3.get 0 rfl) rfl rfl (fun a HF => ?_)
                    refine wc_bin HF nS rfl rfl b_eq rfl rfl (fun a HF => ?_)
                    refine wc_end ?_
                    refine then_n ?_
                    by_cases hb6 : e3.a = 9
                    · have h := (if_pos hb6).symm.trans h
                      refine wp_if (b' := true) HF rfl (decide_eq_true hb6) ?_
                      refine wc_text ?_
                      refine wc_move HF nS rfl rfl rfl (fun a HF => ?_)
                      obtain ⟨hg2, h⟩ := grd h
                      refine wc_bin HF nS rfl rfl (b_sub hg2) rfl rfl (fun a HF => ?_)
                      refine wc_assign HF nS rfl rfl rfl (fun a HF => ?_)
                      refine wc_end ?_
                      obtain rfl := Option.some.inj h
                      exact then_n ⟨(HF.keep (HF.keep (HF.keep HF.nil rfl) rfl) rfl), HT⟩
                    · have h := (if_neg hb6).symm.trans h
                      refine wp_if (b' := false) HF rfl (decide_eq_false hb6) ?_
                      refine wp_skip ?_
                      obtain rfl := Option.some.inj h
                      exact then_n ⟨(HF.keep (HF.keep (HF.keep HF.nil rfl) rfl) rfl), HT⟩
                  · rintro a w ⟨HF, HT⟩
                    refine ?_
                    refine wp_seq ?_
                    refine wc_text ?_
                    refine wc_move HF nS rfl rfl rfl (fun a HF => ?_)
                    refine wc_bin HF nS rfl rfl b_eq rfl rfl (fun a HF => ?_)
                    refine wc_end ?_
                    refine then_n ?_
                    by_cases hb7 : z5 = 0
                    · have h := (if_pos hb7).symm.trans h
                      refine wp_if (b' := true) HF rfl (decide_eq_true hb7) ?_
                      refine wp_seq ?_
                      refine wc_text ?_
                      refine wc_move HF nS rfl rfl rfl (fun a HF => ?_)
                      refine wc_assign HF nS rfl rfl rfl (fun a HF => ?_)
                      refine wc_end ?_
                      refine then_n ?_
                      refine wp_ret ?_
                      obtain rfl := Option.some.inj h
                      have h := retM hk2
                      obtain rfl := Option.some.inj h
                      have h := retL hk1
                      obtain rfl := Option.some.inj h
                      refine blk_r (then_r (then_r (blk_r (then_r (?_)))))
                      refine bp_ret HF (res_one rfl HF rfl) ?_
                      exact ⟨rfl, HT⟩
                    · have h := (if_neg hb7).symm.trans h
                      refine wp_if (b' := false) HF rfl (decide_eq_false hb7) ?_
                      refine wp_skip ?_
                      refine blk_n ?_
                      exact then_n ⟨z5, (Option.some.inj h).symm, (HF.keep (HF.keep (HF.keep HF.nil rfl) rfl) rfl), HT⟩
              · rintro a w ⟨z3, rfl, HF, HT⟩
                have h := brkM1 h
                refine ?_
                refine wc_text ?_
                refine wc_move HF nS rfl rfl rfl (fun a HF => ?_)
                obtain ⟨hg3, h⟩ := grd h
                refine wc_bin HF nS rfl rfl (b_add hg3) rfl rfl (fun a HF => ?_)
                refine wc_assign HF nS rfl rfl rfl (fun a HF => ?_)
                refine wc_end ?_
                exact then_n ⟨k1, Nat.lt_succ_self k1, z3, z2 + 1, h, (HF.keep (HF.keep (HF.keep HF.nil rfl) rfl) rfl), HT⟩
            · have h := (if_neg hb4).symm.trans h
              refine wp_if (b' := false) HF rfl (decide_eq_false hb4) ?_
              refine wp_exit ?_
              refine then_x (then_x (?_))
              refine blk_x ?_
              exact then_n ⟨(Option.some.inj h).symm, HF.nil, HT⟩
        · rintro a w ⟨rfl, HF, HT⟩
          have h := brkL1 h
          refine ?_
          refine wp_seq ?_
          refine wc_text ?_
          refine wc_assign HF nS rfl rfl rfl (fun a HF => ?_)
          refine wc_end ?_
          refine then_n ?_
          refine wp_ret ?_
          obtain rfl := Option.some.inj h
          refine bp_ret HF (res_one rfl HF rfl) ?_
          exact ⟨rfl, HT⟩
      · have h := (if_neg hb3).symm.trans h
        refine wp_if (b' := true) HF rfl (notF (decide_eq_false hb3)) ?_
        refine wp_seq ?_
        refine wc_text ?_
        refine wc_assign HF nS rfl rfl rfl (fun a HF => ?_)
        refine wc_end ?_
        refine then_n ?_
        refine wp_ret ?_
        obtain rfl := Option.some.inj h
        refine then_r (?_)
        refine bp_ret HF (res_one rfl HF rfl) ?_
        exact ⟨rfl, HT⟩

def m_laws_FnExactEndOf (fuel : Nat) (x0 : List I4) (x1 : Int) : Option Bool :=
  (m_laws_szOpS fuel x0 1048576).bind fun y1 =>
  if y1 < 0 then
    some true
  else
    (m_laws_toOpS fuel x0).bind fun y2 =>
    (m_spec_EndOf fuel y2 x1).bind fun y3 =>
    (m_laws_toOpS fuel x0).bind fun y4 =>
    (m_impl_EndOf fuel y4 x1).bind fun y5 =>
    if y5 = y3 then
      (m_laws_toOpS fuel x0).bind fun y6 =>
      (m_laws_eqOpS fuel y4 y6).bind fun y7 =>
      if y7 = true then
        some true
      else
        some false
    else
      some false

set_option maxRecDepth 100000 in
set_option maxHeartbeats 4000000 in
theorem w_laws_FnExactEndOf (fuel : Nat) {x0 : List I4} {x1 : Int} {a_x0 : Option Addr} {n_x0 c_x0 : Nat} {r0 : Bool} {w0 : World} (h : m_laws_FnExactEndOf fuel x0 x1 = some r0) (hr_x0 : RdT (fun b => ¬ False) w0 (rowT x0) (.slice a_x0 n_x0 c_x0)) :
    Calls Try.prog 9 #[.slice a_x0 n_x0 c_x0, .int .i64 x1] w0 fun e w => e = .returned (.bool r0) ∧ St w0 (fun _ => False) w [] := by
  obtain rfl := hr_x0.neq
  have HT : St w0 (fun _ => False) w0 [] := St.init0
  rw [m_laws_FnExactEndOf] at h
  refine calls_fr (n := 31) [.slice a_x0 x0.length c_x0, .int .i64 x1] Try.func9 rfl rfl rfl (fun a HF => ?_)
  have HT : St w0 (fun _ => False) w0 [] := HT
  refine wp_seq ?_
  refine wc_text ?_
  refine wc_assign HF nS rfl rfl rfl (fun a HF => ?_)
  refine wc_end ?_
  refine then_n ?_
  refine wp_seq ?_
  refine wc_text ?_
  refine wc_assign HF nS rfl rfl rfl (fun a HF => ?_)
  refine wc_end ?_
  refine then_n ?_
  refine wp_seq ?_
  refine wc_text ?_
  refine wc_move HF nS rfl rfl rfl (fun a HF => ?_)
  refine wc_move HF nS rfl rfl rfl (fun a HF => ?_)
  obtain ⟨y1, hx1, h⟩ := obs h
  refine wc_call HF cf29 rfl (w_laws_szOpS fuel hx1 (HT.ro hr_x0).any) rfl rfl ?_
  rintro e w ⟨rfl, hE⟩
  have hb := hE.below
  have HT := HT.pure hE
  have HT : St w0 (fun _ => False) w [] := HT
  refine ⟨_, rfl, nS, fun a HF => ?_⟩
  refine wc_assign HF nS rfl rfl rfl (fun a HF => ?_)
  refine wc_end ?_
  refine then_n ?_
  refine wp_seq ?_
  refine wp_seq ?_
  refine wc_text ?_
  refine wc_move HF nS rfl rfl rfl (fun a HF => ?_)
  refine wc_bin HF nS rfl rfl b_lt rfl rfl (fun a HF => ?_)
  refine wc_end ?_
  refine then_n ?_
  by_cases hb1 : y1 < 0
  · have h := (if_pos hb1).symm.trans h
    refine wp_if (b' := true) HF rfl (decide_eq_true hb1) ?_
    refine wp_seq ?_
    refine wc_text ?_
    refine wc_assign HF nS rfl rfl rfl (fun a HF => ?_)
    refine wc_end ?_
    refine then_n ?_
    refine wp_ret ?_
    obtain rfl := Option.some.inj h
    refine then_r (?_)
    refine bp_ret HF (res_one rfl HF rfl) ?_
    exact ⟨rfl, HT⟩
  · have h := (if_neg hb1).symm.trans h
    refine wp_if (b' := false) HF rfl (decide_eq_false hb1) ?_
    refine wp_skip ?_
    refine then_n ?_
    refine wp_seq ?_
    refine wc_text ?_
    refine wc_move HF nS rfl rfl rfl (fun a HF => ?_)
    obtain ⟨y2, hx2, h⟩ := obs h
    refine wc_call HF cf31 rfl (w_laws_toOpS fuel hx2 (HT.ro hr_x0).any) rfl rfl ?_
    rintro e w ⟨a1, n1, c1, rfl, hE⟩
    have hb := hE.below
    have HT := HT.pure hE
    obtain rfl := (HT.rdAt 0 rfl).neq
    have HT : St w0 (fun _ => False) w [Own 25 (rowT y2) (.slice a1 y2.length c1)] := HT
    refine ⟨_, rfl, nS, fun a HF => ?_⟩
    refine wc_move HF nS rfl rfl rfl (fun a HF => ?_)
    obtain ⟨y3, hx3, h⟩ := obs h
    refine wc_call HF cf36 rfl (w_spec_EndOf fuel hx3 (HT.rdAt 0 rfl)) rfl rfl ?_
    rintro e w ⟨rfl, hE⟩
    have hb := hE.below
    have HT := HT.pure hE
    have HT : St w0 (fun _ => False) w [Own 25 (rowT y2) (.slice a1 y2.length c1)] := HT
    refine ⟨_, rfl, nS, fun a HF => ?_⟩
    refine wc_assign HF nS rfl rfl rfl (fun a HF => ?_)
    refine wc_end ?_
    refine then_n ?_
    refine wp_seq ?_
    refine wc_text ?_
    refine wc_move HF nS rfl rfl rfl (fun a HF => ?_)
    obtain ⟨y4, hx4, h⟩ := obs h
    refine wc_call HF cf31 rfl (w_laws_toOpS fuel hx4 (HT.ro hr_x0).any) rfl rfl ?_
    rintro e w ⟨a2, n2, c2, rfl, hE⟩
    have hb := hE.below
    have HT := HT.pure hE
    obtain rfl := (HT.rdAt 0 rfl).neq
    have HT : St w0 (fun _ => False) w [Own 25 (rowT y4) (.slice a2 y4.length c2), Own 25 (rowT y2) (.slice a1 y2.length c1)] := HT
    refine ⟨_, rfl, nS, fun a HF => ?_⟩
    refine wc_assign HF nS rfl rfl rfl (fun a HF => ?_)
    refine wc_end ?_
    refine then_n ?_
    refine wp_seq ?_
    refine wc_text ?_
    refine wc_move HF nS rfl rfl rfl (fun a HF => ?_)
    refine wc_move HF nS rfl rfl rfl (fun a HF => ?_)
    obtain ⟨y5, hx5, h⟩ := obs h
    refine wc_call HF cf37 rfl (w_impl_EndOf fuel hx5 (HT.rdAt 0 rfl)) rfl rfl ?_
    rintro e w ⟨rfl, hE⟩
    have hb := hE.below
    have HT := HT.pure hE
    have HT : St w0 (fun _ => False) w [Own 25 (rowT y4) (.slice a2 y4.length c2), Own 25 (rowT y2) (.slice a1 y2.length c1)] := HT
    refine ⟨_, rfl, nS, fun a HF => ?_⟩
    refine wc_assign HF nS rfl rfl rfl (fun a HF => ?_)
    refine wc_end ?_
    refine then_n ?_
    refine wp_seq ?_
    refine wp_seq ?_
    refine wc_text ?_
    refine wc_move HF nS rfl rfl rfl (fun a HF => ?_)
    refine wc_move HF nS rfl rfl rfl (fun a HF => ?_)
    refine wc_bin HF nS rfl rfl b_ne rfl rfl (fun a HF => ?_)
    refine wc_end ?_
    refine then_n ?_
    by_cases hb2 : y5 = y3
    · have h := (if_pos hb2).symm.trans h
      refine wp_if (b' := false) HF rfl (notT (decide_eq_true hb2)) ?_
      refine wp_skip ?_
      refine then_n ?_
      refine wp_seq ?_
      refine wp_seq ?_
      refine wc_text ?_
      refine wc_move HF nS rfl rfl rfl (fun a HF => ?_)
      refine wc_move HF nS rfl rfl rfl (fun a HF => ?_)
      obtain ⟨y6, hx6, h⟩ := obs h
      refine wc_call HF cf31 rfl (w_laws_toOpS fuel hx6 (HT.ro hr_x0).any) rfl rfl ?_
      rintro e w ⟨a3, n3, c3, rfl, hE⟩
      have hb := hE.below
      have HT := HT.pure hE
      obtain rfl := (HT.rdAt 0 rfl).neq
      have HT : St w0 (fun _ => False) w [Own 25 (rowT y6) (.slice a3 y6.length c3), Own 25 (rowT y4) (.slice a2 y4.length c2), Own 25 (rowT y2) (.slice a1 y2.length c1)] := HT
      refine ⟨_, rfl, nS, fun a HF => ?_⟩
      obtain ⟨y7, hx7, h⟩ := obs h
      refine wc_call HF cf33 rfl (w_laws_eqOpS fuel hx7 (HT.rdAt 1 rfl) (HT.rdAt 0 rfl)) rfl rfl ?_
      rintro e w ⟨rfl, hE⟩
      have hb := hE.below
      have HT := HT.pure hE
      have HT : St w0 (fun _ => False) w [Own 25 (rowT y6) (.slice a3 y6.length c3), Own 25 (rowT y4) (.slice a2 y4.length c2), Own 25 (rowT y2) (.slice a1 y2.length c1)] := HT
      refine ⟨_, rfl, nS, fun a HF => ?_⟩
      refine wc_not HF nS rfl rfl rfl (fun a HF => ?_)
      refine wc_end ?_
      refine then_n ?_
      by_cases hb3 : y7 = true
      · have h := (if_pos hb3).symm.trans h
        refine wp_if (b' := false) HF rfl (notT hb3) ?_
        refine wp_skip ?_
        refine then_n ?_
        refine wp_seq ?_
        refine wc_text ?_
        refine wc_assign HF nS rfl rfl rfl (fun a HF => ?_)
        refine wc_end ?_
        refine then_n ?_
        refine wp_ret ?_
        obtain rfl := Option.some.inj h
        refine bp_ret HF (res_one rfl HF rfl) ?_
        have HT : St w0 (fun _ => False) w [] := HT.take 0
        exact ⟨rfl, HT⟩
      · have h := (if_neg hb3).symm.trans h
        refine wp_if (b' := true) HF rfl (notF (Bool.eq_false_iff.2 hb3)) ?_
        refine wp_seq ?_
        refine wc_text ?_
        refine wc_assign HF nS rfl rfl rfl (fun a HF => ?_)
        refine wc_end ?_
        refine then_n ?_
        refine wp_ret ?_
        obtain rfl := Option.some.inj h
        refine then_r (?_)
        refine bp_ret HF (res_one rfl HF rfl) ?_
        have HT : St w0 (fun _ => False) w [] := HT.take 0
        exact ⟨rfl, HT⟩
    · have h := (if_neg hb2).symm.trans h
      refine wp_if (b' := true) HF rfl (notF (decide_eq_false hb2)) ?_
      refine wp_seq ?_
      refine wc_text ?_
      refine wc_assign HF nS rfl rfl rfl (fun a HF => ?_)
      refine wc_end ?_
      refine then_n ?_
      refine wp_ret ?_
      obtain rfl := Option.some.inj h
      refine then_r (?_)
      refine bp_ret HF (res_one rfl HF rfl) ?_
      have HT : St w0 (fun _ => False) w [] := HT.take 0
      exact ⟨rfl, HT⟩

def m_impl_isBalanced_L0 (fuel : Nat) (x0 : List I4) : Nat → Int → Int → Option (Lp Int Bool)
  | 0, _, _ => none
  | k1 + 1, z2, z3 =>
    if z3 < (x0.length : Int) then
      (at? x0 z3).bind fun e1 =>
      (m_impl_opens fuel e1.a e1.b e1.c e1.d).bind fun y1 =>
      if in64 (z2 + y1) then
        if (z2 + y1) < 0 then
          some (.ret false)
        else
          if in64 (z3 + 1) then
            m_impl_isBalanced_L0 fuel x0 k1 (z2 + y1) (z3 + 1)
          else none
      else none
    else
      some (.brk z2)

def m_impl_isBalanced (fuel : Nat) (x0 : List I4) : Option Bool :=
  (m_impl_isBalanced_L0 fuel x0 fuel 0 0).bind <| contL <| un1 fun z1 =>
  some (decide (z1 = 0))

set_option maxRecDepth 100000 in
set_option maxHeartbeats 4000000 in
theorem w_impl_isBalanced (fuel : Nat) {x0 : List I4} {a_x0 : Option Addr} {n_x0 c_x0 : Nat} {r0 : Bool} {w0 : World} (h : m_impl_isBalanced fuel x0 = some r0) (hr_x0 : RdT (fun b => ¬ False) w0 (rowT x0) (.slice a_x0 n_x0 c_x0)) :
    Calls Try.prog 73 #[.slice a_x0 n_x0 c_x0] w0 fun e w => e = .returned (.bool r0) ∧ St w0 (fun _ => False) w [] := by
  obtain rfl := hr_x0.neq
  have HT : St w0 (fun _ => False) w0 [] := St.init0
  rw [m_impl_isBalanced] at h
  refine calls_fr (n := 21) [.slice a_x0 x0.length c_x0] Try.func73 rfl rfl rfl (fun a HF => ?_)
  have HT : St w0 (fun _ => False) w0 [] := HT
  refine wp_seq ?_
  refine wc_text ?_
  refine wc_assign HF nS rfl rfl rfl (fun a HF => ?_)
  refine wc_end ?_
  refine then_n ?_
  refine wp_seq ?_
  refine wc_text ?_
  refine wc_assign HF nS rfl rfl rfl (fun a HF => ?_)
  refine wc_end ?_
  refine then_n ?_
  obtain ⟨q1, hx1, h⟩ := obs h
  refine wp_cut (fun a w => ∃ z1, q1 = .brk z1 ∧ Fr a 21 [(3, .int .i64 z1)] ∧ St w0 (fun _ => False) w []) ?_ ?_
  · have hk1 := h
    have h := hx1
    refine wp_seq ?_
    refine wc_text ?_
    refine wc_move HF nS rfl rfl rfl (fun a HF => ?_)
    refine wc_lenR HF nS Try.underlying43 rfl rfl rfl (fun a HF => ?_)
    refine wc_move HF nS rfl rfl rfl (fun a HF => ?_)
    refine wc_end ?_
    refine then_n ?_
    refine wp_block ?_
    refine wp_loopN (fun k1 a w => ∃ z2 z3, m_impl_isBalanced_L0 fuel x0 k1 z2 z3 = some q1 ∧ Fr a 21 [(3, .int .i64 z2), (6, .slice a_x0 x0.length c_x0), (7, .int .i64 (x0.length : Int)), (8, .int .i64 z3)] ∧ St w0 (fun _ => False) w []) fuel ⟨0, 0, h, (HF.keep (HF.keep (HF.keep (HF.keep HF.nil rfl) rfl) rfl) rfl), HT⟩ ?_
    rintro k1 a w ⟨z2, z3, h, HF, HT⟩
    cases k1 with
    | zero => cases h
    | succ k1 =>
      rw [m_impl_isBalanced_L0] at h
      refine ?_
      refine wp_seq ?_
      refine wc_text ?_
      refine wc_bin HF nS rfl rfl b_lt rfl rfl (fun a HF => ?_)
      refine wc_end ?_
      refine then_n ?_
      refine wp_seq ?_
      by_cases hb1 : z3 < (x0.length : Int)
      · have h := (if_pos hb1).symm.trans h
        refine wp_if (b' := true) HF rfl (decide_eq_true hb1) ?_
        refine wp_skip ?_
        refine then_n ?_
        refine wp_seq ?_
        refine wp_block ?_
        refine wp_seq ?_
        refine wc_text ?_
        obtain ⟨e1, hx2, h⟩ := obs h
        obtain ⟨b1, o1, ha1⟩ := (HT.ro hr_x0).any.addr hx2
        refine wc_ixaddr HF nS el43 rfl ha1 ((HT.ro hr_x0).any).neq rfl hx2 rfl rfl (fun a HF => ?_)
        have hc1 := (HT.ro hr_x0).any.flatAt ha1 hx2
        refine wc_loadA (vs := [.int .i64 e1.a, .int .i64 e1.b, .int .i64 e1.c, .int .i64 e1.d]) HF rfl ag25 rfl (hc1.part 0 4) rfl rfl (fun a HF => ?_)
        refine wc_alloc (cs := [.int .i64 0, .int .i64 0, .int .i64 0, .int .i64 0]) HF HT zr25 rfl rfl rfl (fun p1 w HT hb => ⟨nS, fun a HF => ?_⟩)
        refine wc_storeB (cs' := [.int .i64 e1.a, .int .i64 e1.b, .int .i64 e1.c, .int .i64 e1.d]) HF HT rfl rfl (fun w => (ag25 w).2) rfl rfl rfl rfl rfl (fun w HT => ⟨nS, ?_⟩)
        refine wc_end ?_
        refine then_n ?_
        refine wp_seq ?_
        refine wc_text ?_
        refine wc_move HF nS rfl rfl rfl (fun a HF => ?_)
        refine wc_loadA (vs := [.int .i64 e1.a, .int .i64 e1.b, .int .i64 e1.c, .int .i64 e1.d]) HF rfl ag25 rfl ((HT.boxAt 0 rfl).part 0 4) rfl rfl (fun a HF => ?_)
        obtain ⟨y1, hx3, h⟩ := obs h
        refine wc_call HF cf71 rfl (w_impl_opens fuel hx3) rfl rfl ?_
        rintro e w ⟨rfl, hE⟩
        have hb := hE.below
        have HT := HT.pure hE
        have HT : St w0 (fun _ => False) w [Box p1 [.int .i64 e1.a, .int .i64 e1.b, .int .i64 e1.c, .int .i64 e1.d]] := HT
        refine ⟨_, rfl, nS, fun a HF => ?_⟩
        obtain ⟨hg1, h⟩ := grd h
        refine wc_bin HF nS rfl rfl (b_add hg1) rfl rfl (fun a HF => ?_)
        refine wc_assign HF nS rfl rfl rfl (fun a HF => ?_)
        refine wc_end ?_
        refine then_n ?_
        refine wp_seq ?_
        refine wc_text ?_
        refine wc_move HF nS rfl rfl rfl (fun a HF => ?_)
        refine wc_bin HF nS rfl rfl b_lt rfl rfl (fun a HF => ?_)
        refine wc_end ?_
        refine then_n ?_
        by_cases hb2 : (z2 + y1) < 0
        · have h := (if_pos hb2).symm.trans h
          refine wp_if (b' := true) HF rfl (decide_eq_true hb2) ?_
          refine wp_seq ?_
          refine wc_text ?_
          refine wc_assign HF nS rfl rfl rfl (fun a HF => ?_)
          refine wc_end ?_
          refine then_n ?_
          refine wp_ret ?_
          obtain rfl := Option.some.inj h
          have h := retL hk1
          obtain rfl := Option.some.inj h
          refine blk_r (then_r (then_r (blk_r (then_r (?_)))))
          refine bp_ret HF (res_one rfl HF rfl) ?_
          have HT : St w0 (fun _ => False) w [] := HT.take 0
          exact ⟨rfl, HT⟩
        · have h := (if_neg hb2).symm.trans h
          refine wp_if (b' := false) HF rfl (decide_eq_false hb2) ?_
          refine wp_skip ?_
          refine blk_n ?_
          refine then_n ?_
          refine wc_text ?_
          obtain ⟨hg2, h⟩ := grd h
          refine wc_bin HF nS rfl rfl (b_add hg2) rfl rfl (fun a HF => ?_)
          refine wc_move HF nS rfl rfl rfl (fun a HF => ?_)
          refine wc_end ?_
          have HT : St w0 (fun _ => False) w [] := HT.take 0
          exact then_n ⟨k1, Nat.lt_succ_self k1, z2 + y1, z3 + 1, h, (HF.keep (HF.keep (HF.keep (HF.keep HF.nil rfl) rfl) rfl) rfl), HT⟩
      · have h := (if_neg hb1).symm.trans h
        refine wp_if (b' := false) HF rfl (decide_eq_false hb1) ?_
        refine wp_exit ?_
        refine then_x (then_x (?_))
        refine blk_x ?_
        exact then_n ⟨z2, (Option.some.inj h).symm, (HF.keep HF.nil rfl), HT⟩
  · rintro a w ⟨z1, rfl, HF, HT⟩
    have h := brkL1 h
    refine ?_
    refine wp_seq ?_
    refine wc_text ?_
    refine wc_move HF nS rfl rfl rfl (fun a HF => ?_)
    refine wc_bin HF nS rfl rfl b_eq rfl rfl (fun a HF => ?_)
    refine wc_assign HF nS rfl rfl rfl (fun a HF => ?_)
    refine wc_end ?_
    refine then_n ?_
    refine wp_ret ?_
    obtain rfl := Option.some.inj h
    refine bp_ret HF (res_one rfl HF rfl) ?_
    exact ⟨rfl, HT⟩

def m_impl_CodeOk_L0 (fuel : Nat) (x0 : List I4) : Nat → Int → Int → Option (Lp Unit Bool)
  | 0, _, _ => none
  | k1 + 1, z1, z2 =>
    if z2 < (x0.length : Int) then
      (
        (at? x0 z2).bind fun e1 =>
        (m_impl_OpOk fuel e1.a e1.b e1.c e1.d).bind fun y2 =>
        if y2 = true then
          if e1.a = 7 then
            if in64 (z2 + 1) then
              if in64 ((z2 + 1) + e1.c) then
                if (x0.length : Int) < ((z2 + 1) + e1.c) then
                  some (.ret false)
                else
                  if in64 (z2 + 1) then
                    if in64 (z2 + 1) then
                      if in64 ((z2 + 1) + e1.c) then
                        if 0 ≤ (z2 + 1 : Int) ∧ (z2 + 1 : Int) ≤ ((z2 + 1) + e1.c) ∧ ((z2 + 1) + e1.c) ≤ (x0.length : Int) then
                          (m_impl_isBalanced fuel (subl x0 (z2 + 1) ((z2 + 1) + e1.c))).bind fun y3 =>
                          if y3 = true then
                            some (.brk z1)
                          else
                            some (.ret false)
                        else none
                      else none
                    else none
                  else none
              else none
            else none
          else
            if e1.a = 11 then
              if in64 (z1 + 1) then
                if 1 < (z1 + 1) then
                  some (.ret false)
                else
                  (m_impl_DepthAt fuel x0 z2).bind fun y4 =>
                  if y4 = 0 then
                    some (.brk (z1 + 1))
                  else
                    some (.ret false)
              else none
            else
              some (.brk z1)
        else
          some (.ret false)).bind <| contM <| un1 fun z3 =>
      if in64 (z2 + 1) then
        m_impl_CodeOk_L0 fuel x0 k1 z3 (z2 + 1)
      else none
    else
      some (.brk ())

def m_impl_CodeOk (fuel : Nat) (x0 : List I4) : Option Bool :=
  if 24 < (x0.length : Int) then
    some false
  else
    (m_impl_isBalanced fuel x0).bind fun y1 =>
    if y1 = true then
      (m_impl_CodeOk_L0 fuel x0 fuel 0 0).bind <| contL <| un1 fun _ =>
      some true
    else
      some false

set_option maxRecDepth 100000 in
set_option maxHeartbeats 4000000 in
theorem w_impl_CodeOk (fuel : Nat) {x0 : List I4} {a_x0 : Option Addr} {n_x0 c_x0 : Nat} {r0 : Bool} {w0 : World} (h : m_impl_CodeOk fuel x0 = some r0) (hr_x0 : RdT (fun b => ¬ False) w0 (rowT x0) (.slice a_x0 n_x0 c_x0)) :
    Calls Try.prog 39 #[.slice a_x0 n_x0 c_x0] w0 fun e w => e = .returned (.bool r0) ∧ St w0 (fun _ => False) w [] := by
  obtain rfl := hr_x0.neq
  have HT : St w0 (fun _ => False) w0 [] := St.init0
  rw [m_impl_CodeOk] at h
  refine calls_fr (n := 62) [.slice a_x0 x0.length c_x0] Try.func39 rfl rfl rfl (fun a HF => ?_)
  have HT : St w0 (fun _ => False) w0 [] := HT
  refine wp_seq ?_
  refine wc_text ?_
  refine wc_assign HF nS rfl rfl rfl (fun a HF => ?_)
  refine wc_end ?_
  refine then_n ?_
  refine wp_seq ?_
  refine wp_seq ?_
  refine wc_text ?_
  refine wc_move HF nS rfl rfl rfl (fun a HF => ?_)
  refine wc_lenR HF nS Try.underlying43 rfl rfl rfl (fun a HF => ?_)
  refine wc_bin HF nS rfl rfl b_gt rfl rfl (fun a HF => ?_)
  refine wc_move HF nS rfl rfl rfl (fun a HF => ?_)
  by_cases hb1 : 24 < (x0.length : Int)
  · have h := (if_pos hb1).symm.trans h
    refine wc_skip HF nS (HF.wn rfl rfl rfl rfl (decide_eq_true hb1)) rfl (fun a HF => ?_)
    refine wc_skip HF nS (HF.wn rfl rfl rfl rfl (decide_eq_true hb1)) rfl (fun a HF => ?_)
    refine wc_skip HF nS (HF.wn rfl rfl rfl rfl (decide_eq_true hb1)) rfl (fun a HF => ?_)
    refine wc_pick (b := true) HF nS rfl (decide_eq_true hb1) rfl rfl rfl (fun a HF => ?_)
    refine wc_end ?_
    refine then_n ?_
    refine wp_if (b' := true) HF rfl rfl ?_
    refine wp_seq ?_
    refine wc_text ?_
    refine wc_assign HF nS rfl rfl rfl (fun a HF => ?_)
    refine wc_end ?_
    refine then_n ?_
    refine wp_ret ?_
    obtain rfl := Option.some.inj h
    refine then_r (?_)
    refine bp_ret HF (res_one rfl HF rfl) ?_
    exact ⟨rfl, HT⟩
  · have h := (if_neg hb1).symm.trans h
    refine wc_move HF nS rfl (HF.wy rfl rfl rfl rfl (decide_eq_false hb1)) rfl (fun a HF => ?_)
    obtain ⟨y1, hx1, h⟩ := obs h
    refine wc_call HF cf73 rfl (w_impl_isBalanced fuel hx1 (HT.ro hr_x0).any) (HF.wy rfl rfl rfl rfl (decide_eq_false hb1)) rfl ?_
    rintro e w ⟨rfl, hE⟩
    have hb := hE.below
    have HT := HT.pure hE
    have HT : St w0 (fun _ => False) w [] := HT
    refine ⟨_, rfl, nS, fun a HF => ?_⟩
    refine wc_not HF nS rfl (HF.wy rfl rfl rfl rfl (decide_eq_false hb1)) rfl (fun a HF => ?_)
    refine wc_pick (b := false) HF nS rfl (decide_eq_false hb1) rfl rfl rfl (fun a HF => ?_)
    refine wc_end ?_
    refine then_n ?_
    by_cases hb2 : y1 = true
    · have h := (if_pos hb2).symm.trans h
      refine wp_if (b' := false) HF rfl (notT hb2) ?_
      refine wp_skip ?_
      refine then_n ?_
      refine wp_seq ?_
      refine wc_text ?_
      refine wc_assign HF nS rfl rfl rfl (fun a HF => ?_)
      refine wc_end ?_
      refine then_n ?_
      obtain ⟨q1, hx2, h⟩ := obs h
      refine wp_cut (fun a w => q1 = .brk () ∧ Fr a 62 [] ∧ St w0 (fun _ => False) w []) ?_ ?_
      · have hk1 := h
        have h := hx2
        refine wp_seq ?_
        refine wc_text ?_
        refine wc_move HF nS rfl rfl rfl (fun a HF => ?_)
        refine wc_lenR HF nS Try.underlying43 rfl rfl rfl (fun a HF => ?_)
        refine wc_move HF nS rfl rfl rfl (fun a HF => ?_)
        refine wc_end ?_
        refine then_n ?_
        refine wp_block ?_
        refine wp_loopN (fun k1 a w => ∃ z1 z2, m_impl_CodeOk_L0 fuel x0 k1 z1 z2 = some q1 ∧ Fr a 62 [(0, .slice a_x0 x0.length c_x0), (3, .int .i64 z1), (14, .slice a_x0 x0.length c_x0), (15, .int .i64 (x0.length : Int)), (16, .int .i64 z2)] ∧ St w0 (fun _ => False) w []) fuel ⟨0, 0, h, (HF.keep (HF.keep (HF.keep (HF.keep (HF.keep HF.nil rfl) rfl) rfl) rfl) rfl), HT⟩ ?_
        rintro k1 a w ⟨z1, z2, h, HF, HT⟩
        cases k1 with
        | zero => cases h
        | succ k1 =>
          rw [m_impl_CodeOk_L0] at h
          refine ?_
          refine wp_seq ?_
          refine wc_text ?_
          refine wc_bin HF nS rfl rfl b_lt rfl rfl (fun a HF => ?_)
          refine wc_end ?_
          refine then_n ?_
          refine wp_seq ?_
          by_cases hb3 : z2 < (x0.length : Int)
          · have h := (if_pos hb3).symm.trans h
            refine wp_if (b' := true) HF rfl (decide_eq_true hb3) ?_
            refine wp_skip ?_
            refine then_n ?_
            obtain ⟨q2, hx3, h⟩ := obs h
            refine wp_cut (fun a w => ∃ z3, q2 = .brk z3 ∧ Fr a 62 [(0, .slice a_x0 x0.length c_x0), (3, .int .i64 z3), (14, .slice a_x0 x0.length c_x0), (15, .int .i64 (x0.length : Int)), (16, .int .i64 z2)] ∧ St w0 (fun _ => False) w []) ?_ ?_
            · have hk2 := h
              have h := hx3
              refine wp_block ?_
              refine wp_seq ?_
              refine wc_text ?_
              refine wc_move HF nS rfl rfl rfl (fun a HF => ?_)
              obtain ⟨e1, hx4, h⟩ := obs h
              obtain ⟨b1, o1, ha1⟩ := (HT.ro hr_x0).any.addr hx4
              refine wc_ixaddr HF nS el43 rfl ha1 ((HT.ro hr_x0).any).neq rfl hx4 rfl rfl (fun a HF => ?_)
              have hc1 := (HT.ro hr_x0).any.flatAt ha1 hx4
              refine wc_loadA (vs := [.int .i64 e1.a, .int .i64 e1.b, .int .i64 e1.c, .int .i64 e1.d]) HF rfl ag25 rfl (hc1.part 0 4) rfl rfl (fun a HF => ?_)
              refine wc_alloc (cs := [.int .i64 0, .int .i64 0, .int .i64 0, .int .i64 0]) HF HT zr25 rfl rfl rfl (fun p1 w HT hb => ⟨nS, fun a HF => ?_⟩)
              refine wc_assign HF nS rfl rfl rfl (fun a HF => ?_)
              refine wc_storeB (cs' := [.int .i64 e1.a, .int .i64 e1.b, .int .i64 e1.c, .int .i64 e1.d]) HF HT rfl rfl (fun w => (ag25 w).2) rfl rfl rfl rfl rfl (fun w HT => ⟨nS, ?_⟩)
              refine wc_end ?_
              refine then_n ?_
              refine wp_seq ?_
              refine wp_seq ?_
              refine wc_text ?_
              refine wc_loadA (vs := [.int .i64 e1.a, .int .i64 e1.b, .int .i64 e1.c, .int .i64 e1.d]) HF rfl ag25 rfl ((HT.boxAt 0 rfl).part 0 4) rfl rfl (fun a HF => ?_)
              obtain ⟨y2, hx5, h⟩ := obs h
              refine wc_call HF cf17 rfl (w_impl_OpOk fuel hx5) rfl rfl ?_
              rintro e w ⟨rfl, hE⟩
              have hb := hE.below
              have HT := HT.pure hE
              have HT : St w0 (fun _ => False) w [Box p1 [.int .i64 e1.a, .int .i64 e1.b, .int .i64 e1.c, .int .i64 e1.d]] := HT
              refine ⟨_, rfl, nS, fun a HF => ?_⟩
              refine wc_not HF nS rfl rfl rfl (fun a HF => ?_)
              refine wc_end ?_
              refine then_n ?_
              by_cases hb4 : y2 = true
              · have h := (if_pos hb4).symm.trans h
                refine wp_if (b' := false) HF rfl (notT hb4) ?_
                refine wp_skip ?_
                refine then_n ?_
                refine wp_seq ?_
                refine wc_text ?_
                refine wc_faddr HF nS rfl fl25_0 rfl rfl (fun a HF => ?_)
                refine wc_load HF rfl sc3 ((HT.boxAt 0 rfl).get 0 rfl) rfl rfl (fun a HF => ?_)
                refine wc_end ?_
                refine then_n ?_
                refine wp_block ?_
                refine wp_seq ?_
                refine wc_text ?_
                refine wc_bin HF nS rfl rfl b_eq rfl rfl (fun a HF => ?_)
                refine wc_assign HF nS rfl rfl rfl (fun a HF => ?_)
                refine wc_end ?_
                refine then_n ?_
                by_cases hb5 : e1.a = 7
                · have h := (if_pos hb5).symm.trans h
                  refine wp_if (b' := true) HF rfl (decide_eq_true hb5) ?_
                  refine wp_seq ?_
                  refine wc_text ?_
                  refine wc_move HF nS rfl rfl rfl (fun a HF => ?_)
                  obtain ⟨hg1, h⟩ := grd h
                  refine wc_bin HF nS rfl rfl (b_add hg1) rfl rfl (fun a HF => ?_)
                  refine wc_faddr HF nS rfl fl25_2 rfl rfl (fun a HF => ?_)
                  refine wc_load HF rfl sc3 ((HT.boxAt 0 rfl).get 2 rfl) rfl rfl (fun a HF => ?_)
                  obtain ⟨hg2, h⟩ := grd h
                  refine wc_bin HF nS rfl rfl (b_add hg2) rfl rfl (fun a HF => ?_)
                  refine wc_move HF nS rfl rfl rfl (fun a HF => ?_)
                  refine wc_lenR HF nS Try.underlying43 rfl rfl rfl (fun a HF => ?_)
                  refine wc_bin HF nS rfl rfl b_gt rfl rfl (fun a HF => ?_)
                  refine wc_move HF nS rfl rfl rfl (fun a HF => ?_)
                  by_cases hb6 : (x0.length : Int) < ((z2 + 1) + e1.c)
                  · have h := (if_pos hb6).symm.trans h
                    refine wc_skip HF nS (HF.wn rfl rfl rfl rfl (decide_eq_true hb6)) rfl (fun a HF => ?_)
                    refine wc_skip HF nS (HF.wn rfl rfl rfl rfl (decide_eq_true hb6)) rfl (fun a HF => ?_)
                    refine wc_skip HF nS (HF.wn rfl rfl rfl rfl (decide_eq_true hb6)) rfl (fun a HF => ?_)
                    refine wc_skip HF nS (HF.wn rfl rfl rfl rfl (decide_eq_true hb6)) rfl (fun a HF => ?_)
                    refine wc_skip HF nS (HF.wn rfl rfl rfl rfl (decide_eq_true hb6)) rfl (fun a HF => ?_)
                    refine wc_skip HF nS (HF.wn rfl rfl rfl rfl (decide_eq_true hb6)) rfl (fun a HF => ?_)
                    refine wc_skip HF nS (HF.wn rfl rfl rfl rfl (decide_eq_true hb6)) rfl (fun a HF => ?_)
                    refine wc_skip HF nS (HF.wn rfl rfl rfl rfl (decide_eq_true hb6)) rfl (fun a HF => ?_)
                    refine wc_skip HF nS (HF.wn rfl rfl rfl rfl (decide_eq_true hb6)) rfl (fun a HF => ?_)
                    refine wc_skip HF nS (HF.wn rfl rfl rfl rfl (decide_eq_true hb6)) rfl (fun a HF => ?_)
                    refine wc_skip HF nS (HF.wn rfl rfl rfl rfl (decide_eq_true hb6)) rfl (fun a HF => ?_)
                    refine wc_pick (b := true) HF nS rfl (decide_eq_true hb6) rfl rfl rfl (fun a HF => ?_)
                    refine wc_end ?_
                    refine then_n ?_
                    refine wp_if (b' := true) HF rfl rfl ?_
                    refine wp_seq ?_
                    refine wc_text ?_
                    refine wc_assign HF nS rfl rfl rfl (fun a HF => ?_)
                    refine wc_end ?_
                    refine then_n ?_
                    refine wp_ret ?_
                    obtain rfl := Option.some.inj h
                    have h := retM hk2
                    obtain rfl := Option.some.inj h
                    have h := retL hk1
                    obtain rfl := Option.some.inj h
                    refine blk_r (blk_r (then_r (then_r (blk_r (then_r (?_))))))
                    refine bp_ret HF (res_one rfl HF rfl) ?_
                    have HT : St w0 (fun _ => False) w [] := HT.take 0
                    exact ⟨rfl, HT⟩
                  · have h := (if_neg hb6).symm.trans h
                    refine wc_move HF nS rfl (HF.wy rfl rfl rfl rfl (decide_eq_false hb6)) rfl (fun a HF => ?_)
                    refine wc_move HF nS rfl (HF.wy rfl rfl rfl rfl (decide_eq_false hb6)) rfl (fun a HF => ?_)
                    obtain ⟨hg3, h⟩ := grd h
                    refine wc_bin HF nS rfl rfl (b_add hg3) (HF.wy rfl rfl rfl rfl (decide_eq_false hb6)) rfl (fun a HF => ?_)
                    refine wc_move HF nS rfl (HF.wy rfl rfl rfl rfl (decide_eq_false hb6)) rfl (fun a HF => ?_)
                    obtain ⟨hg4, h⟩ := grd h
                    refine wc_bin HF nS rfl rfl (b_add hg4) (HF.wy rfl rfl rfl rfl (decide_eq_false hb6)) rfl (fun a HF => ?_)
                    refine wc_faddr HF nS rfl fl25_2 (HF.wy rfl rfl rfl rfl (decide_eq_false hb6)) rfl (fun a HF => ?_)
                    refine wc_load HF rfl sc3 ((HT.boxAt 0 rfl).get 2 rfl) (HF.wy rfl rfl rfl rfl (decide_eq_false hb6)) rfl (fun a HF => ?_)
                    obtain ⟨hg5, h⟩ := grd h
                    refine wc_bin HF nS rfl rfl (b_add hg5) (HF.wy rfl rfl rfl rfl (decide_eq_false hb6)) rfl (fun a HF => ?_)
                    obtain ⟨hg6, h⟩ := grd h
                    obtain ⟨a1, c1, hr1, hcut⟩ := RdT.cutI hr_x0 (hg6 : 0 ≤ (z2 + 1 : Int) ∧ (z2 + 1 : Int) ≤ ((z2 + 1) + e1.c) ∧ ((z2 + 1) + e1.c) ≤ (x0.length : Int))
                    refine wc_slrLH HF nS el43 rfl rfl rfl hcut (HF.wy rfl rfl rfl rfl (decide_eq_false hb6)) rfl (fun a HF => ?_)
                    obtain ⟨y3, hx6, h⟩ := obs h
                    refine wc_call HF cf73 rfl (w_impl_isBalanced fuel hx6 (HT.ro hr1).any) (HF.wy rfl rfl rfl rfl (decide_eq_false hb6)) rfl ?_
                    rintro e w ⟨rfl, hE⟩
                    have hb := hE.below
                    have HT := HT.pure hE
                    have HT : St w0 (fun _ => False) w [Box p1 [.int .i64 e1.a, .int .i64 e1.b, .int .i64 e1.c, .int .i64 e1.d]] := HT
                    refine ⟨_, rfl, nS, fun a HF => ?_⟩
                    refine wc_not HF nS rfl (HF.wy rfl rfl rfl rfl (decide_eq_false hb6)) rfl (fun a HF => ?_)
                    refine wc_pick (b := false) HF nS rfl (decide_eq_false hb6) rfl rfl rfl (fun a HF => ?_)
                    refine wc_end ?_
                    refine then_n ?_
                    by_cases hb7 : y3 = true
                    · have h := (if_pos hb7).symm.trans h
                      refine wp_if (b' := false) HF rfl (notT hb7) ?_
                      refine wp_skip ?_
                      refine blk_n ?_
                      refine blk_n ?_
                      have HT : St w0 (fun _ => False) w [] := HT.take 0
                      exact then_n ⟨z1, (Option.some.inj h).symm, (HF.keep (HF.keep (HF.keep (HF.keep (HF.keep HF.nil rfl) rfl) rfl) rfl) rfl), HT⟩
                    · have h := (if_neg hb7).symm.trans h
                      refine wp_if (b' := true) HF rfl (notF (Bool.eq_false_iff.2 hb7)) ?_
                      refine wp_seq ?_
                      refine wc_text ?_
                      refine wc_assign HF nS rfl rfl rfl (fun a HF => ?_)
                      refine wc_end ?_
                      refine then_n ?_
                      refine wp_ret ?_
                      obtain rfl := Option.some.inj h
                      have h := retM hk2
                      obtain rfl := Option.some.inj h
                      have h := retL hk1
                      obtain rfl := Option.some.inj h
                      refine blk_r (blk_r (then_r (then_r (blk_r (then_r (?_))))))
                      refine bp_ret HF (res_one rfl HF rfl) ?_
                      have HT : St w0 (fun _ => False) w [] := HT.take 0
                      exact ⟨rfl, HT⟩
                · have h := (if_neg hb5).symm.trans h
                  refine wp_if (b' := false) HF rfl (decide_eq_false hb5) ?_
                  refine wp_seq ?_
                  refine wc_text ?_
                  refine wc_bin HF nS rfl rfl b_eq rfl rfl (fun a HF => ?_)
                  refine wc_assign HF nS rfl rfl rfl (fun a HF => ?_)
                  refine wc_end ?_
                  refine then_n ?_
                  by_cases hb8 : e1.a = 11
                  · have h := (if_pos hb8).symm.trans h
                    refine wp_if (b' := true) HF rfl (decide_eq_true hb8) ?_
                    refine wp_seq ?_
                    refine wc_text ?_
                    refine wc_move HF nS rfl rfl rfl (fun a HF => ?_)
                    obtain ⟨hg7, h⟩ := grd h
                    refine wc_bin HF nS rfl rfl (b_add hg7) rfl rfl (fun a HF => ?_)
                    refine wc_assign HF nS rfl rfl rfl (fun a HF => ?_)
                    refine wc_end ?_
                    refine then_n ?_
                    refine wp_seq ?_
                    refine wc_text ?_
                    refine wc_move HF nS rfl rfl rfl (fun a HF => ?_)
                    refine wc_bin HF nS rfl rfl b_gt rfl rfl (fun a HF => ?_)
                    refine wc_move HF nS rfl rfl rfl (fun a HF => ?_)
                    by_cases hb9 : 1 < (z1 + 1)
                    · have h := (if_pos hb9).symm.trans h
                      refine wc_skip HF nS (HF.wn rfl rfl rfl rfl (decide_eq_true hb9)) rfl (fun a HF => ?_)
                      refine wc_skip HF nS (HF.wn rfl rfl rfl rfl (decide_eq_true hb9)) rfl (fun a HF => ?_)
                      refine wc_skip HF nS (HF.wn rfl rfl rfl rfl (decide_eq_true hb9)) rfl (fun a HF => ?_)
                      refine wc_skip HF nS (HF.wn rfl rfl rfl rfl (decide_eq_true hb9)) rfl (fun a HF => ?_)
                      refine wc_pick (b := true) HF nS rfl (decide_eq_true hb9) rfl rfl rfl (fun a HF => ?_)
                      refine wc_end ?_
                      refine then_n ?_
                      refine wp_if (b' := true) HF rfl rfl ?_
                      refine wp_seq ?_
                      refine wc_text ?_
                      refine wc_assign HF nS rfl rfl rfl (fun a HF => ?_)
                      refine wc_end ?_
                      refine then_n ?_
                      refine wp_ret ?_
                      obtain rfl := Option.some.inj h
                      have h := retM hk2
                      obtain rfl := Option.some.inj h
                      have h := retL hk1
                      obtain rfl := Option.some.inj h
                      refine blk_r (blk_r (then_r (then_r (blk_r (then_r (?_))))))
                      refine bp_ret HF (res_one rfl HF rfl) ?_
                      have HT : St w0 (fun _ => False) w [] := HT.take 0
                      exact ⟨rfl, HT⟩
                    · have h := (if_neg hb9).symm.trans h
                      refine wc_move HF nS rfl (HF.wy rfl rfl rfl rfl (decide_eq_false hb9)) rfl (fun a HF => ?_)
                      refine wc_move HF nS rfl (HF.wy rfl rfl rfl rfl (decide_eq_false hb9)) rfl (fun a HF => ?_)
                      obtain ⟨y4, hx7, h⟩ := obs h
                      refine wc_call HF cf35 rfl (w_impl_DepthAt fuel hx7 (HT.ro hr_x0).any) (HF.wy rfl rfl rfl rfl (decide_eq_false hb9)) rfl ?_
                      rintro e w ⟨rfl, hE⟩
                      have hb := hE.below
                      have HT := HT.pure hE
                      have HT : St w0 (fun _ => False) w [Box p1 [.int .i64 e1.a, .int .i64 e1.b, .int .i64 e1.c, .int .i64 e1.d]] := HT
                      refine ⟨_, rfl, nS, fun a HF => ?_⟩
                      refine wc_bin HF nS rfl rfl b_ne (HF.wy rfl rfl rfl rfl (decide_eq_false hb9)) rfl (fun a HF => ?_)
                      refine wc_pick (b := false) HF nS rfl (decide_eq_false hb9) rfl rfl rfl (fun a HF => ?_)
                      refine wc_end ?_
                      refine then_n ?_
                      by_cases hb10 : y4 = 0
                      · have h := (if_pos hb10).symm.trans h
                        refine wp_if (b' := false) HF rfl (notT (decide_eq_true hb10)) ?_
                        refine wp_skip ?_
                        refine blk_n ?_
                        refine blk_n ?_
                        have HT : St w0 (fun _ => False) w [] := HT.take 0
                        exact then_n ⟨z1 + 1, (Option.some.inj h).symm, (HF.keep (HF.keep (HF.keep (HF.keep (HF.keep HF.nil rfl) rfl) rfl) rfl) rfl), HT⟩
                      · have h := (if_neg hb10).symm.trans h
                        refine wp_if (b' := true) HF rfl (notF (decide_eq_false hb10)) ?_
                        refine wp_seq ?_
                        refine wc_text ?_
                        refine wc_assign HF nS rfl rfl rfl (fun a HF => ?_)
                        refine wc_end ?_
                        refine then_n ?_
                        refine wp_ret ?_
                        obtain rfl := Option.some.inj h
                        have h := retM hk2
                        obtain rfl := Option.some.inj h
                        have h := retL hk1
                        obtain rfl := Option.some.inj h
                        refine blk_r (blk_r (then_r (then_r (blk_r (then_r (?_))))))
                        refine bp_ret HF (res_one rfl HF rfl) ?_
                        have HT : St w0 (fun _ => False) w [] := HT.take 0
                        exact ⟨rfl, HT⟩
                  · have h := (if_neg hb8).symm.trans h
                    refine wp_if (b' := false) HF rfl (decide_eq_false hb8) ?_
                    refine wp_skip ?_
                    refine blk_n ?_
                    refine blk_n ?_
                    have HT : St w0 (fun _ => False) w [] := HT.take 0
                    exact then_n ⟨z1, (Option.some.inj h).symm, (HF.keep (HF.keep (HF.keep (HF.keep (HF.keep HF.nil rfl) rfl) rfl) rfl) rfl), HT⟩
              · have h := (if_neg hb4).symm.trans h
                refine wp_if (b' := true) HF rfl (notF (Bool.eq_false_iff.2 hb4)) ?_
                refine wp_seq ?_
                refine wc_text ?_
                refine wc_assign HF nS rfl rfl rfl (fun a HF => ?_)
                refine wc_end ?_
                refine then_n ?_
                refine wp_ret ?_
                obtain rfl := Option.some.inj h
                have h := retM hk2
                obtain rfl := Option.some.inj h
                have h := retL hk1
                obtain rfl := Option.some.inj h
                refine then_r (blk_r (then_r (then_r (blk_r (then_r (?_))))))
                refine bp_ret HF (res_one rfl HF rfl) ?_
                have HT : St w0 (fun _ => False) w [] := HT.take 0
                exact ⟨rfl, HT⟩
            · rintro a w ⟨z3, rfl, HF, HT⟩
              have h := brkM1 h
              refine ?_
              refine wc_text ?_
              obtain ⟨hg8, h⟩ := grd h
              refine wc_bin HF nS rfl rfl (b_add hg8) rfl rfl (fun a HF => ?_)
              refine wc_move HF nS rfl rfl rfl (fun a HF => ?_)
              refine wc_end ?_
              exact then_n ⟨k1, Nat.lt_succ_self k1, z3, z2 + 1, h, (HF.keep (HF.keep (HF.keep (HF.keep (HF.keep HF.nil rfl) rfl) rfl) rfl) rfl), HT⟩
          · have h := (if_neg hb3).symm.trans h
            refine wp_if (b' := false) HF rfl (decide_eq_false hb3) ?_
            refine wp_exit ?_
            refine then_x (then_x (?_))
            refine blk_x ?_
            exact then_n ⟨(Option.some.inj h).symm, HF.nil, HT⟩
      · rintro a w ⟨rfl, HF, HT⟩
        have h := brkL1 h
        refine ?_
        refine wp_seq ?_
        refine wc_text ?_
        refine wc_assign HF nS rfl rfl rfl (fun a HF => ?_)
        refine wc_end ?_
        refine then_n ?_
        refine wp_ret ?_
        obtain rfl := Option.some.inj h
        refine bp_ret HF (res_one rfl HF rfl) ?_
        exact ⟨rfl, HT⟩
    · have h := (if_neg hb2).symm.trans h
      refine wp_if (b' := true) HF rfl (notF (Bool.eq_false_iff.2 hb2)) ?_
      refine wp_seq ?_
      refine wc_text ?_
      refine wc_assign HF nS rfl rfl rfl (fun a HF => ?_)
      refine wc_end ?_
      refine then_n ?_
      refine wp_ret ?_
      obtain rfl := Option.some.inj h
      refine then_r (?_)
      refine bp_ret HF (res_one rfl HF rfl) ?_
      exact ⟨rfl, HT⟩

def m_spec_l5Skip_L0 (fuel : Nat) (x0 : List I4) (x1 : Int) (e1 : I4) : Nat → Int → Int → Option (Lp Int Bool)
  | 0, _, _ => none
  | k1 + 1, z2, z3 =>
    if z3 < ((x1 + 1) + e1.c) then
      (
        (
          (at? x0 z3).bind fun e2 =>
          if e2.a = 8 then
            if in64 (z2 + 1) then
              some (z2 + 1)
            else none
          else
            some z2).bind fun z5 =>
        (
          (at? x0 z3).bind fun e3 =>
          if e3.a = 9 then
            if in64 (z5 - 1) then
              some (z5 - 1)
            else none
          else
            some z5).bind fun z6 =>
        if z6 < 0 then
          some (.ret false)
        else
          some (.brk z6)).bind <| contM <| un1 fun z4 =>
      if in64 (z3 + 1) then
        m_spec_l5Skip_L0 fuel x0 x1 e1 k1 z4 (z3 + 1)
      else none
    else
      some (.brk z2)

def m_spec_l5Skip (fuel : Nat) (x0 : List I4) (x1 : Int) : Option Bool :=
  if in64 (x1 + 1) then
    (at? x0 x1).bind fun e1 =>
    if in64 ((x1 + 1) + e1.c) then
      if (x0.length : Int) < ((x1 + 1) + e1.c) then
        some false
      else
        (
          if in64 (x1 + 1) then
            m_spec_l5Skip_L0 fuel x0 x1 e1 fuel 0 (x1 + 1)
          else none).bind <| contL <| un1 fun z1 =>
        some (decide (z1 = 0))
    else none
  else none

set_option maxRecDepth 100000 in
set_option maxHeartbeats 4000000 in
theorem w_spec_l5Skip (fuel : Nat) {x0 : List I4} {x1 : Int} {a_x0 : Option Addr} {n_x0 c_x0 : Nat} {r0 : Bool} {w0 : World} (h : m_spec_l5Skip fuel x0 x1 = some r0) (hr_x0 : RdT (fun b => ¬ False) w0 (rowT x0) (.slice a_x0 n_x0 c_x0)) :
    Calls Try.prog 72 #[.slice a_x0 n_x0 c_x0, .int .i64 x1] w0 fun e w => e = .returned (.bool r0) ∧ St w0 (fun _ => False) w [] := by
  obtain rfl := hr_x0.neq
  have HT : St w0 (fun _ => False) w0 [] := St.init0
  rw [m_spec_l5Skip] at h
  refine calls_fr (n := 47) [.slice a_x0 x0.length c_x0, .int .i64 x1] Try.func72 rfl rfl rfl (fun a HF => ?_)
  have HT : St w0 (fun _ => False) w0 [] := HT
  refine wp_seq ?_
  refine wc_text ?_
  refine wc_assign HF nS rfl rfl rfl (fun a HF => ?_)
  refine wc_end ?_
  refine then_n ?_
  refine wp_seq ?_
  refine wc_text ?_
  refine wc_move HF nS rfl rfl rfl (fun a HF => ?_)
  obtain ⟨hg1, h⟩ := grd h
  refine wc_bin HF nS rfl rfl (b_add hg1) rfl rfl (fun a HF => ?_)
  refine wc_move HF nS rfl rfl rfl (fun a HF => ?_)
  refine wc_move HF nS rfl rfl rfl (fun a HF => ?_)
  obtain ⟨e1, hx1, h⟩ := obs h
  obtain ⟨b1, o1, ha1⟩ := (HT.ro hr_x0).any.addr hx1
  refine wc_ixaddr HF nS el43 rfl ha1 ((HT.ro hr_x0).any).neq rfl hx1 rfl rfl (fun a HF => ?_)
  refine wc_faddr HF nS rfl fl25_2 rfl rfl (fun a HF => ?_)
  have hc1 := (HT.ro hr_x0).any.flatAt ha1 hx1
  refine wc_load HF rfl sc3 (hc1.get 2 rfl) rfl rfl (fun a HF => ?_)
  obtain ⟨hg2, h⟩ := grd h
  refine wc_bin HF nS rfl rfl (b_add hg2) rfl rfl (fun a HF => ?_)
  refine wc_assign HF nS rfl rfl rfl (fun a HF => ?_)
  refine wc_end ?_
  refine then_n ?_
  refine wp_seq ?_
  refine wp_seq ?_
  refine wc_text ?_
  refine wc_move HF nS rfl rfl rfl (fun a HF => ?_)
  refine wc_move HF nS rfl rfl rfl (fun a HF => ?_)
  refine wc_lenR HF nS Try.underlying43 rfl rfl rfl (fun a HF => ?_)
  refine wc_bin HF nS rfl rfl b_gt rfl rfl (fun a HF => ?_)
  refine wc_end ?_
  refine then_n ?_
  by_cases hb1 : (x0.length : Int) < ((x1 + 1) + e1.c)
  · have h := (if_pos hb1).symm.trans h
    refine wp_if (b' := true) HF rfl (decide_eq_true hb1) ?_
    refine wp_seq ?_
    refine wc_text ?_
    refine wc_assign HF nS rfl rfl rfl (fun a HF => ?_)
    refine wc_end ?_
    refine then_n ?_
    refine wp_ret ?_
    obtain rfl := Option.some.inj h
    refine then_r (?_)
    refine bp_ret HF (res_one rfl HF rfl) ?_
    exact ⟨rfl, HT⟩
  · have h := (if_neg hb1).symm.trans h
    refine wp_if (b' := false) HF rfl (decide_eq_false hb1) ?_
    refine wp_skip ?_
    refine then_n ?_
    refine wp_seq ?_
    refine wc_text ?_
    refine wc_assign HF nS rfl rfl rfl (fun a HF => ?_)
    refine wc_end ?_
    refine then_n ?_
    obtain ⟨q1, hx2, h⟩ := obs h
    refine wp_cut (fun a w => ∃ z1, q1 = .brk z1 ∧ Fr a 47 [(6, .int .i64 z1)] ∧ St w0 (fun _ => False) w []) ?_ ?_
    · have hk1 := h
      have h := hx2
      refine wp_seq ?_
      refine wc_text ?_
      refine wc_move HF nS rfl rfl rfl (fun a HF => ?_)
      obtain ⟨hg3, h⟩ := grd h
      refine wc_bin HF nS rfl rfl (b_add hg3) rfl rfl (fun a HF => ?_)
      refine wc_assign HF nS rfl rfl rfl (fun a HF => ?_)
      refine wc_end ?_
      refine then_n ?_
      refine wp_block ?_
      refine wp_loopN (fun k1 a w => ∃ z2 z3, m_spec_l5Skip_L0 fuel x0 x1 e1 k1 z2 z3 = some q1 ∧ Fr a 47 [(0, .slice a_x0 x0.length c_x0), (5, .int .i64 ((x1 + 1) + e1.c)), (6, .int .i64 z2), (7, .int .i64 z3)] ∧ St w0 (fun _ => False) w []) fuel ⟨0, x1 + 1, h, (HF.keep (HF.keep (HF.keep (HF.keep HF.nil rfl) rfl) rfl) rfl), HT⟩ ?_
      rintro k1 a w ⟨z2, z3, h, HF, HT⟩
      cases k1 with
      | zero => cases h
      | succ k1 =>
        rw [m_spec_l5Skip_L0] at h
        refine ?_
        refine wp_seq ?_
        refine wp_seq ?_
        refine wc_text ?_
        refine wc_move HF nS rfl rfl rfl (fun a HF => ?_)
        refine wc_move HF nS rfl rfl rfl (fun a HF => ?_)
        refine wc_bin HF nS rfl rfl b_lt rfl rfl (fun a HF => ?_)
        refine wc_end ?_
        refine then_n ?_
        by_cases hb2 : z3 < ((x1 + 1) + e1.c)
        · have h := (if_pos hb2).symm.trans h
          refine wp_if (b' := true) HF rfl (decide_eq_true hb2) ?_
          refine wp_skip ?_
          refine then_n ?_
          obtain ⟨q2, hx3, h⟩ := obs h
          refine wp_cut (fun a w => ∃ z4, q2 = .brk z4 ∧ Fr a 47 [(0, .slice a_x0 x0.length c_x0), (5, .int .i64 ((x1 + 1) + e1.c)), (6, .int .i64 z4), (7, .int .i64 z3)] ∧ St w0 (fun _ => False) w []) ?_ ?_
          · have hk2 := h
            have h := hx3
            refine wp_block ?_
            obtain ⟨z5, hx4, h⟩ := obs h
            refine wp_cut (fun a w => Fr a 47 [(0, .slice a_x0 x0.length c_x0), (5, .int .i64 ((x1 + 1) + e1.c)), (6, .int .i64 z5), (7, .int .i64 z3)] ∧ St w0 (fun _ => False) w []) ?_ ?_
            · have hk3 := h
              have h := hx4
              refine wp_seq ?_
              refine wc_text ?_
              refine wc_move HF nS rfl rfl rfl (fun a HF => ?_)
              refine wc_move HF nS rfl rfl rfl (fun a HF => ?_)
              obtain ⟨e2, hx5, h⟩ := obs h
              refine wc_ixaddr HF nS el43 rfl ha1 ((HT.ro hr_x0).any).neq rfl hx5 rfl rfl (fun a HF => ?_)
              refine wc_faddr HF nS rfl fl25_0 rfl rfl (fun a HF => ?_)
              have hc2 := (HT.ro hr_x0).any.flatAt ha1 hx5
              refine wc_load HF rfl sc3 (hc2.get 0 rfl) rfl rfl (fun a HF => ?_)
              refine wc_bin HF nS rfl rfl b_eq rfl rfl (fun a HF => ?_)
              refine wc_end ?_
              refine then_n ?_
              by_cases hb3 : e2.a = 8
              · have h := (if_pos hb3).symm.trans h
                refine wp_if (b' := true) HF rfl (decide_eq_true hb3) ?_
                refine wc_text ?_
                refine wc_move HF nS rfl rfl rfl (fun a HF => ?_)
                obtain ⟨hg4, h⟩ := grd h
                refine wc_bin HF nS rfl rfl (b_add hg4) rfl rfl (fun a HF => ?_)
                refine wc_assign HF nS rfl rfl rfl (fun a HF => ?_)
                refine wc_end ?_
                obtain rfl := Option.some.inj h
                exact then_n ⟨(HF.keep (HF.keep (HF.keep (HF.keep HF.nil rfl) rfl) rfl) rfl), HT⟩
              · have h := (if_neg hb3).symm.trans h
                refine wp_if (b' := false) HF rfl (decide_eq_false hb3) ?_
                refine wp_skip ?_
                obtain rfl := Option.some.inj h
                exact then_n ⟨(HF.keep (HF.keep (HF.keep (HF.keep HF.nil rfl) rfl) rfl) rfl), HT⟩
            · rintro a w ⟨HF, HT⟩
              refine ?_
              obtain ⟨z6, hx6, h⟩ := obs h
              refine wp_cut (fun a w => Fr a 47 [(0, .slice a_x0 x0.length c_x0), (5, .int .i64 ((x1 + 1) + e1.c)), (6, .int .i64 z6), (7, .int .i64 z3)] ∧ St w0 (fun _ => False) w []) ?_ ?_
              · have hk3 := h
                have h := hx6
                refine wp_seq ?_
                refine wc_text ?_
                refine wc_move HF nS rfl rfl rfl (fun a HF => ?_)
                refine wc_move HF nS rfl rfl rfl (fun a HF => ?_)
                obtain ⟨e3, hx7, h⟩ := obs h
                refine wc_ixaddr HF nS el43 rfl ha1 ((HT.ro hr_x0).any).neq rfl hx7 rfl rfl (fun a HF => ?_)
                refine wc_faddr HF nS rfl fl25_0 rfl rfl (fun a HF => ?_)
                have hc3 := (HT.ro hr_x0).any.flatAt ha1 hx7
                refine wc_load HF rfl sc3 (hc3.get 0 rfl) rfl rfl (fun a HF => ?_)
                refine wc_bin HF nS rfl rfl b_eq rfl rfl (fun a HF => ?_)
                refine wc_end ?_
                refine then_n ?_
                by_cases hb4 : e3.a = 9
                · have h := (if_pos hb4).symm.trans h
                  refine wp_if (b' := true) HF rfl (decide_eq_true hb4) ?_
                  refine wc_text ?_
                  refine wc_move HF nS rfl rfl rfl (fun a HF => ?_)
                  obtain ⟨hg5, h⟩ := grd h
                  refine wc_bin HF nS rfl rfl (b_sub hg5) rfl rfl (fun a HF => ?_)
                  refine wc_assign HF nS rfl rfl rfl (fun a HF => ?_)
                  refine wc_end ?_
                  obtain rfl := Option.some.inj h
                  exact then_n ⟨(HF.keep (HF.keep (HF.keep (HF.keep HF.nil rfl) rfl) rfl) rfl), HT⟩
                · have h := (if_neg hb4).symm.trans h
                  refine wp_if (b' := false) HF rfl (decide_eq_false hb4) ?_
                  refine wp_skip ?_
                  obtain rfl := Option.some.inj h
                  exact then_n ⟨(HF.keep (HF.keep (HF.keep (HF.keep HF.nil rfl) rfl) rfl) rfl), HT⟩
              · rintro a w ⟨HF, HT⟩
                refine ?_
                refine wp_seq ?_
                refine wc_text ?_
                refine wc_move HF nS rfl rfl rfl (fun a HF => ?_)
                refine wc_bin HF nS rfl rfl b_lt rfl rfl (fun a HF => ?_)
                refine wc_end ?_
                refine then_n ?_
                by_cases hb5 : z6 < 0
                · have h := (if_pos hb5).symm.trans h
                  refine wp_if (b' := true) HF rfl (decide_eq_true hb5) ?_
                  refine wp_seq ?_
                  refine wc_text ?_
                  refine wc_assign HF nS rfl rfl rfl (fun a HF => ?_)
                  refine wc_end ?_
                  refine then_n ?_
                  refine wp_ret ?_
                  obtain rfl := Option.some.inj h
                  have h := retM hk2
                  obtain rfl := Option.some.inj h
                  have h := retL hk1
                  obtain rfl := Option.some.inj h
                  refine blk_r (then_r (then_r (blk_r (then_r (?_)))))
                  refine bp_ret HF (res_one rfl HF rfl) ?_
                  exact ⟨rfl, HT⟩
                · have h := (if_neg hb5).symm.trans h
                  refine wp_if (b' := false) HF rfl (decide_eq_false hb5) ?_
                  refine wp_skip ?_
                  refine blk_n ?_
                  exact then_n ⟨z6, (Option.some.inj h).symm, (HF.keep (HF.keep (HF.keep (HF.keep HF.nil rfl) rfl) rfl) rfl), HT⟩
          · rintro a w ⟨z4, rfl, HF, HT⟩
            have h := brkM1 h
            refine ?_
            refine wc_text ?_
            refine wc_move HF nS rfl rfl rfl (fun a HF => ?_)
            obtain ⟨hg6, h⟩ := grd h
            refine wc_bin HF nS rfl rfl (b_add hg6) rfl rfl (fun a HF => ?_)
            refine wc_assign HF nS rfl rfl rfl (fun a HF => ?_)
            refine wc_end ?_
            exact then_n ⟨k1, Nat.lt_succ_self k1, z4, z3 + 1, h, (HF.keep (HF.keep (HF.keep (HF.keep HF.nil rfl) rfl) rfl) rfl), HT⟩
        · have h := (if_neg hb2).symm.trans h
          refine wp_if (b' := false) HF rfl (decide_eq_false hb2) ?_
          refine wp_exit ?_
          refine then_x (then_x (?_))
          refine blk_x ?_
          exact then_n ⟨z2, (Option.some.inj h).symm, (HF.keep HF.nil rfl), HT⟩
    · rintro a w ⟨z1, rfl, HF, HT⟩
      have h := brkL1 h
      refine ?_
      refine wp_seq ?_
      refine wc_text ?_
      refine wc_move HF nS rfl rfl rfl (fun a HF => ?_)
      refine wc_bin HF nS rfl rfl b_eq rfl rfl (fun a HF => ?_)
      refine wc_assign HF nS rfl rfl rfl (fun a HF => ?_)
      refine wc_end ?_
      refine then_n ?_
      refine wp_ret ?_
      obtain rfl := Option.some.inj h
      refine bp_ret HF (res_one rfl HF rfl) ?_
      exact ⟨rfl, HT⟩

def m_spec_CodeOk_L0 (fuel : Nat) (x0 : List I4) : Nat → Int → Int → Int → Option (Lp Int Bool)
  | 0, _, _, _ => none
  | k1 + 1, z2, z3, z4 =>
    if z4 < (x0.length : Int) then
      (
        (at? x0 z4).bind fun e1 =>
        (m_spec_OpOk fuel e1.a e1.b e1.c e1.d).bind fun y1 =>
        if y1 = true then
          (
            if e1.a = 8 then
              if in64 (z2 + 1) then
                some (.brk (z2 + 1, z3))
              else none
            else
              if e1.a = 9 then
                if in64 (z2 - 1) then
                  some (.brk (z2 - 1, z3))
                else none
              else
                if e1.a = 7 then
                  (m_spec_l5Skip fuel x0 z4).bind fun y2 =>
                  if y2 = true then
                    some (.brk (z2, z3))
                  else
                    some (.ret false)
                else
                  if e1.a = 11 then
                    if in64 (z3 + 1) then
                      if 0 < z2 then
                        some (.ret false)
                      else
                        if 1 < (z3 + 1) then
                          some (.ret false)
                        else
                          some (.brk (z2, z3 + 1))
                    else none
                  else
                    some (.brk (z2, z3))).bind <| contM <| un2 fun z7 z8 =>
          if z7 < 0 then
            some (.ret false)
          else
            some (.brk (z7, z8))
        else
          some (.ret false)).bind <| contM <| un2 fun z5 z6 =>
      if in64 (z4 + 1) then
        m_spec_CodeOk_L0 fuel x0 k1 z5 z6 (z4 + 1)
      else none
    else
      some (.brk z2)

def m_spec_CodeOk (fuel : Nat) (x0 : List I4) : Option Bool :=
  if 24 < (x0.length : Int) then
    some false
  else
    (m_spec_CodeOk_L0 fuel x0 fuel 0 0 0).bind <| contL <| un1 fun z1 =>
    some (decide (z1 = 0))

set_option maxRecDepth 100000 in
set_option maxHeartbeats 4000000 in
theorem w_spec_CodeOk (fuel : Nat) {x0 : List I4} {a_x0 : Option Addr} {n_x0 c_x0 : Nat} {r0 : Bool} {w0 : World} (h : m_spec_CodeOk fuel x0 = some r0) (hr_x0 : RdT (fun b => ¬ False) w0 (rowT x0) (.slice a_x0 n_x0 c_x0)) :
    Calls Try.prog 38 #[.slice a_x0 n_x0 c_x0] w0 fun e w => e = .returned (.bool r0) ∧ St w0 (fun _ => False) w [] := by
  obtain rfl := hr_x0.neq
  have HT : St w0 (fun _ => False) w0 [] := St.init0
  rw [m_spec_CodeOk] at h
  refine calls_fr (n := 54) [.slice a_x0 x0.length c_x0] Try.func38 rfl rfl rfl (fun a HF => ?_)
  have HT : St w0 (fun _ => False) w0 [] := HT
  refine wp_seq ?_
  refine wc_text ?_
  refine wc_assign HF nS rfl rfl rfl (fun a HF => ?_)
  refine wc_end ?_
  refine then_n ?_
  refine wp_seq ?_
  refine wp_seq ?_
  refine wc_text ?_
  refine wc_move HF nS rfl rfl rfl (fun a HF => ?_)
  refine wc_lenR HF nS Try.underlying43 rfl rfl rfl (fun a HF => ?_)
  refine wc_bin HF nS rfl rfl b_gt rfl rfl (fun a HF => ?_)
  refine wc_end ?_
  refine then_n ?_
  by_cases hb1 : 24 < (x0.length : Int)
  · have h := (if_pos hb1).symm.trans h
    refine wp_if (b' := true) HF rfl (decide_eq_true hb1) ?_
    refine wp_seq ?_
    refine wc_text ?_
    refine wc_assign HF nS rfl rfl rfl (fun a HF => ?_)
    refine wc_end ?_
    refine then_n ?_
    refine wp_ret ?_
    obtain rfl := Option.some.inj h
    refine then_r (?_)
    refine bp_ret HF (res_one rfl HF rfl) ?_
    exact ⟨rfl, HT⟩
  · have h := (if_neg hb1).symm.trans h
    refine wp_if (b' := false) HF rfl (decide_eq_false hb1) ?_
    refine wp_skip ?_
    refine then_n ?_
    refine wp_seq ?_
    refine wc_text ?_
    refine wc_assign HF nS rfl rfl rfl (fun a HF => ?_)
    refine wc_end ?_
    refine then_n ?_
    refine wp_seq ?_
    refine wc_text ?_
    refine wc_assign HF nS rfl rfl rfl (fun a HF => ?_)
    refine wc_end ?_
    refine then_n ?_
    obtain ⟨q1, hx1, h⟩ := obs h
    refine wp_cut (fun a w => ∃ z1, q1 = .brk z1 ∧ Fr a 54 [(3, .int .i64 z1)] ∧ St w0 (fun _ => False) w []) ?_ ?_
    · have hk1 := h
      have h := hx1
      refine wp_seq ?_
      refine wc_text ?_
      refine wc_assign HF nS rfl rfl rfl (fun a HF => ?_)
      refine wc_end ?_
      refine then_n ?_
      refine wp_block ?_
      refine wp_loopN (fun k1 a w => ∃ z2 z3 z4, m_spec_CodeOk_L0 fuel x0 k1 z2 z3 z4 = some q1 ∧ Fr a 54 [(0, .slice a_x0 x0.length c_x0), (3, .int .i64 z2), (4, .int .i64 z3), (5, .int .i64 z4)] ∧ St w0 (fun _ => False) w []) fuel ⟨0, 0, 0, h, (HF.keep (HF.keep (HF.keep (HF.keep HF.nil rfl) rfl) rfl) rfl), HT⟩ ?_
      rintro k1 a w ⟨z2, z3, z4, h, HF, HT⟩
      cases k1 with
      | zero => cases h
      | succ k1 =>
        rw [m_spec_CodeOk_L0] at h
        refine ?_
        refine wp_seq ?_
        refine wp_seq ?_
        refine wc_text ?_
        refine wc_move HF nS rfl rfl rfl (fun a HF => ?_)
        refine wc_move HF nS rfl rfl rfl (fun a HF => ?_)
        refine wc_lenR HF nS Try.underlying43 rfl rfl rfl (fun a HF => ?_)
        refine wc_bin HF nS rfl rfl b_lt rfl rfl (fun a HF => ?_)
        refine wc_end ?_
        refine then_n ?_
        by_cases hb2 : z4 < (x0.length : Int)
        · have h := (if_pos hb2).symm.trans h
          refine wp_if (b' := true) HF rfl (decide_eq_true hb2) ?_
          refine wp_skip ?_
          refine then_n ?_
          obtain ⟨q2, hx2, h⟩ := obs h
          refine wp_cut (fun a w => ∃ z5 z6, q2 = .brk (z5, z6) ∧ Fr a 54 [(0, .slice a_x0 x0.length c_x0), (3, .int .i64 z5), (4, .int .i64 z6), (5, .int .i64 z4)] ∧ St w0 (fun _ => False) w []) ?_ ?_
          · have hk2 := h
            have h := hx2
            refine wp_block ?_
            refine wp_seq ?_
            refine wp_seq ?_
            refine wc_text ?_
            refine wc_move HF nS rfl rfl rfl (fun a HF => ?_)
            refine wc_move HF nS rfl rfl rfl (fun a HF => ?_)
            obtain ⟨e1, hx3, h⟩ := obs h
            obtain ⟨b1, o1, ha1⟩ := (HT.ro hr_x0).any.addr hx3
            refine wc_ixaddr HF nS el43 rfl ha1 ((HT.ro hr_x0).any).neq rfl hx3 rfl rfl (fun a HF => ?_)
            have hc1 := (HT.ro hr_x0).any.flatAt ha1 hx3
            refine wc_loadA (vs := [.int .i64 e1.a, .int .i64 e1.b, .int .i64 e1.c, .int .i64 e1.d]) HF rfl ag25 rfl (hc1.part 0 4) rfl rfl (fun a HF => ?_)
            obtain ⟨y1, hx4, h⟩ := obs h
            refine wc_call HF cf15 rfl (w_spec_OpOk fuel hx4) rfl rfl ?_
            rintro e w ⟨rfl, hE⟩
            have hb := hE.below
            have HT := HT.pure hE
            have HT : St w0 (fun _ => False) w [] := HT
            refine ⟨_, rfl, nS, fun a HF => ?_⟩
            refine wc_not HF nS rfl rfl rfl (fun a HF => ?_)
            refine wc_end ?_
            refine then_n ?_
            by_cases hb3 : y1 = true
            · have h := (if_pos hb3).symm.trans h
              refine wp_if (b' := false) HF rfl (notT hb3) ?_
              refine wp_skip ?_
              refine then_n ?_
              obtain ⟨q3, hx5, h⟩ := obs h
              refine wp_cut (fun a w => ∃ z7 z8, q3 = .brk (z7, z8) ∧ Fr a 54 [(0, .slice a_x0 x0.length c_x0), (3, .int .i64 z7), (4, .int .i64 z8), (5, .int .i64 z4)] ∧ St w0 (fun _ => False) w []) ?_ ?_
              · have hk3 := h
                have h := hx5
                refine wp_seq ?_
                refine wc_text ?_
                refine wc_move HF nS rfl rfl rfl (fun a HF => ?_)
                refine wc_move HF nS rfl rfl rfl (fun a HF => ?_)
                refine wc_ixaddr HF nS el43 rfl ha1 ((HT.ro hr_x0).any).neq rfl hx3 rfl rfl (fun a HF => ?_)
                refine wc_faddr HF nS rfl fl25_0 rfl rfl (fun a HF => ?_)
                have hc2 := (HT.ro hr_x0).any.flatAt ha1 hx3
                refine wc_load HF rfl sc3 (hc2.get 0 rfl) rfl rfl (fun a HF => ?_)
                refine wc_end ?_
                refine then_n ?_
                refine wp_block ?_
                refine wp_seq ?_
                refine wc_text ?_
                refine wc_bin HF nS rfl rfl b_eq rfl rfl (fun a HF => ?_)
                refine wc_assign HF nS rfl rfl rfl (fun a HF => ?_)
                refine wc_end ?_
                refine then_n ?_
                by_cases hb4 : e1.a = 8
                · have h := (if_pos hb4).symm.trans h
                  refine wp_if (b' := true) HF rfl (decide_eq_true hb4) ?_
                  refine wc_text ?_
                  refine wc_move HF nS rfl rfl rfl (fun a HF => ?_)
                  obtain ⟨hg1, h⟩ := grd h
                  refine wc_bin HF nS rfl rfl (b_add hg1) rfl rfl (fun a HF => ?_)
                  refine wc_assign HF nS rfl rfl rfl (fun a HF => ?_)
                  refine wc_end ?_
                  refine blk_n ?_
                  exact then_n ⟨z2 + 1, z3, (Option.some.inj h).symm, (HF.keep (HF.keep (HF.keep (HF.keep HF.nil rfl) rfl) rfl) rfl), HT⟩
                · have h := (if_neg hb4).symm.trans h
                  refine wp_if (b' := false) HF rfl (decide_eq_false hb4) ?_
                  refine wp_seq ?_
                  refine wc_text ?_
                  refine wc_bin HF nS rfl rfl b_eq rfl rfl (fun a HF => ?_)
                  refine wc_assign HF nS rfl rfl rfl (fun a HF => ?_)
                  refine wc_end ?_
                  refine then_n ?_
                  by_cases hb5 : e1.a = 9
                  · have h := (if_pos hb5).symm.trans h
                    refine wp_if (b' := true) HF rfl (decide_eq_true hb5) ?_
                    refine wc_text ?_
                    refine wc_move HF nS rfl rfl rfl (fun a HF => ?_)
                    obtain ⟨hg2, h⟩ := grd h
                    refine wc_bin HF nS rfl rfl (b_sub hg2) rfl rfl (fun a HF => ?_)
                    refine wc_assign HF nS rfl rfl rfl (fun a HF => ?_)
                    refine wc_end ?_
                    refine blk_n ?_
                    exact then_n ⟨z2 - 1, z3, (Option.some.inj h).symm, (HF.keep (HF.keep (HF.keep (HF.keep HF.nil rfl) rfl) rfl) rfl), HT⟩
                  · have h := (if_neg hb5).symm.trans h
                    refine wp_if (b' := false) HF rfl (decide_eq_false hb5) ?_
                    refine wp_seq ?_
                    refine wc_text ?_
                    refine wc_bin HF nS rfl rfl b_eq rfl rfl (fun a HF => ?_)
                    refine wc_assign HF nS rfl rfl rfl (fun a HF => ?_)
                    refine wc_end ?_
                    refine then_n ?_
                    by_cases hb6 : e1.a = 7
                    · have h := (if_pos hb6).symm.trans h
                      refine wp_if (b' := true) HF rfl (decide_eq_true hb6) ?_
                      refine wp_seq ?_
                      refine wc_text ?_
                      refine wc_move HF nS rfl rfl rfl (fun a HF => ?_)
                      refine wc_move HF nS rfl rfl rfl (fun a HF => ?_)
                      obtain ⟨y2, hx6, h⟩ := obs h
                      refine wc_call HF cf72 rfl (w_spec_l5Skip fuel hx6 (HT.ro hr_x0).any) rfl rfl ?_
                      rintro e w ⟨rfl, hE⟩
                      have hb := hE.below
                      have HT := HT.pure hE
                      have HT : St w0 (fun _ => False) w [] := HT
                      refine ⟨_, rfl, nS, fun a HF => ?_⟩
                      refine wc_not HF nS rfl rfl rfl (fun a HF => ?_)
                      refine wc_end ?_
                      refine then_n ?_
                      by_cases hb7 : y2 = true
                      · have h := (if_pos hb7).symm.trans h
                        refine wp_if (b' := false) HF rfl (notT hb7) ?_
                        refine wp_skip ?_
                        refine blk_n ?_
                        exact then_n ⟨z2, z3, (Option.some.inj h).symm, (HF.keep (HF.keep (HF.keep (HF.keep HF.nil rfl) rfl) rfl) rfl), HT⟩
                      · have h := (if_neg hb7).symm.trans h
                        refine wp_if (b' := true) HF rfl (notF (Bool.eq_false_iff.2 hb7)) ?_
                        refine wp_seq ?_
                        refine wc_text ?_
                        refine wc_assign HF nS rfl rfl rfl (fun a HF => ?_)
                        refine wc_end ?_
                        refine then_n ?_
                        refine wp_ret ?_
                        obtain rfl := Option.some.inj h
                        have h := retM hk3
                        obtain rfl := Option.some.inj h
                        have h := retM hk2
                        obtain rfl := Option.some.inj h
                        have h := retL hk1
                        obtain rfl := Option.some.inj h
                        refine blk_r (then_r (blk_r (then_r (then_r (blk_r (then_r (?_)))))))
                        refine bp_ret HF (res_one rfl HF rfl) ?_
                        exact ⟨rfl, HT⟩
                    · have h := (if_neg hb6).symm.trans h
                      refine wp_if (b' := false) HF rfl (decide_eq_false hb6) ?_
                      refine wp_seq ?_
                      refine wc_text ?_
                      refine wc_bin HF nS rfl rfl b_eq rfl rfl (fun a HF => ?_)
                      refine wc_assign HF nS rfl rfl rfl (fun a HF => ?_)
                      refine wc_end ?_
                      refine then_n ?_
                      by_cases hb8 : e1.a = 11
                      · have h := (if_pos hb8).symm.trans h
                        refine wp_if (b' := true) HF rfl (decide_eq_true hb8) ?_
                        refine wp_seq ?_
                        refine wc_text ?_
                        refine wc_move HF nS rfl rfl rfl (fun a HF => ?_)
                        obtain ⟨hg3, h⟩ := grd h
                        refine wc_bin HF nS rfl rfl (b_add hg3) rfl rfl (fun a HF => ?_)
                        refine wc_assign HF nS rfl rfl rfl (fun a HF => ?_)
                        refine wc_end ?_
                        refine then_n ?_
                        refine wp_seq ?_
                        refine wc_text ?_
                        refine wc_move HF nS rfl rfl rfl (fun a HF => ?_)
                        refine wc_bin HF nS rfl rfl b_gt rfl rfl (fun a HF => ?_)
                        refine wc_move HF nS rfl rfl rfl (fun a HF => ?_)
                        by_cases hb9 : 0 < z2
                        · have h := (if_pos hb9).symm.trans h
                          refine wc_skip HF nS (HF.wn rfl rfl rfl rfl (decide_eq_true hb9)) rfl (fun a HF => ?_)
                          refine wc_skip HF nS (HF.wn rfl rfl rfl rfl (decide_eq_true hb9)) rfl (fun a HF => ?_)
                          refine wc_pick (b := true) HF nS rfl (decide_eq_true hb9) rfl rfl rfl (fun a HF => ?_)
                          refine wc_end ?_
                          refine then_n ?_
                          refine wp_if (b' := true) HF rfl rfl ?_
                          refine wp_seq ?_
                          refine wc_text ?_
                          refine wc_assign HF nS rfl rfl rfl (fun a HF => ?_)
                          refine wc_end ?_
                          refine then_n ?_
                          refine wp_ret ?_
                          obtain rfl := Option.some.inj h
                          have h := retM hk3
                          obtain rfl := Option.some.inj h
                          have h := retM hk2
                          obtain rfl := Option.some.inj h
                          have h := retL hk1
                          obtain rfl := Option.some.inj h
                          refine blk_r (then_r (blk_r (then_r (then_r (blk_r (then_r (?_)))))))
                          refine bp_ret HF (res_one rfl HF rfl) ?_
                          exact ⟨rfl, HT⟩
                        · have h := (if_neg hb9).symm.trans h
                          refine wc_move HF nS rfl (HF.wy rfl rfl rfl rfl (decide_eq_false hb9)) rfl (fun a HF => ?_)
                          refine wc_bin HF nS rfl rfl b_gt (HF.wy rfl rfl rfl rfl (decide_eq_false hb9)) rfl (fun a HF => ?_)
                          refine wc_pick (b := false) HF nS rfl (decide_eq_false hb9) rfl rfl rfl (fun a HF => ?_)
                          refine wc_end ?_
                          refine then_n ?_
                          by_cases hb10 : 1 < (z3 + 1)
                          · have h := (if_pos hb10).symm.trans h
                            refine wp_if (b' := true) HF rfl (decide_eq_true hb10) ?_
                            refine wp_seq ?_
                            refine wc_text ?_
                            refine wc_assign HF nS rfl rfl rfl (fun a HF => ?_)
                            refine wc_end ?_
                            refine then_n ?_
                            refine wp_ret ?_
                            obtain rfl := Option.some.inj h
                            have h := retM hk3
                            obtain rfl := Option.some.inj h
                            have h := retM hk2
                            obtain rfl := Option.some.inj h
                            have h := retL hk1
                            obtain rfl := Option.some.inj h
                            refine blk_r (then_r (blk_r (then_r (then_r (blk_r (then_r (?_)))))))
                            refine bp_ret HF (res_one rfl HF rfl) ?_
                            exact ⟨rfl, HT⟩
                          · have h := (if_neg hb10).symm.trans h
                            refine wp_if (b' := false) HF rfl (decide_eq_false hb10) ?_
                            refine wp_skip ?_
                            refine blk_n ?_
                            exact then_n ⟨z2, z3 + 1, (Option.some.inj h).symm, (HF.keep (HF.keep (HF.keep (HF.keep HF.nil rfl) rfl) rfl) rfl), HT⟩
                      · have h := (if_neg hb8).symm.trans h
                        refine wp_if (b' := false) HF rfl (decide_eq_false hb8) ?_
                        refine wp_skip ?_
                        refine blk_n ?_
                        exact then_n ⟨z2, z3, (Option.some.inj h).symm, (HF.keep (HF.keep (HF.keep (HF.keep HF.nil rfl) rfl) rfl) rfl), HT⟩
              · rintro a w ⟨z7, z8, rfl, HF, HT⟩
                have h := brkM2 h
                refine ?_
                refine wp_seq ?_
                refine wc_text ?_
                refine wc_move HF nS rfl rfl rfl (fun a HF => ?_)
                refine wc_bin HF nS rfl rfl b_lt rfl rfl (fun a HF => ?_)
                refine wc_end ?_
                refine then_n ?_
                by_cases hb11 : z7 < 0
                · have h := (if_pos hb11).symm.trans h
                  refine wp_if (b' := true) HF rfl (decide_eq_true hb11) ?_
                  refine wp_seq ?_
                  refine wc_text ?_
                  refine wc_assign HF nS rfl rfl rfl (fun a HF => ?_)
                  refine wc_end ?_
                  refine then_n ?_
                  refine wp_ret ?_
                  obtain rfl := Option.some.inj h
                  have h := retM hk2
                  obtain rfl := Option.some.inj h
                  have h := retL hk1
                  obtain rfl := Option.some.inj h
                  refine blk_r (then_r (then_r (blk_r (then_r (?_)))))
                  refine bp_ret HF (res_one rfl HF rfl) ?_
                  exact ⟨rfl, HT⟩
                · have h := (if_neg hb11).symm.trans h
                  refine wp_if (b' := false) HF rfl (decide_eq_false hb11) ?_
                  refine wp_skip ?_
                  refine blk_n ?_
                  exact then_n ⟨z7, z8, (Option.some.inj h).symm, (HF.keep (HF.keep (HF.keep (HF.keep HF.nil rfl) rfl) rfl) rfl), HT⟩
            · have h := (if_neg hb3).symm.trans h
              refine wp_if (b' := true) HF rfl (notF (Bool.eq_false_iff.2 hb3)) ?_
              refine wp_seq ?_
              refine wc_text ?_
              refine wc_assign HF nS rfl rfl rfl (fun a HF => ?_)
              refine wc_end ?_
              refine then_n ?_
              refine wp_ret ?_
              obtain rfl := Option.some.inj h
              have h := retM hk2
              obtain rfl := Option.some.inj h
              have h := retL hk1
              obtain rfl := Option.some.inj h
              refine then_r (blk_r (then_r (then_r (blk_r (then_r (?_))))))
              refine bp_ret HF (res_one rfl HF rfl) ?_
              exact ⟨rfl, HT⟩
          · rintro a w ⟨z5, z6, rfl, HF, HT⟩
            have h := brkM2 h
            refine ?_
            refine wc_text ?_
            refine wc_move HF nS rfl rfl rfl (fun a HF => ?_)
            obtain ⟨hg4, h⟩ := grd h
            refine wc_bin HF nS rfl rfl (b_add hg4) rfl rfl (fun a HF => ?_)
            refine wc_assign HF nS rfl rfl rfl (fun a HF => ?_)
            refine wc_end ?_
            exact then_n ⟨k1, Nat.lt_succ_self k1, z5, z6, z4 + 1, h, (HF.keep (HF.keep (HF.keep (HF.keep HF.nil rfl) rfl) rfl) rfl), HT⟩
        · have h := (if_neg hb2).symm.trans h
          refine wp_if (b' := false) HF rfl (decide_eq_false hb2) ?_
          refine wp_exit ?_
          refine then_x (then_x (?_))
          refine blk_x ?_
          exact then_n ⟨z2, (Option.some.inj h).symm, (HF.keep HF.nil rfl), HT⟩
    · rintro a w ⟨z1, rfl, HF, HT⟩
      have h := brkL1 h
      refine ?_
      refine wp_seq ?_
      refine wc_text ?_
      refine wc_move HF nS rfl rfl rfl (fun a HF => ?_)
      refine wc_bin HF nS rfl rfl b_eq rfl rfl (fun a HF => ?_)
      refine wc_assign HF nS rfl rfl rfl (fun a HF => ?_)
      refine wc_end ?_
      refine then_n ?_
      refine wp_ret ?_
      obtain rfl := Option.some.inj h
      refine bp_ret HF (res_one rfl HF rfl) ?_
      exact ⟨rfl, HT⟩

def m_laws_FnExactCodeOk (fuel : Nat) (x0 : List I4) : Option Bool :=
  (m_laws_szOpS fuel x0 1048576).bind fun y1 =>
  if y1 < 0 then
    some true
  else
    (m_laws_toOpS fuel x0).bind fun y2 =>
    (m_spec_CodeOk fuel y2).bind fun y3 =>
    (m_laws_toOpS fuel x0).bind fun y4 =>
    (m_impl_CodeOk fuel y4).bind fun y5 =>
    if (y5 == y3) = true then
      (m_laws_toOpS fuel x0).bind fun y6 =>
      (m_laws_eqOpS fuel y4 y6).bind fun y7 =>
      if y7 = true then
        some true
      else
        some false
    else
      some false

set_option maxRecDepth 100000 in
set_option maxHeartbeats 4000000 in
theorem w_laws_FnExactCodeOk (fuel : Nat) {x0 : List I4} {a_x0 : Option Addr} {n_x0 c_x0 : Nat} {r0 : Bool} {w0 : World} (h : m_laws_FnExactCodeOk fuel x0 = some r0) (hr_x0 : RdT (fun b => ¬ False) w0 (rowT x0) (.slice a_x0 n_x0 c_x0)) :
    Calls Try.prog 10 #[.slice a_x0 n_x0 c_x0] w0 fun e w => e = .returned (.bool r0) ∧ St w0 (fun _ => False) w [] := by
  obtain rfl := hr_x0.neq
  have HT : St w0 (fun _ => False) w0 [] := St.init0
  rw [m_laws_FnExactCodeOk] at h
  refine calls_fr (n := 27) [.slice a_x0 x0.length c_x0] Try.func10 rfl rfl rfl (fun a HF => ?_)
  have HT : St w0 (fun _ => False) w0 [] := HT
  refine wp_seq ?_
  refine wc_text ?_
  refine wc_assign HF nS rfl rfl rfl (fun a HF => ?_)
  refine wc_end ?_
  refine then_n ?_
  refine wp_seq ?_
  refine wc_text ?_
  refine wc_assign HF nS rfl rfl rfl (fun a HF => ?_)
  refine wc_end ?_
  refine then_n ?_
  refine wp_seq ?_
  refine wc_text ?_
  refine wc_move HF nS rfl rfl rfl (fun a HF => ?_)
  refine wc_move HF nS rfl rfl rfl (fun a HF => ?_)
  obtain ⟨y1, hx1, h⟩ := obs h
  refine wc_call HF cf29 rfl (w_laws_szOpS fuel hx1 (HT.ro hr_x0).any) rfl rfl ?_
  rintro e w ⟨rfl, hE⟩
  have hb := hE.below
  have HT := HT.pure hE
  have HT : St w0 (fun _ => False) w [] := HT
  refine ⟨_, rfl, nS, fun a HF => ?_⟩
  refine wc_assign HF nS rfl rfl rfl (fun a HF => ?_)
  refine wc_end ?_
  refine then_n ?_
  refine wp_seq ?_
  refine wp_seq ?_
  refine wc_text ?_
  refine wc_move HF nS rfl rfl rfl (fun a HF => ?_)
  refine wc_bin HF nS rfl rfl b_lt rfl rfl (fun a HF => ?_)
  refine wc_end ?_
  refine then_n ?_
  by_cases hb1 : y1 < 0
  · have h := (if_pos hb1).symm.trans h
    refine wp_if (b' := true) HF rfl (decide_eq_true hb1) ?_
    refine wp_seq ?_
    refine wc_text ?_
    refine wc_assign HF nS rfl rfl rfl (fun a HF => ?_)
    refine wc_end ?_
    refine then_n ?_
    refine wp_ret ?_
    obtain rfl := Option.some.inj h
    refine then_r (?_)
    refine bp_ret HF (res_one rfl HF rfl) ?_
    exact ⟨rfl, HT⟩
  · have h := (if_neg hb1).symm.trans h
    refine wp_if (b' := false) HF rfl (decide_eq_false hb1) ?_
    refine wp_skip ?_
    refine then_n ?_
    refine wp_seq ?_
    refine wc_text ?_
    refine wc_move HF nS rfl rfl rfl (fun a HF => ?_)
    obtain ⟨y2, hx2, h⟩ := obs h
    refine wc_call HF cf31 rfl (w_laws_toOpS fuel hx2 (HT.ro hr_x0).any) rfl rfl ?_
    rintro e w ⟨a1, n1, c1, rfl, hE⟩
    have hb := hE.below
    have HT := HT.pure hE
    obtain rfl := (HT.rdAt 0 rfl).neq
    have HT : St w0 (fun _ => False) w [Own 25 (rowT y2) (.slice a1 y2.length c1)] := HT
    refine ⟨_, rfl, nS, fun a HF => ?_⟩
    obtain ⟨y3, hx3, h⟩ := obs h
    refine wc_call HF cf38 rfl (w_spec_CodeOk fuel hx3 (HT.rdAt 0 rfl)) rfl rfl ?_
    rintro e w ⟨rfl, hE⟩
    have hb := hE.below
    have HT := HT.pure hE
    have HT : St w0 (fun _ => False) w [Own 25 (rowT y2) (.slice a1 y2.length c1)] := HT
    refine ⟨_, rfl, nS, fun a HF => ?_⟩
    refine wc_assign HF nS rfl rfl rfl (fun a HF => ?_)
    refine wc_end ?_
    refine then_n ?_
    refine wp_seq ?_
    refine wc_text ?_
    refine wc_move HF nS rfl rfl rfl (fun a HF => ?_)
    obtain ⟨y4, hx4, h⟩ := obs h
    refine wc_call HF cf31 rfl (w_laws_toOpS fuel hx4 (HT.ro hr_x0).any) rfl rfl ?_
    rintro e w ⟨a2, n2, c2, rfl, hE⟩
    have hb := hE.below
    have HT := HT.pure hE
    obtain rfl := (HT.rdAt 0 rfl).neq
    have HT : St w0 (fun _ => False) w [Own 25 (rowT y4) (.slice a2 y4.length c2), Own 25 (rowT y2) (.slice a1 y2.length c1)] := HT
    refine ⟨_, rfl, nS, fun a HF => ?_⟩
    refine wc_assign HF nS rfl rfl rfl (fun a HF => ?_)
    refine wc_end ?_
    refine then_n ?_
    refine wp_seq ?_
    refine wc_text ?_
    refine wc_move HF nS rfl rfl rfl (fun a HF => ?_)
    obtain ⟨y5, hx5, h⟩ := obs h
    refine wc_call HF cf39 rfl (w_impl_CodeOk fuel hx5 (HT.rdAt 0 rfl)) rfl rfl ?_
    rintro e w ⟨rfl, hE⟩
    have hb := hE.below
    have HT := HT.pure hE
    have HT : St w0 (fun _ => False) w [Own 25 (rowT y4) (.slice a2 y4.length c2), Own 25 (rowT y2) (.slice a1 y2.length c1)] := HT
    refine ⟨_, rfl, nS, fun a HF => ?_⟩
    refine wc_assign HF nS rfl rfl rfl (fun a HF => ?_)
    refine wc_end ?_
    refine then_n ?_
    refine wp_seq ?_
    refine wp_seq ?_
    refine wc_text ?_
    refine wc_move HF nS rfl rfl rfl (fun a HF => ?_)
    refine wc_move HF nS rfl rfl rfl (fun a HF => ?_)
    refine wc_bin HF nS rfl rfl (b_bne Try.underlying4) rfl rfl (fun a HF => ?_)
    refine wc_end ?_
    refine then_n ?_
    by_cases hb2 : (y5 == y3) = true
    · have h := (if_pos hb2).symm.trans h
      refine wp_if (b' := false) HF rfl (notT hb2) ?_
      refine wp_skip ?_
      refine then_n ?_
      refine wp_seq ?_
      refine wp_seq ?_
      refine wc_text ?_
      refine wc_move HF nS rfl rfl rfl (fun a HF => ?_)
      refine wc_move HF nS rfl rfl rfl (fun a HF => ?_)
      obtain ⟨y6, hx6, h⟩ := obs h
      refine wc_call HF cf31 rfl (w_laws_toOpS fuel hx6 (HT.ro hr_x0).any) rfl rfl ?_
      rintro e w ⟨a3, n3, c3, rfl, hE⟩
      have hb := hE.below
      have HT := HT.pure hE
      obtain rfl := (HT.rdAt 0 rfl).neq
      have HT : St w0 (fun _ => False) w [Own 25 (rowT y6) (.slice a3 y6.length c3), Own 25 (rowT y4) (.slice a2 y4.length c2), Own 25 (rowT y2) (.slice a1 y2.length c1)] := HT
      refine ⟨_, rfl, nS, fun a HF => ?_⟩
      obtain ⟨y7, hx7, h⟩ := obs h
      refine wc_call HF cf33 rfl (w_laws_eqOpS fuel hx7 (HT.rdAt 1 rfl) (HT.rdAt 0 rfl)) rfl rfl ?_
      rintro e w ⟨rfl, hE⟩
      have hb := hE.below
      have HT := HT.pure hE
      have HT : St w0 (fun _ => False) w [Own 25 (rowT y6) (.slice a3 y6.length c3), Own 25 (rowT y4) (.slice a2 y4.length c2), Own 25 (rowT y2) (.slice a1 y2.length c1)] := HT
      refine ⟨_, rfl, nS, fun a HF => ?_⟩
      refine wc_not HF nS rfl rfl rfl (fun a HF => ?_)
      refine wc_end ?_
      refine then_n ?_
      by_cases hb3 : y7 = true
      · have h := (if_pos hb3).symm.trans h
        refine wp_if (b' := false) HF rfl (notT hb3) ?_
        refine wp_skip ?_
        refine then_n ?_
        refine wp_seq ?_
        refine wc_text ?_
        refine wc_assign HF nS rfl rfl rfl (fun a HF => ?_)
        refine wc_end ?_
        refine then_n ?_
        refine wp_ret ?_
        obtain rfl := Option.some.inj h
        refine bp_ret HF (res_one rfl HF rfl) ?_
        have HT : St w0 (fun _ => False) w [] := HT.take 0
        exact ⟨rfl, HT⟩
      · have h := (if_neg hb3).symm.trans h
        refine wp_if (b' := true) HF rfl (notF (Bool.eq_false_iff.2 hb3)) ?_
        refine wp_seq ?_
        refine wc_text ?_
        refine wc_assign HF nS rfl rfl rfl (fun a HF => ?_)
        refine wc_end ?_
        refine then_n ?_
        refine wp_ret ?_
        obtain rfl := Option.some.inj h
        refine then_r (?_)
        refine bp_ret HF (res_one rfl HF rfl) ?_
        have HT : St w0 (fun _ => False) w [] := HT.take 0
        exact ⟨rfl, HT⟩
    · have h := (if_neg hb2).symm.trans h
      refine wp_if (b' := true) HF rfl (notF (Bool.eq_false_iff.2 hb2)) ?_
      refine wp_seq ?_
      refine wc_text ?_
      refine wc_assign HF nS rfl rfl rfl (fun a HF => ?_)
      refine wc_end ?_
      refine then_n ?_
      refine wp_ret ?_
      obtain rfl := Option.some.inj h
      refine then_r (?_)
      refine bp_ret HF (res_one rfl HF rfl) ?_
      have HT : St w0 (fun _ => False) w [] := HT.take 0
      exact ⟨rfl, HT⟩

def m_impl_areValues_L0 (fuel : Nat) (x0 : List Int) : Nat → Int → Option (Lp Unit Bool)
  | 0, _ => none
  | k1 + 1, z1 =>
    if z1 < (x0.length : Int) then
      (at? x0 z1).bind fun e1 =>
      (m_impl_isValue fuel e1).bind fun y1 =>
      if y1 = true then
        if in64 (z1 + 1) then
          m_impl_areValues_L0 fuel x0 k1 (z1 + 1)
        else none
      else
        some (.ret false)
    else
      some (.brk ())

def m_impl_areValues (fuel : Nat) (x0 : List Int) (x1 : Int) : Option Bool :=
  (m_impl_areValues_L0 fuel x0 fuel 0).bind <| contL <| un1 fun _ =>
  some (decide ((x0.length : Int) = x1))

set_option maxRecDepth 100000 in
set_option maxHeartbeats 4000000 in
theorem w_impl_areValues (fuel : Nat) {x0 : List Int} {x1 : Int} {a_x0 : Option Addr} {n_x0 c_x0 : Nat} {r0 : Bool} {w0 : World} (h : m_impl_areValues fuel x0 x1 = some r0) (hr_x0 : RdT (fun b => ¬ False) w0 (rowT x0) (.slice a_x0 n_x0 c_x0)) :
    Calls Try.prog 61 #[.slice a_x0 n_x0 c_x0, .int .i64 x1] w0 fun e w => e = .returned (.bool r0) ∧ St w0 (fun _ => False) w [] := by
  obtain rfl := hr_x0.neq
  have HT : St w0 (fun _ => False) w0 [] := St.init0
  rw [m_impl_areValues] at h
  refine calls_fr (n := 21) [.slice a_x0 x0.length c_x0, .int .i64 x1] Try.func61 rfl rfl rfl (fun a HF => ?_)
  have HT : St w0 (fun _ => False) w0 [] := HT
  refine wp_seq ?_
  refine wc_text ?_
  refine wc_assign HF nS rfl rfl rfl (fun a HF => ?_)
  refine wc_end ?_
  refine then_n ?_
  obtain ⟨q1, hx1, h⟩ := obs h
  refine wp_cut (fun a w => q1 = .brk () ∧ Fr a 21 [(0, .slice a_x0 x0.length c_x0), (1, .int .i64 x1)] ∧ St w0 (fun _ => False) w []) ?_ ?_
  · have hk1 := h
    have h := hx1
    refine wp_seq ?_
    refine wc_text ?_
    refine wc_move HF nS rfl rfl rfl (fun a HF => ?_)
    refine wc_lenR HF nS Try.underlying29 rfl rfl rfl (fun a HF => ?_)
    refine wc_move HF nS rfl rfl rfl (fun a HF => ?_)
    refine wc_end ?_
    refine then_n ?_
    refine wp_block ?_
    refine wp_loopN (fun k1 a w => ∃ z1, m_impl_areValues_L0 fuel x0 k1 z1 = some q1 ∧ Fr a 21 [(0, .slice a_x0 x0.length c_x0), (1, .int .i64 x1), (7, .slice a_x0 x0.length c_x0), (8, .int .i64 (x0.length : Int)), (9, .int .i64 z1)] ∧ St w0 (fun _ => False) w []) fuel ⟨0, h, (HF.keep (HF.keep (HF.keep (HF.keep (HF.keep HF.nil rfl) rfl) rfl) rfl) rfl), HT⟩ ?_
    rintro k1 a w ⟨z1, h, HF, HT⟩
    cases k1 with
    | zero => cases h
    | succ k1 =>
      rw [m_impl_areValues_L0] at h
      refine ?_
      refine wp_seq ?_
      refine wc_text ?_
      refine wc_bin HF nS rfl rfl b_lt rfl rfl (fun a HF => ?_)
      refine wc_end ?_
      refine then_n ?_
      refine wp_seq ?_
      by_cases hb1 : z1 < (x0.length : Int)
      · have h := (if_pos hb1).symm.trans h
        refine wp_if (b' := true) HF rfl (decide_eq_true hb1) ?_
        refine wp_skip ?_
        refine then_n ?_
        refine wp_seq ?_
        refine wp_block ?_
        refine wp_seq ?_
        refine wc_text ?_
        obtain ⟨e1, hx2, h⟩ := obs h
        obtain ⟨b1, o1, ha1⟩ := (HT.ro hr_x0).any.addr hx2
        refine wc_ixaddr HF nS el29 rfl ha1 ((HT.ro hr_x0).any).neq rfl hx2 rfl rfl (fun a HF => ?_)
        have hc1 := (HT.ro hr_x0).any.flatAt ha1 hx2
        refine wc_load HF rfl sc3 (hc1.get 0 rfl) rfl rfl (fun a HF => ?_)
        refine wc_assign HF nS rfl rfl rfl (fun a HF => ?_)
        refine wc_end ?_
        refine then_n ?_
        refine wp_seq ?_
        refine wc_text ?_
        refine wc_move HF nS rfl rfl rfl (fun a HF => ?_)
        obtain ⟨y1, hx3, h⟩ := obs h
        refine wc_call HF cf55 rfl (w_impl_isValue fuel hx3) rfl rfl ?_
        rintro e w ⟨rfl, hE⟩
        have hb := hE.below
        have HT := HT.pure hE
        have HT : St w0 (fun _ => False) w [] := HT
        refine ⟨_, rfl, nS, fun a HF => ?_⟩
        refine wc_not HF nS rfl rfl rfl (fun a HF => ?_)
        refine wc_end ?_
        refine then_n ?_
        by_cases hb2 : y1 = true
        · have h := (if_pos hb2).symm.trans h
          refine wp_if (b' := false) HF rfl (notT hb2) ?_
          refine wp_skip ?_
          refine blk_n ?_
          refine then_n ?_
          refine wc_text ?_
          obtain ⟨hg1, h⟩ := grd h
          refine wc_bin HF nS rfl rfl (b_add hg1) rfl rfl (fun a HF => ?_)
          refine wc_move HF nS rfl rfl rfl (fun a HF => ?_)
          refine wc_end ?_
          exact then_n ⟨k1, Nat.lt_succ_self k1, z1 + 1, h, (HF.keep (HF.keep (HF.keep (HF.keep (HF.keep HF.nil rfl) rfl) rfl) rfl) rfl), HT⟩
        · have h := (if_neg hb2).symm.trans h
          refine wp_if (b' := true) HF rfl (notF (Bool.eq_false_iff.2 hb2)) ?_
          refine wp_seq ?_
          refine wc_text ?_
          refine wc_assign HF nS rfl rfl rfl (fun a HF => ?_)
          refine wc_end ?_
          refine then_n ?_
          refine wp_ret ?_
          obtain rfl := Option.some.inj h
          have h := retL hk1
          obtain rfl := Option.some.inj h
          refine blk_r (then_r (then_r (blk_r (then_r (?_)))))
          refine bp_ret HF (res_one rfl HF rfl) ?_
          exact ⟨rfl, HT⟩
      · have h := (if_neg hb1).symm.trans h
        refine wp_if (b' := false) HF rfl (decide_eq_false hb1) ?_
        refine wp_exit ?_
        refine then_x (then_x (?_))
        refine blk_x ?_
        exact then_n ⟨(Option.some.inj h).symm, (HF.keep (HF.keep HF.nil rfl) rfl), HT⟩
  · rintro a w ⟨rfl, HF, HT⟩
    have h := brkL1 h
    refine ?_
    refine wp_seq ?_
    refine wc_text ?_
    refine wc_move HF nS rfl rfl rfl (fun a HF => ?_)
    refine wc_lenR HF nS Try.underlying29 rfl rfl rfl (fun a HF => ?_)
    refine wc_move HF nS rfl rfl rfl (fun a HF => ?_)
    refine wc_bin HF nS rfl rfl b_eq rfl rfl (fun a HF => ?_)
    refine wc_assign HF nS rfl rfl rfl (fun a HF => ?_)
    refine wc_end ?_
    refine then_n ?_
    refine wp_ret ?_
    obtain rfl := Option.some.inj h
    refine bp_ret HF (res_one rfl HF rfl) ?_
    exact ⟨rfl, HT⟩

def m_impl_copyInts (fuel : Nat) (x0 : List Int) : Option (List Int) :=
  if ([] : List Int).length + x0.length ≤ 17179869184 then
    some (([] : List Int) ++ x0)
  else none

set_option maxRecDepth 100000 in
set_option maxHeartbeats 4000000 in
theorem w_impl_copyInts (fuel : Nat) {x0 : List Int} {a_x0 : Option Addr} {n_x0 c_x0 : Nat} {r0 : List Int} {w0 : World} (h : m_impl_copyInts fuel x0 = some r0) (hr_x0 : RdT (fun b => ¬ False) w0 (rowT x0) (.slice a_x0 n_x0 c_x0)) :
    Calls Try.prog 60 #[.slice a_x0 n_x0 c_x0] w0 fun e w => ∃ a_r0 n_r0 c_r0, e = .returned (.slice a_r0 n_r0 c_r0) ∧ St w0 (fun _ => False) w [Own 3 (rowT r0) (.slice a_r0 n_r0 c_r0)] := by
  obtain rfl := hr_x0.neq
  have HT : St w0 (fun _ => False) w0 [] := St.init0
  rw [m_impl_copyInts] at h
  refine calls_fr (n := 5) [.slice a_x0 x0.length c_x0] Try.func60 rfl rfl rfl (fun a HF => ?_)
  have HT : St w0 (fun _ => False) w0 [] := HT
  refine wp_seq ?_
  refine wc_text ?_
  refine wc_assign HF nS rfl rfl rfl (fun a HF => ?_)
  refine wc_end ?_
  refine then_n ?_
  refine wp_seq ?_
  refine wc_text ?_
  refine wc_move HF nS rfl rfl rfl (fun a HF => ?_)
  have HT : St w0 (fun _ => False) w0 [Own 3 (rowT ([] : List Int)) (.slice none 0 0)] := HT.nilrow 3
  obtain ⟨hg1, h⟩ := grd h
  refine wc_appendR HF HT (HT.ro hr_x0).any el29 rfl rfl hg1 rfl rfl rfl (fun a1 c1 w HT => ⟨nS, fun a HF => ?_⟩)
  refine wc_assign HF nS rfl rfl rfl (fun a HF => ?_)
  refine wc_end ?_
  refine then_n ?_
  refine wp_ret ?_
  obtain rfl := Option.some.inj h
  refine bp_ret HF (res_one rfl HF rfl) ?_
  exact ⟨a1, (([] : List Int) ++ x0).length, c1, rfl, HT⟩

def m_impl_Calc (fuel : Nat) (x0_0 : Int) (x0_1 : Int) (x0_2 : Int) (x0_3 : Int) (x1 : List Int) : Option (List Int × Bool) :=
  (m_impl_copyInts fuel x1).bind fun y1 =>
  (m_impl_OpOk fuel x0_0 x0_1 x0_2 x0_3).bind fun y2 =>
  if y2 = true then
    if 4 < x0_0 then
      some (y1, false)
    else
      (m_impl_areValues fuel x1 4).bind fun y3 =>
      if y3 = true then
        (
          if x0_0 = 1 then
            (at? y1 x0_1).bind fun e1 =>
            some (y1.set x0_1.toNat x0_2)
          else
            if x0_0 = 2 then
              (at? x1 x0_2).bind fun e2 =>
              (at? x1 x0_3).bind fun e3 =>
              if in64 (e2 + e3) then
                if (65536 : Int) ≠ 0 then
                  (at? y1 x0_1).bind fun e4 =>
                  some (y1.set x0_1.toNat ((e2 + e3).tmod 65536))
                else none
              else none
            else
              if x0_0 = 3 then
                (at? x1 x0_2).bind fun e5 =>
                (at? x1 x0_3).bind fun e6 =>
                if in64 (e5 - e6) then
                  if in64 ((e5 - e6) + 65536) then
                    if (65536 : Int) ≠ 0 then
                      (at? y1 x0_1).bind fun e7 =>
                      some (y1.set x0_1.toNat (((e5 - e6) + 65536).tmod 65536))
                    else none
                  else none
                else none
              else
                (at? y1 x0_1).bind fun e8 =>
                (at? x1 x0_2).bind fun e9 =>
                (at? x1 x0_3).bind fun e10 =>
                if e9 < e10 then
                  (at? (y1.set x0_1.toNat 0) x0_1).bind fun e11 =>
                  some ((y1.set x0_1.toNat 0).set x0_1.toNat 1)
                else
                  some (y1.set x0_1.toNat 0)).bind fun z1 =>
        some (z1, true)
      else
        some (y1, false)
  else
    some (y1, false)

set_option maxRecDepth 100000 in
set_option maxHeartbeats 4000000 in
theorem w_impl_Calc (fuel : Nat) {x0_0 : Int} {x0_1 : Int} {x0_2 : Int} {x0_3 : Int} {x1 : List Int} {a_x1 : Option Addr} {n_x1 c_x1 : Nat} {r0 : List Int} {r1 : Bool} {w0 : World} (h : m_impl_Calc fuel x0_0 x0_1 x0_2 x0_3 x1 = some (r0, r1)) (hr_x1 : RdT (fun b => ¬ False) w0 (rowT x1) (.slice a_x1 n_x1 c_x1)) :
    Calls Try.prog 22 #[.agg #[.int .i64 x0_0, .int .i64 x0_1, .int .i64 x0_2, .int .i64 x0_3], .slice a_x1 n_x1 c_x1] w0 fun e w => ∃ a_r0 n_r0 c_r0, e = .returned (.tuple #[.slice a_r0 n_r0 c_r0, .bool r1]) ∧ St w0 (fun _ => False) w [Own 3 (rowT r0) (.slice a_r0 n_r0 c_r0)] := by
  obtain rfl := hr_x1.neq
  have HT : St w0 (fun _ => False) w0 [] := St.init0
  rw [m_impl_Calc] at h
  refine calls_fr (n := 90) [.agg #[.int .i64 x0_0, .int .i64 x0_1, .int .i64 x0_2, .int .i64 x0_3], .slice a_x1 x1.length c_x1] Try.func22 rfl rfl rfl (fun a HF => ?_)
  have HT : St w0 (fun _ => False) w0 [] := HT
  refine wp_seq ?_
  refine wc_text ?_
  refine wc_box (cs := [.int .i64 x0_0, .int .i64 x0_1, .int .i64 x0_2, .int .i64 x0_3]) HF HT rfl rfl rfl rfl (fun p1 w HT hb => ⟨nS, fun a HF => ?_⟩)
  refine wc_assign HF nS rfl rfl rfl (fun a HF => ?_)
  refine wc_assign HF nS rfl rfl rfl (fun a HF => ?_)
  refine wc_end ?_
  refine then_n ?_
  refine wp_seq ?_
  refine wc_text ?_
  refine wc_move HF nS rfl rfl rfl (fun a HF => ?_)
  obtain ⟨y1, hx1, h⟩ := obs h
  refine wc_call HF cf60 rfl (w_impl_copyInts fuel hx1 (HT.ro hr_x1).any) rfl rfl ?_
  rintro e w ⟨a1, n1, c1, rfl, hE⟩
  have hb := hE.below
  have HT := HT.pure hE
  obtain rfl := (HT.rdAt 0 rfl).neq
  have HT : St w0 (fun _ => False) w [Own 3 (rowT y1) (.slice a1 y1.length c1), Box p1 [.int .i64 x0_0, .int .i64 x0_1, .int .i64 x0_2, .int .i64 x0_3]] := HT
  refine ⟨_, rfl, nS, fun a HF => ?_⟩
  refine wc_assign HF nS rfl rfl rfl (fun a HF => ?_)
  refine wc_end ?_
  refine then_n ?_
  refine wp_seq ?_
  refine wp_seq ?_
  refine wc_text ?_
  refine wc_loadA (vs := [.int .i64 x0_0, .int .i64 x0_1, .int .i64 x0_2, .int .i64 x0_3]) HF rfl ag25 rfl ((HT.boxAt 1 rfl).part 0 4) rfl rfl (fun a HF => ?_)
  obtain ⟨y2, hx2, h⟩ := obs h
  refine wc_call HF cf17 rfl (w_impl_OpOk fuel hx2) rfl rfl ?_
  rintro e w ⟨rfl, hE⟩
  have hb := hE.below
  have HT := HT.pure hE
  have HT : St w0 (fun _ => False) w [Own 3 (rowT y1) (.slice a1 y1.length c1), Box p1 [.int .i64 x0_0, .int .i64 x0_1, .int .i64 x0_2, .int .i64 x0_3]] := HT
  refine ⟨_, rfl, nS, fun a HF => ?_⟩
  refine wc_not HF nS rfl rfl rfl (fun a HF => ?_)
  refine wc_move HF nS rfl rfl rfl (fun a HF => ?_)
  by_cases hb1 : y2 = true
  · have h := (if_pos hb1).symm.trans h
    refine wc_faddr HF nS rfl fl25_0 (HF.wy rfl rfl rfl rfl (notT hb1)) rfl (fun a HF => ?_)
    refine wc_load HF rfl sc3 ((HT.boxAt 1 rfl).get 0 rfl) (HF.wy rfl rfl rfl rfl (notT hb1)) rfl (fun a HF => ?_)
    refine wc_bin HF nS rfl rfl b_gt (HF.wy rfl rfl rfl rfl (notT hb1)) rfl (fun a HF => ?_)
    refine wc_pick (b := false) HF nS rfl (notT hb1) rfl rfl rfl (fun a HF => ?_)
    refine wc_move HF nS rfl rfl rfl (fun a HF => ?_)
    by_cases hb2 : 4 < x0_0
    · have h := (if_pos hb2).symm.trans h
      refine wc_skip HF nS (HF.wn rfl rfl rfl rfl (decide_eq_true hb2)) rfl (fun a HF => ?_)
      refine wc_skip HF nS (HF.wn rfl rfl rfl rfl (decide_eq_true hb2)) rfl (fun a HF => ?_)
      refine wc_skip HF nS (HF.wn rfl rfl rfl rfl (decide_eq_true hb2)) rfl (fun a HF => ?_)
      refine wc_pick (b := true) HF nS rfl (decide_eq_true hb2) rfl rfl rfl (fun a HF => ?_)
      refine wc_end ?_
      refine then_n ?_
      refine wp_if (b' := true) HF rfl rfl ?_
      refine wp_seq ?_
      refine wc_text ?_
      refine wc_move HF nS rfl rfl rfl (fun a HF => ?_)
      refine wc_assign HF nS rfl rfl rfl (fun a HF => ?_)
      refine wc_assign HF nS rfl rfl rfl (fun a HF => ?_)
      refine wc_end ?_
      refine then_n ?_
      refine wp_ret ?_
      have hj1 := Option.some.inj h
      obtain ⟨hi1, hj2⟩ := Prod.mk.inj hj1
      subst hi1
      subst hj2
      refine then_r (?_)
      refine bp_ret HF (res_two rfl HF rfl rfl) ?_
      have HT : St w0 (fun _ => False) w [Own 3 (rowT y1) (.slice a1 y1.length c1)] := HT.take 1
      exact ⟨a1, y1.length, c1, rfl, HT⟩
    · have h := (if_neg hb2).symm.trans h
      refine wc_move HF nS rfl (HF.wy rfl rfl rfl rfl (decide_eq_false hb2)) rfl (fun a HF => ?_)
      obtain ⟨y3, hx3, h⟩ := obs h
      refine wc_call HF cf61 rfl (w_impl_areValues fuel hx3 (HT.ro hr_x1).any) (HF.wy rfl rfl rfl rfl (decide_eq_false hb2)) rfl ?_
      rintro e w ⟨rfl, hE⟩
      have hb := hE.below
      have HT := HT.pure hE
      have HT : St w0 (fun _ => False) w [Own 3 (rowT y1) (.slice a1 y1.length c1), Box p1 [.int .i64 x0_0, .int .i64 x0_1, .int .i64 x0_2, .int .i64 x0_3]] := HT
      refine ⟨_, rfl, nS, fun a HF => ?_⟩
      refine wc_not HF nS rfl (HF.wy rfl rfl rfl rfl (decide_eq_false hb2)) rfl (fun a HF => ?_)
      refine wc_pick (b := false) HF nS rfl (decide_eq_false hb2) rfl rfl rfl (fun a HF => ?_)
      refine wc_end ?_
      refine then_n ?_
      by_cases hb3 : y3 = true
      · have h := (if_pos hb3).symm.trans h
        refine wp_if (b' := false) HF rfl (notT hb3) ?_
        refine wp_skip ?_
        refine then_n ?_
        obtain ⟨z1, hx4, h⟩ := obs h
        refine wp_cut (fun a w => Fr a 90 [(6, .slice a1 y1.length c1)] ∧ St w0 (fun _ => False) w [Own 3 (rowT z1) (.slice a1 y1.length c1)]) ?_ ?_
        · have hk1 := h
          have h := hx4
          refine wp_seq ?_
          refine wc_text ?_
          refine wc_faddr HF nS rfl fl25_0 rfl rfl (fun a HF => ?_)
          refine wc_load HF rfl sc3 ((HT.boxAt 1 rfl).get 0 rfl) rfl rfl (fun a HF => ?_)
          refine wc_end ?_
          refine then_n ?_
          refine wp_block ?_
          refine wp_seq ?_
          refine wc_text ?_
          refine wc_bin HF nS rfl rfl b_eq rfl rfl (fun a HF => ?_)
          refine wc_assign HF nS rfl rfl rfl (fun a HF => ?_)
          refine wc_end ?_
          refine then_n ?_
          by_cases hb4 : x0_0 = 1
          · have h := (if_pos hb4).symm.trans h
            refine wp_if (b' := true) HF rfl (decide_eq_true hb4) ?_
            refine wc_text ?_
            refine wc_move HF nS rfl rfl rfl (fun a HF => ?_)
            refine wc_faddr HF nS rfl fl25_1 rfl rfl (fun a HF => ?_)
            refine wc_load HF rfl sc3 ((HT.boxAt 1 rfl).get 1 rfl) rfl rfl (fun a HF => ?_)
            refine wc_faddr HF nS rfl fl25_2 rfl rfl (fun a HF => ?_)
            refine wc_load HF rfl sc3 ((HT.boxAt 1 rfl).get 2 rfl) rfl rfl (fun a HF => ?_)
            obtain ⟨e1, hx5, h⟩ := obs h
            obtain ⟨b1, o1, ha1⟩ := (HT.rdAt 0 rfl).addr hx5
            refine wc_ixaddr HF nS el29 rfl ha1 ((HT.rdAt 0 rfl)).neq rfl hx5 rfl rfl (fun a HF => ?_)
            refine wc_storeR (i := x0_1) (j := 0) (x' := x0_2) HF HT ha1 rfl rfl (fun w => (sc3 w).2) rfl rfl hx5 rfl rfl rfl rfl (fun w HT => ⟨nS, ?_⟩)
            refine wc_end ?_
            refine blk_n ?_
            have HT : St w0 (fun _ => False) w [Own 3 (rowT (y1.set x0_1.toNat x0_2)) (.slice a1 y1.length c1)] := HT.take 1
            obtain rfl := Option.some.inj h
            exact then_n ⟨(HF.keep HF.nil rfl), HT⟩
          · have h := (if_neg hb4).symm.trans h
            refine wp_if (b' := false) HF rfl (decide_eq_false hb4) ?_
            refine wp_seq ?_
            refine wc_text ?_
            refine wc_bin HF nS rfl rfl b_eq rfl rfl (fun a HF => ?_)
            refine wc_assign HF nS rfl rfl rfl (fun a HF => ?_)
            refine wc_end ?_
            refine then_n ?_
            by_cases hb5 : x0_0 = 2
            · have h := (if_pos hb5).symm.trans h
              refine wp_if (b' := true) HF rfl (decide_eq_true hb5) ?_
              refine wp_region_can [(0, true), (1, true), (2, true), (3, true), (4, true), (5, true), (6, true), (7, true), (8, true), (9, true), (10, true), (11, true), (12, true), (13, true), (14, true), (15, true), (16, true)] (fun w' => True) (by kernel_rfl) (by kernel_rfl) ?_
              have HT : St w0 (fun _ => False) w.drew [Own 3 (rowT y1) (.slice a1 y1.length c1), Box p1 [.int .i64 x0_0, .int .i64 x0_1, .int .i64 x0_2, .int .i64 x0_3]] := HT.drew
              refine wc_move HF nS rfl rfl rfl (fun a HF => ?_)
              refine wc_faddr HF nS rfl fl25_1 rfl rfl (fun a HF => ?_)
              refine wc_load HF rfl sc3 ((HT.boxAt 1 rfl).get 1 rfl) rfl rfl (fun a HF => ?_)
              refine wc_move HF nS rfl rfl rfl (fun a HF => ?_)
              refine wc_faddr HF nS rfl fl25_2 rfl rfl (fun a HF => ?_)
              refine wc_load HF rfl sc3 ((HT.boxAt 1 rfl).get 2 rfl) rfl rfl (fun a HF => ?_)
              obtain ⟨e2, hx6, h⟩ := obs h
              obtain ⟨b2, o2, ha2⟩ := (HT.ro hr_x1).any.addr hx6
              refine wc_ixaddr HF nS el29 rfl ha2 ((HT.ro hr_x1).any).neq rfl hx6 rfl rfl (fun a HF => ?_)
              have hc1 := (HT.ro hr_x1).any.flatAt ha2 hx6
              refine wc_load HF rfl sc3 (hc1.get 0 rfl) rfl rfl (fun a HF => ?_)
              refine wc_move HF nS rfl rfl rfl (fun a HF => ?_)
              refine wc_faddr HF nS rfl fl25_3 rfl rfl (fun a HF => ?_)
              refine wc_load HF rfl sc3 ((HT.boxAt 1 rfl).get 3 rfl) rfl rfl (fun a HF => ?_)
              obtain ⟨e3, hx7, h⟩ := obs h
              refine wc_ixaddr HF nS el29 rfl ha2 ((HT.ro hr_x1).any).neq rfl hx7 rfl rfl (fun a HF => ?_)
              have hc2 := (HT.ro hr_x1).any.flatAt ha2 hx7
              refine wc_load HF rfl sc3 (hc2.get 0 rfl) rfl rfl (fun a HF => ?_)
              obtain ⟨hg1, h⟩ := grd h
              refine wc_bin HF nS rfl rfl (b_add hg1) rfl rfl (fun a HF => ?_)
              obtain ⟨hg2, h⟩ := grd h
              refine wc_bin HF nS rfl rfl (b_rem hg2) rfl rfl (fun a HF => ?_)
              obtain ⟨e4, hx8, h⟩ := obs h
              obtain ⟨b3, o3, ha3⟩ := (HT.rdAt 0 rfl).addr hx8
              refine wc_ixaddr HF nS el29 rfl ha3 ((HT.rdAt 0 rfl)).neq rfl hx8 rfl rfl (fun a HF => ?_)
              refine wc_storeR (i := x0_1) (j := 0) (x' := (e2 + e3).tmod 65536) HF HT ha3 rfl rfl (fun w => (sc3 w).2) rfl rfl hx8 rfl rfl rfl rfl (fun w HT => ⟨nS, ?_⟩)
              refine wc_endN ?_
              refine blk_n ?_
              have HT : St w0 (fun _ => False) w [Own 3 (rowT (y1.set x0_1.toNat ((e2 + e3).tmod 65536))) (.slice a1 y1.length c1)] := HT.take 1
              obtain rfl := Option.some.inj h
              exact then_n ⟨(HF.keep HF.nil rfl), HT⟩
            · have h := (if_neg hb5).symm.trans h
              refine wp_if (b' := false) HF rfl (decide_eq_false hb5) ?_
              refine wp_seq ?_
              refine wc_text ?_
              refine wc_bin HF nS rfl rfl b_eq rfl rfl (fun a HF => ?_)
              refine wc_assign HF nS rfl rfl rfl (fun a HF => ?_)
              refine wc_end ?_
              refine then_n ?_
              by_cases hb6 : x0_0 = 3
              · have h := (if_pos hb6).symm.trans h
                refine wp_if (b' := true) HF rfl (decide_eq_true hb6) ?_
                refine wp_region_can [(0, true), (1, true), (2, true), (3, true), (4, true), (5, true), (6, true), (7, true), (8, true), (9, true), (10, true), (11, true), (12, true), (13, true), (14, true), (15, true), (16, true), (17, true)] (fun w' => True) (by kernel_rfl) (by kernel_rfl) ?_
                have HT : St w0 (fun _ => False) w.drew [Own 3 (rowT y1) (.slice a1 y1.length c1), Box p1 [.int .i64 x0_0, .int .i64 x0_1, .int .i64 x0_2, .int .i64 x0_3]] := HT.drew
                refine wc_move HF nS rfl rfl rfl (fun a HF => ?_)
                refine wc_faddr HF nS rfl fl25_1 rfl rfl (fun a HF => ?_)
                refine wc_load HF rfl sc3 ((HT.boxAt 1 rfl).get 1 rfl) rfl rfl (fun a HF => ?_)
                refine wc_move HF nS rfl rfl rfl (fun a HF => ?_)
                refine wc_faddr HF nS rfl fl25_2 rfl rfl (fun a HF => ?_)
                refine wc_load HF rfl sc3 ((HT.boxAt 1 rfl).get 2 rfl) rfl rfl (fun a HF => ?_)
                obtain ⟨e5, hx9, h⟩ := obs h
                obtain ⟨b4, o4, ha4⟩ := (HT.ro hr_x1).any.addr hx9
                refine wc_ixaddr HF nS el29 rfl ha4 ((HT.ro hr_x1).any).neq rfl hx9 rfl rfl (fun a HF => ?_)
                have hc3 := (HT.ro hr_x1).any.flatAt ha4 hx9
                refine wc_load HF rfl sc3 (hc3.get 0 rfl) rfl rfl (fun a HF => ?_)
                refine wc_move HF nS rfl rfl rfl (fun a HF => ?_)
                refine wc_faddr HF nS rfl fl25_3 rfl rfl (fun a HF => ?_)
                refine wc_load HF rfl sc3 ((HT.boxAt 1 rfl).get 3 rfl) rfl rfl (fun a HF => ?_)
                obtain ⟨e6, hx10, h⟩ := obs h
                refine wc_ixaddr HF nS el29 rfl ha4 ((HT.ro hr_x1).any).neq rfl hx10 rfl rfl (fun a HF => ?_)
                have hc4 := (HT.ro hr_x1).any.flatAt ha4 hx10
                refine wc_load HF rfl sc3 (hc4.get 0 rfl) rfl rfl (fun a HF => ?_)
                obtain ⟨hg3, h⟩ := grd h
                refine wc_bin HF nS rfl rfl (b_sub hg3) rfl rfl (fun a HF => ?_)
                obtain ⟨hg4, h⟩ := grd h
                refine wc_bin HF nS rfl rfl (b_add hg4) rfl rfl (fun a HF => ?_)
                obtain ⟨hg5, h⟩ := grd h
                refine wc_bin HF nS rfl rfl (b_rem hg5) rfl rfl (fun a HF => ?_)
                obtain ⟨e7, hx11, h⟩ := obs h
                obtain ⟨b5, o5, ha5⟩ := (HT.rdAt 0 rfl).addr hx11
                refine wc_ixaddr HF nS el29 rfl ha5 ((HT.rdAt 0 rfl)).neq rfl hx11 rfl rfl (fun a HF => ?_)
                refine wc_storeR (i := x0_1) (j := 0) (x' := ((e5 - e6) + 65536).tmod 65536) HF HT ha5 rfl rfl (fun w => (sc3 w).2) rfl rfl hx11 rfl rfl rfl rfl (fun w HT => ⟨nS, ?_⟩)
                refine wc_endN ?_
                refine blk_n ?_
                have HT : St w0 (fun _ => False) w [Own 3 (rowT (y1.set x0_1.toNat (((e5 - e6) + 65536).tmod 65536))) (.slice a1 y1.length c1)] := HT.take 1
                obtain rfl := Option.some.inj h
                exact then_n ⟨(HF.keep HF.nil rfl), HT⟩
              · have h := (if_neg hb6).symm.trans h
                refine wp_if (b' := false) HF rfl (decide_eq_false hb6) ?_
                refine wp_seq ?_
                refine wc_text ?_
                refine wc_move HF nS rfl rfl rfl (fun a HF => ?_)
                refine wc_faddr HF nS rfl fl25_1 rfl rfl (fun a HF => ?_)
                refine wc_load HF rfl sc3 ((HT.boxAt 1 rfl).get 1 rfl) rfl rfl (fun a HF => ?_)
                obtain ⟨e8, hx12, h⟩ := obs h
                obtain ⟨b6, o6, ha6⟩ := (HT.rdAt 0 rfl).addr hx12
                refine wc_ixaddr HF nS el29 rfl ha6 ((HT.rdAt 0 rfl)).neq rfl hx12 rfl rfl (fun a HF => ?_)
                refine wc_storeR (i := x0_1) (j := 0) (x' := 0) HF HT ha6 rfl rfl (fun w => (sc3 w).2) rfl rfl hx12 rfl rfl rfl rfl (fun w HT => ⟨nS, ?_⟩)
                refine wc_end ?_
                refine then_n ?_
                refine wp_seq ?_
                refine wp_region_can [(0, true), (1, true), (2, true), (3, true), (4, true), (5, true), (6, true), (7, true), (8, true), (9, true), (10, true)] (fun w' => True) (by kernel_rfl) (by kernel_rfl) ?_
                have HT : St w0 (fun _ => False) w.drew [Own 3 (rowT (y1.set x0_1.toNat 0)) (.slice a1 y1.length c1), Box p1 [.int .i64 x0_0, .int .i64 x0_1, .int .i64 x0_2, .int .i64 x0_3]] := HT.drew
                refine wc_move HF nS rfl rfl rfl (fun a HF => ?_)
                refine wc_faddr HF nS rfl fl25_2 rfl rfl (fun a HF => ?_)
                refine wc_load HF rfl sc3 ((HT.boxAt 1 rfl).get 2 rfl) rfl rfl (fun a HF => ?_)
                obtain ⟨e9, hx13, h⟩ := obs h
                obtain ⟨b7, o7, ha7⟩ := (HT.ro hr_x1).any.addr hx13
                refine wc_ixaddr HF nS el29 rfl ha7 ((HT.ro hr_x1).any).neq rfl hx13 rfl rfl (fun a HF => ?_)
                have hc5 := (HT.ro hr_x1).any.flatAt ha7 hx13
                refine wc_load HF rfl sc3 (hc5.get 0 rfl) rfl rfl (fun a HF => ?_)
                refine wc_move HF nS rfl rfl rfl (fun a HF => ?_)
                refine wc_faddr HF nS rfl fl25_3 rfl rfl (fun a HF => ?_)
                refine wc_load HF rfl sc3 ((HT.boxAt 1 rfl).get 3 rfl) rfl rfl (fun a HF => ?_)
                obtain ⟨e10, hx14, h⟩ := obs h
                refine wc_ixaddr HF nS el29 rfl ha7 ((HT.ro hr_x1).any).neq rfl hx14 rfl rfl (fun a HF => ?_)
                have hc6 := (HT.ro hr_x1).any.flatAt ha7 hx14
                refine wc_load HF rfl sc3 (hc6.get 0 rfl) rfl rfl (fun a HF => ?_)
                refine wc_bin HF nS rfl rfl b_lt rfl rfl (fun a HF => ?_)
                refine wc_endN ?_
                refine then_n ?_
                by_cases hb7 : e9 < e10
                · have h := (if_pos hb7).symm.trans h
                  refine wp_if (b' := true) HF rfl (decide_eq_true hb7) ?_
                  refine wc_text ?_
                  refine wc_move HF nS rfl rfl rfl (fun a HF => ?_)
                  refine wc_faddr HF nS rfl fl25_1 rfl rfl (fun a HF => ?_)
                  refine wc_load HF rfl sc3 ((HT.boxAt 1 rfl).get 1 rfl) rfl rfl (fun a HF => ?_)
                  obtain ⟨e11, hx15, h⟩ := obs h
                  refine wc_ixaddr HF nS el29 rfl ha6 ((HT.rdAt 0 rfl)).neq rfl hx15 rfl rfl (fun a HF => ?_)
                  refine wc_storeR (i := x0_1) (j := 0) (x' := 1) HF HT ha6 rfl rfl (fun w => (sc3 w).2) rfl rfl hx15 rfl rfl rfl rfl (fun w HT => ⟨nS, ?_⟩)
                  refine wc_end ?_
                  refine blk_n ?_
                  have HT : St w0 (fun _ => False) w [Own 3 (rowT ((y1.set x0_1.toNat 0).set x0_1.toNat 1)) (.slice a1 y1.length c1)] := HT.take 1
                  obtain rfl := Option.some.inj h
                  exact then_n ⟨(HF.keep HF.nil rfl), HT⟩
                · have h := (if_neg hb7).symm.trans h
                  refine wp_if (b' := false) HF rfl (decide_eq_false hb7) ?_
                  refine wp_skip ?_
                  refine blk_n ?_
                  have HT : St w0 (fun _ => False) w.drew [Own 3 (rowT (y1.set x0_1.toNat 0)) (.slice a1 y1.length c1)] := HT.take 1
                  obtain rfl := Option.some.inj h
                  exact then_n ⟨(HF.keep HF.nil rfl), HT⟩
        · rintro a w ⟨HF, HT⟩
          refine ?_
          refine wp_seq ?_
          refine wc_text ?_
          refine wc_move HF nS rfl rfl rfl (fun a HF => ?_)
          refine wc_assign HF nS rfl rfl rfl (fun a HF => ?_)
          refine wc_assign HF nS rfl rfl rfl (fun a HF => ?_)
          refine wc_end ?_
          refine then_n ?_
          refine wp_ret ?_
          have hj3 := Option.some.inj h
          obtain ⟨hi3, hj4⟩ := Prod.mk.inj hj3
          subst hi3
          subst hj4
          refine bp_ret HF (res_two rfl HF rfl rfl) ?_
          exact ⟨a1, y1.length, c1, rfl, HT⟩
      · have h := (if_neg hb3).symm.trans h
        refine wp_if (b' := true) HF rfl (notF (Bool.eq_false_iff.2 hb3)) ?_
        refine wp_seq ?_
        refine wc_text ?_
        refine wc_move HF nS rfl rfl rfl (fun a HF => ?_)
        refine wc_assign HF nS rfl rfl rfl (fun a HF => ?_)
        refine wc_assign HF nS rfl rfl rfl (fun a HF => ?_)
        refine wc_end ?_
        refine then_n ?_
        refine wp_ret ?_
        have hj5 := Option.some.inj h
        obtain ⟨hi5, hj6⟩ := Prod.mk.inj hj5
        subst hi5
        subst hj6
        refine then_r (?_)
        refine bp_ret HF (res_two rfl HF rfl rfl) ?_
        have HT : St w0 (fun _ => False) w [Own 3 (rowT y1) (.slice a1 y1.length c1)] := HT.take 1
        exact ⟨a1, y1.length, c1, rfl, HT⟩
  · have h := (if_neg hb1).symm.trans h
    refine wc_skip HF nS (HF.wn rfl rfl rfl rfl (notF (Bool.eq_false_iff.2 hb1))) rfl (fun a HF => ?_)
    refine wc_skip HF nS (HF.wn rfl rfl rfl rfl (notF (Bool.eq_false_iff.2 hb1))) rfl (fun a HF => ?_)
    refine wc_skip HF nS (HF.wn rfl rfl rfl rfl (notF (Bool.eq_false_iff.2 hb1))) rfl (fun a HF => ?_)
    refine wc_pick (b := true) HF nS rfl (notF (Bool.eq_false_iff.2 hb1)) rfl rfl rfl (fun a HF => ?_)
    refine wc_move HF nS rfl rfl rfl (fun a HF => ?_)
    refine wc_skip HF nS (HF.wn rfl rfl rfl rfl rfl) rfl (fun a HF => ?_)
    refine wc_skip HF nS (HF.wn rfl rfl rfl rfl rfl) rfl (fun a HF => ?_)
    refine wc_skip HF nS (HF.wn rfl rfl rfl rfl rfl) rfl (fun a HF => ?_)
    refine wc_pick (b := true) HF nS rfl rfl rfl rfl rfl (fun a HF => ?_)
    refine wc_end ?_
    refine then_n ?_
    refine wp_if (b' := true) HF rfl rfl ?_
    refine wp_seq ?_
    refine wc_text ?_
    refine wc_move HF nS rfl rfl rfl (fun a HF => ?_)
    refine wc_assign HF nS rfl rfl rfl (fun a HF => ?_)
    refine wc_assign HF nS rfl rfl rfl (fun a HF => ?_)
    refine wc_end ?_
    refine then_n ?_
    refine wp_ret ?_
    have hj7 := Option.some.inj h
    obtain ⟨hi7, hj8⟩ := Prod.mk.inj hj7
    subst hi7
    subst hj8
    refine then_r (?_)
    refine bp_ret HF (res_two rfl HF rfl rfl) ?_
    have HT : St w0 (fun _ => False) w [Own 3 (rowT y1) (.slice a1 y1.length c1)] := HT.take 1
    exact ⟨a1, y1.length, c1, rfl, HT⟩

def m_laws_eqIntS_L0 (fuel : Nat) (x0 : List Int) (x1 : List Int) : Nat → Int → Option (Lp Unit Bool)
  | 0, _ => none
  | k1 + 1, z1 =>
    if z1 < (x0.length : Int) then
      (at? x0 z1).bind fun e1 =>
      (at? x1 z1).bind fun e2 =>
      if e1 = e2 then
        if in64 (z1 + 1) then
          m_laws_eqIntS_L0 fuel x0 x1 k1 (z1 + 1)
        else none
      else
        some (.ret false)
    else
      some (.brk ())

def m_laws_eqIntS (fuel : Nat) (x0 : List Int) (x1 : List Int) : Option Bool :=
  if (x0.length : Int) = (x1.length : Int) then
    (m_laws_eqIntS_L0 fuel x0 x1 fuel 0).bind <| contL <| un1 fun _ =>
    some true
  else
    some false

set_option maxRecDepth 100000 in
set_option maxHeartbeats 4000000 in
theorem w_laws_eqIntS (fuel : Nat) {x0 : List Int} {x1 : List Int} {a_x0 : Option Addr} {n_x0 c_x0 : Nat} {a_x1 : Option Addr} {n_x1 c_x1 : Nat} {r0 : Bool} {w0 : World} (h : m_laws_eqIntS fuel x0 x1 = some r0) (hr_x0 : RdT (fun b => ¬ False) w0 (rowT x0) (.slice a_x0 n_x0 c_x0)) (hr_x1 : RdT (fun b => ¬ False) w0 (rowT x1) (.slice a_x1 n_x1 c_x1)) :
    Calls Try.prog 23 #[.slice a_x0 n_x0 c_x0, .slice a_x1 n_x1 c_x1] w0 fun e w => e = .returned (.bool r0) ∧ St w0 (fun _ => False) w [] := by
  obtain rfl := hr_x0.neq
  obtain rfl := hr_x1.neq
  have HT : St w0 (fun _ => False) w0 [] := St.init0
  rw [m_laws_eqIntS] at h
  refine calls_fr (n := 26) [.slice a_x0 x0.length c_x0, .slice a_x1 x1.length c_x1] Try.func23 rfl rfl rfl (fun a HF => ?_)
  have HT : St w0 (fun _ => False) w0 [] := HT
  refine wp_seq ?_
  refine wc_text ?_
  refine wc_assign HF nS rfl rfl rfl (fun a HF => ?_)
  refine wc_end ?_
  refine then_n ?_
  refine wp_seq ?_
  refine wp_seq ?_
  refine wc_text ?_
  refine wc_move HF nS rfl rfl rfl (fun a HF => ?_)
  refine wc_lenR HF nS Try.underlying29 rfl rfl rfl (fun a HF => ?_)
  refine wc_move HF nS rfl rfl rfl (fun a HF => ?_)
  refine wc_lenR HF nS Try.underlying29 rfl rfl rfl (fun a HF => ?_)
  refine wc_bin HF nS rfl rfl b_ne rfl rfl (fun a HF => ?_)
  refine wc_end ?_
  refine then_n ?_
  by_cases hb1 : (x0.length : Int) = (x1.length : Int)
  · have h := (if_pos hb1).symm.trans h
    refine wp_if (b' := false) HF rfl (notT (decide_eq_true hb1)) ?_
    refine wp_skip ?_
    refine then_n ?_
    obtain ⟨q1, hx1, h⟩ := obs h
    refine wp_cut (fun a w => q1 = .brk () ∧ Fr a 26 [] ∧ St w0 (fun _ => False) w []) ?_ ?_
    · have hk1 := h
      have h := hx1
      refine wp_seq ?_
      refine wc_text ?_
      refine wc_assign HF nS rfl rfl rfl (fun a HF => ?_)
      refine wc_end ?_
      refine then_n ?_
      refine wp_block ?_
      refine wp_loopN (fun k1 a w => ∃ z1, m_laws_eqIntS_L0 fuel x0 x1 k1 z1 = some q1 ∧ Fr a 26 [(0, .slice a_x0 x0.length c_x0), (1, .slice a_x1 x1.length c_x1), (5, .int .i64 z1)] ∧ St w0 (fun _ => False) w []) fuel ⟨0, h, (HF.keep (HF.keep (HF.keep HF.nil rfl) rfl) rfl), HT⟩ ?_
      rintro k1 a w ⟨z1, h, HF, HT⟩
      cases k1 with
      | zero => cases h
      | succ k1 =>
        rw [m_laws_eqIntS_L0] at h
        refine ?_
        refine wp_seq ?_
        refine wp_seq ?_
        refine wc_text ?_
        refine wc_move HF nS rfl rfl rfl (fun a HF => ?_)
        refine wc_move HF nS rfl rfl rfl (fun a HF => ?_)
        refine wc_lenR HF nS Try.underlying29 rfl rfl rfl (fun a HF => ?_)
        refine wc_bin HF nS rfl rfl b_lt rfl rfl (fun a HF => ?_)
        refine wc_end ?_
        refine then_n ?_
        by_cases hb2 : z1 < (x0.length : Int)
        · have h := (if_pos hb2).symm.trans h
          refine wp_if (b' := true) HF rfl (decide_eq_true hb2) ?_
          refine wp_skip ?_
          refine then_n ?_
          refine wp_seq ?_
          refine wp_block ?_
          refine wp_seq ?_
          refine wp_region_can [(0, true), (1, true), (2, true), (3, true), (4, true), (5, true), (6, true), (7, true), (8, true)] (fun w' => True) (by kernel_rfl) (by kernel_rfl) ?_
          have HT : St w0 (fun _ => False) w.drew [] := HT.drew
          refine wc_move HF nS rfl rfl rfl (fun a HF => ?_)
          refine wc_move HF nS rfl rfl rfl (fun a HF => ?_)
          obtain ⟨e1, hx2, h⟩ := obs h
          obtain ⟨b1, o1, ha1⟩ := (HT.ro hr_x0).any.addr hx2
          refine wc_ixaddr HF nS el29 rfl ha1 ((HT.ro hr_x0).any).neq rfl hx2 rfl rfl (fun a HF => ?_)
          have hc1 := (HT.ro hr_x0).any.flatAt ha1 hx2
          refine wc_load HF rfl sc3 (hc1.get 0 rfl) rfl rfl (fun a HF => ?_)
          refine wc_move HF nS rfl rfl rfl (fun a HF => ?_)
          refine wc_move HF nS rfl rfl rfl (fun a HF => ?_)
          obtain ⟨e2, hx3, h⟩ := obs h
          obtain ⟨b2, o2, ha2⟩ := (HT.ro hr_x1).any.addr hx3
          refine wc_ixaddr HF nS el29 rfl ha2 ((HT.ro hr_x1).any).neq rfl hx3 rfl rfl (fun a HF => ?_)
          have hc2 := (HT.ro hr_x1).any.flatAt ha2 hx3
          refine wc_load HF rfl sc3 (hc2.get 0 rfl) rfl rfl (fun a HF => ?_)
          refine wc_bin HF nS rfl rfl b_ne rfl rfl (fun a HF => ?_)
          refine wc_endN ?_
          refine then_n ?_
          by_cases hb3 : e1 = e2
          · have h := (if_pos hb3).symm.trans h
            refine wp_if (b' := false) HF rfl (notT (decide_eq_true hb3)) ?_
            refine wp_skip ?_
            refine blk_n ?_
            refine then_n ?_
            refine wc_text ?_
            refine wc_move HF nS rfl rfl rfl (fun a HF => ?_)
            obtain ⟨hg1, h⟩ := grd h
            refine wc_bin HF nS rfl rfl (b_add hg1) rfl rfl (fun a HF => ?_)
            refine wc_assign HF nS rfl rfl rfl (fun a HF => ?_)
            refine wc_end ?_
            exact then_n ⟨k1, Nat.lt_succ_self k1, z1 + 1, h, (HF.keep (HF.keep (HF.keep HF.nil rfl) rfl) rfl), HT⟩
          · have h := (if_neg hb3).symm.trans h
            refine wp_if (b' := true) HF rfl (notF (decide_eq_false hb3)) ?_
            refine wp_seq ?_
            refine wc_text ?_
            refine wc_assign HF nS rfl rfl rfl (fun a HF => ?_)
            refine wc_end ?_
            refine then_n ?_
            refine wp_ret ?_
            obtain rfl := Option.some.inj h
            have h := retL hk1
            obtain rfl := Option.some.inj h
            refine blk_r (then_r (then_r (blk_r (then_r (?_)))))
            refine bp_ret HF (res_one rfl HF rfl) ?_
            exact ⟨rfl, HT⟩
        · have h := (if_neg hb2).symm.trans h
          refine wp_if (b' := false) HF rfl (decide_eq_false hb2) ?_
          refine wp_exit ?_
          refine then_x (then_x (?_))
          refine blk_x ?_
          exact then_n ⟨(Option.some.inj h).symm, HF.nil, HT⟩
    · rintro a w ⟨rfl, HF, HT⟩
      have h := brkL1 h
      refine ?_
      refine wp_seq ?_
      refine wc_text ?_
      refine wc_assign HF nS rfl rfl rfl (fun a HF => ?_)
      refine wc_end ?_
      refine then_n ?_
      refine wp_ret ?_
      obtain rfl := Option.some.inj h
      refine bp_ret HF (res_one rfl HF rfl) ?_
      exact ⟨rfl, HT⟩
  · have h := (if_neg hb1).symm.trans h
    refine wp_if (b' := true) HF rfl (notF (decide_eq_false hb1)) ?_
    refine wp_seq ?_
    refine wc_text ?_
    refine wc_assign HF nS rfl rfl rfl (fun a HF => ?_)
    refine wc_end ?_
    refine then_n ?_
    refine wp_ret ?_
    obtain rfl := Option.some.inj h
    refine then_r (?_)
    refine bp_ret HF (res_one rfl HF rfl) ?_
    exact ⟨rfl, HT⟩

def m_laws_heldIntS_L0 (fuel : Nat) (x0 : List Int) : Nat → Int → Int → Option (Lp Int Int)
  | 0, _, _ => none
  | k1 + 1, z2, z3 =>
    if z3 < (x0.length : Int) then
      (at? x0 z3).bind fun e1 =>
      if e1 = z2 then
        if in64 (z2 + 1) then
          if in64 (z3 + 1) then
            m_laws_heldIntS_L0 fuel x0 k1 (z2 + 1) (z3 + 1)
          else none
        else none
      else
        some (.ret (-1))
    else
      some (.brk z2)

def m_laws_heldIntS (fuel : Nat) (x0 : List Int) (x1 : Int) : Option Int :=
  (m_laws_heldIntS_L0 fuel x0 fuel x1 0).bind <| contL <| un1 fun z1 =>
  some z1

set_option maxRecDepth 100000 in
set_option maxHeartbeats 4000000 in
theorem w_laws_heldIntS (fuel : Nat) {x0 : List Int} {x1 : Int} {a_x0 : Option Addr} {n_x0 c_x0 : Nat} {r0 : Int} {w0 : World} (h : m_laws_heldIntS fuel x0 x1 = some r0) (hr_x0 : RdT (fun b => ¬ False) w0 (rowT x0) (.slice a_x0 n_x0 c_x0)) :
    Calls Try.prog 25 #[.slice a_x0 n_x0 c_x0, .int .i64 x1] w0 fun e w => e = .returned (.int .i64 r0) ∧ St w0 (fun _ => False) w [] := by
  obtain rfl := hr_x0.neq
  have HT : St w0 (fun _ => False) w0 [] := St.init0
  rw [m_laws_heldIntS] at h
  refine calls_fr (n := 21) [.slice a_x0 x0.length c_x0, .int .i64 x1] Try.func25 rfl rfl rfl (fun a HF => ?_)
  have HT : St w0 (fun _ => False) w0 [] := HT
  refine wp_seq ?_
  refine wc_text ?_
  refine wc_assign HF nS rfl rfl rfl (fun a HF => ?_)
  refine wc_end ?_
  refine then_n ?_
  obtain ⟨q1, hx1, h⟩ := obs h
  refine wp_cut (fun a w => ∃ z1, q1 = .brk z1 ∧ Fr a 21 [(1, .int .i64 z1)] ∧ St w0 (fun _ => False) w []) ?_ ?_
  · have hk1 := h
    have h := hx1
    refine wp_seq ?_
    refine wc_text ?_
    refine wc_assign HF nS rfl rfl rfl (fun a HF => ?_)
    refine wc_end ?_
    refine then_n ?_
    refine wp_block ?_
    refine wp_loopN (fun k1 a w => ∃ z2 z3, m_laws_heldIntS_L0 fuel x0 k1 z2 z3 = some q1 ∧ Fr a 21 [(0, .slice a_x0 x0.length c_x0), (1, .int .i64 z2), (5, .int .i64 z3)] ∧ St w0 (fun _ => False) w []) fuel ⟨x1, 0, h, (HF.keep (HF.keep (HF.keep HF.nil rfl) rfl) rfl), HT⟩ ?_
    rintro k1 a w ⟨z2, z3, h, HF, HT⟩
    cases k1 with
    | zero => cases h
    | succ k1 =>
      rw [m_laws_heldIntS_L0] at h
      refine ?_
      refine wp_seq ?_
      refine wp_seq ?_
      refine wc_text ?_
      refine wc_move HF nS rfl rfl rfl (fun a HF => ?_)
      refine wc_move HF nS rfl rfl rfl (fun a HF => ?_)
      refine wc_lenR HF nS Try.underlying29 rfl rfl rfl (fun a HF => ?_)
      refine wc_bin HF nS rfl rfl b_lt rfl rfl (fun a HF => ?_)
      refine wc_end ?_
      refine then_n ?_
      by_cases hb1 : z3 < (x0.length : Int)
      · have h := (if_pos hb1).symm.trans h
        refine wp_if (b' := true) HF rfl (decide_eq_true hb1) ?_
        refine wp_skip ?_
        refine then_n ?_
        refine wp_seq ?_
        refine wp_block ?_
        refine wp_seq ?_
        refine wp_seq ?_
        refine wc_text ?_
        refine wc_move HF nS rfl rfl rfl (fun a HF => ?_)
        refine wc_move HF nS rfl rfl rfl (fun a HF => ?_)
        obtain ⟨e1, hx2, h⟩ := obs h
        obtain ⟨b1, o1, ha1⟩ := (HT.ro hr_x0).any.addr hx2
        refine wc_ixaddr HF nS el29 rfl ha1 ((HT.ro hr_x0).any).neq rfl hx2 rfl rfl (fun a HF => ?_)
        have hc1 := (HT.ro hr_x0).any.flatAt ha1 hx2
        refine wc_load HF rfl sc3 (hc1.get 0 rfl) rfl rfl (fun a HF => ?_)
        refine wc_move HF nS rfl rfl rfl (fun a HF => ?_)
        refine wc_bin HF nS rfl rfl b_ne rfl rfl (fun a HF => ?_)
        refine wc_end ?_
        refine then_n ?_
        by_cases hb2 : e1 = z2
        · have h := (if_pos hb2).symm.trans h
          refine wp_if (b' := false) HF rfl (notT (decide_eq_true hb2)) ?_
          refine wp_skip ?_
          refine then_n ?_
          refine wc_text ?_
          refine wc_move HF nS rfl rfl rfl (fun a HF => ?_)
          obtain ⟨hg1, h⟩ := grd h
          refine wc_bin HF nS rfl rfl (b_add hg1) rfl rfl (fun a HF => ?_)
          refine wc_assign HF nS rfl rfl rfl (fun a HF => ?_)
          refine wc_end ?_
          refine blk_n ?_
          refine then_n ?_
          refine wc_text ?_
          refine wc_move HF nS rfl rfl rfl (fun a HF => ?_)
          obtain ⟨hg2, h⟩ := grd h
          refine wc_bin HF nS rfl rfl (b_add hg2) rfl rfl (fun a HF => ?_)
          refine wc_assign HF nS rfl rfl rfl (fun a HF => ?_)
          refine wc_end ?_
          exact then_n ⟨k1, Nat.lt_succ_self k1, z2 + 1, z3 + 1, h, (HF.keep (HF.keep (HF.keep HF.nil rfl) rfl) rfl), HT⟩
        · have h := (if_neg hb2).symm.trans h
          refine wp_if (b' := true) HF rfl (notF (decide_eq_false hb2)) ?_
          refine wp_seq ?_
          refine wc_text ?_
          refine wc_assign HF nS rfl rfl rfl (fun a HF => ?_)
          refine wc_end ?_
          refine then_n ?_
          refine wp_ret ?_
          obtain rfl := Option.some.inj h
          have h := retL hk1
          obtain rfl := Option.some.inj h
          refine then_r (blk_r (then_r (then_r (blk_r (then_r (?_))))))
          refine bp_ret HF (res_one rfl HF rfl) ?_
          exact ⟨rfl, HT⟩
      · have h := (if_neg hb1).symm.trans h
        refine wp_if (b' := false) HF rfl (decide_eq_false hb1) ?_
        refine wp_exit ?_
        refine then_x (then_x (?_))
        refine blk_x ?_
        exact then_n ⟨z2, (Option.some.inj h).symm, (HF.keep HF.nil rfl), HT⟩
  · rintro a w ⟨z1, rfl, HF, HT⟩
    have h := brkL1 h
    refine ?_
    refine wp_seq ?_
    refine wc_text ?_
    refine wc_move HF nS rfl rfl rfl (fun a HF => ?_)
    refine wc_assign HF nS rfl rfl rfl (fun a HF => ?_)
    refine wc_end ?_
    refine then_n ?_
    refine wp_ret ?_
    obtain rfl := Option.some.inj h
    refine bp_ret HF (res_one rfl HF rfl) ?_
    exact ⟨rfl, HT⟩

def m_laws_markIntS_L0 (fuel : Nat) (x0 : List Int) : Nat → (List Int) → Int → Int → Option (Int × List Int)
  | 0, _, _, _ => none
  | k1 + 1, z3, z4, z5 =>
    if z5 < (x0.length : Int) then
      (at? z3 z5).bind fun e1 =>
      if in64 (z4 + 1) then
        if in64 (z5 + 1) then
          m_laws_markIntS_L0 fuel x0 k1 (z3.set z5.toNat z4) (z4 + 1) (z5 + 1)
        else none
      else none
    else
      some (z4, z3)

def m_laws_markIntS (fuel : Nat) (x0 : List Int) (x1 : Int) : Option (Int × List Int) :=
  bind2 (m_laws_markIntS_L0 fuel x0 fuel x0 x1 0) fun z1 z2 =>
  some (z1, z2)

set_option maxRecDepth 100000 in
set_option maxHeartbeats 4000000 in
theorem w_laws_markIntS (fuel : Nat) {x0 : List Int} {x1 : Int} {a_x0 : Option Addr} {n_x0 c_x0 : Nat} {r0 : Int} {x0' : List Int} {w0 : World} {F : Foot} (h : m_laws_markIntS fuel x0 x1 = some (r0, x0')) (hA : StF w0 F [Own 3 (rowT x0) (.slice a_x0 n_x0 c_x0)]) :
    Calls Try.prog 24 #[.slice a_x0 n_x0 c_x0, .int .i64 x1] w0 fun e w => e = .returned (.int .i64 r0) ∧ St w0 F w [Own 3 (rowT x0') (.slice a_x0 n_x0 c_x0)] := by
  have HT0 := St.init hA
  obtain rfl := (HT0.rdAt 0 rfl).neq
  have HT : St w0 F w0 [Own 3 (rowT x0) (.slice a_x0 x0.length c_x0)] := St.init hA
  rw [m_laws_markIntS] at h
  refine calls_fr (n := 19) [.slice a_x0 x0.length c_x0, .int .i64 x1] Try.func24 rfl rfl rfl (fun a HF => ?_)
  have HT : St w0 F w0 [Own 3 (rowT x0) (.slice a_x0 x0.length c_x0)] := HT
  refine wp_seq ?_
  refine wc_text ?_
  refine wc_assign HF nS rfl rfl rfl (fun a HF => ?_)
  refine wc_end ?_
  refine then_n ?_
  obtain ⟨z1, z2, hx1, h⟩ := obs2 h
  refine wp_cut (fun a w => Fr a 19 [(1, .int .i64 z1)] ∧ St w0 F w [Own 3 (rowT z2) (.slice a_x0 x0.length c_x0)]) ?_ ?_
  · have hk1 := h
    have h := hx1
    refine wp_seq ?_
    refine wc_text ?_
    refine wc_assign HF nS rfl rfl rfl (fun a HF => ?_)
    refine wc_end ?_
    refine then_n ?_
    refine wp_block ?_
    refine wp_loopN (fun k1 a w => ∃ z3 z4 z5, m_laws_markIntS_L0 fuel x0 k1 z3 z4 z5 = some (z1, z2) ∧ Fr a 19 [(0, .slice a_x0 x0.length c_x0), (1, .int .i64 z4), (5, .int .i64 z5)] ∧ St w0 F w [Own 3 (rowT z3) (.slice a_x0 x0.length c_x0)]) fuel ⟨x0, x1, 0, h, (HF.keep (HF.keep (HF.keep HF.nil rfl) rfl) rfl), HT⟩ ?_
    rintro k1 a w ⟨z3, z4, z5, h, HF, HT⟩
    cases k1 with
    | zero => cases h
    | succ k1 =>
      rw [m_laws_markIntS_L0] at h
      refine ?_
      refine wp_seq ?_
      refine wp_seq ?_
      refine wc_text ?_
      refine wc_move HF nS rfl rfl rfl (fun a HF => ?_)
      refine wc_move HF nS rfl rfl rfl (fun a HF => ?_)
      refine wc_lenR HF nS Try.underlying29 rfl rfl rfl (fun a HF => ?_)
      refine wc_bin HF nS rfl rfl b_lt rfl rfl (fun a HF => ?_)
      refine wc_end ?_
      refine then_n ?_
      by_cases hb1 : z5 < (x0.length : Int)
      · have h := (if_pos hb1).symm.trans h
        refine wp_if (b' := true) HF rfl (decide_eq_true hb1) ?_
        refine wp_skip ?_
        refine then_n ?_
        refine wp_seq ?_
        refine wp_block ?_
        refine wp_seq ?_
        refine wc_text ?_
        refine wc_move HF nS rfl rfl rfl (fun a HF => ?_)
        refine wc_move HF nS rfl rfl rfl (fun a HF => ?_)
        refine wc_move HF nS rfl rfl rfl (fun a HF => ?_)
        obtain ⟨e1, hx2, h⟩ := obs h
        obtain ⟨b1, o1, ha1⟩ := (HT.rdAt 0 rfl).addr hx2
        refine wc_ixaddr HF nS el29 rfl ha1 ((HT.rdAt 0 rfl)).neq rfl hx2 rfl rfl (fun a HF => ?_)
        refine wc_storeR (i := z5) (j := 0) (x' := z4) HF HT ha1 rfl rfl (fun w => (sc3 w).2) rfl rfl hx2 rfl rfl rfl rfl (fun w HT => ⟨nS, ?_⟩)
        refine wc_end ?_
        refine then_n ?_
        refine wc_text ?_
        refine wc_move HF nS rfl rfl rfl (fun a HF => ?_)
        obtain ⟨hg1, h⟩ := grd h
        refine wc_bin HF nS rfl rfl (b_add hg1) rfl rfl (fun a HF => ?_)
        refine wc_assign HF nS rfl rfl rfl (fun a HF => ?_)
        refine wc_end ?_
        refine blk_n ?_
        refine then_n ?_
        refine wc_text ?_
        refine wc_move HF nS rfl rfl rfl (fun a HF => ?_)
        obtain ⟨hg2, h⟩ := grd h
        refine wc_bin HF nS rfl rfl (b_add hg2) rfl rfl (fun a HF => ?_)
        refine wc_assign HF nS rfl rfl rfl (fun a HF => ?_)
        refine wc_end ?_
        exact then_n ⟨k1, Nat.lt_succ_self k1, z3.set z5.toNat z4, z4 + 1, z5 + 1, h, (HF.keep (HF.keep (HF.keep HF.nil rfl) rfl) rfl), HT⟩
      · have h := (if_neg hb1).symm.trans h
        refine wp_if (b' := false) HF rfl (decide_eq_false hb1) ?_
        refine wp_exit ?_
        refine then_x (then_x (?_))
        refine blk_x ?_
        have hj1 := Option.some.inj h
        obtain ⟨hi1, hj2⟩ := Prod.mk.inj hj1
        subst hi1
        subst hj2
        exact then_n ⟨(HF.keep HF.nil rfl), HT⟩
  · rintro a w ⟨HF, HT⟩
    refine ?_
    refine wp_seq ?_
    refine wc_text ?_
    refine wc_move HF nS rfl rfl rfl (fun a HF => ?_)
    refine wc_assign HF nS rfl rfl rfl (fun a HF => ?_)
    refine wc_end ?_
    refine then_n ?_
    refine wp_ret ?_
    have hj3 := Option.some.inj h
    obtain ⟨hi3, hj4⟩ := Prod.mk.inj hj3
    subst hi3
    subst hj4
    refine bp_ret HF (res_one rfl HF rfl) ?_
    exact ⟨rfl, HT⟩

def m_laws_toIntS_L0 (fuel : Nat) (x0 : List Int) : Nat → (List Int) → Int → Option (List Int)
  | 0, _, _ => none
  | k1 + 1, z2, z3 =>
    if z3 < (x0.length : Int) then
      (at? x0 z3).bind fun e1 =>
      (at? z2 z3).bind fun e2 =>
      if in64 (z3 + 1) then
        m_laws_toIntS_L0 fuel x0 k1 (z2.set z3.toNat e1) (z3 + 1)
      else none
    else
      some z2

def m_laws_toIntS (fuel : Nat) (x0 : List Int) : Option (List Int) :=
  if 0 ≤ ((x0.length : Int) : Int) ∧ (x0.length : Int) ≤ 1048576 then
    (m_laws_toIntS_L0 fuel x0 fuel (List.replicate ((x0.length : Int) : Int).toNat (0 : Int)) 0).bind fun z1 =>
    some z1
  else none

set_option maxRecDepth 100000 in
set_option maxHeartbeats 4000000 in
theorem w_laws_toIntS (fuel : Nat) {x0 : List Int} {a_x0 : Option Addr} {n_x0 c_x0 : Nat} {r0 : List Int} {w0 : World} (h : m_laws_toIntS fuel x0 = some r0) (hr_x0 : RdT (fun b => ¬ False) w0 (rowT x0) (.slice a_x0 n_x0 c_x0)) :
    Calls Try.prog 21 #[.slice a_x0 n_x0 c_x0] w0 fun e w => ∃ a_r0 n_r0 c_r0, e = .returned (.slice a_r0 n_r0 c_r0) ∧ St w0 (fun _ => False) w [Own 3 (rowT r0) (.slice a_r0 n_r0 c_r0)] := by
  obtain rfl := hr_x0.neq
  have HT : St w0 (fun _ => False) w0 [] := St.init0
  rw [m_laws_toIntS] at h
  refine calls_fr (n := 22) [.slice a_x0 x0.length c_x0] Try.func21 rfl rfl rfl (fun a HF => ?_)
  have HT : St w0 (fun _ => False) w0 [] := HT
  refine wp_seq ?_
  refine wc_text ?_
  refine wc_assign HF nS rfl rfl rfl (fun a HF => ?_)
  refine wc_end ?_
  refine then_n ?_
  refine wp_seq ?_
  refine wc_text ?_
  refine wc_move HF nS rfl rfl rfl (fun a HF => ?_)
  refine wc_lenR HF nS Try.underlying29 rfl rfl rfl (fun a HF => ?_)
  obtain ⟨hg1, h⟩ := grd h
  refine wc_make (x := (0 : Int)) HF HT el29 rfl rfl hg1 rfl rfl rfl rfl (fun p1 w HT hb => ⟨nS, fun a HF => ?_⟩)
  refine wc_assign HF nS rfl rfl rfl (fun a HF => ?_)
  refine wc_end ?_
  refine then_n ?_
  obtain ⟨z1, hx1, h⟩ := obs h
  refine wp_cut (fun a w => Fr a 22 [(3, .slice (some ⟨p1, 0, none⟩) ((List.replicate ((x0.length : Int) : Int).toNat (0 : Int)).length) ((List.replicate ((x0.length : Int) : Int).toNat (0 : Int)).length))] ∧ St w0 (fun _ => False) w [Own 3 (rowT z1) (.slice (some ⟨p1, 0, none⟩) ((List.replicate ((x0.length : Int) : Int).toNat (0 : Int)).length) ((List.replicate ((x0.length : Int) : Int).toNat (0 : Int)).length))]) ?_ ?_
  · have hk1 := h
    have h := hx1
    refine wp_seq ?_
    refine wc_text ?_
    refine wc_assign HF nS rfl rfl rfl (fun a HF => ?_)
    refine wc_end ?_
    refine then_n ?_
    refine wp_block ?_
    refine wp_loopN (fun k1 a w => ∃ z2 z3, m_laws_toIntS_L0 fuel x0 k1 z2 z3 = some z1 ∧ Fr a 22 [(0, .slice a_x0 x0.length c_x0), (3, .slice (some ⟨p1, 0, none⟩) ((List.replicate ((x0.length : Int) : Int).toNat (0 : Int)).length) ((List.replicate ((x0.length : Int) : Int).toNat (0 : Int)).length)), (4, .int .i64 z3)] ∧ St w0 (fun _ => False) w [Own 3 (rowT z2) (.slice (some ⟨p1, 0, none⟩) ((List.replicate ((x0.length : Int) : Int).toNat (0 : Int)).length) ((List.replicate ((x0.length : Int) : Int).toNat (0 : Int)).length))]) fuel ⟨List.replicate ((x0.length : Int) : Int).toNat (0 : Int), 0, h, (HF.keep (HF.keep (HF.keep HF.nil rfl) rfl) rfl), HT⟩ ?_
    rintro k1 a w ⟨z2, z3, h, HF, HT⟩
    cases k1 with
    | zero => cases h
    | succ k1 =>
      rw [m_laws_toIntS_L0] at h
      refine ?_
      refine wp_seq ?_
      refine wp_seq ?_
      refine wc_text ?_
      refine wc_move HF nS rfl rfl rfl (fun a HF => ?_)
      refine wc_move HF nS rfl rfl rfl (fun a HF => ?_)
      refine wc_lenR HF nS Try.underlying29 rfl rfl rfl (fun a HF => ?_)
      refine wc_bin HF nS rfl rfl b_lt rfl rfl (fun a HF => ?_)
      refine wc_end ?_
      refine then_n ?_
      by_cases hb1 : z3 < (x0.length : Int)
      · have h := (if_pos hb1).symm.trans h
        refine wp_if (b' := true) HF rfl (decide_eq_true hb1) ?_
        refine wp_skip ?_
        refine then_n ?_
        refine wp_seq ?_
        refine wp_block ?_
        refine wc_text ?_
        refine wc_move HF nS rfl rfl rfl (fun a HF => ?_)
        refine wc_move HF nS rfl rfl rfl (fun a HF => ?_)
        refine wc_move HF nS rfl rfl rfl (fun a HF => ?_)
        refine wc_move HF nS rfl rfl rfl (fun a HF => ?_)
        obtain ⟨e1, hx2, h⟩ := obs h
        obtain ⟨b1, o1, ha1⟩ := (HT.ro hr_x0).any.addr hx2
        refine wc_ixaddr HF nS el29 rfl ha1 ((HT.ro hr_x0).any).neq rfl hx2 rfl rfl (fun a HF => ?_)
        have hc1 := (HT.ro hr_x0).any.flatAt ha1 hx2
        refine wc_load HF rfl sc3 (hc1.get 0 rfl) rfl rfl (fun a HF => ?_)
        obtain ⟨e2, hx3, h⟩ := obs h
        refine wc_ixaddr HF nS el29 rfl rfl ((HT.rdAt 0 rfl)).neq rfl hx3 rfl rfl (fun a HF => ?_)
        refine wc_storeR (i := z3) (j := 0) (x' := e1) HF HT rfl rfl rfl (fun w => (sc3 w).2) rfl rfl hx3 rfl rfl rfl rfl (fun w HT => ⟨nS, ?_⟩)
        refine wc_end ?_
        refine blk_n ?_
        refine then_n ?_
        refine wc_text ?_
        refine wc_move HF nS rfl rfl rfl (fun a HF => ?_)
        obtain ⟨hg2, h⟩ := grd h
        refine wc_bin HF nS rfl rfl (b_add hg2) rfl rfl (fun a HF => ?_)
        refine wc_assign HF nS rfl rfl rfl (fun a HF => ?_)
        refine wc_end ?_
        exact then_n ⟨k1, Nat.lt_succ_self k1, z2.set z3.toNat e1, z3 + 1, h, (HF.keep (HF.keep (HF.keep HF.nil rfl) rfl) rfl), HT⟩
      · have h := (if_neg hb1).symm.trans h
        refine wp_if (b' := false) HF rfl (decide_eq_false hb1) ?_
        refine wp_exit ?_
        refine then_x (then_x (?_))
        refine blk_x ?_
        obtain rfl := Option.some.inj h
        exact then_n ⟨(HF.keep HF.nil rfl), HT⟩
  · rintro a w ⟨HF, HT⟩
    refine ?_
    refine wp_seq ?_
    refine wc_text ?_
    refine wc_move HF nS rfl rfl rfl (fun a HF => ?_)
    refine wc_assign HF nS rfl rfl rfl (fun a HF => ?_)
    refine wc_end ?_
    refine then_n ?_
    refine wp_ret ?_
    obtain rfl := Option.some.inj h
    refine bp_ret HF (res_one rfl HF rfl) ?_
    exact ⟨(some ⟨p1, 0, none⟩), (List.replicate ((x0.length : Int) : Int).toNat (0 : Int)).length, (List.replicate ((x0.length : Int) : Int).toNat (0 : Int)).length, rfl, HT⟩

def m_spec_l4Regs_L0 (fuel : Nat) (x0 : List Int) : Nat → Int → Option (Lp Unit Bool)
  | 0, _ => none
  | k1 + 1, z1 =>
    if z1 < (x0.length : Int) then
      (at? x0 z1).bind fun e1 =>
      (m_spec_l3Val fuel e1).bind fun y1 =>
      if y1 = true then
        if in64 (z1 + 1) then
          m_spec_l4Regs_L0 fuel x0 k1 (z1 + 1)
        else none
      else
        some (.ret false)
    else
      some (.brk ())

def m_spec_l4Regs (fuel : Nat) (x0 : List Int) : Option Bool :=
  if (x0.length : Int) = 4 then
    (m_spec_l4Regs_L0 fuel x0 fuel 0).bind <| contL <| un1 fun _ =>
    some true
  else
    some false

set_option maxRecDepth 100000 in
set_option maxHeartbeats 4000000 in
theorem w_spec_l4Regs (fuel : Nat) {x0 : List Int} {a_x0 : Option Addr} {n_x0 c_x0 : Nat} {r0 : Bool} {w0 : World} (h : m_spec_l4Regs fuel x0 = some r0) (hr_x0 : RdT (fun b => ¬ False) w0 (rowT x0) (.slice a_x0 n_x0 c_x0)) :
    Calls Try.prog 59 #[.slice a_x0 n_x0 c_x0] w0 fun e w => e = .returned (.bool r0) ∧ St w0 (fun _ => False) w [] := by
  obtain rfl := hr_x0.neq
  have HT : St w0 (fun _ => False) w0 [] := St.init0
  rw [m_spec_l4Regs] at h
  refine calls_fr (n := 19) [.slice a_x0 x0.length c_x0] Try.func59 rfl rfl rfl (fun a HF => ?_)
  have HT : St w0 (fun _ => False) w0 [] := HT
  refine wp_seq ?_
  refine wc_text ?_
  refine wc_assign HF nS rfl rfl rfl (fun a HF => ?_)
  refine wc_end ?_
  refine then_n ?_
  refine wp_seq ?_
  refine wp_seq ?_
  refine wc_text ?_
  refine wc_move HF nS rfl rfl rfl (fun a HF => ?_)
  refine wc_lenR HF nS Try.underlying29 rfl rfl rfl (fun a HF => ?_)
  refine wc_bin HF nS rfl rfl b_ne rfl rfl (fun a HF => ?_)
  refine wc_end ?_
  refine then_n ?_
  by_cases hb1 : (x0.length : Int) = 4
  · have h := (if_pos hb1).symm.trans h
    refine wp_if (b' := false) HF rfl (notT (decide_eq_true hb1)) ?_
    refine wp_skip ?_
    refine then_n ?_
    obtain ⟨q1, hx1, h⟩ := obs h
    refine wp_cut (fun a w => q1 = .brk () ∧ Fr a 19 [] ∧ St w0 (fun _ => False) w []) ?_ ?_
    · have hk1 := h
      have h := hx1
      refine wp_seq ?_
      refine wc_text ?_
      refine wc_assign HF nS rfl rfl rfl (fun a HF => ?_)
      refine wc_end ?_
      refine then_n ?_
      refine wp_block ?_
      refine wp_loopN (fun k1 a w => ∃ z1, m_spec_l4Regs_L0 fuel x0 k1 z1 = some q1 ∧ Fr a 19 [(0, .slice a_x0 x0.length c_x0), (3, .int .i64 z1)] ∧ St w0 (fun _ => False) w []) fuel ⟨0, h, (HF.keep (HF.keep HF.nil rfl) rfl), HT⟩ ?_
      rintro k1 a w ⟨z1, h, HF, HT⟩
      cases k1 with
      | zero => cases h
      | succ k1 =>
        rw [m_spec_l4Regs_L0] at h
        refine ?_
        refine wp_seq ?_
        refine wp_seq ?_
        refine wc_text ?_
        refine wc_move HF nS rfl rfl rfl (fun a HF => ?_)
        refine wc_move HF nS rfl rfl rfl (fun a HF => ?_)
        refine wc_lenR HF nS Try.underlying29 rfl rfl rfl (fun a HF => ?_)
        refine wc_bin HF nS rfl rfl b_lt rfl rfl (fun a HF => ?_)
        refine wc_end ?_
        refine then_n ?_
        by_cases hb2 : z1 < (x0.length : Int)
        · have h := (if_pos hb2).symm.trans h
          refine wp_if (b' := true) HF rfl (decide_eq_true hb2) ?_
          refine wp_skip ?_
          refine then_n ?_
          refine wp_seq ?_
          refine wp_block ?_
          refine wp_seq ?_
          refine wc_text ?_
          refine wc_move HF nS rfl rfl rfl (fun a HF => ?_)
          refine wc_move HF nS rfl rfl rfl (fun a HF => ?_)
          obtain ⟨e1, hx2, h⟩ := obs h
          obtain ⟨b1, o1, ha1⟩ := (HT.ro hr_x0).any.addr hx2
          refine wc_ixaddr HF nS el29 rfl ha1 ((HT.ro hr_x0).any).neq rfl hx2 rfl rfl (fun a HF => ?_)
          have hc1 := (HT.ro hr_x0).any.flatAt ha1 hx2
          refine wc_load HF rfl sc3 (hc1.get 0 rfl) rfl rfl (fun a HF => ?_)
          obtain ⟨y1, hx3, h⟩ := obs h
          refine wc_call HF cf51 rfl (w_spec_l3Val fuel hx3) rfl rfl ?_
          rintro e w ⟨rfl, hE⟩
          have hb := hE.below
          have HT := HT.pure hE
          have HT : St w0 (fun _ => False) w [] := HT
          refine ⟨_, rfl, nS, fun a HF => ?_⟩
          refine wc_not HF nS rfl rfl rfl (fun a HF => ?_)
          refine wc_end ?_
          refine then_n ?_
          by_cases hb3 : y1 = true
          · have h := (if_pos hb3).symm.trans h
            refine wp_if (b' := false) HF rfl (notT hb3) ?_
            refine wp_skip ?_
            refine blk_n ?_
            refine then_n ?_
            refine wc_text ?_
            refine wc_move HF nS rfl rfl rfl (fun a HF => ?_)
            obtain ⟨hg1, h⟩ := grd h
            refine wc_bin HF nS rfl rfl (b_add hg1) rfl rfl (fun a HF => ?_)
            refine wc_assign HF nS rfl rfl rfl (fun a HF => ?_)
            refine wc_end ?_
            exact then_n ⟨k1, Nat.lt_succ_self k1, z1 + 1, h, (HF.keep (HF.keep HF.nil rfl) rfl), HT⟩
          · have h := (if_neg hb3).symm.trans h
            refine wp_if (b' := true) HF rfl (notF (Bool.eq_false_iff.2 hb3)) ?_
            refine wp_seq ?_
            refine wc_text ?_
            refine wc_assign HF nS rfl rfl rfl (fun a HF => ?_)
            refine wc_end ?_
            refine then_n ?_
            refine wp_ret ?_
            obtain rfl := Option.some.inj h
            have h := retL hk1
            obtain rfl := Option.some.inj h
            refine blk_r (then_r (then_r (blk_r (then_r (?_)))))
            refine bp_ret HF (res_one rfl HF rfl) ?_
            exact ⟨rfl, HT⟩
        · have h := (if_neg hb2).symm.trans h
          refine wp_if (b' := false) HF rfl (decide_eq_false hb2) ?_
          refine wp_exit ?_
          refine then_x (then_x (?_))
          refine blk_x ?_
          exact then_n ⟨(Option.some.inj h).symm, HF.nil, HT⟩
    · rintro a w ⟨rfl, HF, HT⟩
      have h := brkL1 h
      refine ?_
      refine wp_seq ?_
      refine wc_text ?_
      refine wc_assign HF nS rfl rfl rfl (fun a HF => ?_)
      refine wc_end ?_
      refine then_n ?_
      refine wp_ret ?_
      obtain rfl := Option.some.inj h
      refine bp_ret HF (res_one rfl HF rfl) ?_
      exact ⟨rfl, HT⟩
  · have h := (if_neg hb1).symm.trans h
    refine wp_if (b' := true) HF rfl (notF (decide_eq_false hb1)) ?_
    refine wp_seq ?_
    refine wc_text ?_
    refine wc_assign HF nS rfl rfl rfl (fun a HF => ?_)
    refine wc_end ?_
    refine then_n ?_
    refine wp_ret ?_
    obtain rfl := Option.some.inj h
    refine then_r (?_)
    refine bp_ret HF (res_one rfl HF rfl) ?_
    exact ⟨rfl, HT⟩

def m_spec_Calc (fuel : Nat) (x0_0 : Int) (x0_1 : Int) (x0_2 : Int) (x0_3 : Int) (x1 : List Int) : Option (List Int × Bool) :=
  if ([] : List Int).length + x1.length ≤ 17179869184 then
    (m_spec_OpOk fuel x0_0 x0_1 x0_2 x0_3).bind fun y1 =>
    if y1 = true then
      (m_spec_l4Regs fuel x1).bind fun y2 =>
      if y2 = true then
        if 4 < x0_0 then
          some (([] : List Int) ++ x1, false)
        else
          if x0_0 = 1 then
            (at? (([] : List Int) ++ x1) x0_1).bind fun e1 =>
            some ((([] : List Int) ++ x1).set x0_1.toNat x0_2, true)
          else
            (at? x1 x0_2).bind fun e2 =>
            (at? x1 x0_3).bind fun e3 =>
            (
              if x0_0 = 2 then
                if in64 (e2 + e3) then
                  if (65536 : Int) ≠ 0 then
                    (at? (([] : List Int) ++ x1) x0_1).bind fun e4 =>
                    some ((([] : List Int) ++ x1).set x0_1.toNat ((e2 + e3).tmod 65536))
                  else none
                else none
              else
                if x0_0 = 3 then
                  if in64 (e2 - e3) then
                    if in64 ((e2 - e3) + 65536) then
                      if (65536 : Int) ≠ 0 then
                        (at? (([] : List Int) ++ x1) x0_1).bind fun e5 =>
                        some ((([] : List Int) ++ x1).set x0_1.toNat (((e2 - e3) + 65536).tmod 65536))
                      else none
                    else none
                  else none
                else
                  (at? (([] : List Int) ++ x1) x0_1).bind fun e6 =>
                  if e2 < e3 then
                    (at? ((([] : List Int) ++ x1).set x0_1.toNat 0) x0_1).bind fun e7 =>
                    some (((([] : List Int) ++ x1).set x0_1.toNat 0).set x0_1.toNat 1)
                  else
                    some ((([] : List Int) ++ x1).set x0_1.toNat 0)).bind fun z1 =>
            some (z1, true)
      else
        some (([] : List Int) ++ x1, false)
    else
      some (([] : List Int) ++ x1, false)
  else none

set_option maxRecDepth 100000 in
set_option maxHeartbeats 4000000 in
theorem w_spec_Calc (fuel : Nat) {x0_0 : Int} {x0_1 : Int} {x0_2 : Int} {x0_3 : Int} {x1 : List Int} {a_x1 : Option Addr} {n_x1 c_x1 : Nat} {r0 : List Int} {r1 : Bool} {w0 : World} (h : m_spec_Calc fuel x0_0 x0_1 x0_2 x0_3 x1 = some (r0, r1)) (hr_x1 : RdT (fun b => ¬ False) w0 (rowT x1) (.slice a_x1 n_x1 c_x1)) :
    Calls Try.prog 20 #[.agg #[.int .i64 x0_0, .int .i64 x0_1, .int .i64 x0_2, .int .i64 x0_3], .slice a_x1 n_x1 c_x1] w0 fun e w => ∃ a_r0 n_r0 c_r0, e = .returned (.tuple #[.slice a_r0 n_r0 c_r0, .bool r1]) ∧ St w0 (fun _ => False) w [Own 3 (rowT r0) (.slice a_r0 n_r0 c_r0)] := by
  obtain rfl := hr_x1.neq
  have HT : St w0 (fun _ => False) w0 [] := St.init0
  rw [m_spec_Calc] at h
  refine calls_fr (n := 81) [.agg #[.int .i64 x0_0, .int .i64 x0_1, .int .i64 x0_2, .int .i64 x0_3], .slice a_x1 x1.length c_x1] Try.func20 rfl rfl rfl (fun a HF => ?_)
  have HT : St w0 (fun _ => False) w0 [] := HT
  refine wp_seq ?_
  refine wc_text ?_
  refine wc_box (cs := [.int .i64 x0_0, .int .i64 x0_1, .int .i64 x0_2, .int .i64 x0_3]) HF HT rfl rfl rfl rfl (fun p1 w HT hb => ⟨nS, fun a HF => ?_⟩)
  refine wc_assign HF nS rfl rfl rfl (fun a HF => ?_)
  refine wc_assign HF nS rfl rfl rfl (fun a HF => ?_)
  refine wc_end ?_
  refine then_n ?_
  refine wp_seq ?_
  refine wc_text ?_
  refine wc_bslice (l := (([] : List Int) : List Int)) (cs := []) (A := []) HF HT bs29_0 rfl rfl (gives_flat rfl) rfl (by decide) rfl rfl (fun p2 w HT hb => ⟨nS, fun a HF => ?_⟩)
  refine wc_move HF nS rfl rfl rfl (fun a HF => ?_)
  obtain ⟨hg1, h⟩ := grd h
  refine wc_appendR HF HT (HT.ro hr_x1).any el29 rfl rfl hg1 rfl rfl rfl (fun a1 c1 w HT => ⟨nS, fun a HF => ?_⟩)
  refine wc_assign HF nS rfl rfl rfl (fun a HF => ?_)
  refine wc_end ?_
  refine then_n ?_
  refine wp_seq ?_
  refine wp_seq ?_
  refine wc_text ?_
  refine wc_loadA (vs := [.int .i64 x0_0, .int .i64 x0_1, .int .i64 x0_2, .int .i64 x0_3]) HF rfl ag25 rfl ((HT.boxAt 1 rfl).part 0 4) rfl rfl (fun a HF => ?_)
  obtain ⟨y1, hx1, h⟩ := obs h
  refine wc_call HF cf15 rfl (w_spec_OpOk fuel hx1) rfl rfl ?_
  rintro e w ⟨rfl, hE⟩
  have hb := hE.below
  have HT := HT.pure hE
  have HT : St w0 (fun _ => False) w [Own 3 (rowT (([] : List Int) ++ x1)) (.slice a1 ((([] : List Int) ++ x1).length) c1), Box p1 [.int .i64 x0_0, .int .i64 x0_1, .int .i64 x0_2, .int .i64 x0_3]] := HT
  refine ⟨_, rfl, nS, fun a HF => ?_⟩
  refine wc_not HF nS rfl rfl rfl (fun a HF => ?_)
  refine wc_move HF nS rfl rfl rfl (fun a HF => ?_)
  by_cases hb1 : y1 = true
  · have h := (if_pos hb1).symm.trans h
    refine wc_move HF nS rfl (HF.wy rfl rfl rfl rfl (notT hb1)) rfl (fun a HF => ?_)
    obtain ⟨y2, hx2, h⟩ := obs h
    refine wc_call HF cf59 rfl (w_spec_l4Regs fuel hx2 (HT.ro hr_x1).any) (HF.wy rfl rfl rfl rfl (notT hb1)) rfl ?_
    rintro e w ⟨rfl, hE⟩
    have hb := hE.below
    have HT := HT.pure hE
    have HT : St w0 (fun _ => False) w [Own 3 (rowT (([] : List Int) ++ x1)) (.slice a1 ((([] : List Int) ++ x1).length) c1), Box p1 [.int .i64 x0_0, .int .i64 x0_1, .int .i64 x0_2, .int .i64 x0_3]] := HT
    refine ⟨_, rfl, nS, fun a HF => ?_⟩
    refine wc_not HF nS rfl (HF.wy rfl rfl rfl rfl (notT hb1)) rfl (fun a HF => ?_)
    refine wc_pick (b := false) HF nS rfl (notT hb1) rfl rfl rfl (fun a HF => ?_)
    refine wc_move HF nS rfl rfl rfl (fun a HF => ?_)
    by_cases hb2 : y2 = true
    · have h := (if_pos hb2).symm.trans h
      refine wc_faddr HF nS rfl fl25_0 (HF.wy rfl rfl rfl rfl (notT hb2)) rfl (fun a HF => ?_)
      refine wc_load HF rfl sc3 ((HT.boxAt 1 rfl).get 0 rfl) (HF.wy rfl rfl rfl rfl (notT hb2)) rfl (fun a HF => ?_)
      refine wc_bin HF nS rfl rfl b_gt (HF.wy rfl rfl rfl rfl (notT hb2)) rfl (fun a HF => ?_)
      refine wc_pick (b := false) HF nS rfl (notT hb2) rfl rfl rfl (fun a HF => ?_)
      refine wc_end ?_
      refine then_n ?_
      by_cases hb3 : 4 < x0_0
      · have h := (if_pos hb3).symm.trans h
        refine wp_if (b' := true) HF rfl (decide_eq_true hb3) ?_
        refine wp_seq ?_
        refine wc_text ?_
        refine wc_move HF nS rfl rfl rfl (fun a HF => ?_)
        refine wc_assign HF nS rfl rfl rfl (fun a HF => ?_)
        refine wc_assign HF nS rfl rfl rfl (fun a HF => ?_)
        refine wc_end ?_
        refine then_n ?_
        refine wp_ret ?_
        have hj1 := Option.some.inj h
        obtain ⟨hi1, hj2⟩ := Prod.mk.inj hj1
        subst hi1
        subst hj2
        refine then_r (?_)
        refine bp_ret HF (res_two rfl HF rfl rfl) ?_
        have HT : St w0 (fun _ => False) w [Own 3 (rowT (([] : List Int) ++ x1)) (.slice a1 ((([] : List Int) ++ x1).length) c1)] := HT.take 1
        exact ⟨a1, (([] : List Int) ++ x1).length, c1, rfl, HT⟩
      · have h := (if_neg hb3).symm.trans h
        refine wp_if (b' := false) HF rfl (decide_eq_false hb3) ?_
        refine wp_skip ?_
        refine then_n ?_
        refine wp_seq ?_
        refine wp_seq ?_
        refine wc_text ?_
        refine wc_faddr HF nS rfl fl25_0 rfl rfl (fun a HF => ?_)
        refine wc_load HF rfl sc3 ((HT.boxAt 1 rfl).get 0 rfl) rfl rfl (fun a HF => ?_)
        refine wc_bin HF nS rfl rfl b_eq rfl rfl (fun a HF => ?_)
        refine wc_end ?_
        refine then_n ?_
        by_cases hb4 : x0_0 = 1
        · have h := (if_pos hb4).symm.trans h
          refine wp_if (b' := true) HF rfl (decide_eq_true hb4) ?_
          refine wp_seq ?_
          refine wc_text ?_
          refine wc_move HF nS rfl rfl rfl (fun a HF => ?_)
          refine wc_faddr HF nS rfl fl25_1 rfl rfl (fun a HF => ?_)
          refine wc_load HF rfl sc3 ((HT.boxAt 1 rfl).get 1 rfl) rfl rfl (fun a HF => ?_)
          refine wc_faddr HF nS rfl fl25_2 rfl rfl (fun a HF => ?_)
          refine wc_load HF rfl sc3 ((HT.boxAt 1 rfl).get 2 rfl) rfl rfl (fun a HF => ?_)
          obtain ⟨e1, hx3, h⟩ := obs h
          obtain ⟨b1, o1, ha1⟩ := (HT.rdAt 0 rfl).addr hx3
          refine wc_ixaddr HF nS el29 rfl ha1 ((HT.rdAt 0 rfl)).neq rfl hx3 rfl rfl (fun a HF => ?_)
          refine wc_storeR (i := x0_1) (j := 0) (x' := x0_2) HF HT ha1 rfl rfl (fun w => (sc3 w).2) rfl rfl hx3 rfl rfl rfl rfl (fun w HT => ⟨nS, ?_⟩)
          refine wc_end ?_
          refine then_n ?_
          refine wp_seq ?_
          refine wc_text ?_
          refine wc_move HF nS rfl rfl rfl (fun a HF => ?_)
          refine wc_assign HF nS rfl rfl rfl (fun a HF => ?_)
          refine wc_assign HF nS rfl rfl rfl (fun a HF => ?_)
          refine wc_end ?_
          refine then_n ?_
          refine wp_ret ?_
          have hj3 := Option.some.inj h
          obtain ⟨hi3, hj4⟩ := Prod.mk.inj hj3
          subst hi3
          subst hj4
          refine then_r (?_)
          refine bp_ret HF (res_two rfl HF rfl rfl) ?_
          have HT : St w0 (fun _ => False) w [Own 3 (rowT ((([] : List Int) ++ x1).set x0_1.toNat x0_2)) (.slice a1 ((([] : List Int) ++ x1).length) c1)] := HT.take 1
          exact ⟨a1, (([] : List Int) ++ x1).length, c1, rfl, HT⟩
        · have h := (if_neg hb4).symm.trans h
          refine wp_if (b' := false) HF rfl (decide_eq_false hb4) ?_
          refine wp_skip ?_
          refine then_n ?_
          refine wp_seq ?_
          refine wc_text ?_
          refine wc_move HF nS rfl rfl rfl (fun a HF => ?_)
          refine wc_faddr HF nS rfl fl25_2 rfl rfl (fun a HF => ?_)
          refine wc_load HF rfl sc3 ((HT.boxAt 1 rfl).get 2 rfl) rfl rfl (fun a HF => ?_)
          obtain ⟨e2, hx4, h⟩ := obs h
          obtain ⟨b2, o2, ha2⟩ := (HT.ro hr_x1).any.addr hx4
          refine wc_ixaddr HF nS el29 rfl ha2 ((HT.ro hr_x1).any).neq rfl hx4 rfl rfl (fun a HF => ?_)
          have hc1 := (HT.ro hr_x1).any.flatAt ha2 hx4
          refine wc_load HF rfl sc3 (hc1.get 0 rfl) rfl rfl (fun a HF => ?_)
          refine wc_assign HF nS rfl rfl rfl (fun a HF => ?_)
          refine wc_end ?_
          refine then_n ?_
          refine wp_seq ?_
          refine wc_text ?_
          refine wc_move HF nS rfl rfl rfl (fun a HF => ?_)
          refine wc_faddr HF nS rfl fl25_3 rfl rfl (fun a HF => ?_)
          refine wc_load HF rfl sc3 ((HT.boxAt 1 rfl).get 3 rfl) rfl rfl (fun a HF => ?_)
          obtain ⟨e3, hx5, h⟩ := obs h
          refine wc_ixaddr HF nS el29 rfl ha2 ((HT.ro hr_x1).any).neq rfl hx5 rfl rfl (fun a HF => ?_)
          have hc2 := (HT.ro hr_x1).any.flatAt ha2 hx5
          refine wc_load HF rfl sc3 (hc2.get 0 rfl) rfl rfl (fun a HF => ?_)
          refine wc_assign HF nS rfl rfl rfl (fun a HF => ?_)
          refine wc_end ?_
          refine then_n ?_
          obtain ⟨z1, hx6, h⟩ := obs h
          refine wp_cut (fun a w => Fr a 81 [(6, .slice a1 ((([] : List Int) ++ x1).length) c1)] ∧ St w0 (fun _ => False) w [Own 3 (rowT z1) (.slice a1 ((([] : List Int) ++ x1).length) c1)]) ?_ ?_
          · have hk1 := h
            have h := hx6
            refine wp_seq ?_
            refine wc_text ?_
            refine wc_faddr HF nS rfl fl25_0 rfl rfl (fun a HF => ?_)
            refine wc_load HF rfl sc3 ((HT.boxAt 1 rfl).get 0 rfl) rfl rfl (fun a HF => ?_)
            refine wc_end ?_
            refine then_n ?_
            refine wp_block ?_
            refine wp_seq ?_
            refine wc_text ?_
            refine wc_bin HF nS rfl rfl b_eq rfl rfl (fun a HF => ?_)
            refine wc_assign HF nS rfl rfl rfl (fun a HF => ?_)
            refine wc_end ?_
            refine then_n ?_
            by_cases hb5 : x0_0 = 2
            · have h := (if_pos hb5).symm.trans h
              refine wp_if (b' := true) HF rfl (decide_eq_true hb5) ?_
              refine wc_text ?_
              refine wc_move HF nS rfl rfl rfl (fun a HF => ?_)
              refine wc_faddr HF nS rfl fl25_1 rfl rfl (fun a HF => ?_)
              refine wc_load HF rfl sc3 ((HT.boxAt 1 rfl).get 1 rfl) rfl rfl (fun a HF => ?_)
              refine wc_move HF nS rfl rfl rfl (fun a HF => ?_)
              refine wc_move HF nS rfl rfl rfl (fun a HF => ?_)
              obtain ⟨hg2, h⟩ := grd h
              refine wc_bin HF nS rfl rfl (b_add hg2) rfl rfl (fun a HF => ?_)
              obtain ⟨hg3, h⟩ := grd h
              refine wc_bin HF nS rfl rfl (b_rem hg3) rfl rfl (fun a HF => ?_)
              obtain ⟨e4, hx7, h⟩ := obs h
              obtain ⟨b3, o3, ha3⟩ := (HT.rdAt 0 rfl).addr hx7
              refine wc_ixaddr HF nS el29 rfl ha3 ((HT.rdAt 0 rfl)).neq rfl hx7 rfl rfl (fun a HF => ?_)
              refine wc_storeR (i := x0_1) (j := 0) (x' := (e2 + e3).tmod 65536) HF HT ha3 rfl rfl (fun w => (sc3 w).2) rfl rfl hx7 rfl rfl rfl rfl (fun w HT => ⟨nS, ?_⟩)
              refine wc_end ?_
              refine blk_n ?_
              have HT : St w0 (fun _ => False) w [Own 3 (rowT ((([] : List Int) ++ x1).set x0_1.toNat ((e2 + e3).tmod 65536))) (.slice a1 ((([] : List Int) ++ x1).length) c1)] := HT.take 1
              obtain rfl := Option.some.inj h
              exact then_n ⟨(HF.keep HF.nil rfl), HT⟩
            · have h := (if_neg hb5).symm.trans h
              refine wp_if (b' := false) HF rfl (decide_eq_false hb5) ?_
              refine wp_seq ?_
              refine wc_text ?_
              refine wc_bin HF nS rfl rfl b_eq rfl rfl (fun a HF => ?_)
              refine wc_assign HF nS rfl rfl rfl (fun a HF => ?_)
              refine wc_end ?_
              refine then_n ?_
              by_cases hb6 : x0_0 = 3
              · have h := (if_pos hb6).symm.trans h
                refine wp_if (b' := true) HF rfl (decide_eq_true hb6) ?_
                refine wc_text ?_
                refine wc_move HF nS rfl rfl rfl (fun a HF => ?_)
                refine wc_faddr HF nS rfl fl25_1 rfl rfl (fun a HF => ?_)
                refine wc_load HF rfl sc3 ((HT.boxAt 1 rfl).get 1 rfl) rfl rfl (fun a HF => ?_)
                refine wc_move HF nS rfl rfl rfl (fun a HF => ?_)
                refine wc_move HF nS rfl rfl rfl (fun a HF => ?_)
                obtain ⟨hg4, h⟩ := grd h
                refine wc_bin HF nS rfl rfl (b_sub hg4) rfl rfl (fun a HF => ?_)
                obtain ⟨hg5, h⟩ := grd h
                refine wc_bin HF nS rfl rfl (b_add hg5) rfl rfl (fun a HF => ?_)
                obtain ⟨hg6, h⟩ := grd h
                refine wc_bin HF nS rfl rfl (b_rem hg6) rfl rfl (fun a HF => ?_)
                obtain ⟨e5, hx8, h⟩ := obs h
                obtain ⟨b4, o4, ha4⟩ := (HT.rdAt 0 rfl).addr hx8
                refine wc_ixaddr HF nS el29 rfl ha4 ((HT.rdAt 0 rfl)).neq rfl hx8 rfl rfl (fun a HF => ?_)
                refine wc_storeR (i := x0_1) (j := 0) (x' := ((e2 - e3) + 65536).tmod 65536) HF HT ha4 rfl rfl (fun w => (sc3 w).2) rfl rfl hx8 rfl rfl rfl rfl (fun w HT => ⟨nS, ?_⟩)
                refine wc_end ?_
                refine blk_n ?_
                have HT : St w0 (fun _ => False) w [Own 3 (rowT ((([] : List Int) ++ x1).set x0_1.toNat (((e2 - e3) + 65536).tmod 65536))) (.slice a1 ((([] : List Int) ++ x1).length) c1)] := HT.take 1
                obtain rfl := Option.some.inj h
                exact then_n ⟨(HF.keep HF.nil rfl), HT⟩
              · have h := (if_neg hb6).symm.trans h
                refine wp_if (b' := false) HF rfl (decide_eq_false hb6) ?_
                refine wp_seq ?_
                refine wc_text ?_
                refine wc_move HF nS rfl rfl rfl (fun a HF => ?_)
                refine wc_faddr HF nS rfl fl25_1 rfl rfl (fun a HF => ?_)
                refine wc_load HF rfl sc3 ((HT.boxAt 1 rfl).get 1 rfl) rfl rfl (fun a HF => ?_)
                obtain ⟨e6, hx9, h⟩ := obs h
                obtain ⟨b5, o5, ha5⟩ := (HT.rdAt 0 rfl).addr hx9
                refine wc_ixaddr HF nS el29 rfl ha5 ((HT.rdAt 0 rfl)).neq rfl hx9 rfl rfl (fun a HF => ?_)
                refine wc_storeR (i := x0_1) (j := 0) (x' := 0) HF HT ha5 rfl rfl (fun w => (sc3 w).2) rfl rfl hx9 rfl rfl rfl rfl (fun w HT => ⟨nS, ?_⟩)
                refine wc_end ?_
                refine then_n ?_
                refine wp_seq ?_
                refine wc_text ?_
                refine wc_move HF nS rfl rfl rfl (fun a HF => ?_)
                refine wc_move HF nS rfl rfl rfl (fun a HF => ?_)
                refine wc_bin HF nS rfl rfl b_lt rfl rfl (fun a HF => ?_)
                refine wc_end ?_
                refine then_n ?_
                by_cases hb7 : e2 < e3
                · have h := (if_pos hb7).symm.trans h
                  refine wp_if (b' := true) HF rfl (decide_eq_true hb7) ?_
                  refine wc_text ?_
                  refine wc_move HF nS rfl rfl rfl (fun a HF => ?_)
                  refine wc_faddr HF nS rfl fl25_1 rfl rfl (fun a HF => ?_)
                  refine wc_load HF rfl sc3 ((HT.boxAt 1 rfl).get 1 rfl) rfl rfl (fun a HF => ?_)
                  obtain ⟨e7, hx10, h⟩ := obs h
                  refine wc_ixaddr HF nS el29 rfl ha5 ((HT.rdAt 0 rfl)).neq rfl hx10 rfl rfl (fun a HF => ?_)
                  refine wc_storeR (i := x0_1) (j := 0) (x' := 1) HF HT ha5 rfl rfl (fun w => (sc3 w).2) rfl rfl hx10 rfl rfl rfl rfl (fun w HT => ⟨nS, ?_⟩)
                  refine wc_end ?_
                  refine blk_n ?_
                  have HT : St w0 (fun _ => False) w [Own 3 (rowT (((([] : List Int) ++ x1).set x0_1.toNat 0).set x0_1.toNat 1)) (.slice a1 ((([] : List Int) ++ x1).length) c1)] := HT.take 1
                  obtain rfl := Option.some.inj h
                  exact then_n ⟨(HF.keep HF.nil rfl), HT⟩
                · have h := (if_neg hb7).symm.trans h
                  refine wp_if (b' := false) HF rfl (decide_eq_false hb7) ?_
                  refine wp_skip ?_
                  refine blk_n ?_
                  have HT : St w0 (fun _ => False) w [Own 3 (rowT ((([] : List Int) ++ x1).set x0_1.toNat 0)) (.slice a1 ((([] : List Int) ++ x1).length) c1)] := HT.take 1
                  obtain rfl := Option.some.inj h
                  exact then_n ⟨(HF.keep HF.nil rfl), HT⟩
          · rintro a w ⟨HF, HT⟩
            refine ?_
            refine wp_seq ?_
            refine wc_text ?_
            refine wc_move HF nS rfl rfl rfl (fun a HF => ?_)
            refine wc_assign HF nS rfl rfl rfl (fun a HF => ?_)
            refine wc_assign HF nS rfl rfl rfl (fun a HF => ?_)
            refine wc_end ?_
            refine then_n ?_
            refine wp_ret ?_
            have hj5 := Option.some.inj h
            obtain ⟨hi5, hj6⟩ := Prod.mk.inj hj5
            subst hi5
            subst hj6
            refine bp_ret HF (res_two rfl HF rfl rfl) ?_
            exact ⟨a1, (([] : List Int) ++ x1).length, c1, rfl, HT⟩
    · have h := (if_neg hb2).symm.trans h
      refine wc_skip HF nS (HF.wn rfl rfl rfl rfl (notF (Bool.eq_false_iff.2 hb2))) rfl (fun a HF => ?_)
      refine wc_skip HF nS (HF.wn rfl rfl rfl rfl (notF (Bool.eq_false_iff.2 hb2))) rfl (fun a HF => ?_)
      refine wc_skip HF nS (HF.wn rfl rfl rfl rfl (notF (Bool.eq_false_iff.2 hb2))) rfl (fun a HF => ?_)
      refine wc_pick (b := true) HF nS rfl (notF (Bool.eq_false_iff.2 hb2)) rfl rfl rfl (fun a HF => ?_)
      refine wc_end ?_
      refine then_n ?_
      refine wp_if (b' := true) HF rfl rfl ?_
      refine wp_seq ?_
      refine wc_text ?_
      refine wc_move HF nS rfl rfl rfl (fun a HF => ?_)
      refine wc_assign HF nS rfl rfl rfl (fun a HF => ?_)
      refine wc_assign HF nS rfl rfl rfl (fun a HF => ?_)
      refine wc_end ?_
      refine then_n ?_
      refine wp_ret ?_
      have hj7 := Option.some.inj h
      obtain ⟨hi7, hj8⟩ := Prod.mk.inj hj7
      subst hi7
      subst hj8
      refine then_r (?_)
      refine bp_ret HF (res_two rfl HF rfl rfl) ?_
      have HT : St w0 (fun _ => False) w [Own 3 (rowT (([] : List Int) ++ x1)) (.slice a1 ((([] : List Int) ++ x1).length) c1)] := HT.take 1
      exact ⟨a1, (([] : List Int) ++ x1).length, c1, rfl, HT⟩
  · have h := (if_neg hb1).symm.trans h
    refine wc_skip HF nS (HF.wn rfl rfl rfl rfl (notF (Bool.eq_false_iff.2 hb1))) rfl (fun a HF => ?_)
    refine wc_skip HF nS (HF.wn rfl rfl rfl rfl (notF (Bool.eq_false_iff.2 hb1))) rfl (fun a HF => ?_)
    refine wc_skip HF nS (HF.wn rfl rfl rfl rfl (notF (Bool.eq_false_iff.2 hb1))) rfl (fun a HF => ?_)
    refine wc_pick (b := true) HF nS rfl (notF (Bool.eq_false_iff.2 hb1)) rfl rfl rfl (fun a HF => ?_)
    refine wc_move HF nS rfl rfl rfl (fun a HF => ?_)
    refine wc_skip HF nS (HF.wn rfl rfl rfl rfl rfl) rfl (fun a HF => ?_)
    refine wc_skip HF nS (HF.wn rfl rfl rfl rfl rfl) rfl (fun a HF => ?_)
    refine wc_skip HF nS (HF.wn rfl rfl rfl rfl rfl) rfl (fun a HF => ?_)
    refine wc_pick (b := true) HF nS rfl rfl rfl rfl rfl (fun a HF => ?_)
    refine wc_end ?_
    refine then_n ?_
    refine wp_if (b' := true) HF rfl rfl ?_
    refine wp_seq ?_
    refine wc_text ?_
    refine wc_move HF nS rfl rfl rfl (fun a HF => ?_)
    refine wc_assign HF nS rfl rfl rfl (fun a HF => ?_)
    refine wc_assign HF nS rfl rfl rfl (fun a HF => ?_)
    refine wc_end ?_
    refine then_n ?_
    refine wp_ret ?_
    have hj9 := Option.some.inj h
    obtain ⟨hi9, hj10⟩ := Prod.mk.inj hj9
    subst hi9
    subst hj10
    refine then_r (?_)
    refine bp_ret HF (res_two rfl HF rfl rfl) ?_
    have HT : St w0 (fun _ => False) w [Own 3 (rowT (([] : List Int) ++ x1)) (.slice a1 ((([] : List Int) ++ x1).length) c1)] := HT.take 1
    exact ⟨a1, (([] : List Int) ++ x1).length, c1, rfl, HT⟩

def m_laws_FnExactCalc (fuel : Nat) (x0_0 : Int) (x0_1 : Int) (x0_2 : Int) (x0_3 : Int) (x1 : List Int) : Option Bool :=
  if 1048576 < (x1.length : Int) then
    some true
  else
    bind4 (m_laws_toOp fuel x0_0 x0_1 x0_2 x0_3) fun y1 y2 y3 y4 =>
    (m_laws_toIntS fuel x1).bind fun y5 =>
    bind2 (m_spec_Calc fuel y1 y2 y3 y4 y5) fun y6 y7 =>
    (m_laws_toIntS fuel x1).bind fun y8 =>
    bind4 (m_laws_toOp fuel x0_0 x0_1 x0_2 x0_3) fun y9 y10 y11 y12 =>
    bind2 (m_impl_Calc fuel y9 y10 y11 y12 y8) fun y13 y14 =>
    (m_laws_eqIntS fuel y13 y6).bind fun y15 =>
    if y15 = true then
      if (y14 == y7) = true then
        (m_laws_toIntS fuel x1).bind fun y16 =>
        (m_laws_eqIntS fuel y8 y16).bind fun y17 =>
        if y17 = true then
          bind2 (m_laws_markIntS fuel y8 1) fun y18 y19 =>
          if y18 < 0 then
            some false
          else
            (m_laws_eqIntS fuel y13 y6).bind fun y20 =>
            if y20 = true then
              bind2 (m_laws_markIntS fuel y13 1) fun y21 y22 =>
              (m_laws_heldIntS fuel y22 1).bind fun y23 =>
              if y23 < 0 then
                some false
              else
                if y23 = y21 then
                  bind4 (m_laws_toOp fuel x0_0 x0_1 x0_2 x0_3) fun y24 y25 y26 y27 =>
                  (m_laws_toIntS fuel x1).bind fun y28 =>
                  bind2 (m_impl_Calc fuel y24 y25 y26 y27 y28) fun y29 y30 =>
                  (m_laws_eqIntS fuel y29 y6).bind fun y31 =>
                  if y31 = true then
                    if (y30 == y7) = true then
                      (m_laws_heldIntS fuel y22 1).bind fun y32 =>
                      if y32 < 0 then
                        some false
                      else
                        if y32 = y21 then
                          some true
                        else
                          some false
                    else
                      some false
                  else
                    some false
                else
                  some false
            else
              some false
        else
          some false
      else
        some false
    else
      some false

set_option maxRecDepth 100000 in
set_option maxHeartbeats 4000000 in
theorem w_laws_FnExactCalc (fuel : Nat) {x0_0 : Int} {x0_1 : Int} {x0_2 : Int} {x0_3 : Int} {x1 : List Int} {a_x1 : Option Addr} {n_x1 c_x1 : Nat} {r0 : Bool} {w0 : World} (h : m_laws_FnExactCalc fuel x0_0 x0_1 x0_2 x0_3 x1 = some r0) (hr_x1 : RdT (fun b => ¬ False) w0 (rowT x1) (.slice a_x1 n_x1 c_x1)) :
    Calls Try.prog 5 #[.agg #[.int .i64 x0_0, .int .i64 x0_1, .int .i64 x0_2, .int .i64 x0_3], .slice a_x1 n_x1 c_x1] w0 fun e w => e = .returned (.bool r0) ∧ St w0 (fun _ => False) w [] := by
  obtain rfl := hr_x1.neq
  have HT : St w0 (fun _ => False) w0 [] := St.init0
  rw [m_laws_FnExactCalc] at h
  refine calls_fr (n := 101) [.agg #[.int .i64 x0_0, .int .i64 x0_1, .int .i64 x0_2, .int .i64 x0_3], .slice a_x1 x1.length c_x1] Try.func5 rfl rfl rfl (fun a HF => ?_)
  have HT : St w0 (fun _ => False) w0 [] := HT
  refine wp_seq ?_
  refine wc_text ?_
  refine wc_box (cs := [.int .i64 x0_0, .int .i64 x0_1, .int .i64 x0_2, .int .i64 x0_3]) HF HT rfl rfl rfl rfl (fun p1 w HT hb => ⟨nS, fun a HF => ?_⟩)
  refine wc_assign HF nS rfl rfl rfl (fun a HF => ?_)
  refine wc_end ?_
  refine then_n ?_
  refine wp_seq ?_
  refine wp_seq ?_
  refine wc_text ?_
  refine wc_move HF nS rfl rfl rfl (fun a HF => ?_)
  refine wc_lenR HF nS Try.underlying29 rfl rfl rfl (fun a HF => ?_)
  refine wc_bin HF nS rfl rfl b_gt rfl rfl (fun a HF => ?_)
  refine wc_end ?_
  refine then_n ?_
  by_cases hb1 : 1048576 < (x1.length : Int)
  · have h := (if_pos hb1).symm.trans h
    refine wp_if (b' := true) HF rfl (decide_eq_true hb1) ?_
    refine wp_seq ?_
    refine wc_text ?_
    refine wc_assign HF nS rfl rfl rfl (fun a HF => ?_)
    refine wc_end ?_
    refine then_n ?_
    refine wp_ret ?_
    obtain rfl := Option.some.inj h
    refine then_r (?_)
    refine bp_ret HF (res_one rfl HF rfl) ?_
    have HT : St w0 (fun _ => False) w [] := HT.take 0
    exact ⟨rfl, HT⟩
  · have h := (if_neg hb1).symm.trans h
    refine wp_if (b' := false) HF rfl (decide_eq_false hb1) ?_
    refine wp_skip ?_
    refine then_n ?_
    refine wp_seq ?_
    refine wc_text ?_
    refine wc_loadA (vs := [.int .i64 x0_0, .int .i64 x0_1, .int .i64 x0_2, .int .i64 x0_3]) HF rfl ag23 rfl ((HT.boxAt 0 rfl).part 0 4) rfl rfl (fun a HF => ?_)
    obtain ⟨y1, y2, y3, y4, hx1, h⟩ := obs4 h
    refine wc_call HF cf16 rfl (w_laws_toOp fuel hx1) rfl rfl ?_
    rintro e w ⟨rfl, hE⟩
    have hb := hE.below
    have HT := HT.pure hE
    have HT : St w0 (fun _ => False) w [Box p1 [.int .i64 x0_0, .int .i64 x0_1, .int .i64 x0_2, .int .i64 x0_3]] := HT
    refine ⟨_, rfl, nS, fun a HF => ?_⟩
    refine wc_move HF nS rfl rfl rfl (fun a HF => ?_)
    obtain ⟨y5, hx2, h⟩ := obs h
    refine wc_call HF cf21 rfl (w_laws_toIntS fuel hx2 (HT.ro hr_x1).any) rfl rfl ?_
    rintro e w ⟨a1, n1, c1, rfl, hE⟩
    have hb := hE.below
    have HT := HT.pure hE
    obtain rfl := (HT.rdAt 0 rfl).neq
    have HT : St w0 (fun _ => False) w [Own 3 (rowT y5) (.slice a1 y5.length c1), Box p1 [.int .i64 x0_0, .int .i64 x0_1, .int .i64 x0_2, .int .i64 x0_3]] := HT
    refine ⟨_, rfl, nS, fun a HF => ?_⟩
    obtain ⟨y6, y7, hx3, h⟩ := obs2 h
    refine wc_call HF cf20 rfl (w_spec_Calc fuel hx3 (HT.rdAt 0 rfl)) rfl rfl ?_
    rintro e w ⟨a2, n2, c2, rfl, hE⟩
    have hb := hE.below
    have HT := HT.pure hE
    obtain rfl := (HT.rdAt 0 rfl).neq
    have HT : St w0 (fun _ => False) w [Own 3 (rowT y6) (.slice a2 y6.length c2), Own 3 (rowT y5) (.slice a1 y5.length c1), Box p1 [.int .i64 x0_0, .int .i64 x0_1, .int .i64 x0_2, .int .i64 x0_3]] := HT
    refine ⟨_, rfl, nS, fun a HF => ?_⟩
    refine wc_move HF nS rfl rfl rfl (fun a HF => ?_)
    refine wc_extract (v := .slice a2 y6.length c2) HF nS rfl rfl rfl rfl (fun a HF => ?_)
    refine wc_extract (v := .bool y7) HF nS rfl rfl rfl rfl (fun a HF => ?_)
    refine wc_assign HF nS rfl rfl rfl (fun a HF => ?_)
    refine wc_assign HF nS rfl rfl rfl (fun a HF => ?_)
    refine wc_end ?_
    refine then_n ?_
    refine wp_seq ?_
    refine wc_text ?_
    refine wc_move HF nS rfl rfl rfl (fun a HF => ?_)
    obtain ⟨y8, hx4, h⟩ := obs h
    refine wc_call HF cf21 rfl (w_laws_toIntS fuel hx4 (HT.ro hr_x1).any) rfl rfl ?_
    rintro e w ⟨a3, n3, c3, rfl, hE⟩
    have hb := hE.below
    have HT := HT.pure hE
    obtain rfl := (HT.rdAt 0 rfl).neq
    have HT : St w0 (fun _ => False) w [Own 3 (rowT y8) (.slice a3 y8.length c3), Own 3 (rowT y6) (.slice a2 y6.length c2), Own 3 (rowT y5) (.slice a1 y5.length c1), Box p1 [.int .i64 x0_0, .int .i64 x0_1, .int .i64 x0_2, .int .i64 x0_3]] := HT
    refine ⟨_, rfl, nS, fun a HF => ?_⟩
    refine wc_assign HF nS rfl rfl rfl (fun a HF => ?_)
    refine wc_end ?_
    refine then_n ?_
    refine wp_seq ?_
    refine wc_text ?_
    refine wc_loadA (vs := [.int .i64 x0_0, .int .i64 x0_1, .int .i64 x0_2, .int .i64 x0_3]) HF rfl ag23 rfl ((HT.boxAt 3 rfl).part 0 4) rfl rfl (fun a HF => ?_)
    obtain ⟨y9, y10, y11, y12, hx5, h⟩ := obs4 h
    refine wc_call HF cf16 rfl (w_laws_toOp fuel hx5) rfl rfl ?_
    rintro e w ⟨rfl, hE⟩
    have hb := hE.below
    have HT := HT.pure hE
    have HT : St w0 (fun _ => False) w [Own 3 (rowT y8) (.slice a3 y8.length c3), Own 3 (rowT y6) (.slice a2 y6.length c2), Own 3 (rowT y5) (.slice a1 y5.length c1), Box p1 [.int .i64 x0_0, .int .i64 x0_1, .int .i64 x0_2, .int .i64 x0_3]] := HT
    refine ⟨_, rfl, nS, fun a HF => ?_⟩
    refine wc_move HF nS rfl rfl rfl (fun a HF => ?_)
    obtain ⟨y13, y14, hx6, h⟩ := obs2 h
    refine wc_call HF cf22 rfl (w_impl_Calc fuel hx6 (HT.rdAt 0 rfl)) rfl rfl ?_
    rintro e w ⟨a4, n4, c4, rfl, hE⟩
    have hb := hE.below
    have HT := HT.pure hE
    obtain rfl := (HT.rdAt 0 rfl).neq
    have HT : St w0 (fun _ => False) w [Own 3 (rowT y13) (.slice a4 y13.length c4), Own 3 (rowT y8) (.slice a3 y8.length c3), Own 3 (rowT y6) (.slice a2 y6.length c2), Own 3 (rowT y5) (.slice a1 y5.length c1), Box p1 [.int .i64 x0_0, .int .i64 x0_1, .int .i64 x0_2, .int .i64 x0_3]] := HT
    refine ⟨_, rfl, nS, fun a HF => ?_⟩
    refine wc_move HF nS rfl rfl rfl (fun a HF => ?_)
    refine wc_extract (v := .slice a4 y13.length c4) HF nS rfl rfl rfl rfl (fun a HF => ?_)
    refine wc_extract (v := .bool y14) HF nS rfl rfl rfl rfl (fun a HF => ?_)
    refine wc_assign HF nS rfl rfl rfl (fun a HF => ?_)
    refine wc_assign HF nS rfl rfl rfl (fun a HF => ?_)
    refine wc_end ?_
    refine then_n ?_
    refine wp_seq ?_
    refine wp_seq ?_
    refine wc_text ?_
    refine wc_move HF nS rfl rfl rfl (fun a HF => ?_)
    refine wc_move HF nS rfl rfl rfl (fun a HF => ?_)
    obtain ⟨y15, hx7, h⟩ := obs h
    refine wc_call HF cf23 rfl (w_laws_eqIntS fuel hx7 (HT.rdAt 0 rfl) (HT.rdAt 2 rfl)) rfl rfl ?_
    rintro e w ⟨rfl, hE⟩
    have hb := hE.below
    have HT := HT.pure hE
    have HT : St w0 (fun _ => False) w [Own 3 (rowT y13) (.slice a4 y13.length c4), Own 3 (rowT y8) (.slice a3 y8.length c3), Own 3 (rowT y6) (.slice a2 y6.length c2), Own 3 (rowT y5) (.slice a1 y5.length c1), Box p1 [.int .i64 x0_0, .int .i64 x0_1, .int .i64 x0_2, .int .i64 x0_3]] := HT
    refine ⟨_, rfl, nS, fun a HF => ?_⟩
    refine wc_not HF nS rfl rfl rfl (fun a HF => ?_)
    refine wc_move HF nS rfl rfl rfl (fun a HF => ?_)
    by_cases hb2 : y15 = true
    · have h := (if_pos hb2).symm.trans h
      refine wc_move HF nS rfl (HF.wy rfl rfl rfl rfl (notT hb2)) rfl (fun a HF => ?_)
      refine wc_move HF nS rfl (HF.wy rfl rfl rfl rfl (notT hb2)) rfl (fun a HF => ?_)
      refine wc_bin HF nS rfl rfl (b_bne Try.underlying4) (HF.wy rfl rfl rfl rfl (notT hb2)) rfl (fun a HF => ?_)
      refine wc_pick (b := false) HF nS rfl (notT hb2) rfl rfl rfl (fun a HF => ?_)
      refine wc_end ?_
      refine then_n ?_
      by_cases hb3 : (y14 == y7) = true
      · have h := (if_pos hb3).symm.trans h
        refine wp_if (b' := false) HF rfl (notT hb3) ?_
        refine wp_skip ?_
        refine then_n ?_
        refine wp_seq ?_
        refine wp_seq ?_
        refine wc_text ?_
        refine wc_move HF nS rfl rfl rfl (fun a HF => ?_)
        refine wc_move HF nS rfl rfl rfl (fun a HF => ?_)
        obtain ⟨y16, hx8, h⟩ := obs h
        refine wc_call HF cf21 rfl (w_laws_toIntS fuel hx8 (HT.ro hr_x1).any) rfl rfl ?_
        rintro e w ⟨a5, n5, c5, rfl, hE⟩
        have hb := hE.below
        have HT := HT.pure hE
        obtain rfl := (HT.rdAt 0 rfl).neq
        have HT : St w0 (fun _ => False) w [Own 3 (rowT y16) (.slice a5 y16.length c5), Own 3 (rowT y13) (.slice a4 y13.length c4), Own 3 (rowT y8) (.slice a3 y8.length c3), Own 3 (rowT y6) (.slice a2 y6.length c2), Own 3 (rowT y5) (.slice a1 y5.length c1), Box p1 [.int .i64 x0_0, .int .i64 x0_1, .int .i64 x0_2, .int .i64 x0_3]] := HT
        refine ⟨_, rfl, nS, fun a HF => ?_⟩
        obtain ⟨y17, hx9, h⟩ := obs h
        refine wc_call HF cf23 rfl (w_laws_eqIntS fuel hx9 (HT.rdAt 2 rfl) (HT.rdAt 0 rfl)) rfl rfl ?_
        rintro e w ⟨rfl, hE⟩
        have hb := hE.below
        have HT := HT.pure hE
        have HT : St w0 (fun _ => False) w [Own 3 (rowT y16) (.slice a5 y16.length c5), Own 3 (rowT y13) (.slice a4 y13.length c4), Own 3 (rowT y8) (.slice a3 y8.length c3), Own 3 (rowT y6) (.slice a2 y6.length c2), Own 3 (rowT y5) (.slice a1 y5.length c1), Box p1 [.int .i64 x0_0, .int .i64 x0_1, .int .i64 x0_2, .int .i64 x0_3]] := HT
        refine ⟨_, rfl, nS, fun a HF => ?_⟩
        refine wc_not HF nS rfl rfl rfl (fun a HF => ?_)
        refine wc_end ?_
        refine then_n ?_
        by_cases hb4 : y17 = true
        · have h := (if_pos hb4).symm.trans h
          refine wp_if (b' := false) HF rfl (notT hb4) ?_
          refine wp_skip ?_
          refine then_n ?_
          refine wp_seq ?_
          refine wc_text ?_
          refine wc_assign HF nS rfl rfl rfl (fun a HF => ?_)
          refine wc_end ?_
          refine then_n ?_
          refine wp_seq ?_
          refine wc_text ?_
          refine wc_move HF nS rfl rfl rfl (fun a HF => ?_)
          refine wc_move HF nS rfl rfl rfl (fun a HF => ?_)
          obtain ⟨y18, y19, hx10, h⟩ := obs2 h
          have HT : St w0 (fun _ => False) w [Own 3 (rowT y8) (.slice a3 y8.length c3), Own 3 (rowT y16) (.slice a5 y16.length c5), Own 3 (rowT y13) (.slice a4 y13.length c4), Own 3 (rowT y6) (.slice a2 y6.length c2), Own 3 (rowT y5) (.slice a1 y5.length c1), Box p1 [.int .i64 x0_0, .int .i64 x0_1, .int .i64 x0_2, .int .i64 x0_3]] := HT.pick 2
          obtain ⟨F1, hAF1, hFF1, hbackF1, hroF1, hownF1⟩ := St.handR (A := [Own 3 (rowT y8) (.slice a3 y8.length c3)]) HT
          refine wc_call HF cf24 rfl (w_laws_markIntS fuel hx10 hAF1) rfl rfl ?_
          rintro e w ⟨rfl, hE⟩
          have HT := hbackF1 _ _ hE
          have HT : St w0 (fun _ => False) w [Own 3 (rowT y19) (.slice a3 y8.length c3), Own 3 (rowT y16) (.slice a5 y16.length c5), Own 3 (rowT y13) (.slice a4 y13.length c4), Own 3 (rowT y6) (.slice a2 y6.length c2), Own 3 (rowT y5) (.slice a1 y5.length c1), Box p1 [.int .i64 x0_0, .int .i64 x0_1, .int .i64 x0_2, .int .i64 x0_3]] := HT
          refine ⟨_, rfl, nS, fun a HF => ?_⟩
          refine wc_assign HF nS rfl rfl rfl (fun a HF => ?_)
          refine wc_end ?_
          refine then_n ?_
          refine wp_seq ?_
          refine wp_seq ?_
          refine wc_text ?_
          refine wc_move HF nS rfl rfl rfl (fun a HF => ?_)
          refine wc_bin HF nS rfl rfl b_lt rfl rfl (fun a HF => ?_)
          refine wc_move HF nS rfl rfl rfl (fun a HF => ?_)
          by_cases hb5 : y18 < 0
          · have h := (if_pos hb5).symm.trans h
            refine wc_skip HF nS (HF.wn rfl rfl rfl rfl (decide_eq_true hb5)) rfl (fun a HF => ?_)
            refine wc_skip HF nS (HF.wn rfl rfl rfl rfl (decide_eq_true hb5)) rfl (fun a HF => ?_)
            refine wc_skip HF nS (HF.wn rfl rfl rfl rfl (decide_eq_true hb5)) rfl (fun a HF => ?_)
            refine wc_skip HF nS (HF.wn rfl rfl rfl rfl (decide_eq_true hb5)) rfl (fun a HF => ?_)
            refine wc_pick (b := true) HF nS rfl (decide_eq_true hb5) rfl rfl rfl (fun a HF => ?_)
            refine wc_move HF nS rfl rfl rfl (fun a HF => ?_)
            refine wc_skip HF nS (HF.wn rfl rfl rfl rfl rfl) rfl (fun a HF => ?_)
            refine wc_skip HF nS (HF.wn rfl rfl rfl rfl rfl) rfl (fun a HF => ?_)
            refine wc_skip HF nS (HF.wn rfl rfl rfl rfl rfl) rfl (fun a HF => ?_)
            refine wc_pick (b := true) HF nS rfl rfl rfl rfl rfl (fun a HF => ?_)
            refine wc_end ?_
            refine then_n ?_
            refine wp_if (b' := true) HF rfl rfl ?_
            refine wp_seq ?_
            refine wc_text ?_
            refine wc_assign HF nS rfl rfl rfl (fun a HF => ?_)
            refine wc_end ?_
            refine then_n ?_
            refine wp_ret ?_
            obtain rfl := Option.some.inj h
            refine then_r (?_)
            refine bp_ret HF (res_one rfl HF rfl) ?_
            have HT : St w0 (fun _ => False) w [] := HT.take 0
            exact ⟨rfl, HT⟩
          · have h := (if_neg hb5).symm.trans h
            refine wc_move HF nS rfl (HF.wy rfl rfl rfl rfl (decide_eq_false hb5)) rfl (fun a HF => ?_)
            refine wc_move HF nS rfl (HF.wy rfl rfl rfl rfl (decide_eq_false hb5)) rfl (fun a HF => ?_)
            obtain ⟨y20, hx11, h⟩ := obs h
            refine wc_call HF cf23 rfl (w_laws_eqIntS fuel hx11 (HT.rdAt 2 rfl) (HT.rdAt 3 rfl)) (HF.wy rfl rfl rfl rfl (decide_eq_false hb5)) rfl ?_
            rintro e w ⟨rfl, hE⟩
            have hb := hE.below
            have HT := HT.pure hE
            have HT : St w0 (fun _ => False) w [Own 3 (rowT y19) (.slice a3 y8.length c3), Own 3 (rowT y16) (.slice a5 y16.length c5), Own 3 (rowT y13) (.slice a4 y13.length c4), Own 3 (rowT y6) (.slice a2 y6.length c2), Own 3 (rowT y5) (.slice a1 y5.length c1), Box p1 [.int .i64 x0_0, .int .i64 x0_1, .int .i64 x0_2, .int .i64 x0_3]] := HT
            refine ⟨_, rfl, nS, fun a HF => ?_⟩
            refine wc_not HF nS rfl (HF.wy rfl rfl rfl rfl (decide_eq_false hb5)) rfl (fun a HF => ?_)
            refine wc_pick (b := false) HF nS rfl (decide_eq_false hb5) rfl rfl rfl (fun a HF => ?_)
            refine wc_move HF nS rfl rfl rfl (fun a HF => ?_)
            by_cases hb6 : y20 = true
            · have h := (if_pos hb6).symm.trans h
              refine wc_move HF nS rfl (HF.wy rfl rfl rfl rfl (notT hb6)) rfl (fun a HF => ?_)
              refine wc_move HF nS rfl (HF.wy rfl rfl rfl rfl (notT hb6)) rfl (fun a HF => ?_)
              refine wc_bin HF nS rfl rfl (b_bne Try.underlying4) (HF.wy rfl rfl rfl rfl (notT hb6)) rfl (fun a HF => ?_)
              refine wc_pick (b := false) HF nS rfl (notT hb6) rfl rfl rfl (fun a HF => ?_)
              refine wc_end ?_
              refine then_n ?_
              refine wp_if (b' := false) HF rfl (notT hb3) ?_
              refine wp_skip ?_
              refine then_n ?_
              refine wp_seq ?_
              refine wc_text ?_
              refine wc_assign HF nS rfl rfl rfl (fun a HF => ?_)
              refine wc_end ?_
              refine then_n ?_
              refine wp_seq ?_
              refine wc_text ?_
              refine wc_move HF nS rfl rfl rfl (fun a HF => ?_)
              refine wc_move HF nS rfl rfl rfl (fun a HF => ?_)
              obtain ⟨y21, y22, hx12, h⟩ := obs2 h
              have HT : St w0 (fun _ => False) w [Own 3 (rowT y13) (.slice a4 y13.length c4), Own 3 (rowT y19) (.slice a3 y8.length c3), Own 3 (rowT y16) (.slice a5 y16.length c5), Own 3 (rowT y6) (.slice a2 y6.length c2), Own 3 (rowT y5) (.slice a1 y5.length c1), Box p1 [.int .i64 x0_0, .int .i64 x0_1, .int .i64 x0_2, .int .i64 x0_3]] := HT.pick 2
              obtain ⟨F2, hAF2, hFF2, hbackF2, hroF2, hownF2⟩ := St.handR (A := [Own 3 (rowT y13) (.slice a4 y13.length c4)]) HT
              refine wc_call HF cf24 rfl (w_laws_markIntS fuel hx12 hAF2) rfl rfl ?_
              rintro e w ⟨rfl, hE⟩
              have HT := hbackF2 _ _ hE
              have HT : St w0 (fun _ => False) w [Own 3 (rowT y22) (.slice a4 y13.length c4), Own 3 (rowT y19) (.slice a3 y8.length c3), Own 3 (rowT y16) (.slice a5 y16.length c5), Own 3 (rowT y6) (.slice a2 y6.length c2), Own 3 (rowT y5) (.slice a1 y5.length c1), Box p1 [.int .i64 x0_0, .int .i64 x0_1, .int .i64 x0_2, .int .i64 x0_3]] := HT
              refine ⟨_, rfl, nS, fun a HF => ?_⟩
              refine wc_assign HF nS rfl rfl rfl (fun a HF => ?_)
              refine wc_end ?_
              refine then_n ?_
              refine wp_seq ?_
              refine wc_text ?_
              refine wc_assign HF nS rfl rfl rfl (fun a HF => ?_)
              refine wc_end ?_
              refine then_n ?_
              refine wp_seq ?_
              refine wc_text ?_
              refine wc_move HF nS rfl rfl rfl (fun a HF => ?_)
              refine wc_move HF nS rfl rfl rfl (fun a HF => ?_)
              obtain ⟨y23, hx13, h⟩ := obs h
              refine wc_call HF cf25 rfl (w_laws_heldIntS fuel hx13 (HT.rdAt 0 rfl)) rfl rfl ?_
              rintro e w ⟨rfl, hE⟩
              have hb := hE.below
              have HT := HT.pure hE
              have HT : St w0 (fun _ => False) w [Own 3 (rowT y22) (.slice a4 y13.length c4), Own 3 (rowT y19) (.slice a3 y8.length c3), Own 3 (rowT y16) (.slice a5 y16.length c5), Own 3 (rowT y6) (.slice a2 y6.length c2), Own 3 (rowT y5) (.slice a1 y5.length c1), Box p1 [.int .i64 x0_0, .int .i64 x0_1, .int .i64 x0_2, .int .i64 x0_3]] := HT
              refine ⟨_, rfl, nS, fun a HF => ?_⟩
              refine wc_assign HF nS rfl rfl rfl (fun a HF => ?_)
              refine wc_end ?_
              refine then_n ?_
              refine wp_seq ?_
              refine wp_seq ?_
              refine wc_text ?_
              refine wc_move HF nS rfl rfl rfl (fun a HF => ?_)
              refine wc_bin HF nS rfl rfl b_lt rfl rfl (fun a HF => ?_)
              refine wc_end ?_
              refine then_n ?_
              by_cases hb7 : y23 < 0
              · have h := (if_pos hb7).symm.trans h
                refine wp_if (b' := true) HF rfl (decide_eq_true hb7) ?_
                refine wp_seq ?_
                refine wc_text ?_
                refine wc_assign HF nS rfl rfl rfl (fun a HF => ?_)
                refine wc_end ?_
                refine then_n ?_
                refine wp_ret ?_
                obtain rfl := Option.some.inj h
                refine then_r (?_)
                refine bp_ret HF (res_one rfl HF rfl) ?_
                have HT : St w0 (fun _ => False) w [] := HT.take 0
                exact ⟨rfl, HT⟩
              · have h := (if_neg hb7).symm.trans h
                refine wp_if (b' := false) HF rfl (decide_eq_false hb7) ?_
                refine wp_skip ?_
                refine then_n ?_
                refine wp_seq ?_
                refine wp_seq ?_
                refine wc_text ?_
                refine wc_move HF nS rfl rfl rfl (fun a HF => ?_)
                refine wc_move HF nS rfl rfl rfl (fun a HF => ?_)
                refine wc_bin HF nS rfl rfl b_ne rfl rfl (fun a HF => ?_)
                refine wc_end ?_
                refine then_n ?_
                by_cases hb8 : y23 = y21
                · have h := (if_pos hb8).symm.trans h
                  refine wp_if (b' := false) HF rfl (notT (decide_eq_true hb8)) ?_
                  refine wp_skip ?_
                  refine then_n ?_
                  refine wp_seq ?_
                  refine wc_text ?_
                  refine wc_loadA (vs := [.int .i64 x0_0, .int .i64 x0_1, .int .i64 x0_2, .int .i64 x0_3]) HF rfl ag23 rfl ((HT.boxAt 5 rfl).part 0 4) rfl rfl (fun a HF => ?_)
                  obtain ⟨y24, y25, y26, y27, hx14, h⟩ := obs4 h
                  refine wc_call HF cf16 rfl (w_laws_toOp fuel hx14) rfl rfl ?_
                  rintro e w ⟨rfl, hE⟩
                  have hb := hE.below
                  have HT := HT.pure hE
                  have HT : St w0 (fun _ => False) w [Own 3 (rowT y22) (.slice a4 y13.length c4), Own 3 (rowT y19) (.slice a3 y8.length c3), Own 3 (rowT y16) (.slice a5 y16.length c5), Own 3 (rowT y6) (.slice a2 y6.length c2), Own 3 (rowT y5) (.slice a1 y5.length c1), Box p1 [.int .i64 x0_0, .int .i64 x0_1, .int .i64 x0_2, .int .i64 x0_3]] := HT
                  refine ⟨_, rfl, nS, fun a HF => ?_⟩
                  refine wc_move HF nS rfl rfl rfl (fun a HF => ?_)
                  obtain ⟨y28, hx15, h⟩ := obs h
                  refine wc_call HF cf21 rfl (w_laws_toIntS fuel hx15 (HT.ro hr_x1).any) rfl rfl ?_
                  rintro e w ⟨a6, n6, c6, rfl, hE⟩
                  have hb := hE.below
                  have HT := HT.pure hE
                  obtain rfl := (HT.rdAt 0 rfl).neq
                  have HT : St w0 (fun _ => False) w [Own 3 (rowT y28) (.slice a6 y28.length c6), Own 3 (rowT y22) (.slice a4 y13.length c4), Own 3 (rowT y19) (.slice a3 y8.length c3), Own 3 (rowT y16) (.slice a5 y16.length c5), Own 3 (rowT y6) (.slice a2 y6.length c2), Own 3 (rowT y5) (.slice a1 y5.length c1), Box p1 [.int .i64 x0_0, .int .i64 x0_1, .int .i64 x0_2, .int .i64 x0_3]] := HT
                  refine ⟨_, rfl, nS, fun a HF => ?_⟩
                  obtain ⟨y29, y30, hx16, h⟩ := obs2 h
                  refine wc_call HF cf22 rfl (w_impl_Calc fuel hx16 (HT.rdAt 0 rfl)) rfl rfl ?_
                  rintro e w ⟨a7, n7, c7, rfl, hE⟩
                  have hb := hE.below
                  have HT := HT.pure hE
                  obtain rfl := (HT.rdAt 0 rfl).neq
                  have HT : St w0 (fun _ => False) w [Own 3 (rowT y29) (.slice a7 y29.length c7), Own 3 (rowT y28) (.slice a6 y28.length c6), Own 3 (rowT y22) (.slice a4 y13.length c4), Own 3 (rowT y19) (.slice a3 y8.length c3), Own 3 (rowT y16) (.slice a5 y16.length c5), Own 3 (rowT y6) (.slice a2 y6.length c2), Own 3 (rowT y5) (.slice a1 y5.length c1), Box p1 [.int .i64 x0_0, .int .i64 x0_1, .int .i64 x0_2, .int .i64 x0_3]] := HT
                  refine ⟨_, rfl, nS, fun a HF => ?_⟩
                  refine wc_move HF nS rfl rfl rfl (fun a HF => ?_)
                  refine wc_extract (v := .slice a7 y29.length c7) HF nS rfl rfl rfl rfl (fun a HF => ?_)
                  refine wc_extract (v := .bool y30) HF nS rfl rfl rfl rfl (fun a HF => ?_)
                  refine wc_assign HF nS rfl rfl rfl (fun a HF => ?_)
                  refine wc_assign HF nS rfl rfl rfl (fun a HF => ?_)
                  refine wc_end ?_
                  refine then_n ?_
                  refine wp_seq ?_
                  refine wp_seq ?_
                  refine wc_text ?_
                  refine wc_move HF nS rfl rfl rfl (fun a HF => ?_)
                  refine wc_move HF nS rfl rfl rfl (fun a HF => ?_)
                  obtain ⟨y31, hx17, h⟩ := obs h
                  refine wc_call HF cf23 rfl (w_laws_eqIntS fuel hx17 (HT.rdAt 0 rfl) (HT.rdAt 5 rfl)) rfl rfl ?_
                  rintro e w ⟨rfl, hE⟩
                  have hb := hE.below
                  have HT := HT.pure hE
                  have HT : St w0 (fun _ => False) w [Own 3 (rowT y29) (.slice a7 y29.length c7), Own 3 (rowT y28) (.slice a6 y28.length c6), Own 3 (rowT y22) (.slice a4 y13.length c4), Own 3 (rowT y19) (.slice a3 y8.length c3), Own 3 (rowT y16) (.slice a5 y16.length c5), Own 3 (rowT y6) (.slice a2 y6.length c2), Own 3 (rowT y5) (.slice a1 y5.length c1), Box p1 [.int .i64 x0_0, .int .i64 x0_1, .int .i64 x0_2, .int .i64 x0_3]] := HT
                  refine ⟨_, rfl, nS, fun a HF => ?_⟩
                  refine wc_not HF nS rfl rfl rfl (fun a HF => ?_)
                  refine wc_move HF nS rfl rfl rfl (fun a HF => ?_)
                  by_cases hb9 : y31 = true
                  · have h := (if_pos hb9).symm.trans h
                    refine wc_move HF nS rfl (HF.wy rfl rfl rfl rfl (notT hb9)) rfl (fun a HF => ?_)
                    refine wc_move HF nS rfl (HF.wy rfl rfl rfl rfl (notT hb9)) rfl (fun a HF => ?_)
                    refine wc_bin HF nS rfl rfl (b_bne Try.underlying4) (HF.wy rfl rfl rfl rfl (notT hb9)) rfl (fun a HF => ?_)
                    refine wc_pick (b := false) HF nS rfl (notT hb9) rfl rfl rfl (fun a HF => ?_)
                    refine wc_end ?_
                    refine then_n ?_
                    by_cases hb10 : (y30 == y7) = true
                    · have h := (if_pos hb10).symm.trans h
                      refine wp_if (b' := false) HF rfl (notT hb10) ?_
                      refine wp_skip ?_
                      refine then_n ?_
                      refine wp_seq ?_
                      refine wc_text ?_
                      refine wc_assign HF nS rfl rfl rfl (fun a HF => ?_)
                      refine wc_end ?_
                      refine then_n ?_
                      refine wp_seq ?_
                      refine wc_text ?_
                      refine wc_move HF nS rfl rfl rfl (fun a HF => ?_)
                      refine wc_move HF nS rfl rfl rfl (fun a HF => ?_)
                      obtain ⟨y32, hx18, h⟩ := obs h
                      refine wc_call HF cf25 rfl (w_laws_heldIntS fuel hx18 (HT.rdAt 2 rfl)) rfl rfl ?_
                      rintro e w ⟨rfl, hE⟩
                      have hb := hE.below
                      have HT := HT.pure hE
                      have HT : St w0 (fun _ => False) w [Own 3 (rowT y29) (.slice a7 y29.length c7), Own 3 (rowT y28) (.slice a6 y28.length c6), Own 3 (rowT y22) (.slice a4 y13.length c4), Own 3 (rowT y19) (.slice a3 y8.length c3), Own 3 (rowT y16) (.slice a5 y16.length c5), Own 3 (rowT y6) (.slice a2 y6.length c2), Own 3 (rowT y5) (.slice a1 y5.length c1), Box p1 [.int .i64 x0_0, .int .i64 x0_1, .int .i64 x0_2, .int .i64 x0_3]] := HT
                      refine ⟨_, rfl, nS, fun a HF => ?_⟩
                      refine wc_assign HF nS rfl rfl rfl (fun a HF => ?_)
                      refine wc_end ?_
                      refine then_n ?_
                      refine wp_seq ?_
                      refine wp_seq ?_
                      refine wc_text ?_
                      refine wc_move HF nS rfl rfl rfl (fun a HF => ?_)
                      refine wc_bin HF nS rfl rfl b_lt rfl rfl (fun a HF => ?_)
                      refine wc_end ?_
                      refine then_n ?_
                      by_cases hb11 : y32 < 0
                      · have h := (if_pos hb11).symm.trans h
                        refine wp_if (b' := true) HF rfl (decide_eq_true hb11) ?_
                        refine wp_seq ?_
                        refine wc_text ?_
                        refine wc_assign HF nS rfl rfl rfl (fun a HF => ?_)
                        refine wc_end ?_
                        refine then_n ?_
                        refine wp_ret ?_
                        obtain rfl := Option.some.inj h
                        refine then_r (?_)
                        refine bp_ret HF (res_one rfl HF rfl) ?_
                        have HT : St w0 (fun _ => False) w [] := HT.take 0
                        exact ⟨rfl, HT⟩
                      · have h := (if_neg hb11).symm.trans h
                        refine wp_if (b' := false) HF rfl (decide_eq_false hb11) ?_
                        refine wp_skip ?_
                        refine then_n ?_
                        refine wp_seq ?_
                        refine wp_seq ?_
                        refine wc_text ?_
                        refine wc_move HF nS rfl rfl rfl (fun a HF => ?_)
                        refine wc_move HF nS rfl rfl rfl (fun a HF => ?_)
                        refine wc_bin HF nS rfl rfl b_ne rfl rfl (fun a HF => ?_)
                        refine wc_end ?_
                        refine then_n ?_
                        by_cases hb12 : y32 = y21
                        · have h := (if_pos hb12).symm.trans h
                          refine wp_if (b' := false) HF rfl (notT (decide_eq_true hb12)) ?_
                          refine wp_skip ?_
                          refine then_n ?_
                          refine wp_seq ?_
                          refine wc_text ?_
                          refine wc_assign HF nS rfl rfl rfl (fun a HF => ?_)
                          refine wc_end ?_
                          refine then_n ?_
                          refine wp_ret ?_
                          obtain rfl := Option.some.inj h
                          refine bp_ret HF (res_one rfl HF rfl) ?_
                          have HT : St w0 (fun _ => False) w [] := HT.take 0
                          exact ⟨rfl, HT⟩
                        · have h := (if_neg hb12).symm.trans h
                          refine wp_if (b' := true) HF rfl (notF (decide_eq_false hb12)) ?_
                          refine wp_seq ?_
                          refine wc_text ?_
                          refine wc_assign HF nS rfl rfl rfl (fun a HF => ?_)
                          refine wc_end ?_
                          refine then_n ?_
                          refine wp_ret ?_
                          obtain rfl := Option.some.inj h
                          refine then_r (?_)
                          refine bp_ret HF (res_one rfl HF rfl) ?_
                          have HT : St w0 (fun _ => False) w [] := HT.take 0
                          exact ⟨rfl, HT⟩
                    · have h := (if_neg hb10).symm.trans h
                      refine wp_if (b' := true) HF rfl (notF (Bool.eq_false_iff.2 hb10)) ?_
                      refine wp_seq ?_
                      refine wc_text ?_
                      refine wc_assign HF nS rfl rfl rfl (fun a HF => ?_)
                      refine wc_end ?_
                      refine then_n ?_
                      refine wp_ret ?_
                      obtain rfl := Option.some.inj h
                      refine then_r (?_)
                      refine bp_ret HF (res_one rfl HF rfl) ?_
                      have HT : St w0 (fun _ => False) w [] := HT.take 0
                      exact ⟨rfl, HT⟩
                  · have h := (if_neg hb9).symm.trans h
                    refine wc_skip HF nS (HF.wn rfl rfl rfl rfl (notF (Bool.eq_false_iff.2 hb9))) rfl (fun a HF => ?_)
                    refine wc_skip HF nS (HF.wn rfl rfl rfl rfl (notF (Bool.eq_false_iff.2 hb9))) rfl (fun a HF => ?_)
                    refine wc_skip HF nS (HF.wn rfl rfl rfl rfl (notF (Bool.eq_false_iff.2 hb9))) rfl (fun a HF => ?_)
                    refine wc_pick (b := true) HF nS rfl (notF (Bool.eq_false_iff.2 hb9)) rfl rfl rfl (fun a HF => ?_)
                    refine wc_end ?_
                    refine then_n ?_
                    refine wp_if (b' := true) HF rfl rfl ?_
                    refine wp_seq ?_
                    refine wc_text ?_
                    refine wc_assign HF nS rfl rfl rfl (fun a HF => ?_)
                    refine wc_end ?_
                    refine then_n ?_
                    refine wp_ret ?_
                    obtain rfl := Option.some.inj h
                    refine then_r (?_)
                    refine bp_ret HF (res_one rfl HF rfl) ?_
                    have HT : St w0 (fun _ => False) w [] := HT.take 0
                    exact ⟨rfl, HT⟩
                · have h := (if_neg hb8).symm.trans h
                  refine wp_if (b' := true) HF rfl (notF (decide_eq_false hb8)) ?_
                  refine wp_seq ?_
                  refine wc_text ?_
                  refine wc_assign HF nS rfl rfl rfl (fun a HF => ?_)
                  refine wc_end ?_
                  refine then_n ?_
                  refine wp_ret ?_
                  obtain rfl := Option.some.inj h
                  refine then_r (?_)
                  refine bp_ret HF (res_one rfl HF rfl) ?_
                  have HT : St w0 (fun _ => False) w [] := HT.take 0
                  exact ⟨rfl, HT⟩
            · have h := (if_neg hb6).symm.trans h
              refine wc_skip HF nS (HF.wn rfl rfl rfl rfl (notF (Bool.eq_false_iff.2 hb6))) rfl (fun a HF => ?_)
              refine wc_skip HF nS (HF.wn rfl rfl rfl rfl (notF (Bool.eq_false_iff.2 hb6))) rfl (fun a HF => ?_)
              refine wc_skip HF nS (HF.wn rfl rfl rfl rfl (notF (Bool.eq_false_iff.2 hb6))) rfl (fun a HF => ?_)
              refine wc_pick (b := true) HF nS rfl (notF (Bool.eq_false_iff.2 hb6)) rfl rfl rfl (fun a HF => ?_)
              refine wc_end ?_
              refine then_n ?_
              refine wp_if (b' := true) HF rfl rfl ?_
              refine wp_seq ?_
              refine wc_text ?_
              refine wc_assign HF nS rfl rfl rfl (fun a HF => ?_)
              refine wc_end ?_
              refine then_n ?_
              refine wp_ret ?_
              obtain rfl := Option.some.inj h
              refine then_r (?_)
              refine bp_ret HF (res_one rfl HF rfl) ?_
              have HT : St w0 (fun _ => False) w [] := HT.take 0
              exact ⟨rfl, HT⟩
        · have h := (if_neg hb4).symm.trans h
          refine wp_if (b' := true) HF rfl (notF (Bool.eq_false_iff.2 hb4)) ?_
          refine wp_seq ?_
          refine wc_text ?_
          refine wc_assign HF nS rfl rfl rfl (fun a HF => ?_)
          refine wc_end ?_
          refine then_n ?_
          refine wp_ret ?_
          obtain rfl := Option.some.inj h
          refine then_r (?_)
          refine bp_ret HF (res_one rfl HF rfl) ?_
          have HT : St w0 (fun _ => False) w [] := HT.take 0
          exact ⟨rfl, HT⟩
      · have h := (if_neg hb3).symm.trans h
        refine wp_if (b' := true) HF rfl (notF (Bool.eq_false_iff.2 hb3)) ?_
        refine wp_seq ?_
        refine wc_text ?_
        refine wc_assign HF nS rfl rfl rfl (fun a HF => ?_)
        refine wc_end ?_
        refine then_n ?_
        refine wp_ret ?_
        obtain rfl := Option.some.inj h
        refine then_r (?_)
        refine bp_ret HF (res_one rfl HF rfl) ?_
        have HT : St w0 (fun _ => False) w [] := HT.take 0
        exact ⟨rfl, HT⟩
    · have h := (if_neg hb2).symm.trans h
      refine wc_skip HF nS (HF.wn rfl rfl rfl rfl (notF (Bool.eq_false_iff.2 hb2))) rfl (fun a HF => ?_)
      refine wc_skip HF nS (HF.wn rfl rfl rfl rfl (notF (Bool.eq_false_iff.2 hb2))) rfl (fun a HF => ?_)
      refine wc_skip HF nS (HF.wn rfl rfl rfl rfl (notF (Bool.eq_false_iff.2 hb2))) rfl (fun a HF => ?_)
      refine wc_pick (b := true) HF nS rfl (notF (Bool.eq_false_iff.2 hb2)) rfl rfl rfl (fun a HF => ?_)
      refine wc_end ?_
      refine then_n ?_
      refine wp_if (b' := true) HF rfl rfl ?_
      refine wp_seq ?_
      refine wc_text ?_
      refine wc_assign HF nS rfl rfl rfl (fun a HF => ?_)
      refine wc_end ?_
      refine then_n ?_
      refine wp_ret ?_
      obtain rfl := Option.some.inj h
      refine then_r (?_)
      refine bp_ret HF (res_one rfl HF rfl) ?_
      have HT : St w0 (fun _ => False) w [] := HT.take 0
      exact ⟨rfl, HT⟩

def m_impl_KidOk_L0 (fuel : Nat) (x0 : List I4) : Nat → Int → Option (Lp Unit Bool)
  | 0, _ => none
  | k1 + 1, z1 =>
    if z1 < (x0.length : Int) then
      (at? x0 z1).bind fun e1 =>
      if e1.a = 11 then
        some (.ret false)
      else
        (m_impl_Touches fuel e1.a e1.b e1.c e1.d).bind fun y1 =>
        if y1 = 2 then
          some (.ret false)
        else
          if in64 (z1 + 1) then
            m_impl_KidOk_L0 fuel x0 k1 (z1 + 1)
          else none
    else
      some (.brk ())

def m_impl_KidOk (fuel : Nat) (x0 : List I4) : Option Bool :=
  (m_impl_KidOk_L0 fuel x0 fuel 0).bind <| contL <| un1 fun _ =>
  (m_impl_CodeOk fuel x0).bind fun y2 =>
  some y2

set_option maxRecDepth 100000 in
set_option maxHeartbeats 4000000 in
theorem w_impl_KidOk (fuel : Nat) {x0 : List I4} {a_x0 : Option Addr} {n_x0 c_x0 : Nat} {r0 : Bool} {w0 : World} (h : m_impl_KidOk fuel x0 = some r0) (hr_x0 : RdT (fun b => ¬ False) w0 (rowT x0) (.slice a_x0 n_x0 c_x0)) :
    Calls Try.prog 41 #[.slice a_x0 n_x0 c_x0] w0 fun e w => e = .returned (.bool r0) ∧ St w0 (fun _ => False) w [] := by
  obtain rfl := hr_x0.neq
  have HT : St w0 (fun _ => False) w0 [] := St.init0
  rw [m_impl_KidOk] at h
  refine calls_fr (n := 22) [.slice a_x0 x0.length c_x0] Try.func41 rfl rfl rfl (fun a HF => ?_)
  have HT : St w0 (fun _ => False) w0 [] := HT
  refine wp_seq ?_
  refine wc_text ?_
  refine wc_assign HF nS rfl rfl rfl (fun a HF => ?_)
  refine wc_end ?_
  refine then_n ?_
  obtain ⟨q1, hx1, h⟩ := obs h
  refine wp_cut (fun a w => q1 = .brk () ∧ Fr a 22 [(0, .slice a_x0 x0.length c_x0)] ∧ St w0 (fun _ => False) w []) ?_ ?_
  · have hk1 := h
    have h := hx1
    refine wp_seq ?_
    refine wc_text ?_
    refine wc_move HF nS rfl rfl rfl (fun a HF => ?_)
    refine wc_lenR HF nS Try.underlying43 rfl rfl rfl (fun a HF => ?_)
    refine wc_move HF nS rfl rfl rfl (fun a HF => ?_)
    refine wc_end ?_
    refine then_n ?_
    refine wp_block ?_
    refine wp_loopN (fun k1 a w => ∃ z1, m_impl_KidOk_L0 fuel x0 k1 z1 = some q1 ∧ Fr a 22 [(0, .slice a_x0 x0.length c_x0), (5, .slice a_x0 x0.length c_x0), (6, .int .i64 (x0.length : Int)), (7, .int .i64 z1)] ∧ St w0 (fun _ => False) w []) fuel ⟨0, h, (HF.keep (HF.keep (HF.keep (HF.keep HF.nil rfl) rfl) rfl) rfl), HT⟩ ?_
    rintro k1 a w ⟨z1, h, HF, HT⟩
    cases k1 with
    | zero => cases h
    | succ k1 =>
      rw [m_impl_KidOk_L0] at h
      refine ?_
      refine wp_seq ?_
      refine wc_text ?_
      refine wc_bin HF nS rfl rfl b_lt rfl rfl (fun a HF => ?_)
      refine wc_end ?_
      refine then_n ?_
      refine wp_seq ?_
      by_cases hb1 : z1 < (x0.length : Int)
      · have h := (if_pos hb1).symm.trans h
        refine wp_if (b' := true) HF rfl (decide_eq_true hb1) ?_
        refine wp_skip ?_
        refine then_n ?_
        refine wp_seq ?_
        refine wp_block ?_
        refine wp_seq ?_
        refine wc_text ?_
        obtain ⟨e1, hx2, h⟩ := obs h
        obtain ⟨b1, o1, ha1⟩ := (HT.ro hr_x0).any.addr hx2
        refine wc_ixaddr HF nS el43 rfl ha1 ((HT.ro hr_x0).any).neq rfl hx2 rfl rfl (fun a HF => ?_)
        have hc1 := (HT.ro hr_x0).any.flatAt ha1 hx2
        refine wc_loadA (vs := [.int .i64 e1.a, .int .i64 e1.b, .int .i64 e1.c, .int .i64 e1.d]) HF rfl ag25 rfl (hc1.part 0 4) rfl rfl (fun a HF => ?_)
        refine wc_alloc (cs := [.int .i64 0, .int .i64 0, .int .i64 0, .int .i64 0]) HF HT zr25 rfl rfl rfl (fun p1 w HT hb => ⟨nS, fun a HF => ?_⟩)
        refine wc_storeB (cs' := [.int .i64 e1.a, .int .i64 e1.b, .int .i64 e1.c, .int .i64 e1.d]) HF HT rfl rfl (fun w => (ag25 w).2) rfl rfl rfl rfl rfl (fun w HT => ⟨nS, ?_⟩)
        refine wc_end ?_
        refine then_n ?_
        refine wp_seq ?_
        refine wc_text ?_
        refine wc_faddr HF nS rfl fl25_0 rfl rfl (fun a HF => ?_)
        refine wc_load HF rfl sc3 ((HT.boxAt 0 rfl).get 0 rfl) rfl rfl (fun a HF => ?_)
        refine wc_bin HF nS rfl rfl b_eq rfl rfl (fun a HF => ?_)
        refine wc_move HF nS rfl rfl rfl (fun a HF => ?_)
        by_cases hb2 : e1.a = 11
        · have h := (if_pos hb2).symm.trans h
          refine wc_skip HF nS (HF.wn rfl rfl rfl rfl (decide_eq_true hb2)) rfl (fun a HF => ?_)
          refine wc_skip HF nS (HF.wn rfl rfl rfl rfl (decide_eq_true hb2)) rfl (fun a HF => ?_)
          refine wc_skip HF nS (HF.wn rfl rfl rfl rfl (decide_eq_true hb2)) rfl (fun a HF => ?_)
          refine wc_pick (b := true) HF nS rfl (decide_eq_true hb2) rfl rfl rfl (fun a HF => ?_)
          refine wc_end ?_
          refine then_n ?_
          refine wp_if (b' := true) HF rfl rfl ?_
          refine wp_seq ?_
          refine wc_text ?_
          refine wc_assign HF nS rfl rfl rfl (fun a HF => ?_)
          refine wc_end ?_
          refine then_n ?_
          refine wp_ret ?_
          obtain rfl := Option.some.inj h
          have h := retL hk1
          obtain rfl := Option.some.inj h
          refine blk_r (then_r (then_r (blk_r (then_r (?_)))))
          refine bp_ret HF (res_one rfl HF rfl) ?_
          have HT : St w0 (fun _ => False) w [] := HT.take 0
          exact ⟨rfl, HT⟩
        · have h := (if_neg hb2).symm.trans h
          refine wc_loadA (vs := [.int .i64 e1.a, .int .i64 e1.b, .int .i64 e1.c, .int .i64 e1.d]) HF rfl ag25 rfl ((HT.boxAt 0 rfl).part 0 4) (HF.wy rfl rfl rfl rfl (decide_eq_false hb2)) rfl (fun a HF => ?_)
          obtain ⟨y1, hx3, h⟩ := obs h
          refine wc_call HF cf19 rfl (w_impl_Touches fuel hx3) (HF.wy rfl rfl rfl rfl (decide_eq_false hb2)) rfl ?_
          rintro e w ⟨rfl, hE⟩
          have hb := hE.below
          have HT := HT.pure hE
          have HT : St w0 (fun _ => False) w [Box p1 [.int .i64 e1.a, .int .i64 e1.b, .int .i64 e1.c, .int .i64 e1.d]] := HT
          refine ⟨_, rfl, nS, fun a HF => ?_⟩
          refine wc_bin HF nS rfl rfl b_eq (HF.wy rfl rfl rfl rfl (decide_eq_false hb2)) rfl (fun a HF => ?_)
          refine wc_pick (b := false) HF nS rfl (decide_eq_false hb2) rfl rfl rfl (fun a HF => ?_)
          refine wc_end ?_
          refine then_n ?_
          by_cases hb3 : y1 = 2
          · have h := (if_pos hb3).symm.trans h
            refine wp_if (b' := true) HF rfl (decide_eq_true hb3) ?_
            refine wp_seq ?_
            refine wc_text ?_
            refine wc_assign HF nS rfl rfl rfl (fun a HF => ?_)
            refine wc_end ?_
            refine then_n ?_
            refine wp_ret ?_
            obtain rfl := Option.some.inj h
            have h := retL hk1
            obtain rfl := Option.some.inj h
            refine blk_r (then_r (then_r (blk_r (then_r (?_)))))
            refine bp_ret HF (res_one rfl HF rfl) ?_
            have HT : St w0 (fun _ => False) w [] := HT.take 0
            exact ⟨rfl, HT⟩
          · have h := (if_neg hb3).symm.trans h
            refine wp_if (b' := false) HF rfl (decide_eq_false hb3) ?_
            refine wp_skip ?_
            refine blk_n ?_
            refine then_n ?_
            refine wc_text ?_
            obtain ⟨hg1, h⟩ := grd h
            refine wc_bin HF nS rfl rfl (b_add hg1) rfl rfl (fun a HF => ?_)
            refine wc_move HF nS rfl rfl rfl (fun a HF => ?_)
            refine wc_end ?_
            have HT : St w0 (fun _ => False) w [] := HT.take 0
            exact then_n ⟨k1, Nat.lt_succ_self k1, z1 + 1, h, (HF.keep (HF.keep (HF.keep (HF.keep HF.nil rfl) rfl) rfl) rfl), HT⟩
      · have h := (if_neg hb1).symm.trans h
        refine wp_if (b' := false) HF rfl (decide_eq_false hb1) ?_
        refine wp_exit ?_
        refine then_x (then_x (?_))
        refine blk_x ?_
        exact then_n ⟨(Option.some.inj h).symm, (HF.keep HF.nil rfl), HT⟩
  · rintro a w ⟨rfl, HF, HT⟩
    have h := brkL1 h
    refine ?_
    refine wp_seq ?_
    refine wc_text ?_
    refine wc_move HF nS rfl rfl rfl (fun a HF => ?_)
    obtain ⟨y2, hx4, h⟩ := obs h
    refine wc_call HF cf39 rfl (w_impl_CodeOk fuel hx4 (HT.ro hr_x0).any) rfl rfl ?_
    rintro e w ⟨rfl, hE⟩
    have hb := hE.below
    have HT := HT.pure hE
    have HT : St w0 (fun _ => False) w [] := HT
    refine ⟨_, rfl, nS, fun a HF => ?_⟩
    refine wc_assign HF nS rfl rfl rfl (fun a HF => ?_)
    refine wc_end ?_
    refine then_n ?_
    refine wp_ret ?_
    obtain rfl := Option.some.inj h
    refine bp_ret HF (res_one rfl HF rfl) ?_
    exact ⟨rfl, HT⟩

def m_spec_HasFork_L0 (fuel : Nat) (x0 : List I4) : Nat → Int → Option (Lp Unit Bool)
  | 0, _ => none
  | k1 + 1, z1 =>
    if z1 < (x0.length : Int) then
      (at? x0 z1).bind fun e1 =>
      if e1.a = 11 then
        some (.ret true)
      else
        if in64 (z1 + 1) then
          m_spec_HasFork_L0 fuel x0 k1 (z1 + 1)
        else none
    else
      some (.brk ())

def m_spec_HasFork (fuel : Nat) (x0 : List I4) : Option Bool :=
  (m_spec_HasFork_L0 fuel x0 fuel 0).bind <| contL <| un1 fun _ =>
  some false

set_option maxRecDepth 100000 in
set_option maxHeartbeats 4000000 in
theorem w_spec_HasFork (fuel : Nat) {x0 : List I4} {a_x0 : Option Addr} {n_x0 c_x0 : Nat} {r0 : Bool} {w0 : World} (h : m_spec_HasFork fuel x0 = some r0) (hr_x0 : RdT (fun b => ¬ False) w0 (rowT x0) (.slice a_x0 n_x0 c_x0)) :
    Calls Try.prog 30 #[.slice a_x0 n_x0 c_x0] w0 fun e w => e = .returned (.bool r0) ∧ St w0 (fun _ => False) w [] := by
  obtain rfl := hr_x0.neq
  have HT : St w0 (fun _ => False) w0 [] := St.init0
  rw [m_spec_HasFork] at h
  refine calls_fr (n := 16) [.slice a_x0 x0.length c_x0] Try.func30 rfl rfl rfl (fun a HF => ?_)
  have HT : St w0 (fun _ => False) w0 [] := HT
  refine wp_seq ?_
  refine wc_text ?_
  refine wc_assign HF nS rfl rfl rfl (fun a HF => ?_)
  refine wc_end ?_
  refine then_n ?_
  obtain ⟨q1, hx1, h⟩ := obs h
  refine wp_cut (fun a w => q1 = .brk () ∧ Fr a 16 [] ∧ St w0 (fun _ => False) w []) ?_ ?_
  · have hk1 := h
    have h := hx1
    refine wp_seq ?_
    refine wc_text ?_
    refine wc_assign HF nS rfl rfl rfl (fun a HF => ?_)
    refine wc_end ?_
    refine then_n ?_
    refine wp_block ?_
    refine wp_loopN (fun k1 a w => ∃ z1, m_spec_HasFork_L0 fuel x0 k1 z1 = some q1 ∧ Fr a 16 [(0, .slice a_x0 x0.length c_x0), (3, .int .i64 z1)] ∧ St w0 (fun _ => False) w []) fuel ⟨0, h, (HF.keep (HF.keep HF.nil rfl) rfl), HT⟩ ?_
    rintro k1 a w ⟨z1, h, HF, HT⟩
    cases k1 with
    | zero => cases h
    | succ k1 =>
      rw [m_spec_HasFork_L0] at h
      refine ?_
      refine wp_seq ?_
      refine wp_seq ?_
      refine wc_text ?_
      refine wc_move HF nS rfl rfl rfl (fun a HF => ?_)
      refine wc_move HF nS rfl rfl rfl (fun a HF => ?_)
      refine wc_lenR HF nS Try.underlying43 rfl rfl rfl (fun a HF => ?_)
      refine wc_bin HF nS rfl rfl b_lt rfl rfl (fun a HF => ?_)
      refine wc_end ?_
      refine then_n ?_
      by_cases hb1 : z1 < (x0.length : Int)
      · have h := (if_pos hb1).symm.trans h
        refine wp_if (b' := true) HF rfl (decide_eq_true hb1) ?_
        refine wp_skip ?_
        refine then_n ?_
        refine wp_seq ?_
        refine wp_block ?_
        refine wp_seq ?_
        refine wc_text ?_
        refine wc_move HF nS rfl rfl rfl (fun a HF => ?_)
        refine wc_move HF nS rfl rfl rfl (fun a HF => ?_)
        obtain ⟨e1, hx2, h⟩ := obs h
        obtain ⟨b1, o1, ha1⟩ := (HT.ro hr_x0).any.addr hx2
        refine wc_ixaddr HF nS el43 rfl ha1 ((HT.ro hr_x0).any).neq rfl hx2 rfl rfl (fun a HF => ?_)
        refine wc_faddr HF nS rfl fl25_0 rfl rfl (fun a HF => ?_)
        have hc1 := (HT.ro hr_x0).any.flatAt ha1 hx2
        refine wc_load HF rfl sc3 (hc1.get 0 rfl) rfl rfl (fun a HF => ?_)
        refine wc_bin HF nS rfl rfl b_eq rfl rfl (fun a HF => ?_)
        refine wc_end ?_
        refine then_n ?_
        by_cases hb2 : e1.a = 11
        · have h := (if_pos hb2).symm.trans h
          refine wp_if (b' := true) HF rfl (decide_eq_true hb2) ?_
          refine wp_seq ?_
          refine wc_text ?_
          refine wc_assign HF nS rfl rfl rfl (fun a HF => ?_)
          refine wc_end ?_
          refine then_n ?_
          refine wp_ret ?_
          obtain rfl := Option.some.inj h
          have h := retL hk1
          obtain rfl := Option.some.inj h
          refine blk_r (then_r (then_r (blk_r (then_r (?_)))))
          refine bp_ret HF (res_one rfl HF rfl) ?_
          exact ⟨rfl, HT⟩
        · have h := (if_neg hb2).symm.trans h
          refine wp_if (b' := false) HF rfl (decide_eq_false hb2) ?_
          refine wp_skip ?_
          refine blk_n ?_
          refine then_n ?_
          refine wc_text ?_
          refine wc_move HF nS rfl rfl rfl (fun a HF => ?_)
          obtain ⟨hg1, h⟩ := grd h
          refine wc_bin HF nS rfl rfl (b_add hg1) rfl rfl (fun a HF => ?_)
          refine wc_assign HF nS rfl rfl rfl (fun a HF => ?_)
          refine wc_end ?_
          exact then_n ⟨k1, Nat.lt_succ_self k1, z1 + 1, h, (HF.keep (HF.keep HF.nil rfl) rfl), HT⟩
      · have h := (if_neg hb1).symm.trans h
        refine wp_if (b' := false) HF rfl (decide_eq_false hb1) ?_
        refine wp_exit ?_
        refine then_x (then_x (?_))
        refine blk_x ?_
        exact then_n ⟨(Option.some.inj h).symm, HF.nil, HT⟩
  · rintro a w ⟨rfl, HF, HT⟩
    have h := brkL1 h
    refine ?_
    refine wp_seq ?_
    refine wc_text ?_
    refine wc_assign HF nS rfl rfl rfl (fun a HF => ?_)
    refine wc_end ?_
    refine then_n ?_
    refine wp_ret ?_
    obtain rfl := Option.some.inj h
    refine bp_ret HF (res_one rfl HF rfl) ?_
    exact ⟨rfl, HT⟩
end Go.Proofs.Ytinlleepikjopaa
