/- Walks of functions, by program: spec.l1Below, spec.l1New, spec.l1Once, spec.l1PickInt, spec.l3Draw, spec.l4DrawCell, spec.l4DrawKey, spec.l4DrawReg, spec.l4Plain, spec.l4Any, spec.DrawCalc, laws.FnCalc. -/
import Derived.Test.YtinlleepikjopaaTy
import Derived.Test.YtinlleepikjopaaX1
namespace Go.Proofs.Ytinlleepikjopaa
open Go Go.RowKit
set_option linter.unusedVariables false
set_option linter.unusedSimpArgs false
def m_spec_l1Below (fuel : Nat) (x0_0 : List UInt8) (x0_1 : Int) (x0_2 : Int) (x1 : Int) : Option (Int × Int × Int) :=
  if x1 ≤ 0 then
    some (0, x0_1, x0_2)
  else
    if x1 ≤ 256 then
      bind3 (m_spec_l1Byte fuel x0_0 x0_1 x0_2) fun y1 y2 y3 =>
      if (x1 : Int) ≠ 0 then
        some (y1.tmod x1, y2, y3)
      else none
    else
      bind3 (m_spec_l1Byte fuel x0_0 x0_1 x0_2) fun y4 y5 y6 =>
      bind3 (m_spec_l1Byte fuel x0_0 y5 y6) fun y7 y8 y9 =>
      bind3 (m_spec_l1Byte fuel x0_0 y8 y9) fun y10 y11 y12 =>
      bind3 (m_spec_l1Byte fuel x0_0 y11 y12) fun y13 y14 y15 =>
      if in64 (y4 * 16777216) then
        if in64 (y7 * 65536) then
          if in64 ((y4 * 16777216) + (y7 * 65536)) then
            if in64 (y10 * 256) then
              if in64 (((y4 * 16777216) + (y7 * 65536)) + (y10 * 256)) then
                if in64 ((((y4 * 16777216) + (y7 * 65536)) + (y10 * 256)) + y13) then
                  if (x1 : Int) ≠ 0 then
                    some (((((y4 * 16777216) + (y7 * 65536)) + (y10 * 256)) + y13).tmod x1, y14, y15)
                  else none
                else none
              else none
            else none
          else none
        else none
      else none

set_option maxRecDepth 100000 in
set_option maxHeartbeats 4000000 in
theorem w_spec_l1Below (fuel : Nat) {x0_0 : List UInt8} {x0_1 : Int} {x0_2 : Int} {x1 : Int} {a_x0_0 : Option Addr} {n_x0_0 c_x0_0 : Nat} {p_0 : Nat} {r0 : Int} {x0_1' : Int} {x0_2' : Int} {w0 : World} {F : Foot} (h : m_spec_l1Below fuel x0_0 x0_1 x0_2 x1 = some (r0, x0_1', x0_2')) (hA : StF w0 F [Box p_0 [.slice a_x0_0 n_x0_0 c_x0_0, .int .i64 x0_1, .int .i64 x0_2]]) (hr_x0_0 : RdT (fun b => ¬ F b) w0 (rowT x0_0) (.slice a_x0_0 n_x0_0 c_x0_0)) :
    Calls Try.prog 64 #[.pointer (some ⟨p_0, 0, none⟩), .int .i64 x1] w0 fun e w => e = .returned (.int .i64 r0) ∧ St w0 F w [Box p_0 [.slice a_x0_0 n_x0_0 c_x0_0, .int .i64 x0_1', .int .i64 x0_2']] := by
  have HT0 := St.init hA
  obtain rfl := hr_x0_0.neq
  have HT : St w0 F w0 [Box p_0 [.slice a_x0_0 x0_0.length c_x0_0, .int .i64 x0_1, .int .i64 x0_2]] := St.init hA
  rw [m_spec_l1Below] at h
  refine calls_fr (n := 37) [.pointer (some ⟨p_0, 0, none⟩), .int .i64 x1] Try.func64 rfl rfl rfl (fun a HF => ?_)
  have HT : St w0 F w0 [Box p_0 [.slice a_x0_0 x0_0.length c_x0_0, .int .i64 x0_1, .int .i64 x0_2]] := HT
  refine wp_seq ?_
  refine wc_text ?_
  refine wc_assign HF nS rfl rfl rfl (fun a HF => ?_)
  refine wc_end ?_
  refine then_n ?_
  refine wp_seq ?_
  refine wp_seq ?_
  refine wc_text ?_
  refine wc_move HF nS rfl rfl rfl (fun a HF => ?_)
  refine wc_bin HF nS rfl rfl b_le rfl rfl (fun a HF => ?_)
  refine wc_end ?_
  refine then_n ?_
  by_cases hb1 : x1 ≤ 0
  · have h := (if_pos hb1).symm.trans h
    refine wp_if (b' := true) HF rfl (decide_eq_true hb1) ?_
    refine wp_seq ?_
    refine wc_text ?_
    refine wc_assign HF nS rfl rfl rfl (fun a HF => ?_)
    refine wc_end ?_
    refine then_n ?_
    refine wp_ret ?_
    have hj1 := Option.some.inj h
    obtain ⟨hi1, hj2⟩ := Prod.mk.inj hj1
    subst hi1
    obtain ⟨hi2, hj3⟩ := Prod.mk.inj hj2
    subst hi2
    subst hj3
    refine then_r (?_)
    refine bp_ret HF (res_one rfl HF rfl) ?_
    exact ⟨rfl, HT⟩
  · have h := (if_neg hb1).symm.trans h
    refine wp_if (b' := false) HF rfl (decide_eq_false hb1) ?_
    refine wp_skip ?_
    refine then_n ?_
    refine wp_seq ?_
    refine wp_seq ?_
    refine wc_text ?_
    refine wc_move HF nS rfl rfl rfl (fun a HF => ?_)
    refine wc_bin HF nS rfl rfl b_le rfl rfl (fun a HF => ?_)
    refine wc_end ?_
    refine then_n ?_
    by_cases hb2 : x1 ≤ 256
    · have h := (if_pos hb2).symm.trans h
      refine wp_if (b' := true) HF rfl (decide_eq_true hb2) ?_
      refine wp_seq ?_
      refine wc_text ?_
      refine wc_move HF nS rfl rfl rfl (fun a HF => ?_)
      obtain ⟨y1, y2, y3, hx1, h⟩ := obs3 h
      obtain ⟨F1, hAF1, hFF1, hbackF1, hroF1, hownF1⟩ := St.handR (A := [Box p_0 [.slice a_x0_0 x0_0.length c_x0_0, .int .i64 x0_1, .int .i64 x0_2]]) HT
      refine wc_call HF cf85 rfl (w_spec_l1Byte fuel hx1 hAF1 (hroF1 hr_x0_0)) rfl rfl ?_
      rintro e w ⟨rfl, hE⟩
      have HT := hbackF1 _ _ hE
      have HT : St w0 F w [Box p_0 [.slice a_x0_0 x0_0.length c_x0_0, .int .i64 y2, .int .i64 y3]] := HT
      refine ⟨_, rfl, nS, fun a HF => ?_⟩
      refine wc_move HF nS rfl rfl rfl (fun a HF => ?_)
      obtain ⟨hg1, h⟩ := grd h
      refine wc_bin HF nS rfl rfl (b_rem hg1) rfl rfl (fun a HF => ?_)
      refine wc_assign HF nS rfl rfl rfl (fun a HF => ?_)
      refine wc_end ?_
      refine then_n ?_
      refine wp_ret ?_
      have hj4 := Option.some.inj h
      obtain ⟨hi4, hj5⟩ := Prod.mk.inj hj4
      subst hi4
      obtain ⟨hi5, hj6⟩ := Prod.mk.inj hj5
      subst hi5
      subst hj6
      refine then_r (?_)
      refine bp_ret HF (res_one rfl HF rfl) ?_
      exact ⟨rfl, HT⟩
    · have h := (if_neg hb2).symm.trans h
      refine wp_if (b' := false) HF rfl (decide_eq_false hb2) ?_
      refine wp_skip ?_
      refine then_n ?_
      refine wp_seq ?_
      refine wc_text ?_
      refine wc_move HF nS rfl rfl rfl (fun a HF => ?_)
      obtain ⟨y4, y5, y6, hx2, h⟩ := obs3 h
      obtain ⟨F2, hAF2, hFF2, hbackF2, hroF2, hownF2⟩ := St.handR (A := [Box p_0 [.slice a_x0_0 x0_0.length c_x0_0, .int .i64 x0_1, .int .i64 x0_2]]) HT
      refine wc_call HF cf85 rfl (w_spec_l1Byte fuel hx2 hAF2 (hroF2 hr_x0_0)) rfl rfl ?_
      rintro e w ⟨rfl, hE⟩
      have HT := hbackF2 _ _ hE
      have HT : St w0 F w [Box p_0 [.slice a_x0_0 x0_0.length c_x0_0, .int .i64 y5, .int .i64 y6]] := HT
      refine ⟨_, rfl, nS, fun a HF => ?_⟩
      refine wc_assign HF nS rfl rfl rfl (fun a HF => ?_)
      refine wc_end ?_
      refine then_n ?_
      refine wp_seq ?_
      refine wc_text ?_
      refine wc_move HF nS rfl rfl rfl (fun a HF => ?_)
      obtain ⟨y7, y8, y9, hx3, h⟩ := obs3 h
      obtain ⟨F3, hAF3, hFF3, hbackF3, hroF3, hownF3⟩ := St.handR (A := [Box p_0 [.slice a_x0_0 x0_0.length c_x0_0, .int .i64 y5, .int .i64 y6]]) HT
      refine wc_call HF cf85 rfl (w_spec_l1Byte fuel hx3 hAF3 (hroF3 hr_x0_0)) rfl rfl ?_
      rintro e w ⟨rfl, hE⟩
      have HT := hbackF3 _ _ hE
      have HT : St w0 F w [Box p_0 [.slice a_x0_0 x0_0.length c_x0_0, .int .i64 y8, .int .i64 y9]] := HT
      refine ⟨_, rfl, nS, fun a HF => ?_⟩
      refine wc_assign HF nS rfl rfl rfl (fun a HF => ?_)
      refine wc_end ?_
      refine then_n ?_
      refine wp_seq ?_
      refine wc_text ?_
      refine wc_move HF nS rfl rfl rfl (fun a HF => ?_)
      obtain ⟨y10, y11, y12, hx4, h⟩ := obs3 h
      obtain ⟨F4, hAF4, hFF4, hbackF4, hroF4, hownF4⟩ := St.handR (A := [Box p_0 [.slice a_x0_0 x0_0.length c_x0_0, .int .i64 y8, .int .i64 y9]]) HT
      refine wc_call HF cf85 rfl (w_spec_l1Byte fuel hx4 hAF4 (hroF4 hr_x0_0)) rfl rfl ?_
      rintro e w ⟨rfl, hE⟩
      have HT := hbackF4 _ _ hE
      have HT : St w0 F w [Box p_0 [.slice a_x0_0 x0_0.length c_x0_0, .int .i64 y11, .int .i64 y12]] := HT
      refine ⟨_, rfl, nS, fun a HF => ?_⟩
      refine wc_assign HF nS rfl rfl rfl (fun a HF => ?_)
      refine wc_end ?_
      refine then_n ?_
      refine wp_seq ?_
      refine wc_text ?_
      refine wc_move HF nS rfl rfl rfl (fun a HF => ?_)
      obtain ⟨y13, y14, y15, hx5, h⟩ := obs3 h
      obtain ⟨F5, hAF5, hFF5, hbackF5, hroF5, hownF5⟩ := St.handR (A := [Box p_0 [.slice a_x0_0 x0_0.length c_x0_0, .int .i64 y11, .int .i64 y12]]) HT
      refine wc_call HF cf85 rfl (w_spec_l1Byte fuel hx5 hAF5 (hroF5 hr_x0_0)) rfl rfl ?_
      rintro e w ⟨rfl, hE⟩
      have HT := hbackF5 _ _ hE
      have HT : St w0 F w [Box p_0 [.slice a_x0_0 x0_0.length c_x0_0, .int .i64 y14, .int .i64 y15]] := HT
      refine ⟨_, rfl, nS, fun a HF => ?_⟩
      refine wc_assign HF nS rfl rfl rfl (fun a HF => ?_)
      refine wc_end ?_
      refine then_n ?_
      refine wp_seq ?_
      refine wc_text ?_
      refine wc_move HF nS rfl rfl rfl (fun a HF => ?_)
      obtain ⟨hg2, h⟩ := grd h
      refine wc_bin HF nS rfl rfl (b_mul hg2) rfl rfl (fun a HF => ?_)
      refine wc_move HF nS rfl rfl rfl (fun a HF => ?_)
      obtain ⟨hg3, h⟩ := grd h
      refine wc_bin HF nS rfl rfl (b_mul hg3) rfl rfl (fun a HF => ?_)
      obtain ⟨hg4, h⟩ := grd h
      refine wc_bin HF nS rfl rfl (b_add hg4) rfl rfl (fun a HF => ?_)
      refine wc_move HF nS rfl rfl rfl (fun a HF => ?_)
      obtain ⟨hg5, h⟩ := grd h
      refine wc_bin HF nS rfl rfl (b_mul hg5) rfl rfl (fun a HF => ?_)
      obtain ⟨hg6, h⟩ := grd h
      refine wc_bin HF nS rfl rfl (b_add hg6) rfl rfl (fun a HF => ?_)
      refine wc_move HF nS rfl rfl rfl (fun a HF => ?_)
      obtain ⟨hg7, h⟩ := grd h
      refine wc_bin HF nS rfl rfl (b_add hg7) rfl rfl (fun a HF => ?_)
      refine wc_move HF nS rfl rfl rfl (fun a HF => ?_)
      obtain ⟨hg8, h⟩ := grd h
      refine wc_bin HF nS rfl rfl (b_rem hg8) rfl rfl (fun a HF => ?_)
      refine wc_assign HF nS rfl rfl rfl (fun a HF => ?_)
      refine wc_end ?_
      refine then_n ?_
      refine wp_ret ?_
      have hj7 := Option.some.inj h
      obtain ⟨hi7, hj8⟩ := Prod.mk.inj hj7
      subst hi7
      obtain ⟨hi8, hj9⟩ := Prod.mk.inj hj8
      subst hi8
      subst hj9
      refine bp_ret HF (res_one rfl HF rfl) ?_
      exact ⟨rfl, HT⟩

def m_spec_l1New_L0 (fuel : Nat) (x0 : List UInt8) : Nat → Int → Int → Option Int
  | 0, _, _ => none
  | k1 + 1, z2, z3 =>
    if z3 < (x0.length : Int) then
      if z3 < 4000 then
        if in64 (z2 * 131) then
          (at? x0 z3).bind fun e1 =>
          if in64 ((z2 * 131) + (e1.toNat : Int)) then
            if in64 (((z2 * 131) + (e1.toNat : Int)) + 7) then
              if in64 (z3 + 1) then
                m_spec_l1New_L0 fuel x0 k1 (bits .and .i64 (((z2 * 131) + (e1.toNat : Int)) + 7) 1073741823) (z3 + 1)
              else none
            else none
          else none
        else none
      else
        some z2
    else
      some z2

def m_spec_l1New (fuel : Nat) (x0 : List UInt8) : Option (Int × Int) :=
  if in64 (10101 + (x0.length : Int)) then
    (m_spec_l1New_L0 fuel x0 fuel (10101 + (x0.length : Int)) 0).bind fun z1 =>
    some (0, z1)
  else none

set_option maxRecDepth 100000 in
set_option maxHeartbeats 4000000 in
theorem w_spec_l1New (fuel : Nat) {x0 : List UInt8} {a_x0 : Option Addr} {n_x0 c_x0 : Nat} {r0_1 : Int} {r0_2 : Int} {w0 : World} (h : m_spec_l1New fuel x0 = some (r0_1, r0_2)) (hr_x0 : RdT (fun b => ¬ False) w0 (rowT x0) (.slice a_x0 n_x0 c_x0)) :
    Calls Try.prog 62 #[.slice a_x0 n_x0 c_x0] w0 fun e w => ∃ q_r0, e = .returned (.pointer (some ⟨q_r0, 0, none⟩)) ∧ St w0 (fun _ => False) w [Box q_r0 [.slice a_x0 n_x0 c_x0, .int .i64 r0_1, .int .i64 r0_2]] := by
  obtain rfl := hr_x0.neq
  have HT : St w0 (fun _ => False) w0 [] := St.init0
  rw [m_spec_l1New] at h
  refine calls_fr (n := 32) [.slice a_x0 x0.length c_x0] Try.func62 rfl rfl rfl (fun a HF => ?_)
  have HT : St w0 (fun _ => False) w0 [] := HT
  refine wp_seq ?_
  refine wc_text ?_
  refine wc_assign HF nS rfl rfl rfl (fun a HF => ?_)
  refine wc_end ?_
  refine then_n ?_
  refine wp_seq ?_
  refine wc_text ?_
  refine wc_move HF nS rfl rfl rfl (fun a HF => ?_)
  refine wc_lenR HF nS Try.underlying36 rfl rfl rfl (fun a HF => ?_)
  obtain ⟨hg1, h⟩ := grd h
  refine wc_bin HF nS rfl rfl (b_add hg1) rfl rfl (fun a HF => ?_)
  refine wc_assign HF nS rfl rfl rfl (fun a HF => ?_)
  refine wc_end ?_
  refine then_n ?_
  obtain ⟨z1, hx1, h⟩ := obs h
  refine wp_cut (fun a w => Fr a 32 [(0, .slice a_x0 x0.length c_x0), (3, .int .i64 z1)] ∧ St w0 (fun _ => False) w []) ?_ ?_
  · have hk1 := h
    have h := hx1
    refine wp_seq ?_
    refine wc_text ?_
    refine wc_assign HF nS rfl rfl rfl (fun a HF => ?_)
    refine wc_end ?_
    refine then_n ?_
    refine wp_block ?_
    refine wp_loopN (fun k1 a w => ∃ z2 z3, m_spec_l1New_L0 fuel x0 k1 z2 z3 = some z1 ∧ Fr a 32 [(0, .slice a_x0 x0.length c_x0), (3, .int .i64 z2), (4, .int .i64 z3)] ∧ St w0 (fun _ => False) w []) fuel ⟨10101 + (x0.length : Int), 0, h, (HF.keep (HF.keep (HF.keep HF.nil rfl) rfl) rfl), HT⟩ ?_
    rintro k1 a w ⟨z2, z3, h, HF, HT⟩
    cases k1 with
    | zero => cases h
    | succ k1 =>
      rw [m_spec_l1New_L0] at h
      refine ?_
      refine wp_seq ?_
      refine wp_seq ?_
      refine wc_text ?_
      refine wc_move HF nS rfl rfl rfl (fun a HF => ?_)
      refine wc_move HF nS rfl rfl rfl (fun a HF => ?_)
      refine wc_lenR HF nS Try.underlying36 rfl rfl rfl (fun a HF => ?_)
      refine wc_bin HF nS rfl rfl b_lt rfl rfl (fun a HF => ?_)
      refine wc_move HF nS rfl rfl rfl (fun a HF => ?_)
      by_cases hb1 : z3 < (x0.length : Int)
      · have h := (if_pos hb1).symm.trans h
        refine wc_move HF nS rfl (HF.wy rfl rfl rfl rfl (decide_eq_true hb1)) rfl (fun a HF => ?_)
        refine wc_bin HF nS rfl rfl b_lt (HF.wy rfl rfl rfl rfl (decide_eq_true hb1)) rfl (fun a HF => ?_)
        refine wc_pick (b := true) HF nS rfl (decide_eq_true hb1) rfl rfl rfl (fun a HF => ?_)
        refine wc_end ?_
        refine then_n ?_
        by_cases hb2 : z3 < 4000
        · have h := (if_pos hb2).symm.trans h
          refine wp_if (b' := true) HF rfl (decide_eq_true hb2) ?_
          refine wp_skip ?_
          refine then_n ?_
          refine wp_seq ?_
          refine wp_block ?_
          refine wc_text ?_
          refine wc_move HF nS rfl rfl rfl (fun a HF => ?_)
          obtain ⟨hg2, h⟩ := grd h
          refine wc_bin HF nS rfl rfl (b_mul hg2) rfl rfl (fun a HF => ?_)
          refine wc_move HF nS rfl rfl rfl (fun a HF => ?_)
          refine wc_move HF nS rfl rfl rfl (fun a HF => ?_)
          obtain ⟨e1, hx2, h⟩ := obs h
          obtain ⟨b1, o1, ha1⟩ := (HT.ro hr_x0).any.addr hx2
          refine wc_ixaddr HF nS el36 rfl ha1 ((HT.ro hr_x0).any).neq rfl hx2 rfl rfl (fun a HF => ?_)
          have hc1 := (HT.ro hr_x0).any.flatAt ha1 hx2
          refine wc_load HF rfl sc5 (hc1.get 0 rfl) rfl rfl (fun a HF => ?_)
          refine wc_cvu HF nS Try.underlying3 Try.underlying5 rfl rfl rfl (fun a HF => ?_)
          obtain ⟨hg3, h⟩ := grd h
          refine wc_bin HF nS rfl rfl (b_add hg3) rfl rfl (fun a HF => ?_)
          obtain ⟨hg4, h⟩ := grd h
          refine wc_bin HF nS rfl rfl (b_add hg4) rfl rfl (fun a HF => ?_)
          refine wc_bin HF nS rfl rfl b_and rfl rfl (fun a HF => ?_)
          refine wc_assign HF nS rfl rfl rfl (fun a HF => ?_)
          refine wc_end ?_
          refine blk_n ?_
          refine then_n ?_
          refine wc_text ?_
          refine wc_move HF nS rfl rfl rfl (fun a HF => ?_)
          obtain ⟨hg5, h⟩ := grd h
          refine wc_bin HF nS rfl rfl (b_add hg5) rfl rfl (fun a HF => ?_)
          refine wc_assign HF nS rfl rfl rfl (fun a HF => ?_)
          refine wc_end ?_
          exact then_n ⟨k1, Nat.lt_succ_self k1, bits .and .i64 (((z2 * 131) + (e1.toNat : Int)) + 7) 1073741823, z3 + 1, h, (HF.keep (HF.keep (HF.keep HF.nil rfl) rfl) rfl), HT⟩
        · have h := (if_neg hb2).symm.trans h
          refine wp_if (b' := false) HF rfl (decide_eq_false hb2) ?_
          refine wp_exit ?_
          refine then_x (then_x (?_))
          refine blk_x ?_
          obtain rfl := Option.some.inj h
          exact then_n ⟨(HF.keep (HF.keep HF.nil rfl) rfl), HT⟩
      · have h := (if_neg hb1).symm.trans h
        refine wc_skip HF nS (HF.wn rfl rfl rfl rfl (decide_eq_false hb1)) rfl (fun a HF => ?_)
        refine wc_skip HF nS (HF.wn rfl rfl rfl rfl (decide_eq_false hb1)) rfl (fun a HF => ?_)
        refine wc_pick (b := false) HF nS rfl (decide_eq_false hb1) rfl rfl rfl (fun a HF => ?_)
        refine wc_end ?_
        refine then_n ?_
        refine wp_if (b' := false) HF rfl rfl ?_
        refine wp_exit ?_
        refine then_x (then_x (?_))
        refine blk_x ?_
        obtain rfl := Option.some.inj h
        exact then_n ⟨(HF.keep (HF.keep HF.nil rfl) rfl), HT⟩
  · rintro a w ⟨HF, HT⟩
    refine ?_
    refine wp_seq ?_
    refine wc_text ?_
    refine wc_move HF nS rfl rfl rfl (fun a HF => ?_)
    refine wc_move HF nS rfl rfl rfl (fun a HF => ?_)
    refine wc_build (cs := #[.slice a_x0 x0.length c_x0, .int .i64 0, .int .i64 z1]) HF nS bd85 rfl rfl rfl rfl (fun a HF => ?_)
    refine wc_box (cs := [.slice a_x0 x0.length c_x0, .int .i64 0, .int .i64 z1]) HF HT rfl rfl rfl rfl (fun p1 w HT hb => ⟨nS, fun a HF => ?_⟩)
    refine wc_assign HF nS rfl rfl rfl (fun a HF => ?_)
    refine wc_end ?_
    refine then_n ?_
    refine wp_ret ?_
    have hj1 := Option.some.inj h
    obtain ⟨hi1, hj2⟩ := Prod.mk.inj hj1
    subst hi1
    subst hj2
    refine bp_ret HF (res_one rfl HF rfl) ?_
    exact ⟨p1, rfl, HT⟩

def m_spec_l1Once (fuel : Nat) (x0_0 : List UInt8) (x0_1 : Int) (x0_2 : Int) (x1 : Int) : Option (Bool × Int × Int) :=
  bind3 (m_spec_l1Below fuel x0_0 x0_1 x0_2 x1) fun y1 y2 y3 =>
  some (decide (y1 = 0), y2, y3)

set_option maxRecDepth 100000 in
set_option maxHeartbeats 4000000 in
theorem w_spec_l1Once (fuel : Nat) {x0_0 : List UInt8} {x0_1 : Int} {x0_2 : Int} {x1 : Int} {a_x0_0 : Option Addr} {n_x0_0 c_x0_0 : Nat} {p_0 : Nat} {r0 : Bool} {x0_1' : Int} {x0_2' : Int} {w0 : World} {F : Foot} (h : m_spec_l1Once fuel x0_0 x0_1 x0_2 x1 = some (r0, x0_1', x0_2')) (hA : StF w0 F [Box p_0 [.slice a_x0_0 n_x0_0 c_x0_0, .int .i64 x0_1, .int .i64 x0_2]]) (hr_x0_0 : RdT (fun b => ¬ F b) w0 (rowT x0_0) (.slice a_x0_0 n_x0_0 c_x0_0)) :
    Calls Try.prog 65 #[.pointer (some ⟨p_0, 0, none⟩), .int .i64 x1] w0 fun e w => e = .returned (.bool r0) ∧ St w0 F w [Box p_0 [.slice a_x0_0 n_x0_0 c_x0_0, .int .i64 x0_1', .int .i64 x0_2']] := by
  have HT0 := St.init hA
  obtain rfl := hr_x0_0.neq
  have HT : St w0 F w0 [Box p_0 [.slice a_x0_0 x0_0.length c_x0_0, .int .i64 x0_1, .int .i64 x0_2]] := St.init hA
  rw [m_spec_l1Once] at h
  refine calls_fr (n := 9) [.pointer (some ⟨p_0, 0, none⟩), .int .i64 x1] Try.func65 rfl rfl rfl (fun a HF => ?_)
  have HT : St w0 F w0 [Box p_0 [.slice a_x0_0 x0_0.length c_x0_0, .int .i64 x0_1, .int .i64 x0_2]] := HT
  refine wp_seq ?_
  refine wc_text ?_
  refine wc_assign HF nS rfl rfl rfl (fun a HF => ?_)
  refine wc_end ?_
  refine then_n ?_
  refine wp_seq ?_
  refine wc_text ?_
  refine wc_move HF nS rfl rfl rfl (fun a HF => ?_)
  refine wc_move HF nS rfl rfl rfl (fun a HF => ?_)
  obtain ⟨y1, y2, y3, hx1, h⟩ := obs3 h
  obtain ⟨F1, hAF1, hFF1, hbackF1, hroF1, hownF1⟩ := St.handR (A := [Box p_0 [.slice a_x0_0 x0_0.length c_x0_0, .int .i64 x0_1, .int .i64 x0_2]]) HT
  refine wc_call HF cf64 rfl (w_spec_l1Below fuel hx1 hAF1 (hroF1 hr_x0_0)) rfl rfl ?_
  rintro e w ⟨rfl, hE⟩
  have HT := hbackF1 _ _ hE
  have HT : St w0 F w [Box p_0 [.slice a_x0_0 x0_0.length c_x0_0, .int .i64 y2, .int .i64 y3]] := HT
  refine ⟨_, rfl, nS, fun a HF => ?_⟩
  refine wc_bin HF nS rfl rfl b_eq rfl rfl (fun a HF => ?_)
  refine wc_assign HF nS rfl rfl rfl (fun a HF => ?_)
  refine wc_end ?_
  refine then_n ?_
  refine wp_ret ?_
  have hj1 := Option.some.inj h
  obtain ⟨hi1, hj2⟩ := Prod.mk.inj hj1
  subst hi1
  obtain ⟨hi2, hj3⟩ := Prod.mk.inj hj2
  subst hi2
  subst hj3
  refine bp_ret HF (res_one rfl HF rfl) ?_
  exact ⟨rfl, HT⟩

def m_spec_l1PickInt (fuel : Nat) (x0_0 : List UInt8) (x0_1 : Int) (x0_2 : Int) (x1 : List Int) : Option (Int × Int × Int) :=
  bind3 (m_spec_l1Below fuel x0_0 x0_1 x0_2 (x1.length : Int)) fun y1 y2 y3 =>
  (at? x1 y1).bind fun e1 =>
  some (e1, y2, y3)

set_option maxRecDepth 100000 in
set_option maxHeartbeats 4000000 in
theorem w_spec_l1PickInt (fuel : Nat) {x0_0 : List UInt8} {x0_1 : Int} {x0_2 : Int} {x1 : List Int} {a_x0_0 : Option Addr} {n_x0_0 c_x0_0 : Nat} {a_x1 : Option Addr} {n_x1 c_x1 : Nat} {p_0 : Nat} {r0 : Int} {x0_1' : Int} {x0_2' : Int} {w0 : World} {F : Foot} (h : m_spec_l1PickInt fuel x0_0 x0_1 x0_2 x1 = some (r0, x0_1', x0_2')) (hA : StF w0 F [Box p_0 [.slice a_x0_0 n_x0_0 c_x0_0, .int .i64 x0_1, .int .i64 x0_2]]) (hr_x0_0 : RdT (fun b => ¬ F b) w0 (rowT x0_0) (.slice a_x0_0 n_x0_0 c_x0_0)) (hr_x1 : RdT (fun b => ¬ F b) w0 (rowT x1) (.slice a_x1 n_x1 c_x1)) :
    Calls Try.prog 86 #[.pointer (some ⟨p_0, 0, none⟩), .slice a_x1 n_x1 c_x1] w0 fun e w => e = .returned (.int .i64 r0) ∧ St w0 F w [Box p_0 [.slice a_x0_0 n_x0_0 c_x0_0, .int .i64 x0_1', .int .i64 x0_2']] := by
  have HT0 := St.init hA
  obtain rfl := hr_x0_0.neq
  obtain rfl := hr_x1.neq
  have HT : St w0 F w0 [Box p_0 [.slice a_x0_0 x0_0.length c_x0_0, .int .i64 x0_1, .int .i64 x0_2]] := St.init hA
  rw [m_spec_l1PickInt] at h
  refine calls_fr (n := 12) [.pointer (some ⟨p_0, 0, none⟩), .slice a_x1 x1.length c_x1] Try.func86 rfl rfl rfl (fun a HF => ?_)
  have HT : St w0 F w0 [Box p_0 [.slice a_x0_0 x0_0.length c_x0_0, .int .i64 x0_1, .int .i64 x0_2]] := HT
  refine wp_seq ?_
  refine wc_text ?_
  refine wc_assign HF nS rfl rfl rfl (fun a HF => ?_)
  refine wc_end ?_
  refine then_n ?_
  refine wp_seq ?_
  refine wc_text ?_
  refine wc_move HF nS rfl rfl rfl (fun a HF => ?_)
  refine wc_move HF nS rfl rfl rfl (fun a HF => ?_)
  refine wc_move HF nS rfl rfl rfl (fun a HF => ?_)
  refine wc_lenR HF nS Try.underlying29 rfl rfl rfl (fun a HF => ?_)
  obtain ⟨y1, y2, y3, hx1, h⟩ := obs3 h
  obtain ⟨F1, hAF1, hFF1, hbackF1, hroF1, hownF1⟩ := St.handR (A := [Box p_0 [.slice a_x0_0 x0_0.length c_x0_0, .int .i64 x0_1, .int .i64 x0_2]]) HT
  refine wc_call HF cf64 rfl (w_spec_l1Below fuel hx1 hAF1 (hroF1 hr_x0_0)) rfl rfl ?_
  rintro e w ⟨rfl, hE⟩
  have HT := hbackF1 _ _ hE
  have HT : St w0 F w [Box p_0 [.slice a_x0_0 x0_0.length c_x0_0, .int .i64 y2, .int .i64 y3]] := HT
  refine ⟨_, rfl, nS, fun a HF => ?_⟩
  obtain ⟨e1, hx2, h⟩ := obs h
  obtain ⟨b1, o1, ha1⟩ := (HT.ro hr_x1).any.addr hx2
  refine wc_ixaddr HF nS el29 rfl ha1 ((HT.ro hr_x1).any).neq rfl hx2 rfl rfl (fun a HF => ?_)
  have hc1 := (HT.ro hr_x1).any.flatAt ha1 hx2
  refine wc_load HF rfl sc3 (hc1.get 0 rfl) rfl rfl (fun a HF => ?_)
  refine wc_assign HF nS rfl rfl rfl (fun a HF => ?_)
  refine wc_end ?_
  refine then_n ?_
  refine wp_ret ?_
  have hj1 := Option.some.inj h
  obtain ⟨hi1, hj2⟩ := Prod.mk.inj hj1
  subst hi1
  obtain ⟨hi2, hj3⟩ := Prod.mk.inj hj2
  subst hi2
  subst hj3
  refine bp_ret HF (res_one rfl HF rfl) ?_
  exact ⟨rfl, HT⟩

def m_spec_l3Draw (fuel : Nat) (x0_0 : List UInt8) (x0_1 : Int) (x0_2 : Int) : Option (Int × Int × Int) :=
  bind3 (m_spec_l1Once fuel x0_0 x0_1 x0_2 6) fun y1 y2 y3 =>
  if y1 = true then
    bind3 (m_spec_l1PickInt fuel x0_0 y2 y3 ([0, 65535, 65534, 256] : List Int)) fun y4 y5 y6 =>
    some (y4, y5, y6)
  else
    bind3 (m_spec_l1Below fuel x0_0 y2 y3 9) fun y7 y8 y9 =>
    some (y7, y8, y9)

set_option maxRecDepth 100000 in
set_option maxHeartbeats 4000000 in
theorem w_spec_l3Draw (fuel : Nat) {x0_0 : List UInt8} {x0_1 : Int} {x0_2 : Int} {a_x0_0 : Option Addr} {n_x0_0 c_x0_0 : Nat} {p_0 : Nat} {r0 : Int} {x0_1' : Int} {x0_2' : Int} {w0 : World} {F : Foot} (h : m_spec_l3Draw fuel x0_0 x0_1 x0_2 = some (r0, x0_1', x0_2')) (hA : StF w0 F [Box p_0 [.slice a_x0_0 n_x0_0 c_x0_0, .int .i64 x0_1, .int .i64 x0_2]]) (hr_x0_0 : RdT (fun b => ¬ F b) w0 (rowT x0_0) (.slice a_x0_0 n_x0_0 c_x0_0)) :
    Calls Try.prog 67 #[.pointer (some ⟨p_0, 0, none⟩)] w0 fun e w => e = .returned (.int .i64 r0) ∧ St w0 F w [Box p_0 [.slice a_x0_0 n_x0_0 c_x0_0, .int .i64 x0_1', .int .i64 x0_2']] := by
  have HT0 := St.init hA
  obtain rfl := hr_x0_0.neq
  have HT : St w0 F w0 [Box p_0 [.slice a_x0_0 x0_0.length c_x0_0, .int .i64 x0_1, .int .i64 x0_2]] := St.init hA
  rw [m_spec_l3Draw] at h
  refine calls_fr (n := 10) [.pointer (some ⟨p_0, 0, none⟩)] Try.func67 rfl rfl rfl (fun a HF => ?_)
  have HT : St w0 F w0 [Box p_0 [.slice a_x0_0 x0_0.length c_x0_0, .int .i64 x0_1, .int .i64 x0_2]] := HT
  refine wp_seq ?_
  refine wc_text ?_
  refine wc_assign HF nS rfl rfl rfl (fun a HF => ?_)
  refine wc_end ?_
  refine then_n ?_
  refine wp_seq ?_
  refine wp_seq ?_
  refine wc_text ?_
  refine wc_move HF nS rfl rfl rfl (fun a HF => ?_)
  obtain ⟨y1, y2, y3, hx1, h⟩ := obs3 h
  obtain ⟨F1, hAF1, hFF1, hbackF1, hroF1, hownF1⟩ := St.handR (A := [Box p_0 [.slice a_x0_0 x0_0.length c_x0_0, .int .i64 x0_1, .int .i64 x0_2]]) HT
  refine wc_call HF cf65 rfl (w_spec_l1Once fuel hx1 hAF1 (hroF1 hr_x0_0)) rfl rfl ?_
  rintro e w ⟨rfl, hE⟩
  have HT := hbackF1 _ _ hE
  have HT : St w0 F w [Box p_0 [.slice a_x0_0 x0_0.length c_x0_0, .int .i64 y2, .int .i64 y3]] := HT
  refine ⟨_, rfl, nS, fun a HF => ?_⟩
  refine wc_end ?_
  refine then_n ?_
  by_cases hb1 : y1 = true
  · have h := (if_pos hb1).symm.trans h
    refine wp_if (b' := true) HF rfl hb1 ?_
    refine wp_seq ?_
    refine wc_text ?_
    refine wc_move HF nS rfl rfl rfl (fun a HF => ?_)
    refine wc_bslice (l := ([0, 65535, 65534, 256] : List Int)) (cs := [.int .i64 0, .int .i64 65535, .int .i64 65534, .int .i64 256]) (A := []) HF HT bs29_4 rfl rfl (gives_flat rfl) rfl (by decide) rfl rfl (fun p1 w HT hb => ⟨nS, fun a HF => ?_⟩)
    obtain ⟨y4, y5, y6, hx2, h⟩ := obs3 h
    have HT : St w0 F w [Box p_0 [.slice a_x0_0 x0_0.length c_x0_0, .int .i64 y2, .int .i64 y3], Own 3 (rowT ([0, 65535, 65534, 256] : List Int)) (.slice (some ⟨p1, 0, none⟩) 4 4)] := HT.pick 1
    obtain ⟨F2, hAF2, hFF2, hbackF2, hroF2, hownF2⟩ := St.handR (A := [Box p_0 [.slice a_x0_0 x0_0.length c_x0_0, .int .i64 y2, .int .i64 y3]]) HT
    refine wc_call HF cf86 rfl (w_spec_l1PickInt fuel hx2 hAF2 (hroF2 hr_x0_0) (hownF2 _ _ _ (List.mem_of_getElem? (i := 0) rfl))) rfl rfl ?_
    rintro e w ⟨rfl, hE⟩
    have HT := hbackF2 _ _ hE
    have HT : St w0 F w [Box p_0 [.slice a_x0_0 x0_0.length c_x0_0, .int .i64 y5, .int .i64 y6], Own 3 (rowT ([0, 65535, 65534, 256] : List Int)) (.slice (some ⟨p1, 0, none⟩) 4 4)] := HT
    refine ⟨_, rfl, nS, fun a HF => ?_⟩
    refine wc_assign HF nS rfl rfl rfl (fun a HF => ?_)
    refine wc_end ?_
    refine then_n ?_
    refine wp_ret ?_
    have hj1 := Option.some.inj h
    obtain ⟨hi1, hj2⟩ := Prod.mk.inj hj1
    subst hi1
    obtain ⟨hi2, hj3⟩ := Prod.mk.inj hj2
    subst hi2
    subst hj3
    refine then_r (?_)
    refine bp_ret HF (res_one rfl HF rfl) ?_
    have HT : St w0 F w [Box p_0 [.slice a_x0_0 x0_0.length c_x0_0, .int .i64 y5, .int .i64 y6]] := HT.take 1
    exact ⟨rfl, HT⟩
  · have h := (if_neg hb1).symm.trans h
    refine wp_if (b' := false) HF rfl (Bool.eq_false_iff.2 hb1) ?_
    refine wp_skip ?_
    refine then_n ?_
    refine wp_seq ?_
    refine wc_text ?_
    refine wc_move HF nS rfl rfl rfl (fun a HF => ?_)
    obtain ⟨y7, y8, y9, hx3, h⟩ := obs3 h
    obtain ⟨F3, hAF3, hFF3, hbackF3, hroF3, hownF3⟩ := St.handR (A := [Box p_0 [.slice a_x0_0 x0_0.length c_x0_0, .int .i64 y2, .int .i64 y3]]) HT
    refine wc_call HF cf64 rfl (w_spec_l1Below fuel hx3 hAF3 (hroF3 hr_x0_0)) rfl rfl ?_
    rintro e w ⟨rfl, hE⟩
    have HT := hbackF3 _ _ hE
    have HT : St w0 F w [Box p_0 [.slice a_x0_0 x0_0.length c_x0_0, .int .i64 y8, .int .i64 y9]] := HT
    refine ⟨_, rfl, nS, fun a HF => ?_⟩
    refine wc_assign HF nS rfl rfl rfl (fun a HF => ?_)
    refine wc_end ?_
    refine then_n ?_
    refine wp_ret ?_
    have hj4 := Option.some.inj h
    obtain ⟨hi4, hj5⟩ := Prod.mk.inj hj4
    subst hi4
    obtain ⟨hi5, hj6⟩ := Prod.mk.inj hj5
    subst hi5
    subst hj6
    refine bp_ret HF (res_one rfl HF rfl) ?_
    exact ⟨rfl, HT⟩

def m_spec_l4DrawCell (fuel : Nat) (x0_0 : List UInt8) (x0_1 : Int) (x0_2 : Int) : Option (Int × Int × Int) :=
  bind3 (m_spec_l1Once fuel x0_0 x0_1 x0_2 8) fun y1 y2 y3 =>
  if y1 = true then
    bind3 (m_spec_l1Below fuel x0_0 y2 y3 8) fun y4 y5 y6 =>
    some (y4, y5, y6)
  else
    bind3 (m_spec_l1Below fuel x0_0 y2 y3 3) fun y7 y8 y9 =>
    some (y7, y8, y9)

set_option maxRecDepth 100000 in
set_option maxHeartbeats 4000000 in
theorem w_spec_l4DrawCell (fuel : Nat) {x0_0 : List UInt8} {x0_1 : Int} {x0_2 : Int} {a_x0_0 : Option Addr} {n_x0_0 c_x0_0 : Nat} {p_0 : Nat} {r0 : Int} {x0_1' : Int} {x0_2' : Int} {w0 : World} {F : Foot} (h : m_spec_l4DrawCell fuel x0_0 x0_1 x0_2 = some (r0, x0_1', x0_2')) (hA : StF w0 F [Box p_0 [.slice a_x0_0 n_x0_0 c_x0_0, .int .i64 x0_1, .int .i64 x0_2]]) (hr_x0_0 : RdT (fun b => ¬ F b) w0 (rowT x0_0) (.slice a_x0_0 n_x0_0 c_x0_0)) :
    Calls Try.prog 83 #[.pointer (some ⟨p_0, 0, none⟩)] w0 fun e w => e = .returned (.int .i64 r0) ∧ St w0 F w [Box p_0 [.slice a_x0_0 n_x0_0 c_x0_0, .int .i64 x0_1', .int .i64 x0_2']] := by
  have HT0 := St.init hA
  obtain rfl := hr_x0_0.neq
  have HT : St w0 F w0 [Box p_0 [.slice a_x0_0 x0_0.length c_x0_0, .int .i64 x0_1, .int .i64 x0_2]] := St.init hA
  rw [m_spec_l4DrawCell] at h
  refine calls_fr (n := 9) [.pointer (some ⟨p_0, 0, none⟩)] Try.func83 rfl rfl rfl (fun a HF => ?_)
  have HT : St w0 F w0 [Box p_0 [.slice a_x0_0 x0_0.length c_x0_0, .int .i64 x0_1, .int .i64 x0_2]] := HT
  refine wp_seq ?_
  refine wc_text ?_
  refine wc_assign HF nS rfl rfl rfl (fun a HF => ?_)
  refine wc_end ?_
  refine then_n ?_
  refine wp_seq ?_
  refine wp_seq ?_
  refine wc_text ?_
  refine wc_move HF nS rfl rfl rfl (fun a HF => ?_)
  obtain ⟨y1, y2, y3, hx1, h⟩ := obs3 h
  obtain ⟨F1, hAF1, hFF1, hbackF1, hroF1, hownF1⟩ := St.handR (A := [Box p_0 [.slice a_x0_0 x0_0.length c_x0_0, .int .i64 x0_1, .int .i64 x0_2]]) HT
  refine wc_call HF cf65 rfl (w_spec_l1Once fuel hx1 hAF1 (hroF1 hr_x0_0)) rfl rfl ?_
  rintro e w ⟨rfl, hE⟩
  have HT := hbackF1 _ _ hE
  have HT : St w0 F w [Box p_0 [.slice a_x0_0 x0_0.length c_x0_0, .int .i64 y2, .int .i64 y3]] := HT
  refine ⟨_, rfl, nS, fun a HF => ?_⟩
  refine wc_end ?_
  refine then_n ?_
  by_cases hb1 : y1 = true
  · have h := (if_pos hb1).symm.trans h
    refine wp_if (b' := true) HF rfl hb1 ?_
    refine wp_seq ?_
    refine wc_text ?_
    refine wc_move HF nS rfl rfl rfl (fun a HF => ?_)
    obtain ⟨y4, y5, y6, hx2, h⟩ := obs3 h
    obtain ⟨F2, hAF2, hFF2, hbackF2, hroF2, hownF2⟩ := St.handR (A := [Box p_0 [.slice a_x0_0 x0_0.length c_x0_0, .int .i64 y2, .int .i64 y3]]) HT
    refine wc_call HF cf64 rfl (w_spec_l1Below fuel hx2 hAF2 (hroF2 hr_x0_0)) rfl rfl ?_
    rintro e w ⟨rfl, hE⟩
    have HT := hbackF2 _ _ hE
    have HT : St w0 F w [Box p_0 [.slice a_x0_0 x0_0.length c_x0_0, .int .i64 y5, .int .i64 y6]] := HT
    refine ⟨_, rfl, nS, fun a HF => ?_⟩
    refine wc_assign HF nS rfl rfl rfl (fun a HF => ?_)
    refine wc_end ?_
    refine then_n ?_
    refine wp_ret ?_
    have hj1 := Option.some.inj h
    obtain ⟨hi1, hj2⟩ := Prod.mk.inj hj1
    subst hi1
    obtain ⟨hi2, hj3⟩ := Prod.mk.inj hj2
    subst hi2
    subst hj3
    refine then_r (?_)
    refine bp_ret HF (res_one rfl HF rfl) ?_
    exact ⟨rfl, HT⟩
  · have h := (if_neg hb1).symm.trans h
    refine wp_if (b' := false) HF rfl (Bool.eq_false_iff.2 hb1) ?_
    refine wp_skip ?_
    refine then_n ?_
    refine wp_seq ?_
    refine wc_text ?_
    refine wc_move HF nS rfl rfl rfl (fun a HF => ?_)
    obtain ⟨y7, y8, y9, hx3, h⟩ := obs3 h
    obtain ⟨F3, hAF3, hFF3, hbackF3, hroF3, hownF3⟩ := St.handR (A := [Box p_0 [.slice a_x0_0 x0_0.length c_x0_0, .int .i64 y2, .int .i64 y3]]) HT
    refine wc_call HF cf64 rfl (w_spec_l1Below fuel hx3 hAF3 (hroF3 hr_x0_0)) rfl rfl ?_
    rintro e w ⟨rfl, hE⟩
    have HT := hbackF3 _ _ hE
    have HT : St w0 F w [Box p_0 [.slice a_x0_0 x0_0.length c_x0_0, .int .i64 y8, .int .i64 y9]] := HT
    refine ⟨_, rfl, nS, fun a HF => ?_⟩
    refine wc_assign HF nS rfl rfl rfl (fun a HF => ?_)
    refine wc_end ?_
    refine then_n ?_
    refine wp_ret ?_
    have hj4 := Option.some.inj h
    obtain ⟨hi4, hj5⟩ := Prod.mk.inj hj4
    subst hi4
    obtain ⟨hi5, hj6⟩ := Prod.mk.inj hj5
    subst hi5
    subst hj6
    refine bp_ret HF (res_one rfl HF rfl) ?_
    exact ⟨rfl, HT⟩

def m_spec_l4DrawKey (fuel : Nat) (x0_0 : List UInt8) (x0_1 : Int) (x0_2 : Int) : Option (Int × Int × Int) :=
  bind3 (m_spec_l1Once fuel x0_0 x0_1 x0_2 4) fun y1 y2 y3 =>
  if y1 = true then
    bind3 (m_spec_l1Below fuel x0_0 y2 y3 8) fun y4 y5 y6 =>
    some (y4, y5, y6)
  else
    bind3 (m_spec_l1PickInt fuel x0_0 y2 y3 ([0, 4, 1] : List Int)) fun y7 y8 y9 =>
    some (y7, y8, y9)

set_option maxRecDepth 100000 in
set_option maxHeartbeats 4000000 in
theorem w_spec_l4DrawKey (fuel : Nat) {x0_0 : List UInt8} {x0_1 : Int} {x0_2 : Int} {a_x0_0 : Option Addr} {n_x0_0 c_x0_0 : Nat} {p_0 : Nat} {r0 : Int} {x0_1' : Int} {x0_2' : Int} {w0 : World} {F : Foot} (h : m_spec_l4DrawKey fuel x0_0 x0_1 x0_2 = some (r0, x0_1', x0_2')) (hA : StF w0 F [Box p_0 [.slice a_x0_0 n_x0_0 c_x0_0, .int .i64 x0_1, .int .i64 x0_2]]) (hr_x0_0 : RdT (fun b => ¬ F b) w0 (rowT x0_0) (.slice a_x0_0 n_x0_0 c_x0_0)) :
    Calls Try.prog 84 #[.pointer (some ⟨p_0, 0, none⟩)] w0 fun e w => e = .returned (.int .i64 r0) ∧ St w0 F w [Box p_0 [.slice a_x0_0 n_x0_0 c_x0_0, .int .i64 x0_1', .int .i64 x0_2']] := by
  have HT0 := St.init hA
  obtain rfl := hr_x0_0.neq
  have HT : St w0 F w0 [Box p_0 [.slice a_x0_0 x0_0.length c_x0_0, .int .i64 x0_1, .int .i64 x0_2]] := St.init hA
  rw [m_spec_l4DrawKey] at h
  refine calls_fr (n := 10) [.pointer (some ⟨p_0, 0, none⟩)] Try.func84 rfl rfl rfl (fun a HF => ?_)
  have HT : St w0 F w0 [Box p_0 [.slice a_x0_0 x0_0.length c_x0_0, .int .i64 x0_1, .int .i64 x0_2]] := HT
  refine wp_seq ?_
  refine wc_text ?_
  refine wc_assign HF nS rfl rfl rfl (fun a HF => ?_)
  refine wc_end ?_
  refine then_n ?_
  refine wp_seq ?_
  refine wp_seq ?_
  refine wc_text ?_
  refine wc_move HF nS rfl rfl rfl (fun a HF => ?_)
  obtain ⟨y1, y2, y3, hx1, h⟩ := obs3 h
  obtain ⟨F1, hAF1, hFF1, hbackF1, hroF1, hownF1⟩ := St.handR (A := [Box p_0 [.slice a_x0_0 x0_0.length c_x0_0, .int .i64 x0_1, .int .i64 x0_2]]) HT
  refine wc_call HF cf65 rfl (w_spec_l1Once fuel hx1 hAF1 (hroF1 hr_x0_0)) rfl rfl ?_
  rintro e w ⟨rfl, hE⟩
  have HT := hbackF1 _ _ hE
  have HT : St w0 F w [Box p_0 [.slice a_x0_0 x0_0.length c_x0_0, .int .i64 y2, .int .i64 y3]] := HT
  refine ⟨_, rfl, nS, fun a HF => ?_⟩
  refine wc_end ?_
  refine then_n ?_
  by_cases hb1 : y1 = true
  · have h := (if_pos hb1).symm.trans h
    refine wp_if (b' := true) HF rfl hb1 ?_
    refine wp_seq ?_
    refine wc_text ?_
    refine wc_move HF nS rfl rfl rfl (fun a HF => ?_)
    obtain ⟨y4, y5, y6, hx2, h⟩ := obs3 h
    obtain ⟨F2, hAF2, hFF2, hbackF2, hroF2, hownF2⟩ := St.handR (A := [Box p_0 [.slice a_x0_0 x0_0.length c_x0_0, .int .i64 y2, .int .i64 y3]]) HT
    refine wc_call HF cf64 rfl (w_spec_l1Below fuel hx2 hAF2 (hroF2 hr_x0_0)) rfl rfl ?_
    rintro e w ⟨rfl, hE⟩
    have HT := hbackF2 _ _ hE
    have HT : St w0 F w [Box p_0 [.slice a_x0_0 x0_0.length c_x0_0, .int .i64 y5, .int .i64 y6]] := HT
    refine ⟨_, rfl, nS, fun a HF => ?_⟩
    refine wc_assign HF nS rfl rfl rfl (fun a HF => ?_)
    refine wc_end ?_
    refine then_n ?_
    refine wp_ret ?_
    have hj1 := Option.some.inj h
    obtain ⟨hi1, hj2⟩ := Prod.mk.inj hj1
    subst hi1
    obtain ⟨hi2, hj3⟩ := Prod.mk.inj hj2
    subst hi2
    subst hj3
    refine then_r (?_)
    refine bp_ret HF (res_one rfl HF rfl) ?_
    exact ⟨rfl, HT⟩
  · have h := (if_neg hb1).symm.trans h
    refine wp_if (b' := false) HF rfl (Bool.eq_false_iff.2 hb1) ?_
    refine wp_skip ?_
    refine then_n ?_
    refine wp_seq ?_
    refine wc_text ?_
    refine wc_move HF nS rfl rfl rfl (fun a HF => ?_)
    refine wc_bslice (l := ([0, 4, 1] : List Int)) (cs := [.int .i64 0, .int .i64 4, .int .i64 1]) (A := []) HF HT bs29_3 rfl rfl (gives_flat rfl) rfl (by decide) rfl rfl (fun p1 w HT hb => ⟨nS, fun a HF => ?_⟩)
    obtain ⟨y7, y8, y9, hx3, h⟩ := obs3 h
    have HT : St w0 F w [Box p_0 [.slice a_x0_0 x0_0.length c_x0_0, .int .i64 y2, .int .i64 y3], Own 3 (rowT ([0, 4, 1] : List Int)) (.slice (some ⟨p1, 0, none⟩) 3 3)] := HT.pick 1
    obtain ⟨F3, hAF3, hFF3, hbackF3, hroF3, hownF3⟩ := St.handR (A := [Box p_0 [.slice a_x0_0 x0_0.length c_x0_0, .int .i64 y2, .int .i64 y3]]) HT
    refine wc_call HF cf86 rfl (w_spec_l1PickInt fuel hx3 hAF3 (hroF3 hr_x0_0) (hownF3 _ _ _ (List.mem_of_getElem? (i := 0) rfl))) rfl rfl ?_
    rintro e w ⟨rfl, hE⟩
    have HT := hbackF3 _ _ hE
    have HT : St w0 F w [Box p_0 [.slice a_x0_0 x0_0.length c_x0_0, .int .i64 y8, .int .i64 y9], Own 3 (rowT ([0, 4, 1] : List Int)) (.slice (some ⟨p1, 0, none⟩) 3 3)] := HT
    refine ⟨_, rfl, nS, fun a HF => ?_⟩
    refine wc_assign HF nS rfl rfl rfl (fun a HF => ?_)
    refine wc_end ?_
    refine then_n ?_
    refine wp_ret ?_
    have hj4 := Option.some.inj h
    obtain ⟨hi4, hj5⟩ := Prod.mk.inj hj4
    subst hi4
    obtain ⟨hi5, hj6⟩ := Prod.mk.inj hj5
    subst hi5
    subst hj6
    refine bp_ret HF (res_one rfl HF rfl) ?_
    have HT : St w0 F w [Box p_0 [.slice a_x0_0 x0_0.length c_x0_0, .int .i64 y8, .int .i64 y9]] := HT.take 1
    exact ⟨rfl, HT⟩

def m_spec_l4DrawReg (fuel : Nat) (x0_0 : List UInt8) (x0_1 : Int) (x0_2 : Int) : Option (Int × Int × Int) :=
  bind3 (m_spec_l1Below fuel x0_0 x0_1 x0_2 4) fun y1 y2 y3 =>
  some (y1, y2, y3)

set_option maxRecDepth 100000 in
set_option maxHeartbeats 4000000 in
theorem w_spec_l4DrawReg (fuel : Nat) {x0_0 : List UInt8} {x0_1 : Int} {x0_2 : Int} {a_x0_0 : Option Addr} {n_x0_0 c_x0_0 : Nat} {p_0 : Nat} {r0 : Int} {x0_1' : Int} {x0_2' : Int} {w0 : World} {F : Foot} (h : m_spec_l4DrawReg fuel x0_0 x0_1 x0_2 = some (r0, x0_1', x0_2')) (hA : StF w0 F [Box p_0 [.slice a_x0_0 n_x0_0 c_x0_0, .int .i64 x0_1, .int .i64 x0_2]]) (hr_x0_0 : RdT (fun b => ¬ F b) w0 (rowT x0_0) (.slice a_x0_0 n_x0_0 c_x0_0)) :
    Calls Try.prog 82 #[.pointer (some ⟨p_0, 0, none⟩)] w0 fun e w => e = .returned (.int .i64 r0) ∧ St w0 F w [Box p_0 [.slice a_x0_0 n_x0_0 c_x0_0, .int .i64 x0_1', .int .i64 x0_2']] := by
  have HT0 := St.init hA
  obtain rfl := hr_x0_0.neq
  have HT : St w0 F w0 [Box p_0 [.slice a_x0_0 x0_0.length c_x0_0, .int .i64 x0_1, .int .i64 x0_2]] := St.init hA
  rw [m_spec_l4DrawReg] at h
  refine calls_fr (n := 5) [.pointer (some ⟨p_0, 0, none⟩)] Try.func82 rfl rfl rfl (fun a HF => ?_)
  have HT : St w0 F w0 [Box p_0 [.slice a_x0_0 x0_0.length c_x0_0, .int .i64 x0_1, .int .i64 x0_2]] := HT
  refine wp_seq ?_
  refine wc_text ?_
  refine wc_assign HF nS rfl rfl rfl (fun a HF => ?_)
  refine wc_end ?_
  refine then_n ?_
  refine wp_seq ?_
  refine wc_text ?_
  refine wc_move HF nS rfl rfl rfl (fun a HF => ?_)
  obtain ⟨y1, y2, y3, hx1, h⟩ := obs3 h
  obtain ⟨F1, hAF1, hFF1, hbackF1, hroF1, hownF1⟩ := St.handR (A := [Box p_0 [.slice a_x0_0 x0_0.length c_x0_0, .int .i64 x0_1, .int .i64 x0_2]]) HT
  refine wc_call HF cf64 rfl (w_spec_l1Below fuel hx1 hAF1 (hroF1 hr_x0_0)) rfl rfl ?_
  rintro e w ⟨rfl, hE⟩
  have HT := hbackF1 _ _ hE
  have HT : St w0 F w [Box p_0 [.slice a_x0_0 x0_0.length c_x0_0, .int .i64 y2, .int .i64 y3]] := HT
  refine ⟨_, rfl, nS, fun a HF => ?_⟩
  refine wc_assign HF nS rfl rfl rfl (fun a HF => ?_)
  refine wc_end ?_
  refine then_n ?_
  refine wp_ret ?_
  have hj1 := Option.some.inj h
  obtain ⟨hi1, hj2⟩ := Prod.mk.inj hj1
  subst hi1
  obtain ⟨hi2, hj3⟩ := Prod.mk.inj hj2
  subst hi2
  subst hj3
  refine bp_ret HF (res_one rfl HF rfl) ?_
  exact ⟨rfl, HT⟩

def m_spec_l4Plain (fuel : Nat) (x0_0 : List UInt8) (x0_1 : Int) (x0_2 : Int) (x1 : Int) : Option (Int × Int × Int × Int × Int × Int) :=
  bind5 (
    if x1 = 1 then
      bind3 (m_spec_l4DrawReg fuel x0_0 x0_1 x0_2) fun y1 y2 y3 =>
      bind3 (m_spec_l3Draw fuel x0_0 y2 y3) fun y4 y5 y6 =>
      some (y1, y4, 0, y5, y6)
    else
      (
        if x1 = 2 then
          some (decide (x1 = 2))
        else
          if x1 = 3 then
            some (decide (x1 = 3))
          else
            some (decide (x1 = 4))).bind fun z6 =>
      if z6 = true then
        bind3 (m_spec_l4DrawReg fuel x0_0 x0_1 x0_2) fun y7 y8 y9 =>
        bind3 (m_spec_l4DrawReg fuel x0_0 y8 y9) fun y10 y11 y12 =>
        bind3 (m_spec_l4DrawReg fuel x0_0 y11 y12) fun y13 y14 y15 =>
        some (y7, y10, y13, y14, y15)
      else
        if x1 = 5 then
          bind3 (m_spec_l4DrawReg fuel x0_0 x0_1 x0_2) fun y16 y17 y18 =>
          bind3 (m_spec_l4DrawCell fuel x0_0 y17 y18) fun y19 y20 y21 =>
          some (y16, y19, 0, y20, y21)
        else
          if x1 = 6 then
            bind3 (m_spec_l4DrawCell fuel x0_0 x0_1 x0_2) fun y22 y23 y24 =>
            bind3 (m_spec_l4DrawReg fuel x0_0 y23 y24) fun y25 y26 y27 =>
            some (y22, y25, 0, y26, y27)
          else
            if x1 = 7 then
              bind3 (m_spec_l4DrawReg fuel x0_0 x0_1 x0_2) fun y28 y29 y30 =>
              bind3 (m_spec_l1Below fuel x0_0 y29 y30 3) fun y31 y32 y33 =>
              if in64 (1 + y31) then
                some (y28, 1 + y31, 0, y32, y33)
              else none
            else
              (
                if x1 = 8 then
                  some (decide (x1 = 8))
                else
                  if x1 = 15 then
                    some (decide (x1 = 15))
                  else
                    some (decide (x1 = 16))).bind fun z7 =>
              if z7 = true then
                bind3 (m_spec_l4DrawReg fuel x0_0 x0_1 x0_2) fun y34 y35 y36 =>
                some (y34, 0, 0, y35, y36)
              else
                if x1 = 12 then
                  bind3 (m_spec_l4DrawKey fuel x0_0 x0_1 x0_2) fun y37 y38 y39 =>
                  bind3 (m_spec_l4DrawReg fuel x0_0 y38 y39) fun y40 y41 y42 =>
                  bind3 (m_spec_l4DrawReg fuel x0_0 y41 y42) fun y43 y44 y45 =>
                  some (y37, y40, y43, y44, y45)
                else
                  if x1 = 13 then
                    bind3 (m_spec_l4DrawReg fuel x0_0 x0_1 x0_2) fun y46 y47 y48 =>
                    bind3 (m_spec_l4DrawKey fuel x0_0 y47 y48) fun y49 y50 y51 =>
                    some (y46, y49, 0, y50, y51)
                  else
                    if x1 = 14 then
                      bind3 (m_spec_l4DrawKey fuel x0_0 x0_1 x0_2) fun y52 y53 y54 =>
                      bind3 (m_spec_l4DrawReg fuel x0_0 y53 y54) fun y55 y56 y57 =>
                      some (y52, y55, 0, y56, y57)
                    else
                      some (0, 0, 0, x0_1, x0_2)) fun z1 z2 z3 z4 z5 =>
  some (x1, z1, z2, z3, z4, z5)

set_option maxRecDepth 100000 in
set_option maxHeartbeats 4000000 in
theorem w_spec_l4Plain (fuel : Nat) {x0_0 : List UInt8} {x0_1 : Int} {x0_2 : Int} {x1 : Int} {a_x0_0 : Option Addr} {n_x0_0 c_x0_0 : Nat} {p_0 : Nat} {r0_0 : Int} {r0_1 : Int} {r0_2 : Int} {r0_3 : Int} {x0_1' : Int} {x0_2' : Int} {w0 : World} {F : Foot} (h : m_spec_l4Plain fuel x0_0 x0_1 x0_2 x1 = some (r0_0, r0_1, r0_2, r0_3, x0_1', x0_2')) (hA : StF w0 F [Box p_0 [.slice a_x0_0 n_x0_0 c_x0_0, .int .i64 x0_1, .int .i64 x0_2]]) (hr_x0_0 : RdT (fun b => ¬ F b) w0 (rowT x0_0) (.slice a_x0_0 n_x0_0 c_x0_0)) :
    Calls Try.prog 63 #[.pointer (some ⟨p_0, 0, none⟩), .int .i64 x1] w0 fun e w => e = .returned (.agg #[.int .i64 r0_0, .int .i64 r0_1, .int .i64 r0_2, .int .i64 r0_3]) ∧ St w0 F w [Box p_0 [.slice a_x0_0 n_x0_0 c_x0_0, .int .i64 x0_1', .int .i64 x0_2']] := by
  have HT0 := St.init hA
  obtain rfl := hr_x0_0.neq
  have HT : St w0 F w0 [Box p_0 [.slice a_x0_0 x0_0.length c_x0_0, .int .i64 x0_1, .int .i64 x0_2]] := St.init hA
  rw [m_spec_l4Plain] at h
  refine calls_fr (n := 90) [.pointer (some ⟨p_0, 0, none⟩), .int .i64 x1] Try.func63 rfl rfl rfl (fun a HF => ?_)
  have HT : St w0 F w0 [Box p_0 [.slice a_x0_0 x0_0.length c_x0_0, .int .i64 x0_1, .int .i64 x0_2]] := HT
  refine wp_seq ?_
  refine wc_text ?_
  refine wc_alloc (cs := [.int .i64 0, .int .i64 0, .int .i64 0, .int .i64 0]) HF HT zr25 rfl rfl rfl (fun p1 w HT hb => ⟨nS, fun a HF => ?_⟩)
  refine wc_end ?_
  refine then_n ?_
  refine wp_seq ?_
  refine wc_text ?_
  refine wc_move HF nS rfl rfl rfl (fun a HF => ?_)
  refine wc_build (cs := #[.int .i64 x1, .int .i64 0, .int .i64 0, .int .i64 0]) HF nS bd25 rfl rfl rfl rfl (fun a HF => ?_)
  refine wc_alloc (cs := [.int .i64 0, .int .i64 0, .int .i64 0, .int .i64 0]) HF HT zr25 rfl rfl rfl (fun p2 w HT hb => ⟨nS, fun a HF => ?_⟩)
  refine wc_storeB (cs' := [.int .i64 x1, .int .i64 0, .int .i64 0, .int .i64 0]) HF HT rfl rfl (fun w => (ag25 w).2) rfl rfl rfl rfl rfl (fun w HT => ⟨nS, ?_⟩)
  refine wc_end ?_
  refine then_n ?_
  obtain ⟨z1, z2, z3, z4, z5, hx1, h⟩ := obs5 h
  refine wp_cut (fun a w => Fr a 90 [(4, .pointer (some ⟨p1, 0, none⟩)), (5, .pointer (some ⟨p2, 0, none⟩))] ∧ St w0 F w [Box p1 [.int .i64 0, .int .i64 0, .int .i64 0, .int .i64 0], Box p2 [.int .i64 x1, .int .i64 z1, .int .i64 z2, .int .i64 z3], Box p_0 [.slice a_x0_0 x0_0.length c_x0_0, .int .i64 z4, .int .i64 z5]]) ?_ ?_
  · have hk1 := h
    have h := hx1
    refine wp_seq ?_
    refine wc_text ?_
    refine wc_move HF nS rfl rfl rfl (fun a HF => ?_)
    refine wc_end ?_
    refine then_n ?_
    refine wp_block ?_
    refine wp_seq ?_
    refine wc_text ?_
    refine wc_bin HF nS rfl rfl b_eq rfl rfl (fun a HF => ?_)
    refine wc_assign HF nS rfl rfl rfl (fun a HF => ?_)
    refine wc_end ?_
    refine then_n ?_
    by_cases hb1 : x1 = 1
    · have h := (if_pos hb1).symm.trans h
      refine wp_if (b' := true) HF rfl (decide_eq_true hb1) ?_
      refine wp_seq ?_
      refine wc_text ?_
      refine wc_move HF nS rfl rfl rfl (fun a HF => ?_)
      obtain ⟨y1, y2, y3, hx2, h⟩ := obs3 h
      have HT : St w0 F w [Box p_0 [.slice a_x0_0 x0_0.length c_x0_0, .int .i64 x0_1, .int .i64 x0_2], Box p2 [.int .i64 x1, .int .i64 0, .int .i64 0, .int .i64 0], Box p1 [.int .i64 0, .int .i64 0, .int .i64 0, .int .i64 0]] := HT.pick 2
      obtain ⟨F1, hAF1, hFF1, hbackF1, hroF1, hownF1⟩ := St.handR (A := [Box p_0 [.slice a_x0_0 x0_0.length c_x0_0, .int .i64 x0_1, .int .i64 x0_2]]) HT
      refine wc_call HF cf82 rfl (w_spec_l4DrawReg fuel hx2 hAF1 (hroF1 hr_x0_0)) rfl rfl ?_
      rintro e w ⟨rfl, hE⟩
      have HT := hbackF1 _ _ hE
      have HT : St w0 F w [Box p_0 [.slice a_x0_0 x0_0.length c_x0_0, .int .i64 y2, .int .i64 y3], Box p2 [.int .i64 x1, .int .i64 0, .int .i64 0, .int .i64 0], Box p1 [.int .i64 0, .int .i64 0, .int .i64 0, .int .i64 0]] := HT
      refine ⟨_, rfl, nS, fun a HF => ?_⟩
      refine wc_faddr HF nS rfl fl25_1 rfl rfl (fun a HF => ?_)
      have HT : St w0 F w [Box p2 [.int .i64 x1, .int .i64 0, .int .i64 0, .int .i64 0], Box p_0 [.slice a_x0_0 x0_0.length c_x0_0, .int .i64 y2, .int .i64 y3], Box p1 [.int .i64 0, .int .i64 0, .int .i64 0, .int .i64 0]] := HT.pick 1
      refine wc_storeB (cs' := [.int .i64 x1, .int .i64 y1, .int .i64 0, .int .i64 0]) HF HT rfl rfl (fun w => (sc3 w).2) rfl rfl rfl rfl rfl (fun w HT => ⟨nS, ?_⟩)
      refine wc_end ?_
      refine then_n ?_
      refine wc_text ?_
      refine wc_move HF nS rfl rfl rfl (fun a HF => ?_)
      obtain ⟨y4, y5, y6, hx3, h⟩ := obs3 h
      have HT : St w0 F w [Box p_0 [.slice a_x0_0 x0_0.length c_x0_0, .int .i64 y2, .int .i64 y3], Box p2 [.int .i64 x1, .int .i64 y1, .int .i64 0, .int .i64 0], Box p1 [.int .i64 0, .int .i64 0, .int .i64 0, .int .i64 0]] := HT.pick 1
      obtain ⟨F2, hAF2, hFF2, hbackF2, hroF2, hownF2⟩ := St.handR (A := [Box p_0 [.slice a_x0_0 x0_0.length c_x0_0, .int .i64 y2, .int .i64 y3]]) HT
      refine wc_call HF cf67 rfl (w_spec_l3Draw fuel hx3 hAF2 (hroF2 hr_x0_0)) rfl rfl ?_
      rintro e w ⟨rfl, hE⟩
      have HT := hbackF2 _ _ hE
      have HT : St w0 F w [Box p_0 [.slice a_x0_0 x0_0.length c_x0_0, .int .i64 y5, .int .i64 y6], Box p2 [.int .i64 x1, .int .i64 y1, .int .i64 0, .int .i64 0], Box p1 [.int .i64 0, .int .i64 0, .int .i64 0, .int .i64 0]] := HT
      refine ⟨_, rfl, nS, fun a HF => ?_⟩
      refine wc_faddr HF nS rfl fl25_2 rfl rfl (fun a HF => ?_)
      have HT : St w0 F w [Box p2 [.int .i64 x1, .int .i64 y1, .int .i64 0, .int .i64 0], Box p_0 [.slice a_x0_0 x0_0.length c_x0_0, .int .i64 y5, .int .i64 y6], Box p1 [.int .i64 0, .int .i64 0, .int .i64 0, .int .i64 0]] := HT.pick 1
      refine wc_storeB (cs' := [.int .i64 x1, .int .i64 y1, .int .i64 y4, .int .i64 0]) HF HT rfl rfl (fun w => (sc3 w).2) rfl rfl rfl rfl rfl (fun w HT => ⟨nS, ?_⟩)
      refine wc_end ?_
      refine blk_n ?_
      have HT : St w0 F w [Box p_0 [.slice a_x0_0 x0_0.length c_x0_0, .int .i64 y5, .int .i64 y6], Box p2 [.int .i64 x1, .int .i64 y1, .int .i64 y4, .int .i64 0], Box p1 [.int .i64 0, .int .i64 0, .int .i64 0, .int .i64 0]] := HT.pick 1
      have HT : St w0 F w [Box p2 [.int .i64 x1, .int .i64 y1, .int .i64 y4, .int .i64 0], Box p_0 [.slice a_x0_0 x0_0.length c_x0_0, .int .i64 y5, .int .i64 y6], Box p1 [.int .i64 0, .int .i64 0, .int .i64 0, .int .i64 0]] := HT.pick 1
      have HT : St w0 F w [Box p1 [.int .i64 0, .int .i64 0, .int .i64 0, .int .i64 0], Box p2 [.int .i64 x1, .int .i64 y1, .int .i64 y4, .int .i64 0], Box p_0 [.slice a_x0_0 x0_0.length c_x0_0, .int .i64 y5, .int .i64 y6]] := HT.pick 2
      have hj1 := Option.some.inj h
      obtain ⟨hi1, hj2⟩ := Prod.mk.inj hj1
      subst hi1
      obtain ⟨hi2, hj3⟩ := Prod.mk.inj hj2
      subst hi2
      obtain ⟨hi3, hj4⟩ := Prod.mk.inj hj3
      subst hi3
      obtain ⟨hi4, hj5⟩ := Prod.mk.inj hj4
      subst hi4
      subst hj5
      exact then_n ⟨(HF.keep (HF.keep HF.nil rfl) rfl), HT⟩
    · have h := (if_neg hb1).symm.trans h
      refine wp_if (b' := false) HF rfl (decide_eq_false hb1) ?_
      obtain ⟨z6, hx4, h⟩ := obs h
      refine wp_cut (fun a w => Fr a 90 [(0, .pointer (some ⟨p_0, 0, none⟩)), (4, .pointer (some ⟨p1, 0, none⟩)), (5, .pointer (some ⟨p2, 0, none⟩)), (8, .int .i64 x1), (17, .bool z6)] ∧ St w0 F w [Box p_0 [.slice a_x0_0 x0_0.length c_x0_0, .int .i64 x0_1, .int .i64 x0_2], Box p1 [.int .i64 0, .int .i64 0, .int .i64 0, .int .i64 0], Box p2 [.int .i64 x1, .int .i64 0, .int .i64 0, .int .i64 0]]) ?_ ?_
      · have hk2 := h
        have h := hx4
        refine wp_seq ?_
        refine wc_text ?_
        refine wc_bin HF nS rfl rfl b_eq rfl rfl (fun a HF => ?_)
        refine wc_assign HF nS rfl rfl rfl (fun a HF => ?_)
        refine wc_end ?_
        refine then_n ?_
        by_cases hb2 : x1 = 2
        · have h := (if_pos hb2).symm.trans h
          refine wp_if (b' := true) HF rfl (decide_eq_true hb2) ?_
          refine wp_skip ?_
          have HT : St w0 F w [Box p1 [.int .i64 0, .int .i64 0, .int .i64 0, .int .i64 0], Box p2 [.int .i64 x1, .int .i64 0, .int .i64 0, .int .i64 0], Box p_0 [.slice a_x0_0 x0_0.length c_x0_0, .int .i64 x0_1, .int .i64 x0_2]] := HT.pick 1
          have HT : St w0 F w [Box p_0 [.slice a_x0_0 x0_0.length c_x0_0, .int .i64 x0_1, .int .i64 x0_2], Box p1 [.int .i64 0, .int .i64 0, .int .i64 0, .int .i64 0], Box p2 [.int .i64 x1, .int .i64 0, .int .i64 0, .int .i64 0]] := HT.pick 2
          obtain rfl := Option.some.inj h
          exact then_n ⟨(HF.keep (HF.keep (HF.keep (HF.keep (HF.keep HF.nil rfl) rfl) rfl) rfl) rfl), HT⟩
        · have h := (if_neg hb2).symm.trans h
          refine wp_if (b' := false) HF rfl (decide_eq_false hb2) ?_
          refine wp_seq ?_
          refine wc_text ?_
          refine wc_bin HF nS rfl rfl b_eq rfl rfl (fun a HF => ?_)
          refine wc_assign HF nS rfl rfl rfl (fun a HF => ?_)
          refine wc_end ?_
          refine then_n ?_
          by_cases hb3 : x1 = 3
          · have h := (if_pos hb3).symm.trans h
            refine wp_if (b' := true) HF rfl (decide_eq_true hb3) ?_
            refine wp_skip ?_
            have HT : St w0 F w [Box p1 [.int .i64 0, .int .i64 0, .int .i64 0, .int .i64 0], Box p2 [.int .i64 x1, .int .i64 0, .int .i64 0, .int .i64 0], Box p_0 [.slice a_x0_0 x0_0.length c_x0_0, .int .i64 x0_1, .int .i64 x0_2]] := HT.pick 1
            have HT : St w0 F w [Box p_0 [.slice a_x0_0 x0_0.length c_x0_0, .int .i64 x0_1, .int .i64 x0_2], Box p1 [.int .i64 0, .int .i64 0, .int .i64 0, .int .i64 0], Box p2 [.int .i64 x1, .int .i64 0, .int .i64 0, .int .i64 0]] := HT.pick 2
            obtain rfl := Option.some.inj h
            exact then_n ⟨(HF.keep (HF.keep (HF.keep (HF.keep (HF.keep HF.nil rfl) rfl) rfl) rfl) rfl), HT⟩
          · have h := (if_neg hb3).symm.trans h
            refine wp_if (b' := false) HF rfl (decide_eq_false hb3) ?_
            refine wc_text ?_
            refine wc_bin HF nS rfl rfl b_eq rfl rfl (fun a HF => ?_)
            refine wc_assign HF nS rfl rfl rfl (fun a HF => ?_)
            refine wc_end ?_
            have HT : St w0 F w [Box p1 [.int .i64 0, .int .i64 0, .int .i64 0, .int .i64 0], Box p2 [.int .i64 x1, .int .i64 0, .int .i64 0, .int .i64 0], Box p_0 [.slice a_x0_0 x0_0.length c_x0_0, .int .i64 x0_1, .int .i64 x0_2]] := HT.pick 1
            have HT : St w0 F w [Box p_0 [.slice a_x0_0 x0_0.length c_x0_0, .int .i64 x0_1, .int .i64 x0_2], Box p1 [.int .i64 0, .int .i64 0, .int .i64 0, .int .i64 0], Box p2 [.int .i64 x1, .int .i64 0, .int .i64 0, .int .i64 0]] := HT.pick 2
            obtain rfl := Option.some.inj h
            exact then_n ⟨(HF.keep (HF.keep (HF.keep (HF.keep (HF.keep HF.nil rfl) rfl) rfl) rfl) rfl), HT⟩
      · rintro a w ⟨HF, HT⟩
        refine ?_
        by_cases hb4 : z6 = true
        · have h := (if_pos hb4).symm.trans h
          refine wp_if (b' := true) HF rfl hb4 ?_
          refine wp_seq ?_
          refine wc_text ?_
          refine wc_move HF nS rfl rfl rfl (fun a HF => ?_)
          obtain ⟨y7, y8, y9, hx5, h⟩ := obs3 h
          obtain ⟨F3, hAF3, hFF3, hbackF3, hroF3, hownF3⟩ := St.handR (A := [Box p_0 [.slice a_x0_0 x0_0.length c_x0_0, .int .i64 x0_1, .int .i64 x0_2]]) HT
          refine wc_call HF cf82 rfl (w_spec_l4DrawReg fuel hx5 hAF3 (hroF3 hr_x0_0)) rfl rfl ?_
          rintro e w ⟨rfl, hE⟩
          have HT := hbackF3 _ _ hE
          have HT : St w0 F w [Box p_0 [.slice a_x0_0 x0_0.length c_x0_0, .int .i64 y8, .int .i64 y9], Box p1 [.int .i64 0, .int .i64 0, .int .i64 0, .int .i64 0], Box p2 [.int .i64 x1, .int .i64 0, .int .i64 0, .int .i64 0]] := HT
          refine ⟨_, rfl, nS, fun a HF => ?_⟩
          refine wc_faddr HF nS rfl fl25_1 rfl rfl (fun a HF => ?_)
          have HT : St w0 F w [Box p2 [.int .i64 x1, .int .i64 0, .int .i64 0, .int .i64 0], Box p_0 [.slice a_x0_0 x0_0.length c_x0_0, .int .i64 y8, .int .i64 y9], Box p1 [.int .i64 0, .int .i64 0, .int .i64 0, .int .i64 0]] := HT.pick 2
          refine wc_storeB (cs' := [.int .i64 x1, .int .i64 y7, .int .i64 0, .int .i64 0]) HF HT rfl rfl (fun w => (sc3 w).2) rfl rfl rfl rfl rfl (fun w HT => ⟨nS, ?_⟩)
          refine wc_end ?_
          refine then_n ?_
          refine wp_seq ?_
          refine wc_text ?_
          refine wc_move HF nS rfl rfl rfl (fun a HF => ?_)
          obtain ⟨y10, y11, y12, hx6, h⟩ := obs3 h
          have HT : St w0 F w [Box p_0 [.slice a_x0_0 x0_0.length c_x0_0, .int .i64 y8, .int .i64 y9], Box p2 [.int .i64 x1, .int .i64 y7, .int .i64 0, .int .i64 0], Box p1 [.int .i64 0, .int .i64 0, .int .i64 0, .int .i64 0]] := HT.pick 1
          obtain ⟨F4, hAF4, hFF4, hbackF4, hroF4, hownF4⟩ := St.handR (A := [Box p_0 [.slice a_x0_0 x0_0.length c_x0_0, .int .i64 y8, .int .i64 y9]]) HT
          refine wc_call HF cf82 rfl (w_spec_l4DrawReg fuel hx6 hAF4 (hroF4 hr_x0_0)) rfl rfl ?_
          rintro e w ⟨rfl, hE⟩
          have HT := hbackF4 _ _ hE
          have HT : St w0 F w [Box p_0 [.slice a_x0_0 x0_0.length c_x0_0, .int .i64 y11, .int .i64 y12], Box p2 [.int .i64 x1, .int .i64 y7, .int .i64 0, .int .i64 0], Box p1 [.int .i64 0, .int .i64 0, .int .i64 0, .int .i64 0]] := HT
          refine ⟨_, rfl, nS, fun a HF => ?_⟩
          refine wc_faddr HF nS rfl fl25_2 rfl rfl (fun a HF => ?_)
          have HT : St w0 F w [Box p2 [.int .i64 x1, .int .i64 y7, .int .i64 0, .int .i64 0], Box p_0 [.slice a_x0_0 x0_0.length c_x0_0, .int .i64 y11, .int .i64 y12], Box p1 [.int .i64 0, .int .i64 0, .int .i64 0, .int .i64 0]] := HT.pick 1
          refine wc_storeB (cs' := [.int .i64 x1, .int .i64 y7, .int .i64 y10, .int .i64 0]) HF HT rfl rfl (fun w => (sc3 w).2) rfl rfl rfl rfl rfl (fun w HT => ⟨nS, ?_⟩)
          refine wc_end ?_
          refine then_n ?_
          refine wc_text ?_
          refine wc_move HF nS rfl rfl rfl (fun a HF => ?_)
          obtain ⟨y13, y14, y15, hx7, h⟩ := obs3 h
          have HT : St w0 F w [Box p_0 [.slice a_x0_0 x0_0.length c_x0_0, .int .i64 y11, .int .i64 y12], Box p2 [.int .i64 x1, .int .i64 y7, .int .i64 y10, .int .i64 0], Box p1 [.int .i64 0, .int .i64 0, .int .i64 0, .int .i64 0]] := HT.pick 1
          obtain ⟨F5, hAF5, hFF5, hbackF5, hroF5, hownF5⟩ := St.handR (A := [Box p_0 [.slice a_x0_0 x0_0.length c_x0_0, .int .i64 y11, .int .i64 y12]]) HT
          refine wc_call HF cf82 rfl (w_spec_l4DrawReg fuel hx7 hAF5 (hroF5 hr_x0_0)) rfl rfl ?_
          rintro e w ⟨rfl, hE⟩
          have HT := hbackF5 _ _ hE
          have HT : St w0 F w [Box p_0 [.slice a_x0_0 x0_0.length c_x0_0, .int .i64 y14, .int .i64 y15], Box p2 [.int .i64 x1, .int .i64 y7, .int .i64 y10, .int .i64 0], Box p1 [.int .i64 0, .int .i64 0, .int .i64 0, .int .i64 0]] := HT
          refine ⟨_, rfl, nS, fun a HF => ?_⟩
          refine wc_faddr HF nS rfl fl25_3 rfl rfl (fun a HF => ?_)
          have HT : St w0 F w [Box p2 [.int .i64 x1, .int .i64 y7, .int .i64 y10, .int .i64 0], Box p_0 [.slice a_x0_0 x0_0.length c_x0_0, .int .i64 y14, .int .i64 y15], Box p1 [.int .i64 0, .int .i64 0, .int .i64 0, .int .i64 0]] := HT.pick 1
          refine wc_storeB (cs' := [.int .i64 x1, .int .i64 y7, .int .i64 y10, .int .i64 y13]) HF HT rfl rfl (fun w => (sc3 w).2) rfl rfl rfl rfl rfl (fun w HT => ⟨nS, ?_⟩)
          refine wc_end ?_
          refine blk_n ?_
          have HT : St w0 F w [Box p_0 [.slice a_x0_0 x0_0.length c_x0_0, .int .i64 y14, .int .i64 y15], Box p2 [.int .i64 x1, .int .i64 y7, .int .i64 y10, .int .i64 y13], Box p1 [.int .i64 0, .int .i64 0, .int .i64 0, .int .i64 0]] := HT.pick 1
          have HT : St w0 F w [Box p2 [.int .i64 x1, .int .i64 y7, .int .i64 y10, .int .i64 y13], Box p_0 [.slice a_x0_0 x0_0.length c_x0_0, .int .i64 y14, .int .i64 y15], Box p1 [.int .i64 0, .int .i64 0, .int .i64 0, .int .i64 0]] := HT.pick 1
          have HT : St w0 F w [Box p1 [.int .i64 0, .int .i64 0, .int .i64 0, .int .i64 0], Box p2 [.int .i64 x1, .int .i64 y7, .int .i64 y10, .int .i64 y13], Box p_0 [.slice a_x0_0 x0_0.length c_x0_0, .int .i64 y14, .int .i64 y15]] := HT.pick 2
          have hj6 := Option.some.inj h
          obtain ⟨hi6, hj7⟩ := Prod.mk.inj hj6
          subst hi6
          obtain ⟨hi7, hj8⟩ := Prod.mk.inj hj7
          subst hi7
          obtain ⟨hi8, hj9⟩ := Prod.mk.inj hj8
          subst hi8
          obtain ⟨hi9, hj10⟩ := Prod.mk.inj hj9
          subst hi9
          subst hj10
          exact then_n ⟨(HF.keep (HF.keep HF.nil rfl) rfl), HT⟩
        · have h := (if_neg hb4).symm.trans h
          refine wp_if (b' := false) HF rfl (Bool.eq_false_iff.2 hb4) ?_
          refine wp_seq ?_
          refine wc_text ?_
          refine wc_bin HF nS rfl rfl b_eq rfl rfl (fun a HF => ?_)
          refine wc_assign HF nS rfl rfl rfl (fun a HF => ?_)
          refine wc_end ?_
          refine then_n ?_
          by_cases hb5 : x1 = 5
          · have h := (if_pos hb5).symm.trans h
            refine wp_if (b' := true) HF rfl (decide_eq_true hb5) ?_
            refine wp_seq ?_
            refine wc_text ?_
            refine wc_move HF nS rfl rfl rfl (fun a HF => ?_)
            obtain ⟨y16, y17, y18, hx8, h⟩ := obs3 h
            obtain ⟨F6, hAF6, hFF6, hbackF6, hroF6, hownF6⟩ := St.handR (A := [Box p_0 [.slice a_x0_0 x0_0.length c_x0_0, .int .i64 x0_1, .int .i64 x0_2]]) HT
            refine wc_call HF cf82 rfl (w_spec_l4DrawReg fuel hx8 hAF6 (hroF6 hr_x0_0)) rfl rfl ?_
            rintro e w ⟨rfl, hE⟩
            have HT := hbackF6 _ _ hE
            have HT : St w0 F w [Box p_0 [.slice a_x0_0 x0_0.length c_x0_0, .int .i64 y17, .int .i64 y18], Box p1 [.int .i64 0, .int .i64 0, .int .i64 0, .int .i64 0], Box p2 [.int .i64 x1, .int .i64 0, .int .i64 0, .int .i64 0]] := HT
            refine ⟨_, rfl, nS, fun a HF => ?_⟩
            refine wc_faddr HF nS rfl fl25_1 rfl rfl (fun a HF => ?_)
            have HT : St w0 F w [Box p2 [.int .i64 x1, .int .i64 0, .int .i64 0, .int .i64 0], Box p_0 [.slice a_x0_0 x0_0.length c_x0_0, .int .i64 y17, .int .i64 y18], Box p1 [.int .i64 0, .int .i64 0, .int .i64 0, .int .i64 0]] := HT.pick 2
            refine wc_storeB (cs' := [.int .i64 x1, .int .i64 y16, .int .i64 0, .int .i64 0]) HF HT rfl rfl (fun w => (sc3 w).2) rfl rfl rfl rfl rfl (fun w HT => ⟨nS, ?_⟩)
            refine wc_end ?_
            refine then_n ?_
            refine wc_text ?_
            refine wc_move HF nS rfl rfl rfl (fun a HF => ?_)
            obtain ⟨y19, y20, y21, hx9, h⟩ := obs3 h
            have HT : St w0 F w [Box p_0 [.slice a_x0_0 x0_0.length c_x0_0, .int .i64 y17, .int .i64 y18], Box p2 [.int .i64 x1, .int .i64 y16, .int .i64 0, .int .i64 0], Box p1 [.int .i64 0, .int .i64 0, .int .i64 0, .int .i64 0]] := HT.pick 1
            obtain ⟨F7, hAF7, hFF7, hbackF7, hroF7, hownF7⟩ := St.handR (A := [Box p_0 [.slice a_x0_0 x0_0.length c_x0_0, .int .i64 y17, .int .i64 y18]]) HT
            refine wc_call HF cf83 rfl (w_spec_l4DrawCell fuel hx9 hAF7 (hroF7 hr_x0_0)) rfl rfl ?_
            rintro e w ⟨rfl, hE⟩
            have HT := hbackF7 _ _ hE
            have HT : St w0 F w [Box p_0 [.slice a_x0_0 x0_0.length c_x0_0, .int .i64 y20, .int .i64 y21], Box p2 [.int .i64 x1, .int .i64 y16, .int .i64 0, .int .i64 0], Box p1 [.int .i64 0, .int .i64 0, .int .i64 0, .int .i64 0]] := HT
            refine ⟨_, rfl, nS, fun a HF => ?_⟩
            refine wc_faddr HF nS rfl fl25_2 rfl rfl (fun a HF => ?_)
            have HT : St w0 F w [Box p2 [.int .i64 x1, .int .i64 y16, .int .i64 0, .int .i64 0], Box p_0 [.slice a_x0_0 x0_0.length c_x0_0, .int .i64 y20, .int .i64 y21], Box p1 [.int .i64 0, .int .i64 0, .int .i64 0, .int .i64 0]] := HT.pick 1
            refine wc_storeB (cs' := [.int .i64 x1, .int .i64 y16, .int .i64 y19, .int .i64 0]) HF HT rfl rfl (fun w => (sc3 w).2) rfl rfl rfl rfl rfl (fun w HT => ⟨nS, ?_⟩)
            refine wc_end ?_
            refine blk_n ?_
            have HT : St w0 F w [Box p_0 [.slice a_x0_0 x0_0.length c_x0_0, .int .i64 y20, .int .i64 y21], Box p2 [.int .i64 x1, .int .i64 y16, .int .i64 y19, .int .i64 0], Box p1 [.int .i64 0, .int .i64 0, .int .i64 0, .int .i64 0]] := HT.pick 1
            have HT : St w0 F w [Box p2 [.int .i64 x1, .int .i64 y16, .int .i64 y19, .int .i64 0], Box p_0 [.slice a_x0_0 x0_0.length c_x0_0, .int .i64 y20, .int .i64 y21], Box p1 [.int .i64 0, .int .i64 0, .int .i64 0, .int .i64 0]] := HT.pick 1
            have HT : St w0 F w [Box p1 [.int .i64 0, .int .i64 0, .int .i64 0, .int .i64 0], Box p2 [.int .i64 x1, .int .i64 y16, .int .i64 y19, .int .i64 0], Box p_0 [.slice a_x0_0 x0_0.length c_x0_0, .int .i64 y20, .int .i64 y21]] := HT.pick 2
            have hj11 := Option.some.inj h
            obtain ⟨hi11, hj12⟩ := Prod.mk.inj hj11
            subst hi11
            obtain ⟨hi12, hj13⟩ := Prod.mk.inj hj12
            subst hi12
            obtain ⟨hi13, hj14⟩ := Prod.mk.inj hj13
            subst hi13
            obtain ⟨hi14, hj15⟩ := Prod.mk.inj hj14
            subst hi14
            subst hj15
            exact then_n ⟨(HF.keep (HF.keep HF.nil rfl) rfl), HT⟩
          · have h := (if_neg hb5).symm.trans h
            refine wp_if (b' := false) HF rfl (decide_eq_false hb5) ?_
            refine wp_seq ?_
            refine wc_text ?_
            refine wc_bin HF nS rfl rfl b_eq rfl rfl (fun a HF => ?_)
            refine wc_assign HF nS rfl rfl rfl (fun a HF => ?_)
            refine wc_end ?_
            refine then_n ?_
            by_cases hb6 : x1 = 6
            · have h := (if_pos hb6).symm.trans h
              refine wp_if (b' := true) HF rfl (decide_eq_true hb6) ?_
              refine wp_seq ?_
              refine wc_text ?_
              refine wc_move HF nS rfl rfl rfl (fun a HF => ?_)
              obtain ⟨y22, y23, y24, hx10, h⟩ := obs3 h
              obtain ⟨F8, hAF8, hFF8, hbackF8, hroF8, hownF8⟩ := St.handR (A := [Box p_0 [.slice a_x0_0 x0_0.length c_x0_0, .int .i64 x0_1, .int .i64 x0_2]]) HT
              refine wc_call HF cf83 rfl (w_spec_l4DrawCell fuel hx10 hAF8 (hroF8 hr_x0_0)) rfl rfl ?_
              rintro e w ⟨rfl, hE⟩
              have HT := hbackF8 _ _ hE
              have HT : St w0 F w [Box p_0 [.slice a_x0_0 x0_0.length c_x0_0, .int .i64 y23, .int .i64 y24], Box p1 [.int .i64 0, .int .i64 0, .int .i64 0, .int .i64 0], Box p2 [.int .i64 x1, .int .i64 0, .int .i64 0, .int .i64 0]] := HT
              refine ⟨_, rfl, nS, fun a HF => ?_⟩
              refine wc_faddr HF nS rfl fl25_1 rfl rfl (fun a HF => ?_)
              have HT : St w0 F w [Box p2 [.int .i64 x1, .int .i64 0, .int .i64 0, .int .i64 0], Box p_0 [.slice a_x0_0 x0_0.length c_x0_0, .int .i64 y23, .int .i64 y24], Box p1 [.int .i64 0, .int .i64 0, .int .i64 0, .int .i64 0]] := HT.pick 2
              refine wc_storeB (cs' := [.int .i64 x1, .int .i64 y22, .int .i64 0, .int .i64 0]) HF HT rfl rfl (fun w => (sc3 w).2) rfl rfl rfl rfl rfl (fun w HT => ⟨nS, ?_⟩)
              refine wc_end ?_
              refine then_n ?_
              refine wc_text ?_
              refine wc_move HF nS rfl rfl rfl (fun a HF => ?_)
              obtain ⟨y25, y26, y27, hx11, h⟩ := obs3 h
              have HT : St w0 F w [Box p_0 [.slice a_x0_0 x0_0.length c_x0_0, .int .i64 y23, .int .i64 y24], Box p2 [.int .i64 x1, .int .i64 y22, .int .i64 0, .int .i64 0], Box p1 [.int .i64 0, .int .i64 0, .int .i64 0, .int .i64 0]] := HT.pick 1
              obtain ⟨F9, hAF9, hFF9, hbackF9, hroF9, hownF9⟩ := St.handR (A := [Box p_0 [.slice a_x0_0 x0_0.length c_x0_0, .int .i64 y23, .int .i64 y24]]) HT
              refine wc_call HF cf82 rfl (w_spec_l4DrawReg fuel hx11 hAF9 (hroF9 hr_x0_0)) rfl rfl ?_
              rintro e w ⟨rfl, hE⟩
              have HT := hbackF9 _ _ hE
              have HT : St w0 F w [Box p_0 [.slice a_x0_0 x0_0.length c_x0_0, .int .i64 y26, .int .i64 y27], Box p2 [.int .i64 x1, .int .i64 y22, .int .i64 0, .int .i64 0], Box p1 [.int .i64 0, .int .i64 0, .int .i64 0, .int .i64 0]] := HT
              refine ⟨_, rfl, nS, fun a HF => ?_⟩
              refine wc_faddr HF nS rfl fl25_2 rfl rfl (fun a HF => ?_)
              have HT : St w0 F w [Box p2 [.int .i64 x1, .int .i64 y22, .int .i64 0, .int .i64 0], Box p_0 [.slice a_x0_0 x0_0.length c_x0_0, .int .i64 y26, .int .i64 y27], Box p1 [.int .i64 0, .int .i64 0, .int .i64 0, .int .i64 0]] := HT.pick 1
              refine wc_storeB (cs' := [.int .i64 x1, .int .i64 y22, .int .i64 y25, .int .i64 0]) HF HT rfl rfl (fun w => (sc3 w).2) rfl rfl rfl rfl rfl (fun w HT => ⟨nS, ?_⟩)
              refine wc_end ?_
              refine blk_n ?_
              have HT : St w0 F w [Box p_0 [.slice a_x0_0 x0_0.length c_x0_0, .int .i64 y26, .int .i64 y27], Box p2 [.int .i64 x1, .int .i64 y22, .int .i64 y25, .int .i64 0], Box p1 [.int .i64 0, .int .i64 0, .int .i64 0, .int .i64 0]] := HT.pick 1
              have HT : St w0 F w [Box p2 [.int .i64 x1, .int .i64 y22, .int .i64 y25, .int .i64 0], Box p_0 [.slice a_x0_0 x0_0.length c_x0_0, .int .i64 y26, .int .i64 y27], Box p1 [.int .i64 0, .int .i64 0, .int .i64 0, .int .i64 0]] := HT.pick 1
              have HT : St w0 F w [Box p1 [.int .i64 0, .int .i64 0, .int .i64 0, .int .i64 0], Box p2 [.int .i64 x1, .int .i64 y22, .int .i64 y25, .int .i64 0], Box p_0 [.slice a_x0_0 x0_0.length c_x0_0, .int .i64 y26, .int .i64 y27]] := HT.pick 2
              have hj16 := Option.some.inj h
              obtain ⟨hi16, hj17⟩ := Prod.mk.inj hj16
              subst hi16
              obtain ⟨hi17, hj18⟩ := Prod.mk.inj hj17
              subst hi17
              obtain ⟨hi18, hj19⟩ := Prod.mk.inj hj18
              subst hi18
              obtain ⟨hi19, hj20⟩ := Prod.mk.inj hj19
              subst hi19
              subst hj20
              exact then_n ⟨(HF.keep (HF.keep HF.nil rfl) rfl), HT⟩
            · have h := (if_neg hb6).symm.trans h
              refine wp_if (b' := false) HF rfl (decide_eq_false hb6) ?_
              refine wp_seq ?_
              refine wc_text ?_
              refine wc_bin HF nS rfl rfl b_eq rfl rfl (fun a HF => ?_)
              refine wc_assign HF nS rfl rfl rfl (fun a HF => ?_)
              refine wc_end ?_
              refine then_n ?_
              by_cases hb7 : x1 = 7
              · have h := (if_pos hb7).symm.trans h
                refine wp_if (b' := true) HF rfl (decide_eq_true hb7) ?_
                refine wp_seq ?_
                refine wc_text ?_
                refine wc_move HF nS rfl rfl rfl (fun a HF => ?_)
                obtain ⟨y28, y29, y30, hx12, h⟩ := obs3 h
                obtain ⟨F10, hAF10, hFF10, hbackF10, hroF10, hownF10⟩ := St.handR (A := [Box p_0 [.slice a_x0_0 x0_0.length c_x0_0, .int .i64 x0_1, .int .i64 x0_2]]) HT
                refine wc_call HF cf82 rfl (w_spec_l4DrawReg fuel hx12 hAF10 (hroF10 hr_x0_0)) rfl rfl ?_
                rintro e w ⟨rfl, hE⟩
                have HT := hbackF10 _ _ hE
                have HT : St w0 F w [Box p_0 [.slice a_x0_0 x0_0.length c_x0_0, .int .i64 y29, .int .i64 y30], Box p1 [.int .i64 0, .int .i64 0, .int .i64 0, .int .i64 0], Box p2 [.int .i64 x1, .int .i64 0, .int .i64 0, .int .i64 0]] := HT
                refine ⟨_, rfl, nS, fun a HF => ?_⟩
                refine wc_faddr HF nS rfl fl25_1 rfl rfl (fun a HF => ?_)
                have HT : St w0 F w [Box p2 [.int .i64 x1, .int .i64 0, .int .i64 0, .int .i64 0], Box p_0 [.slice a_x0_0 x0_0.length c_x0_0, .int .i64 y29, .int .i64 y30], Box p1 [.int .i64 0, .int .i64 0, .int .i64 0, .int .i64 0]] := HT.pick 2
                refine wc_storeB (cs' := [.int .i64 x1, .int .i64 y28, .int .i64 0, .int .i64 0]) HF HT rfl rfl (fun w => (sc3 w).2) rfl rfl rfl rfl rfl (fun w HT => ⟨nS, ?_⟩)
                refine wc_end ?_
                refine then_n ?_
                refine wc_text ?_
                refine wc_move HF nS rfl rfl rfl (fun a HF => ?_)
                obtain ⟨y31, y32, y33, hx13, h⟩ := obs3 h
                have HT : St w0 F w [Box p_0 [.slice a_x0_0 x0_0.length c_x0_0, .int .i64 y29, .int .i64 y30], Box p2 [.int .i64 x1, .int .i64 y28, .int .i64 0, .int .i64 0], Box p1 [.int .i64 0, .int .i64 0, .int .i64 0, .int .i64 0]] := HT.pick 1
                obtain ⟨F11, hAF11, hFF11, hbackF11, hroF11, hownF11⟩ := St.handR (A := [Box p_0 [.slice a_x0_0 x0_0.length c_x0_0, .int .i64 y29, .int .i64 y30]]) HT
                refine wc_call HF cf64 rfl (w_spec_l1Below fuel hx13 hAF11 (hroF11 hr_x0_0)) rfl rfl ?_
                rintro e w ⟨rfl, hE⟩
                have HT := hbackF11 _ _ hE
                have HT : St w0 F w [Box p_0 [.slice a_x0_0 x0_0.length c_x0_0, .int .i64 y32, .int .i64 y33], Box p2 [.int .i64 x1, .int .i64 y28, .int .i64 0, .int .i64 0], Box p1 [.int .i64 0, .int .i64 0, .int .i64 0, .int .i64 0]] := HT
                refine ⟨_, rfl, nS, fun a HF => ?_⟩
                obtain ⟨hg1, h⟩ := grd h
                refine wc_bin HF nS rfl rfl (b_add hg1) rfl rfl (fun a HF => ?_)
                refine wc_faddr HF nS rfl fl25_2 rfl rfl (fun a HF => ?_)
                have HT : St w0 F w [Box p2 [.int .i64 x1, .int .i64 y28, .int .i64 0, .int .i64 0], Box p_0 [.slice a_x0_0 x0_0.length c_x0_0, .int .i64 y32, .int .i64 y33], Box p1 [.int .i64 0, .int .i64 0, .int .i64 0, .int .i64 0]] := HT.pick 1
                refine wc_storeB (cs' := [.int .i64 x1, .int .i64 y28, .int .i64 (1 + y31), .int .i64 0]) HF HT rfl rfl (fun w => (sc3 w).2) rfl rfl rfl rfl rfl (fun w HT => ⟨nS, ?_⟩)
                refine wc_end ?_
                refine blk_n ?_
                have HT : St w0 F w [Box p_0 [.slice a_x0_0 x0_0.length c_x0_0, .int .i64 y32, .int .i64 y33], Box p2 [.int .i64 x1, .int .i64 y28, .int .i64 (1 + y31), .int .i64 0], Box p1 [.int .i64 0, .int .i64 0, .int .i64 0, .int .i64 0]] := HT.pick 1
                have HT : St w0 F w [Box p2 [.int .i64 x1, .int .i64 y28, .int .i64 (1 + y31), .int .i64 0], Box p_0 [.slice a_x0_0 x0_0.length c_x0_0, .int .i64 y32, .int .i64 y33], Box p1 [.int .i64 0, .int .i64 0, .int .i64 0, .int .i64 0]] := HT.pick 1
                have HT : St w0 F w [Box p1 [.int .i64 0, .int .i64 0, .int .i64 0, .int .i64 0], Box p2 [.int .i64 x1, .int .i64 y28, .int .i64 (1 + y31), .int .i64 0], Box p_0 [.slice a_x0_0 x0_0.length c_x0_0, .int .i64 y32, .int .i64 y33]] := HT.pick 2
                have hj21 := Option.some.inj h
                obtain ⟨hi21, hj22⟩ := Prod.mk.inj hj21
                subst hi21
                obtain ⟨hi22, hj23⟩ := Prod.mk.inj hj22
                subst hi22
                obtain ⟨hi23, hj24⟩ := Prod.mk.inj hj23
                subst hi23
                obtain ⟨hi24, hj25⟩ := Prod.mk.inj hj24
                subst hi24
                subst hj25
                exact then_n ⟨(HF.keep (HF.keep HF.nil rfl) rfl), HT⟩
              · have h := (if_neg hb7).symm.trans h
                refine wp_if (b' := false) HF rfl (decide_eq_false hb7) ?_
                obtain ⟨z7, hx14, h⟩ := obs h
                refine wp_cut (fun a w => Fr a 90 [(0, .pointer (some ⟨p_0, 0, none⟩)), (4, .pointer (some ⟨p1, 0, none⟩)), (5, .pointer (some ⟨p2, 0, none⟩)), (8, .int .i64 x1), (55, .bool z7)] ∧ St w0 F w [Box p_0 [.slice a_x0_0 x0_0.length c_x0_0, .int .i64 x0_1, .int .i64 x0_2], Box p1 [.int .i64 0, .int .i64 0, .int .i64 0, .int .i64 0], Box p2 [.int .i64 x1, .int .i64 0, .int .i64 0, .int .i64 0]]) ?_ ?_
                · have hk2 := h
                  have h := hx14
                  refine wp_seq ?_
                  refine wc_text ?_
                  refine wc_bin HF nS rfl rfl b_eq rfl rfl (fun a HF => ?_)
                  refine wc_assign HF nS rfl rfl rfl (fun a HF => ?_)
                  refine wc_end ?_
                  refine then_n ?_
                  by_cases hb8 : x1 = 8
                  · have h := (if_pos hb8).symm.trans h
                    refine wp_if (b' := true) HF rfl (decide_eq_true hb8) ?_
                    refine wp_skip ?_
                    obtain rfl := Option.some.inj h
                    exact then_n ⟨(HF.keep (HF.keep (HF.keep (HF.keep (HF.keep HF.nil rfl) rfl) rfl) rfl) rfl), HT⟩
                  · have h := (if_neg hb8).symm.trans h
                    refine wp_if (b' := false) HF rfl (decide_eq_false hb8) ?_
                    refine wp_seq ?_
                    refine wc_text ?_
                    refine wc_bin HF nS rfl rfl b_eq rfl rfl (fun a HF => ?_)
                    refine wc_assign HF nS rfl rfl rfl (fun a HF => ?_)
                    refine wc_end ?_
                    refine then_n ?_
                    by_cases hb9 : x1 = 15
                    · have h := (if_pos hb9).symm.trans h
                      refine wp_if (b' := true) HF rfl (decide_eq_true hb9) ?_
                      refine wp_skip ?_
                      obtain rfl := Option.some.inj h
                      exact then_n ⟨(HF.keep (HF.keep (HF.keep (HF.keep (HF.keep HF.nil rfl) rfl) rfl) rfl) rfl), HT⟩
                    · have h := (if_neg hb9).symm.trans h
                      refine wp_if (b' := false) HF rfl (decide_eq_false hb9) ?_
                      refine wc_text ?_
                      refine wc_bin HF nS rfl rfl b_eq rfl rfl (fun a HF => ?_)
                      refine wc_assign HF nS rfl rfl rfl (fun a HF => ?_)
                      refine wc_end ?_
                      obtain rfl := Option.some.inj h
                      exact then_n ⟨(HF.keep (HF.keep (HF.keep (HF.keep (HF.keep HF.nil rfl) rfl) rfl) rfl) rfl), HT⟩
                · rintro a w ⟨HF, HT⟩
                  refine ?_
                  by_cases hb10 : z7 = true
                  · have h := (if_pos hb10).symm.trans h
                    refine wp_if (b' := true) HF rfl hb10 ?_
                    refine wc_text ?_
                    refine wc_move HF nS rfl rfl rfl (fun a HF => ?_)
                    obtain ⟨y34, y35, y36, hx15, h⟩ := obs3 h
                    obtain ⟨F12, hAF12, hFF12, hbackF12, hroF12, hownF12⟩ := St.handR (A := [Box p_0 [.slice a_x0_0 x0_0.length c_x0_0, .int .i64 x0_1, .int .i64 x0_2]]) HT
                    refine wc_call HF cf82 rfl (w_spec_l4DrawReg fuel hx15 hAF12 (hroF12 hr_x0_0)) rfl rfl ?_
                    rintro e w ⟨rfl, hE⟩
                    have HT := hbackF12 _ _ hE
                    have HT : St w0 F w [Box p_0 [.slice a_x0_0 x0_0.length c_x0_0, .int .i64 y35, .int .i64 y36], Box p1 [.int .i64 0, .int .i64 0, .int .i64 0, .int .i64 0], Box p2 [.int .i64 x1, .int .i64 0, .int .i64 0, .int .i64 0]] := HT
                    refine ⟨_, rfl, nS, fun a HF => ?_⟩
                    refine wc_faddr HF nS rfl fl25_1 rfl rfl (fun a HF => ?_)
                    have HT : St w0 F w [Box p2 [.int .i64 x1, .int .i64 0, .int .i64 0, .int .i64 0], Box p_0 [.slice a_x0_0 x0_0.length c_x0_0, .int .i64 y35, .int .i64 y36], Box p1 [.int .i64 0, .int .i64 0, .int .i64 0, .int .i64 0]] := HT.pick 2
                    refine wc_storeB (cs' := [.int .i64 x1, .int .i64 y34, .int .i64 0, .int .i64 0]) HF HT rfl rfl (fun w => (sc3 w).2) rfl rfl rfl rfl rfl (fun w HT => ⟨nS, ?_⟩)
                    refine wc_end ?_
                    refine blk_n ?_
                    have HT : St w0 F w [Box p_0 [.slice a_x0_0 x0_0.length c_x0_0, .int .i64 y35, .int .i64 y36], Box p2 [.int .i64 x1, .int .i64 y34, .int .i64 0, .int .i64 0], Box p1 [.int .i64 0, .int .i64 0, .int .i64 0, .int .i64 0]] := HT.pick 1
                    have HT : St w0 F w [Box p2 [.int .i64 x1, .int .i64 y34, .int .i64 0, .int .i64 0], Box p_0 [.slice a_x0_0 x0_0.length c_x0_0, .int .i64 y35, .int .i64 y36], Box p1 [.int .i64 0, .int .i64 0, .int .i64 0, .int .i64 0]] := HT.pick 1
                    have HT : St w0 F w [Box p1 [.int .i64 0, .int .i64 0, .int .i64 0, .int .i64 0], Box p2 [.int .i64 x1, .int .i64 y34, .int .i64 0, .int .i64 0], Box p_0 [.slice a_x0_0 x0_0.length c_x0_0, .int .i64 y35, .int .i64 y36]] := HT.pick 2
                    have hj26 := Option.some.inj h
                    obtain ⟨hi26, hj27⟩ := Prod.mk.inj hj26
                    subst hi26
                    obtain ⟨hi27, hj28⟩ := Prod.mk.inj hj27
                    subst hi27
                    obtain ⟨hi28, hj29⟩ := Prod.mk.inj hj28
                    subst hi28
                    obtain ⟨hi29, hj30⟩ := Prod.mk.inj hj29
                    subst hi29
                    subst hj30
                    exact then_n ⟨(HF.keep (HF.keep HF.nil rfl) rfl), HT⟩
                  · have h := (if_neg hb10).symm.trans h
                    refine wp_if (b' := false) HF rfl (Bool.eq_false_iff.2 hb10) ?_
                    refine wp_seq ?_
                    refine wc_text ?_
                    refine wc_bin HF nS rfl rfl b_eq rfl rfl (fun a HF => ?_)
                    refine wc_assign HF nS rfl rfl rfl (fun a HF => ?_)
                    refine wc_end ?_
                    refine then_n ?_
                    by_cases hb11 : x1 = 12
                    · have h := (if_pos hb11).symm.trans h
                      refine wp_if (b' := true) HF rfl (decide_eq_true hb11) ?_
                      refine wp_seq ?_
                      refine wc_text ?_
                      refine wc_move HF nS rfl rfl rfl (fun a HF => ?_)
                      obtain ⟨y37, y38, y39, hx16, h⟩ := obs3 h
                      obtain ⟨F13, hAF13, hFF13, hbackF13, hroF13, hownF13⟩ := St.handR (A := [Box p_0 [.slice a_x0_0 x0_0.length c_x0_0, .int .i64 x0_1, .int .i64 x0_2]]) HT
                      refine wc_call HF cf84 rfl (w_spec_l4DrawKey fuel hx16 hAF13 (hroF13 hr_x0_0)) rfl rfl ?_
                      rintro e w ⟨rfl, hE⟩
                      have HT := hbackF13 _ _ hE
                      have HT : St w0 F w [Box p_0 [.slice a_x0_0 x0_0.length c_x0_0, .int .i64 y38, .int .i64 y39], Box p1 [.int .i64 0, .int .i64 0, .int .i64 0, .int .i64 0], Box p2 [.int .i64 x1, .int .i64 0, .int .i64 0, .int .i64 0]] := HT
                      refine ⟨_, rfl, nS, fun a HF => ?_⟩
                      refine wc_faddr HF nS rfl fl25_1 rfl rfl (fun a HF => ?_)
                      have HT : St w0 F w [Box p2 [.int .i64 x1, .int .i64 0, .int .i64 0, .int .i64 0], Box p_0 [.slice a_x0_0 x0_0.length c_x0_0, .int .i64 y38, .int .i64 y39], Box p1 [.int .i64 0, .int .i64 0, .int .i64 0, .int .i64 0]] := HT.pick 2
                      refine wc_storeB (cs' := [.int .i64 x1, .int .i64 y37, .int .i64 0, .int .i64 0]) HF HT rfl rfl (fun w => (sc3 w).2) rfl rfl rfl rfl rfl (fun w HT => ⟨nS, ?_⟩)
                      refine wc_end ?_
                      refine then_n ?_
                      refine wp_seq ?_
                      refine wc_text ?_
                      refine wc_move HF nS rfl rfl rfl (fun a HF => ?_)
                      obtain ⟨y40, y41, y42, hx17, h⟩ := obs3 h
                      have HT : St w0 F w [Box p_0 [.slice a_x0_0 x0_0.length c_x0_0, .int .i64 y38, .int .i64 y39], Box p2 [.int .i64 x1, .int .i64 y37, .int .i64 0, .int .i64 0], Box p1 [.int .i64 0, .int .i64 0, .int .i64 0, .int .i64 0]] := HT.pick 1
                      obtain ⟨F14, hAF14, hFF14, hbackF14, hroF14, hownF14⟩ := St.handR (A := [Box p_0 [.slice a_x0_0 x0_0.length c_x0_0, .int .i64 y38, .int .i64 y39]]) HT
                      refine wc_call HF cf82 rfl (w_spec_l4DrawReg fuel hx17 hAF14 (hroF14 hr_x0_0)) rfl rfl ?_
                      rintro e w ⟨rfl, hE⟩
                      have HT := hbackF14 _ _ hE
                      have HT : St w0 F w [Box p_0 [.slice a_x0_0 x0_0.length c_x0_0, .int .i64 y41, .int .i64 y42], Box p2 [.int .i64 x1, .int .i64 y37, .int .i64 0, .int .i64 0], Box p1 [.int .i64 0, .int .i64 0, .int .i64 0, .int .i64 0]] := HT
                      refine ⟨_, rfl, nS, fun a HF => ?_⟩
                      refine wc_faddr HF nS rfl fl25_2 rfl rfl (fun a HF => ?_)
                      have HT : St w0 F w [Box p2 [.int .i64 x1, .int .i64 y37, .int .i64 0, .int .i64 0], Box p_0 [.slice a_x0_0 x0_0.length c_x0_0, .int .i64 y41, .int .i64 y42], Box p1 [.int .i64 0, .int .i64 0, .int .i64 0, .int .i64 0]] := HT.pick 1
                      refine wc_storeB (cs' := [.int .i64 x1, .int .i64 y37, .int .i64 y40, .int .i64 0]) HF HT rfl rfl (fun w => (sc3 w).2) rfl rfl rfl rfl rfl (fun w HT => ⟨nS, ?_⟩)
                      refine wc_end ?_
                      refine then_n ?_
                      refine wc_text ?_
                      refine wc_move HF nS rfl rfl rfl (fun a HF => ?_)
                      obtain ⟨y43, y44, y45, hx18, h⟩ := obs3 h
                      have HT : St w0 F w [Box p_0 [.slice a_x0_0 x0_0.length c_x0_0, .int .i64 y41, .int .i64 y42], Box p2 [.int .i64 x1, .int .i64 y37, .int .i64 y40, .int .i64 0], Box p1 [.int .i64 0, .int .i64 0, .int .i64 0, .int .i64 0]] := HT.pick 1
                      obtain ⟨F15, hAF15, hFF15, hbackF15, hroF15, hownF15⟩ := St.handR (A := [Box p_0 [.slice a_x0_0 x0_0.length c_x0_0, .int .i64 y41, .int .i64 y42]]) HT
                      refine wc_call HF cf82 rfl (w_spec_l4DrawReg fuel hx18 hAF15 (hroF15 hr_x0_0)) rfl rfl ?_
                      rintro e w ⟨rfl, hE⟩
                      have HT := hbackF15 _ _ hE
                      have HT : St w0 F w [Box p_0 [.slice a_x0_0 x0_0.length c_x0_0, .int .i64 y44, .int .i64 y45], Box p2 [.int .i64 x1, .int .i64 y37, .int .i64 y40, .int .i64 0], Box p1 [.int .i64 0, .int .i64 0, .int .i64 0, .int .i64 0]] := HT
                      refine ⟨_, rfl, nS, fun a HF => ?_⟩
                      refine wc_faddr HF nS rfl fl25_3 rfl rfl (fun a HF => ?_)
                      have HT : St w0 F w [Box p2 [.int .i64 x1, .int .i64 y37, .int .i64 y40, .int .i64 0], Box p_0 [.slice a_x0_0 x0_0.length c_x0_0, .int .i64 y44, .int .i64 y45], Box p1 [.int .i64 0, .int .i64 0, .int .i64 0, .int .i64 0]] := HT.pick 1
                      refine wc_storeB (cs' := [.int .i64 x1, .int .i64 y37, .int .i64 y40, .int .i64 y43]) HF HT rfl rfl (fun w => (sc3 w).2) rfl rfl rfl rfl rfl (fun w HT => ⟨nS, ?_⟩)
                      refine wc_end ?_
                      refine blk_n ?_
                      have HT : St w0 F w [Box p_0 [.slice a_x0_0 x0_0.length c_x0_0, .int .i64 y44, .int .i64 y45], Box p2 [.int .i64 x1, .int .i64 y37, .int .i64 y40, .int .i64 y43], Box p1 [.int .i64 0, .int .i64 0, .int .i64 0, .int .i64 0]] := HT.pick 1
                      have HT : St w0 F w [Box p2 [.int .i64 x1, .int .i64 y37, .int .i64 y40, .int .i64 y43], Box p_0 [.slice a_x0_0 x0_0.length c_x0_0, .int .i64 y44, .int .i64 y45], Box p1 [.int .i64 0, .int .i64 0, .int .i64 0, .int .i64 0]] := HT.pick 1
                      have HT : St w0 F w [Box p1 [.int .i64 0, .int .i64 0, .int .i64 0, .int .i64 0], Box p2 [.int .i64 x1, .int .i64 y37, .int .i64 y40, .int .i64 y43], Box p_0 [.slice a_x0_0 x0_0.length c_x0_0, .int .i64 y44, .int .i64 y45]] := HT.pick 2
                      have hj31 := Option.some.inj h
                      obtain ⟨hi31, hj32⟩ := Prod.mk.inj hj31
                      subst hi31
                      obtain ⟨hi32, hj33⟩ := Prod.mk.inj hj32
                      subst hi32
                      obtain ⟨hi33, hj34⟩ := Prod.mk.inj hj33
                      subst hi33
                      obtain ⟨hi34, hj35⟩ := Prod.mk.inj hj34
                      subst hi34
                      subst hj35
                      exact then_n ⟨(HF.keep (HF.keep HF.nil rfl) rfl), HT⟩
                    · have h := (if_neg hb11).symm.trans h
                      refine wp_if (b' := false) HF rfl (decide_eq_false hb11) ?_
                      refine wp_seq ?_
                      refine wc_text ?_
                      refine wc_bin HF nS rfl rfl b_eq rfl rfl (fun a HF => ?_)
                      refine wc_assign HF nS rfl rfl rfl (fun a HF => ?_)
                      refine wc_end ?_
                      refine then_n ?_
                      by_cases hb12 : x1 = 13
                      · have h := (if_pos hb12).symm.trans h
                        refine wp_if (b' := true) HF rfl (decide_eq_true hb12) ?_
                        refine wp_seq ?_
                        refine wc_text ?_
                        refine wc_move HF nS rfl rfl rfl (fun a HF => ?_)
                        obtain ⟨y46, y47, y48, hx19, h⟩ := obs3 h
                        obtain ⟨F16, hAF16, hFF16, hbackF16, hroF16, hownF16⟩ := St.handR (A := [Box p_0 [.slice a_x0_0 x0_0.length c_x0_0, .int .i64 x0_1, .int .i64 x0_2]]) HT
                        refine wc_call HF cf82 rfl (w_spec_l4DrawReg fuel hx19 hAF16 (hroF16 hr_x0_0)) rfl rfl ?_
                        rintro e w ⟨rfl, hE⟩
                        have HT := hbackF16 _ _ hE
                        have HT : St w0 F w [Box p_0 [.slice a_x0_0 x0_0.length c_x0_0, .int .i64 y47, .int .i64 y48], Box p1 [.int .i64 0, .int .i64 0, .int .i64 0, .int .i64 0], Box p2 [.int .i64 x1, .int .i64 0, .int .i64 0, .int .i64 0]] := HT
                        refine ⟨_, rfl, nS, fun a HF => ?_⟩
                        refine wc_faddr HF nS rfl fl25_1 rfl rfl (fun a HF => ?_)
                        have HT : St w0 F w [Box p2 [.int .i64 x1, .int .i64 0, .int .i64 0, .int .i64 0], Box p_0 [.slice a_x0_0 x0_0.length c_x0_0, .int .i64 y47, .int .i64 y48], Box p1 [.int .i64 0, .int .i64 0, .int .i64 0, .int .i64 0]] := HT.pick 2
                        refine wc_storeB (cs' := [.int .i64 x1, .int .i64 y46, .int .i64 0, .int .i64 0]) HF HT rfl rfl (fun w => (sc3 w).2) rfl rfl rfl rfl rfl (fun w HT => ⟨nS, ?_⟩)
                        refine wc_end ?_
                        refine then_n ?_
                        refine wc_text ?_
                        refine wc_move HF nS rfl rfl rfl (fun a HF => ?_)
                        obtain ⟨y49, y50, y51, hx20, h⟩ := obs3 h
                        have HT : St w0 F w [Box p_0 [.slice a_x0_0 x0_0.length c_x0_0, .int .i64 y47, .int .i64 y48], Box p2 [.int .i64 x1, .int .i64 y46, .int .i64 0, .int .i64 0], Box p1 [.int .i64 0, .int .i64 0, .int .i64 0, .int .i64 0]] := HT.pick 1
                        obtain ⟨F17, hAF17, hFF17, hbackF17, hroF17, hownF17⟩ := St.handR (A := [Box p_0 [.slice a_x0_0 x0_0.length c_x0_0, .int .i64 y47, .int .i64 y48]]) HT
                        refine wc_call HF cf84 rfl (w_spec_l4DrawKey fuel hx20 hAF17 (hroF17 hr_x0_0)) rfl rfl ?_
                        rintro e w ⟨rfl, hE⟩
                        have HT := hbackF17 _ _ hE
                        have HT : St w0 F w [Box p_0 [.slice a_x0_0 x0_0.length c_x0_0, .int .i64 y50, .int .i64 y51], Box p2 [.int .i64 x1, .int .i64 y46, .int .i64 0, .int .i64 0], Box p1 [.int .i64 0, .int .i64 0, .int .i64 0, .int .i64 0]] := HT
                        refine ⟨_, rfl, nS, fun a HF => ?_⟩
                        refine wc_faddr HF nS rfl fl25_2 rfl rfl (fun a HF => ?_)
                        have HT : St w0 F w [Box p2 [.int .i64 x1, .int .i64 y46, .int .i64 0, .int .i64 0], Box p_0 [.slice a_x0_0 x0_0.length c_x0_0, .int .i64 y50, .int .i64 y51], Box p1 [.int .i64 0, .int .i64 0, .int .i64 0, .int .i64 0]] := HT.pick 1
                        refine wc_storeB (cs' := [.int .i64 x1, .int .i64 y46, .int .i64 y49, .int .i64 0]) HF HT rfl rfl (fun w => (sc3 w).2) rfl rfl rfl rfl rfl (fun w HT => ⟨nS, ?_⟩)
                        refine wc_end ?_
                        refine blk_n ?_
                        have HT : St w0 F w [Box p_0 [.slice a_x0_0 x0_0.length c_x0_0, .int .i64 y50, .int .i64 y51], Box p2 [.int .i64 x1, .int .i64 y46, .int .i64 y49, .int .i64 0], Box p1 [.int .i64 0, .int .i64 0, .int .i64 0, .int .i64 0]] := HT.pick 1
                        have HT : St w0 F w [Box p2 [.int .i64 x1, .int .i64 y46, .int .i64 y49, .int .i64 0], Box p_0 [.slice a_x0_0 x0_0.length c_x0_0, .int .i64 y50, .int .i64 y51], Box p1 [.int .i64 0, .int .i64 0, .int .i64 0, .int .i64 0]] := HT.pick 1
                        have HT : St w0 F w [Box p1 [.int .i64 0, .int .i64 0, .int .i64 0, .int .i64 0], Box p2 [.int .i64 x1, .int .i64 y46, .int .i64 y49, .int .i64 0], Box p_0 [.slice a_x0_0 x0_0.length c_x0_0, .int .i64 y50, .int .i64 y51]] := HT.pick 2
                        have hj36 := Option.some.inj h
                        obtain ⟨hi36, hj37⟩ := Prod.mk.inj hj36
                        subst hi36
                        obtain ⟨hi37, hj38⟩ := Prod.mk.inj hj37
                        subst hi37
                        obtain ⟨hi38, hj39⟩ := Prod.mk.inj hj38
                        subst hi38
                        obtain ⟨hi39, hj40⟩ := Prod.mk.inj hj39
                        subst hi39
                        subst hj40
                        exact then_n ⟨(HF.keep (HF.keep HF.nil rfl) rfl), HT⟩
                      · have h := (if_neg hb12).symm.trans h
                        refine wp_if (b' := false) HF rfl (decide_eq_false hb12) ?_
                        refine wp_seq ?_
                        refine wc_text ?_
                        refine wc_bin HF nS rfl rfl b_eq rfl rfl (fun a HF => ?_)
                        refine wc_assign HF nS rfl rfl rfl (fun a HF => ?_)
                        refine wc_end ?_
                        refine then_n ?_
                        by_cases hb13 : x1 = 14
                        · have h := (if_pos hb13).symm.trans h
                          refine wp_if (b' := true) HF rfl (decide_eq_true hb13) ?_
                          refine wp_seq ?_
                          refine wc_text ?_
                          refine wc_move HF nS rfl rfl rfl (fun a HF => ?_)
                          obtain ⟨y52, y53, y54, hx21, h⟩ := obs3 h
                          obtain ⟨F18, hAF18, hFF18, hbackF18, hroF18, hownF18⟩ := St.handR (A := [Box p_0 [.slice a_x0_0 x0_0.length c_x0_0, .int .i64 x0_1, .int .i64 x0_2]]) HT
                          refine wc_call HF cf84 rfl (w_spec_l4DrawKey fuel hx21 hAF18 (hroF18 hr_x0_0)) rfl rfl ?_
                          rintro e w ⟨rfl, hE⟩
                          have HT := hbackF18 _ _ hE
                          have HT : St w0 F w [Box p_0 [.slice a_x0_0 x0_0.length c_x0_0, .int .i64 y53, .int .i64 y54], Box p1 [.int .i64 0, .int .i64 0, .int .i64 0, .int .i64 0], Box p2 [.int .i64 x1, .int .i64 0, .int .i64 0, .int .i64 0]] := HT
                          refine ⟨_, rfl, nS, fun a HF => ?_⟩
                          refine wc_faddr HF nS rfl fl25_1 rfl rfl (fun a HF => ?_)
                          have HT : St w0 F w [Box p2 [.int .i64 x1, .int .i64 0, .int .i64 0, .int .i64 0], Box p_0 [.slice a_x0_0 x0_0.length c_x0_0, .int .i64 y53, .int .i64 y54], Box p1 [.int .i64 0, .int .i64 0, .int .i64 0, .int .i64 0]] := HT.pick 2
                          refine wc_storeB (cs' := [.int .i64 x1, .int .i64 y52, .int .i64 0, .int .i64 0]) HF HT rfl rfl (fun w => (sc3 w).2) rfl rfl rfl rfl rfl (fun w HT => ⟨nS, ?_⟩)
                          refine wc_end ?_
                          refine then_n ?_
                          refine wc_text ?_
                          refine wc_move HF nS rfl rfl rfl (fun a HF => ?_)
                          obtain ⟨y55, y56, y57, hx22, h⟩ := obs3 h
                          have HT : St w0 F w [Box p_0 [.slice a_x0_0 x0_0.length c_x0_0, .int .i64 y53, .int .i64 y54], Box p2 [.int .i64 x1, .int .i64 y52, .int .i64 0, .int .i64 0], Box p1 [.int .i64 0, .int .i64 0, .int .i64 0, .int .i64 0]] := HT.pick 1
                          obtain ⟨F19, hAF19, hFF19, hbackF19, hroF19, hownF19⟩ := St.handR (A := [Box p_0 [.slice a_x0_0 x0_0.length c_x0_0, .int .i64 y53, .int .i64 y54]]) HT
                          refine wc_call HF cf82 rfl (w_spec_l4DrawReg fuel hx22 hAF19 (hroF19 hr_x0_0)) rfl rfl ?_
                          rintro e w ⟨rfl, hE⟩
                          have HT := hbackF19 _ _ hE
                          have HT : St w0 F w [Box p_0 [.slice a_x0_0 x0_0.length c_x0_0, .int .i64 y56, .int .i64 y57], Box p2 [.int .i64 x1, .int .i64 y52, .int .i64 0, .int .i64 0], Box p1 [.int .i64 0, .int .i64 0, .int .i64 0, .int .i64 0]] := HT
                          refine ⟨_, rfl, nS, fun a HF => ?_⟩
                          refine wc_faddr HF nS rfl fl25_2 rfl rfl (fun a HF => ?_)
                          have HT : St w0 F w [Box p2 [.int .i64 x1, .int .i64 y52, .int .i64 0, .int .i64 0], Box p_0 [.slice a_x0_0 x0_0.length c_x0_0, .int .i64 y56, .int .i64 y57], Box p1 [.int .i64 0, .int .i64 0, .int .i64 0, .int .i64 0]] := HT.pick 1
                          refine wc_storeB (cs' := [.int .i64 x1, .int .i64 y52, .int .i64 y55, .int .i64 0]) HF HT rfl rfl (fun w => (sc3 w).2) rfl rfl rfl rfl rfl (fun w HT => ⟨nS, ?_⟩)
                          refine wc_end ?_
                          refine blk_n ?_
                          have HT : St w0 F w [Box p_0 [.slice a_x0_0 x0_0.length c_x0_0, .int .i64 y56, .int .i64 y57], Box p2 [.int .i64 x1, .int .i64 y52, .int .i64 y55, .int .i64 0], Box p1 [.int .i64 0, .int .i64 0, .int .i64 0, .int .i64 0]] := HT.pick 1
                          have HT : St w0 F w [Box p2 [.int .i64 x1, .int .i64 y52, .int .i64 y55, .int .i64 0], Box p_0 [.slice a_x0_0 x0_0.length c_x0_0, .int .i64 y56, .int .i64 y57], Box p1 [.int .i64 0, .int .i64 0, .int .i64 0, .int .i64 0]] := HT.pick 1
                          have HT : St w0 F w [Box p1 [.int .i64 0, .int .i64 0, .int .i64 0, .int .i64 0], Box p2 [.int .i64 x1, .int .i64 y52, .int .i64 y55, .int .i64 0], Box p_0 [.slice a_x0_0 x0_0.length c_x0_0, .int .i64 y56, .int .i64 y57]] := HT.pick 2
                          have hj41 := Option.some.inj h
                          obtain ⟨hi41, hj42⟩ := Prod.mk.inj hj41
                          subst hi41
                          obtain ⟨hi42, hj43⟩ := Prod.mk.inj hj42
                          subst hi42
                          obtain ⟨hi43, hj44⟩ := Prod.mk.inj hj43
                          subst hi43
                          obtain ⟨hi44, hj45⟩ := Prod.mk.inj hj44
                          subst hi44
                          subst hj45
                          exact then_n ⟨(HF.keep (HF.keep HF.nil rfl) rfl), HT⟩
                        · have h := (if_neg hb13).symm.trans h
                          refine wp_if (b' := false) HF rfl (decide_eq_false hb13) ?_
                          refine wp_skip ?_
                          refine blk_n ?_
                          have HT : St w0 F w [Box p2 [.int .i64 x1, .int .i64 0, .int .i64 0, .int .i64 0], Box p_0 [.slice a_x0_0 x0_0.length c_x0_0, .int .i64 x0_1, .int .i64 x0_2], Box p1 [.int .i64 0, .int .i64 0, .int .i64 0, .int .i64 0]] := HT.pick 2
                          have HT : St w0 F w [Box p1 [.int .i64 0, .int .i64 0, .int .i64 0, .int .i64 0], Box p2 [.int .i64 x1, .int .i64 0, .int .i64 0, .int .i64 0], Box p_0 [.slice a_x0_0 x0_0.length c_x0_0, .int .i64 x0_1, .int .i64 x0_2]] := HT.pick 2
                          have hj46 := Option.some.inj h
                          obtain ⟨hi46, hj47⟩ := Prod.mk.inj hj46
                          subst hi46
                          obtain ⟨hi47, hj48⟩ := Prod.mk.inj hj47
                          subst hi47
                          obtain ⟨hi48, hj49⟩ := Prod.mk.inj hj48
                          subst hi48
                          obtain ⟨hi49, hj50⟩ := Prod.mk.inj hj49
                          subst hi49
                          subst hj50
                          exact then_n ⟨(HF.keep (HF.keep HF.nil rfl) rfl), HT⟩
  · rintro a w ⟨HF, HT⟩
    refine ?_
    refine wp_seq ?_
    refine wc_text ?_
    refine wc_loadA (vs := [.int .i64 x1, .int .i64 z1, .int .i64 z2, .int .i64 z3]) HF rfl ag25 rfl ((HT.boxAt 1 rfl).part 0 4) rfl rfl (fun a HF => ?_)
    refine wc_storeB (cs' := [.int .i64 x1, .int .i64 z1, .int .i64 z2, .int .i64 z3]) HF HT rfl rfl (fun w => (ag25 w).2) rfl rfl rfl rfl rfl (fun w HT => ⟨nS, ?_⟩)
    refine wc_end ?_
    refine then_n ?_
    refine wp_ret ?_
    have hj51 := Option.some.inj h
    obtain ⟨hi51, hj52⟩ := Prod.mk.inj hj51
    subst hi51
    obtain ⟨hi52, hj53⟩ := Prod.mk.inj hj52
    subst hi52
    obtain ⟨hi53, hj54⟩ := Prod.mk.inj hj53
    subst hi53
    obtain ⟨hi54, hj55⟩ := Prod.mk.inj hj54
    subst hi54
    obtain ⟨hi55, hj56⟩ := Prod.mk.inj hj55
    subst hi55
    subst hj56
    refine bp_ret HF (res_cell (vs := [.int .i64 x1, .int .i64 z1, .int .i64 z2, .int .i64 z3]) rfl HF rfl ag25 rfl (HT.boxAt 0 rfl)) ?_
    have HT : St w0 F w [Box p_0 [.slice a_x0_0 x0_0.length c_x0_0, .int .i64 z4, .int .i64 z5], Box p1 [.int .i64 x1, .int .i64 z1, .int .i64 z2, .int .i64 z3], Box p2 [.int .i64 x1, .int .i64 z1, .int .i64 z2, .int .i64 z3]] := HT.pick 2
    have HT : St w0 F w [Box p_0 [.slice a_x0_0 x0_0.length c_x0_0, .int .i64 z4, .int .i64 z5]] := HT.take 1
    exact ⟨rfl, HT⟩

def m_spec_l4Any (fuel : Nat) (x0_0 : List UInt8) (x0_1 : Int) (x0_2 : Int) : Option (Int × Int × Int × Int × Int × Int) :=
  bind3 (m_spec_l1Below fuel x0_0 x0_1 x0_2 16) fun y1 y2 y3 =>
  if in64 (1 + y1) then
    bind6 (m_spec_l4Plain fuel x0_0 y2 y3 (1 + y1)) fun y4 y5 y6 y7 y8 y9 =>
    bind6 (
      bind3 (m_spec_l1Below fuel x0_0 y8 y9 16) fun y10 y11 y12 =>
      if y10 = 0 then
        bind3 (m_spec_l1PickInt fuel x0_0 y11 y12 ([(-1), 4, 8] : List Int)) fun y13 y14 y15 =>
        some (y4, y13, y6, y7, y14, y15)
      else
        if y10 = 1 then
          bind3 (m_spec_l1PickInt fuel x0_0 y11 y12 ([(-1), 4, 8, 65536, 21] : List Int)) fun y16 y17 y18 =>
          some (y4, y5, y16, y7, y17, y18)
        else
          if y10 = 2 then
            bind3 (m_spec_l1PickInt fuel x0_0 y11 y12 ([(-1), 4, 1] : List Int)) fun y19 y20 y21 =>
            some (y4, y5, y6, y19, y20, y21)
          else
            if y10 = 3 then
              bind3 (m_spec_l1PickInt fuel x0_0 y11 y12 ([0, 17, (-3)] : List Int)) fun y22 y23 y24 =>
              some (y22, y5, y6, y7, y23, y24)
            else
              some (y4, y5, y6, y7, y11, y12)) fun z1 z2 z3 z4 z5 z6 =>
    some (z1, z2, z3, z4, z5, z6)
  else none

set_option maxRecDepth 100000 in
set_option maxHeartbeats 4000000 in
theorem w_spec_l4Any (fuel : Nat) {x0_0 : List UInt8} {x0_1 : Int} {x0_2 : Int} {a_x0_0 : Option Addr} {n_x0_0 c_x0_0 : Nat} {p_0 : Nat} {r0_0 : Int} {r0_1 : Int} {r0_2 : Int} {r0_3 : Int} {x0_1' : Int} {x0_2' : Int} {w0 : World} {F : Foot} (h : m_spec_l4Any fuel x0_0 x0_1 x0_2 = some (r0_0, r0_1, r0_2, r0_3, x0_1', x0_2')) (hA : StF w0 F [Box p_0 [.slice a_x0_0 n_x0_0 c_x0_0, .int .i64 x0_1, .int .i64 x0_2]]) (hr_x0_0 : RdT (fun b => ¬ F b) w0 (rowT x0_0) (.slice a_x0_0 n_x0_0 c_x0_0)) :
    Calls Try.prog 66 #[.pointer (some ⟨p_0, 0, none⟩)] w0 fun e w => e = .returned (.agg #[.int .i64 r0_0, .int .i64 r0_1, .int .i64 r0_2, .int .i64 r0_3]) ∧ St w0 F w [Box p_0 [.slice a_x0_0 n_x0_0 c_x0_0, .int .i64 x0_1', .int .i64 x0_2']] := by
  have HT0 := St.init hA
  obtain rfl := hr_x0_0.neq
  have HT : St w0 F w0 [Box p_0 [.slice a_x0_0 x0_0.length c_x0_0, .int .i64 x0_1, .int .i64 x0_2]] := St.init hA
  rw [m_spec_l4Any] at h
  refine calls_fr (n := 36) [.pointer (some ⟨p_0, 0, none⟩)] Try.func66 rfl rfl rfl (fun a HF => ?_)
  have HT : St w0 F w0 [Box p_0 [.slice a_x0_0 x0_0.length c_x0_0, .int .i64 x0_1, .int .i64 x0_2]] := HT
  refine wp_seq ?_
  refine wc_text ?_
  refine wc_alloc (cs := [.int .i64 0, .int .i64 0, .int .i64 0, .int .i64 0]) HF HT zr25 rfl rfl rfl (fun p1 w HT hb => ⟨nS, fun a HF => ?_⟩)
  refine wc_end ?_
  refine then_n ?_
  refine wp_seq ?_
  refine wc_text ?_
  refine wc_move HF nS rfl rfl rfl (fun a HF => ?_)
  refine wc_move HF nS rfl rfl rfl (fun a HF => ?_)
  obtain ⟨y1, y2, y3, hx1, h⟩ := obs3 h
  have HT : St w0 F w [Box p_0 [.slice a_x0_0 x0_0.length c_x0_0, .int .i64 x0_1, .int .i64 x0_2], Box p1 [.int .i64 0, .int .i64 0, .int .i64 0, .int .i64 0]] := HT.pick 1
  obtain ⟨F1, hAF1, hFF1, hbackF1, hroF1, hownF1⟩ := St.handR (A := [Box p_0 [.slice a_x0_0 x0_0.length c_x0_0, .int .i64 x0_1, .int .i64 x0_2]]) HT
  refine wc_call HF cf64 rfl (w_spec_l1Below fuel hx1 hAF1 (hroF1 hr_x0_0)) rfl rfl ?_
  rintro e w ⟨rfl, hE⟩
  have HT := hbackF1 _ _ hE
  have HT : St w0 F w [Box p_0 [.slice a_x0_0 x0_0.length c_x0_0, .int .i64 y2, .int .i64 y3], Box p1 [.int .i64 0, .int .i64 0, .int .i64 0, .int .i64 0]] := HT
  refine ⟨_, rfl, nS, fun a HF => ?_⟩
  obtain ⟨hg1, h⟩ := grd h
  refine wc_bin HF nS rfl rfl (b_add hg1) rfl rfl (fun a HF => ?_)
  obtain ⟨y4, y5, y6, y7, y8, y9, hx2, h⟩ := obs6 h
  obtain ⟨F2, hAF2, hFF2, hbackF2, hroF2, hownF2⟩ := St.handR (A := [Box p_0 [.slice a_x0_0 x0_0.length c_x0_0, .int .i64 y2, .int .i64 y3]]) HT
  refine wc_call HF cf63 rfl (w_spec_l4Plain fuel hx2 hAF2 (hroF2 hr_x0_0)) rfl rfl ?_
  rintro e w ⟨rfl, hE⟩
  have HT := hbackF2 _ _ hE
  have HT : St w0 F w [Box p_0 [.slice a_x0_0 x0_0.length c_x0_0, .int .i64 y8, .int .i64 y9], Box p1 [.int .i64 0, .int .i64 0, .int .i64 0, .int .i64 0]] := HT
  refine ⟨_, rfl, nS, fun a HF => ?_⟩
  refine wc_alloc (cs := [.int .i64 0, .int .i64 0, .int .i64 0, .int .i64 0]) HF HT zr25 rfl rfl rfl (fun p2 w HT hb => ⟨nS, fun a HF => ?_⟩)
  refine wc_storeB (cs' := [.int .i64 y4, .int .i64 y5, .int .i64 y6, .int .i64 y7]) HF HT rfl rfl (fun w => (ag25 w).2) rfl rfl rfl rfl rfl (fun w HT => ⟨nS, ?_⟩)
  refine wc_end ?_
  refine then_n ?_
  obtain ⟨z1, z2, z3, z4, z5, z6, hx3, h⟩ := obs6 h
  refine wp_cut (fun a w => Fr a 36 [(2, .pointer (some ⟨p1, 0, none⟩)), (3, .pointer (some ⟨p2, 0, none⟩))] ∧ St w0 F w [Box p1 [.int .i64 0, .int .i64 0, .int .i64 0, .int .i64 0], Box p2 [.int .i64 z1, .int .i64 z2, .int .i64 z3, .int .i64 z4], Box p_0 [.slice a_x0_0 x0_0.length c_x0_0, .int .i64 z5, .int .i64 z6]]) ?_ ?_
  · have hk1 := h
    have h := hx3
    refine wp_seq ?_
    refine wc_text ?_
    refine wc_move HF nS rfl rfl rfl (fun a HF => ?_)
    obtain ⟨y10, y11, y12, hx4, h⟩ := obs3 h
    have HT : St w0 F w [Box p_0 [.slice a_x0_0 x0_0.length c_x0_0, .int .i64 y8, .int .i64 y9], Box p2 [.int .i64 y4, .int .i64 y5, .int .i64 y6, .int .i64 y7], Box p1 [.int .i64 0, .int .i64 0, .int .i64 0, .int .i64 0]] := HT.pick 1
    obtain ⟨F3, hAF3, hFF3, hbackF3, hroF3, hownF3⟩ := St.handR (A := [Box p_0 [.slice a_x0_0 x0_0.length c_x0_0, .int .i64 y8, .int .i64 y9]]) HT
    refine wc_call HF cf64 rfl (w_spec_l1Below fuel hx4 hAF3 (hroF3 hr_x0_0)) rfl rfl ?_
    rintro e w ⟨rfl, hE⟩
    have HT := hbackF3 _ _ hE
    have HT : St w0 F w [Box p_0 [.slice a_x0_0 x0_0.length c_x0_0, .int .i64 y11, .int .i64 y12], Box p2 [.int .i64 y4, .int .i64 y5, .int .i64 y6, .int .i64 y7], Box p1 [.int .i64 0, .int .i64 0, .int .i64 0, .int .i64 0]] := HT
    refine ⟨_, rfl, nS, fun a HF => ?_⟩
    refine wc_end ?_
    refine then_n ?_
    refine wp_block ?_
    refine wp_seq ?_
    refine wc_text ?_
    refine wc_bin HF nS rfl rfl b_eq rfl rfl (fun a HF => ?_)
    refine wc_assign HF nS rfl rfl rfl (fun a HF => ?_)
    refine wc_end ?_
    refine then_n ?_
    by_cases hb1 : y10 = 0
    · have h := (if_pos hb1).symm.trans h
      refine wp_if (b' := true) HF rfl (decide_eq_true hb1) ?_
      refine wc_text ?_
      refine wc_move HF nS rfl rfl rfl (fun a HF => ?_)
      refine wc_bslice (l := ([(-1), 4, 8] : List Int)) (cs := [.int .i64 (-1), .int .i64 4, .int .i64 8]) (A := []) HF HT bs29_3 rfl rfl (gives_flat rfl) rfl (by decide) rfl rfl (fun p3 w HT hb => ⟨nS, fun a HF => ?_⟩)
      obtain ⟨y13, y14, y15, hx5, h⟩ := obs3 h
      have HT : St w0 F w [Box p_0 [.slice a_x0_0 x0_0.length c_x0_0, .int .i64 y11, .int .i64 y12], Own 3 (rowT ([(-1), 4, 8] : List Int)) (.slice (some ⟨p3, 0, none⟩) 3 3), Box p2 [.int .i64 y4, .int .i64 y5, .int .i64 y6, .int .i64 y7], Box p1 [.int .i64 0, .int .i64 0, .int .i64 0, .int .i64 0]] := HT.pick 1
      obtain ⟨F4, hAF4, hFF4, hbackF4, hroF4, hownF4⟩ := St.handR (A := [Box p_0 [.slice a_x0_0 x0_0.length c_x0_0, .int .i64 y11, .int .i64 y12]]) HT
      refine wc_call HF cf86 rfl (w_spec_l1PickInt fuel hx5 hAF4 (hroF4 hr_x0_0) (hownF4 _ _ _ (List.mem_of_getElem? (i := 0) rfl))) rfl rfl ?_
      rintro e w ⟨rfl, hE⟩
      have HT := hbackF4 _ _ hE
      have HT : St w0 F w [Box p_0 [.slice a_x0_0 x0_0.length c_x0_0, .int .i64 y14, .int .i64 y15], Own 3 (rowT ([(-1), 4, 8] : List Int)) (.slice (some ⟨p3, 0, none⟩) 3 3), Box p2 [.int .i64 y4, .int .i64 y5, .int .i64 y6, .int .i64 y7], Box p1 [.int .i64 0, .int .i64 0, .int .i64 0, .int .i64 0]] := HT
      refine ⟨_, rfl, nS, fun a HF => ?_⟩
      refine wc_faddr HF nS rfl fl25_1 rfl rfl (fun a HF => ?_)
      have HT : St w0 F w [Box p2 [.int .i64 y4, .int .i64 y5, .int .i64 y6, .int .i64 y7], Box p_0 [.slice a_x0_0 x0_0.length c_x0_0, .int .i64 y14, .int .i64 y15], Own 3 (rowT ([(-1), 4, 8] : List Int)) (.slice (some ⟨p3, 0, none⟩) 3 3), Box p1 [.int .i64 0, .int .i64 0, .int .i64 0, .int .i64 0]] := HT.pick 2
      refine wc_storeB (cs' := [.int .i64 y4, .int .i64 y13, .int .i64 y6, .int .i64 y7]) HF HT rfl rfl (fun w => (sc3 w).2) rfl rfl rfl rfl rfl (fun w HT => ⟨nS, ?_⟩)
      refine wc_end ?_
      refine blk_n ?_
      have HT : St w0 F w [Box p_0 [.slice a_x0_0 x0_0.length c_x0_0, .int .i64 y14, .int .i64 y15], Box p2 [.int .i64 y4, .int .i64 y13, .int .i64 y6, .int .i64 y7], Own 3 (rowT ([(-1), 4, 8] : List Int)) (.slice (some ⟨p3, 0, none⟩) 3 3), Box p1 [.int .i64 0, .int .i64 0, .int .i64 0, .int .i64 0]] := HT.pick 1
      have HT : St w0 F w [Box p2 [.int .i64 y4, .int .i64 y13, .int .i64 y6, .int .i64 y7], Box p_0 [.slice a_x0_0 x0_0.length c_x0_0, .int .i64 y14, .int .i64 y15], Own 3 (rowT ([(-1), 4, 8] : List Int)) (.slice (some ⟨p3, 0, none⟩) 3 3), Box p1 [.int .i64 0, .int .i64 0, .int .i64 0, .int .i64 0]] := HT.pick 1
      have HT : St w0 F w [Box p1 [.int .i64 0, .int .i64 0, .int .i64 0, .int .i64 0], Box p2 [.int .i64 y4, .int .i64 y13, .int .i64 y6, .int .i64 y7], Box p_0 [.slice a_x0_0 x0_0.length c_x0_0, .int .i64 y14, .int .i64 y15], Own 3 (rowT ([(-1), 4, 8] : List Int)) (.slice (some ⟨p3, 0, none⟩) 3 3)] := HT.pick 3
      have HT : St w0 F w [Box p1 [.int .i64 0, .int .i64 0, .int .i64 0, .int .i64 0], Box p2 [.int .i64 y4, .int .i64 y13, .int .i64 y6, .int .i64 y7], Box p_0 [.slice a_x0_0 x0_0.length c_x0_0, .int .i64 y14, .int .i64 y15]] := HT.take 3
      have hj1 := Option.some.inj h
      obtain ⟨hi1, hj2⟩ := Prod.mk.inj hj1
      subst hi1
      obtain ⟨hi2, hj3⟩ := Prod.mk.inj hj2
      subst hi2
      obtain ⟨hi3, hj4⟩ := Prod.mk.inj hj3
      subst hi3
      obtain ⟨hi4, hj5⟩ := Prod.mk.inj hj4
      subst hi4
      obtain ⟨hi5, hj6⟩ := Prod.mk.inj hj5
      subst hi5
      subst hj6
      exact then_n ⟨(HF.keep (HF.keep HF.nil rfl) rfl), HT⟩
    · have h := (if_neg hb1).symm.trans h
      refine wp_if (b' := false) HF rfl (decide_eq_false hb1) ?_
      refine wp_seq ?_
      refine wc_text ?_
      refine wc_bin HF nS rfl rfl b_eq rfl rfl (fun a HF => ?_)
      refine wc_assign HF nS rfl rfl rfl (fun a HF => ?_)
      refine wc_end ?_
      refine then_n ?_
      by_cases hb2 : y10 = 1
      · have h := (if_pos hb2).symm.trans h
        refine wp_if (b' := true) HF rfl (decide_eq_true hb2) ?_
        refine wc_text ?_
        refine wc_move HF nS rfl rfl rfl (fun a HF => ?_)
        refine wc_bslice (l := ([(-1), 4, 8, 65536, 21] : List Int)) (cs := [.int .i64 (-1), .int .i64 4, .int .i64 8, .int .i64 65536, .int .i64 21]) (A := []) HF HT bs29_5 rfl rfl (gives_flat rfl) rfl (by decide) rfl rfl (fun p4 w HT hb => ⟨nS, fun a HF => ?_⟩)
        obtain ⟨y16, y17, y18, hx6, h⟩ := obs3 h
        have HT : St w0 F w [Box p_0 [.slice a_x0_0 x0_0.length c_x0_0, .int .i64 y11, .int .i64 y12], Own 3 (rowT ([(-1), 4, 8, 65536, 21] : List Int)) (.slice (some ⟨p4, 0, none⟩) 5 5), Box p2 [.int .i64 y4, .int .i64 y5, .int .i64 y6, .int .i64 y7], Box p1 [.int .i64 0, .int .i64 0, .int .i64 0, .int .i64 0]] := HT.pick 1
        obtain ⟨F5, hAF5, hFF5, hbackF5, hroF5, hownF5⟩ := St.handR (A := [Box p_0 [.slice a_x0_0 x0_0.length c_x0_0, .int .i64 y11, .int .i64 y12]]) HT
        refine wc_call HF cf86 rfl (w_spec_l1PickInt fuel hx6 hAF5 (hroF5 hr_x0_0) (hownF5 _ _ _ (List.mem_of_getElem? (i := 0) rfl))) rfl rfl ?_
        rintro e w ⟨rfl, hE⟩
        have HT := hbackF5 _ _ hE
        have HT : St w0 F w [Box p_0 [.slice a_x0_0 x0_0.length c_x0_0, .int .i64 y17, .int .i64 y18], Own 3 (rowT ([(-1), 4, 8, 65536, 21] : List Int)) (.slice (some ⟨p4, 0, none⟩) 5 5), Box p2 [.int .i64 y4, .int .i64 y5, .int .i64 y6, .int .i64 y7], Box p1 [.int .i64 0, .int .i64 0, .int .i64 0, .int .i64 0]] := HT
        refine ⟨_, rfl, nS, fun a HF => ?_⟩
        refine wc_faddr HF nS rfl fl25_2 rfl rfl (fun a HF => ?_)
        have HT : St w0 F w [Box p2 [.int .i64 y4, .int .i64 y5, .int .i64 y6, .int .i64 y7], Box p_0 [.slice a_x0_0 x0_0.length c_x0_0, .int .i64 y17, .int .i64 y18], Own 3 (rowT ([(-1), 4, 8, 65536, 21] : List Int)) (.slice (some ⟨p4, 0, none⟩) 5 5), Box p1 [.int .i64 0, .int .i64 0, .int .i64 0, .int .i64 0]] := HT.pick 2
        refine wc_storeB (cs' := [.int .i64 y4, .int .i64 y5, .int .i64 y16, .int .i64 y7]) HF HT rfl rfl (fun w => (sc3 w).2) rfl rfl rfl rfl rfl (fun w HT => ⟨nS, ?_⟩)
        refine wc_end ?_
        refine blk_n ?_
        have HT : St w0 F w [Box p_0 [.slice a_x0_0 x0_0.length c_x0_0, .int .i64 y17, .int .i64 y18], Box p2 [.int .i64 y4, .int .i64 y5, .int .i64 y16, .int .i64 y7], Own 3 (rowT ([(-1), 4, 8, 65536, 21] : List Int)) (.slice (some ⟨p4, 0, none⟩) 5 5), Box p1 [.int .i64 0, .int .i64 0, .int .i64 0, .int .i64 0]] := HT.pick 1
        have HT : St w0 F w [Box p2 [.int .i64 y4, .int .i64 y5, .int .i64 y16, .int .i64 y7], Box p_0 [.slice a_x0_0 x0_0.length c_x0_0, .int .i64 y17, .int .i64 y18], Own 3 (rowT ([(-1), 4, 8, 65536, 21] : List Int)) (.slice (some ⟨p4, 0, none⟩) 5 5), Box p1 [.int .i64 0, .int .i64 0, .int .i64 0, .int .i64 0]] := HT.pick 1
        have HT : St w0 F w [Box p1 [.int .i64 0, .int .i64 0, .int .i64 0, .int .i64 0], Box p2 [.int .i64 y4, .int .i64 y5, .int .i64 y16, .int .i64 y7], Box p_0 [.slice a_x0_0 x0_0.length c_x0_0, .int .i64 y17, .int .i64 y18], Own 3 (rowT ([(-1), 4, 8, 65536, 21] : List Int)) (.slice (some ⟨p4, 0, none⟩) 5 5)] := HT.pick 3
        have HT : St w0 F w [Box p1 [.int .i64 0, .int .i64 0, .int .i64 0, .int .i64 0], Box p2 [.int .i64 y4, .int .i64 y5, .int .i64 y16, .int .i64 y7], Box p_0 [.slice a_x0_0 x0_0.length c_x0_0, .int .i64 y17, .int .i64 y18]] := HT.take 3
        have hj7 := Option.some.inj h
        obtain ⟨hi7, hj8⟩ := Prod.mk.inj hj7
        subst hi7
        obtain ⟨hi8, hj9⟩ := Prod.mk.inj hj8
        subst hi8
        obtain ⟨hi9, hj10⟩ := Prod.mk.inj hj9
        subst hi9
        obtain ⟨hi10, hj11⟩ := Prod.mk.inj hj10
        subst hi10
        obtain ⟨hi11, hj12⟩ := Prod.mk.inj hj11
        subst hi11
        subst hj12
        exact then_n ⟨(HF.keep (HF.keep HF.nil rfl) rfl), HT⟩
      · have h := (if_neg hb2).symm.trans h
        refine wp_if (b' := false) HF rfl (decide_eq_false hb2) ?_
        refine wp_seq ?_
        refine wc_text ?_
        refine wc_bin HF nS rfl rfl b_eq rfl rfl (fun a HF => ?_)
        refine wc_assign HF nS rfl rfl rfl (fun a HF => ?_)
        refine wc_end ?_
        refine then_n ?_
        by_cases hb3 : y10 = 2
        · have h := (if_pos hb3).symm.trans h
          refine wp_if (b' := true) HF rfl (decide_eq_true hb3) ?_
          refine wc_text ?_
          refine wc_move HF nS rfl rfl rfl (fun a HF => ?_)
          refine wc_bslice (l := ([(-1), 4, 1] : List Int)) (cs := [.int .i64 (-1), .int .i64 4, .int .i64 1]) (A := []) HF HT bs29_3 rfl rfl (gives_flat rfl) rfl (by decide) rfl rfl (fun p5 w HT hb => ⟨nS, fun a HF => ?_⟩)
          obtain ⟨y19, y20, y21, hx7, h⟩ := obs3 h
          have HT : St w0 F w [Box p_0 [.slice a_x0_0 x0_0.length c_x0_0, .int .i64 y11, .int .i64 y12], Own 3 (rowT ([(-1), 4, 1] : List Int)) (.slice (some ⟨p5, 0, none⟩) 3 3), Box p2 [.int .i64 y4, .int .i64 y5, .int .i64 y6, .int .i64 y7], Box p1 [.int .i64 0, .int .i64 0, .int .i64 0, .int .i64 0]] := HT.pick 1
          obtain ⟨F6, hAF6, hFF6, hbackF6, hroF6, hownF6⟩ := St.handR (A := [Box p_0 [.slice a_x0_0 x0_0.length c_x0_0, .int .i64 y11, .int .i64 y12]]) HT
          refine wc_call HF cf86 rfl (w_spec_l1PickInt fuel hx7 hAF6 (hroF6 hr_x0_0) (hownF6 _ _ _ (List.mem_of_getElem? (i := 0) rfl))) rfl rfl ?_
          rintro e w ⟨rfl, hE⟩
          have HT := hbackF6 _ _ hE
          have HT : St w0 F w [Box p_0 [.slice a_x0_0 x0_0.length c_x0_0, .int .i64 y20, .int .i64 y21], Own 3 (rowT ([(-1), 4, 1] : List Int)) (.slice (some ⟨p5, 0, none⟩) 3 3), Box p2 [.int .i64 y4, .int .i64 y5, .int .i64 y6, .int .i64 y7], Box p1 [.int .i64 0, .int .i64 0, .int .i64 0, .int .i64 0]] := HT
          refine ⟨_, rfl, nS, fun a HF => ?_⟩
          refine wc_faddr HF nS rfl fl25_3 rfl rfl (fun a HF => ?_)
          have HT : St w0 F w [Box p2 [.int .i64 y4, .int .i64 y5, .int .i64 y6, .int .i64 y7], Box p_0 [.slice a_x0_0 x0_0.length c_x0_0, .int .i64 y20, .int .i64 y21], Own 3 (rowT ([(-1), 4, 1] : List Int)) (.slice (some ⟨p5, 0, none⟩) 3 3), Box p1 [.int .i64 0, .int .i64 0, .int .i64 0, .int .i64 0]] := HT.pick 2
          refine wc_storeB (cs' := [.int .i64 y4, .int .i64 y5, .int .i64 y6, .int .i64 y19]) HF HT rfl rfl (fun w => (sc3 w).2) rfl rfl rfl rfl rfl (fun w HT => ⟨nS, ?_⟩)
          refine wc_end ?_
          refine blk_n ?_
          have HT : St w0 F w [Box p_0 [.slice a_x0_0 x0_0.length c_x0_0, .int .i64 y20, .int .i64 y21], Box p2 [.int .i64 y4, .int .i64 y5, .int .i64 y6, .int .i64 y19], Own 3 (rowT ([(-1), 4, 1] : List Int)) (.slice (some ⟨p5, 0, none⟩) 3 3), Box p1 [.int .i64 0, .int .i64 0, .int .i64 0, .int .i64 0]] := HT.pick 1
          have HT : St w0 F w [Box p2 [.int .i64 y4, .int .i64 y5, .int .i64 y6, .int .i64 y19], Box p_0 [.slice a_x0_0 x0_0.length c_x0_0, .int .i64 y20, .int .i64 y21], Own 3 (rowT ([(-1), 4, 1] : List Int)) (.slice (some ⟨p5, 0, none⟩) 3 3), Box p1 [.int .i64 0, .int .i64 0, .int .i64 0, .int .i64 0]] := HT.pick 1
          have HT : St w0 F w [Box p1 [.int .i64 0, .int .i64 0, .int .i64 0, .int .i64 0], Box p2 [.int .i64 y4, .int .i64 y5, .int .i64 y6, .int .i64 y19], Box p_0 [.slice a_x0_0 x0_0.length c_x0_0, .int .i64 y20, .int .i64 y21], Own 3 (rowT ([(-1), 4, 1] : List Int)) (.slice (some ⟨p5, 0, none⟩) 3 3)] := HT.pick 3
          have HT : St w0 F w [Box p1 [.int .i64 0, .int .i64 0, .int .i64 0, .int .i64 0], Box p2 [.int .i64 y4, .int .i64 y5, .int .i64 y6, .int .i64 y19], Box p_0 [.slice a_x0_0 x0_0.length c_x0_0, .int .i64 y20, .int .i64 y21]] := HT.take 3
          have hj13 := Option.some.inj h
          obtain ⟨hi13, hj14⟩ := Prod.mk.inj hj13
          subst hi13
          obtain ⟨hi14, hj15⟩ := Prod.mk.inj hj14
          subst hi14
          obtain ⟨hi15, hj16⟩ := Prod.mk.inj hj15
          subst hi15
          obtain ⟨hi16, hj17⟩ := Prod.mk.inj hj16
          subst hi16
          obtain ⟨hi17, hj18⟩ := Prod.mk.inj hj17
          subst hi17
          subst hj18
          exact then_n ⟨(HF.keep (HF.keep HF.nil rfl) rfl), HT⟩
        · have h := (if_neg hb3).symm.trans h
          refine wp_if (b' := false) HF rfl (decide_eq_false hb3) ?_
          refine wp_seq ?_
          refine wc_text ?_
          refine wc_bin HF nS rfl rfl b_eq rfl rfl (fun a HF => ?_)
          refine wc_assign HF nS rfl rfl rfl (fun a HF => ?_)
          refine wc_end ?_
          refine then_n ?_
          by_cases hb4 : y10 = 3
          · have h := (if_pos hb4).symm.trans h
            refine wp_if (b' := true) HF rfl (decide_eq_true hb4) ?_
            refine wc_text ?_
            refine wc_move HF nS rfl rfl rfl (fun a HF => ?_)
            refine wc_bslice (l := ([0, 17, (-3)] : List Int)) (cs := [.int .i64 0, .int .i64 17, .int .i64 (-3)]) (A := []) HF HT bs29_3 rfl rfl (gives_flat rfl) rfl (by decide) rfl rfl (fun p6 w HT hb => ⟨nS, fun a HF => ?_⟩)
            obtain ⟨y22, y23, y24, hx8, h⟩ := obs3 h
            have HT : St w0 F w [Box p_0 [.slice a_x0_0 x0_0.length c_x0_0, .int .i64 y11, .int .i64 y12], Own 3 (rowT ([0, 17, (-3)] : List Int)) (.slice (some ⟨p6, 0, none⟩) 3 3), Box p2 [.int .i64 y4, .int .i64 y5, .int .i64 y6, .int .i64 y7], Box p1 [.int .i64 0, .int .i64 0, .int .i64 0, .int .i64 0]] := HT.pick 1
            obtain ⟨F7, hAF7, hFF7, hbackF7, hroF7, hownF7⟩ := St.handR (A := [Box p_0 [.slice a_x0_0 x0_0.length c_x0_0, .int .i64 y11, .int .i64 y12]]) HT
            refine wc_call HF cf86 rfl (w_spec_l1PickInt fuel hx8 hAF7 (hroF7 hr_x0_0) (hownF7 _ _ _ (List.mem_of_getElem? (i := 0) rfl))) rfl rfl ?_
            rintro e w ⟨rfl, hE⟩
            have HT := hbackF7 _ _ hE
            have HT : St w0 F w [Box p_0 [.slice a_x0_0 x0_0.length c_x0_0, .int .i64 y23, .int .i64 y24], Own 3 (rowT ([0, 17, (-3)] : List Int)) (.slice (some ⟨p6, 0, none⟩) 3 3), Box p2 [.int .i64 y4, .int .i64 y5, .int .i64 y6, .int .i64 y7], Box p1 [.int .i64 0, .int .i64 0, .int .i64 0, .int .i64 0]] := HT
            refine ⟨_, rfl, nS, fun a HF => ?_⟩
            refine wc_faddr HF nS rfl fl25_0 rfl rfl (fun a HF => ?_)
            have HT : St w0 F w [Box p2 [.int .i64 y4, .int .i64 y5, .int .i64 y6, .int .i64 y7], Box p_0 [.slice a_x0_0 x0_0.length c_x0_0, .int .i64 y23, .int .i64 y24], Own 3 (rowT ([0, 17, (-3)] : List Int)) (.slice (some ⟨p6, 0, none⟩) 3 3), Box p1 [.int .i64 0, .int .i64 0, .int .i64 0, .int .i64 0]] := HT.pick 2
            refine wc_storeB (cs' := [.int .i64 y22, .int .i64 y5, .int .i64 y6, .int .i64 y7]) HF HT rfl rfl (fun w => (sc3 w).2) rfl rfl rfl rfl rfl (fun w HT => ⟨nS, ?_⟩)
            refine wc_end ?_
            refine blk_n ?_
            have HT : St w0 F w [Box p_0 [.slice a_x0_0 x0_0.length c_x0_0, .int .i64 y23, .int .i64 y24], Box p2 [.int .i64 y22, .int .i64 y5, .int .i64 y6, .int .i64 y7], Own 3 (rowT ([0, 17, (-3)] : List Int)) (.slice (some ⟨p6, 0, none⟩) 3 3), Box p1 [.int .i64 0, .int .i64 0, .int .i64 0, .int .i64 0]] := HT.pick 1
            have HT : St w0 F w [Box p2 [.int .i64 y22, .int .i64 y5, .int .i64 y6, .int .i64 y7], Box p_0 [.slice a_x0_0 x0_0.length c_x0_0, .int .i64 y23, .int .i64 y24], Own 3 (rowT ([0, 17, (-3)] : List Int)) (.slice (some ⟨p6, 0, none⟩) 3 3), Box p1 [.int .i64 0, .int .i64 0, .int .i64 0, .int .i64 0]] := HT.pick 1
            have HT : St w0 F w [Box p1 [.int .i64 0, .int .i64 0, .int .i64 0, .int .i64 0], Box p2 [.int .i64 y22, .int .i64 y5, .int .i64 y6, .int .i64 y7], Box p_0 [.slice a_x0_0 x0_0.length c_x0_0, .int .i64 y23, .int .i64 y24], Own 3 (rowT ([0, 17, (-3)] : List Int)) (.slice (some ⟨p6, 0, none⟩) 3 3)] := HT.pick 3
            have HT : St w0 F w [Box p1 [.int .i64 0, .int .i64 0, .int .i64 0, .int .i64 0], Box p2 [.int .i64 y22, .int .i64 y5, .int .i64 y6, .int .i64 y7], Box p_0 [.slice a_x0_0 x0_0.length c_x0_0, .int .i64 y23, .int .i64 y24]] := HT.take 3
            have hj19 := Option.some.inj h
            obtain ⟨hi19, hj20⟩ := Prod.mk.inj hj19
            subst hi19
            obtain ⟨hi20, hj21⟩ := Prod.mk.inj hj20
            subst hi20
            obtain ⟨hi21, hj22⟩ := Prod.mk.inj hj21
            subst hi21
            obtain ⟨hi22, hj23⟩ := Prod.mk.inj hj22
            subst hi22
            obtain ⟨hi23, hj24⟩ := Prod.mk.inj hj23
            subst hi23
            subst hj24
            exact then_n ⟨(HF.keep (HF.keep HF.nil rfl) rfl), HT⟩
          · have h := (if_neg hb4).symm.trans h
            refine wp_if (b' := false) HF rfl (decide_eq_false hb4) ?_
            refine wp_skip ?_
            refine blk_n ?_
            have HT : St w0 F w [Box p2 [.int .i64 y4, .int .i64 y5, .int .i64 y6, .int .i64 y7], Box p_0 [.slice a_x0_0 x0_0.length c_x0_0, .int .i64 y11, .int .i64 y12], Box p1 [.int .i64 0, .int .i64 0, .int .i64 0, .int .i64 0]] := HT.pick 1
            have HT : St w0 F w [Box p1 [.int .i64 0, .int .i64 0, .int .i64 0, .int .i64 0], Box p2 [.int .i64 y4, .int .i64 y5, .int .i64 y6, .int .i64 y7], Box p_0 [.slice a_x0_0 x0_0.length c_x0_0, .int .i64 y11, .int .i64 y12]] := HT.pick 2
            have hj25 := Option.some.inj h
            obtain ⟨hi25, hj26⟩ := Prod.mk.inj hj25
            subst hi25
            obtain ⟨hi26, hj27⟩ := Prod.mk.inj hj26
            subst hi26
            obtain ⟨hi27, hj28⟩ := Prod.mk.inj hj27
            subst hi27
            obtain ⟨hi28, hj29⟩ := Prod.mk.inj hj28
            subst hi28
            obtain ⟨hi29, hj30⟩ := Prod.mk.inj hj29
            subst hi29
            subst hj30
            exact then_n ⟨(HF.keep (HF.keep HF.nil rfl) rfl), HT⟩
  · rintro a w ⟨HF, HT⟩
    refine ?_
    refine wp_seq ?_
    refine wc_text ?_
    refine wc_loadA (vs := [.int .i64 z1, .int .i64 z2, .int .i64 z3, .int .i64 z4]) HF rfl ag25 rfl ((HT.boxAt 1 rfl).part 0 4) rfl rfl (fun a HF => ?_)
    refine wc_storeB (cs' := [.int .i64 z1, .int .i64 z2, .int .i64 z3, .int .i64 z4]) HF HT rfl rfl (fun w => (ag25 w).2) rfl rfl rfl rfl rfl (fun w HT => ⟨nS, ?_⟩)
    refine wc_end ?_
    refine then_n ?_
    refine wp_ret ?_
    have hj31 := Option.some.inj h
    obtain ⟨hi31, hj32⟩ := Prod.mk.inj hj31
    subst hi31
    obtain ⟨hi32, hj33⟩ := Prod.mk.inj hj32
    subst hi32
    obtain ⟨hi33, hj34⟩ := Prod.mk.inj hj33
    subst hi33
    obtain ⟨hi34, hj35⟩ := Prod.mk.inj hj34
    subst hi34
    obtain ⟨hi35, hj36⟩ := Prod.mk.inj hj35
    subst hi35
    subst hj36
    refine bp_ret HF (res_cell (vs := [.int .i64 z1, .int .i64 z2, .int .i64 z3, .int .i64 z4]) rfl HF rfl ag25 rfl (HT.boxAt 0 rfl)) ?_
    have HT : St w0 F w [Box p_0 [.slice a_x0_0 x0_0.length c_x0_0, .int .i64 z5, .int .i64 z6], Box p1 [.int .i64 z1, .int .i64 z2, .int .i64 z3, .int .i64 z4], Box p2 [.int .i64 z1, .int .i64 z2, .int .i64 z3, .int .i64 z4]] := HT.pick 2
    have HT : St w0 F w [Box p_0 [.slice a_x0_0 x0_0.length c_x0_0, .int .i64 z5, .int .i64 z6]] := HT.take 1
    exact ⟨rfl, HT⟩

def m_spec_DrawCalc (fuel : Nat) (x0 : List UInt8) : Option (Int × Int × Int × Int × List Int) :=
  bind2 (m_spec_l1New fuel x0) fun y1 y2 =>
  bind3 (m_spec_l1Below fuel x0 y1 y2 4) fun y3 y4 y5 =>
  if in64 (1 + y3) then
    bind6 (m_spec_l4Plain fuel x0 y4 y5 (1 + y3)) fun y6 y7 y8 y9 y10 y11 =>
    bind6 (
      bind3 (m_spec_l1Once fuel x0 y10 y11 6) fun y12 y13 y14 =>
      if y12 = true then
        bind6 (m_spec_l4Any fuel x0 y13 y14) fun y15 y16 y17 y18 y19 y20 =>
        some (y19, y20, y15, y16, y17, y18)
      else
        some (y13, y14, y6, y7, y8, y9)) fun z1 z2 z3 z4 z5 z6 =>
    bind3 (m_spec_l3Draw fuel x0 z1 z2) fun y21 y22 y23 =>
    bind3 (m_spec_l3Draw fuel x0 y22 y23) fun y24 y25 y26 =>
    bind3 (m_spec_l3Draw fuel x0 y25 y26) fun y27 y28 y29 =>
    bind3 (m_spec_l3Draw fuel x0 y28 y29) fun y30 y31 y32 =>
    (
      bind3 (m_spec_l1Below fuel x0 y31 y32 12) fun y33 y34 y35 =>
      if y33 = 0 then
        if 0 ≤ (3 : Int) ∧ 3 ≤ (([y21, y24, y27, y30] : List Int).length : Int) then
          some (.ret (z3, z4, z5, z6, subl ([y21, y24, y27, y30] : List Int) 0 3))
        else none
      else
        if y33 = 1 then
          bind3 (m_spec_l1Below fuel x0 y34 y35 4) fun y36 y37 y38 =>
          (at? ([y21, y24, y27, y30] : List Int) y36).bind fun e1 =>
          some (.brk (([y21, y24, y27, y30] : List Int).set y36.toNat 65536))
        else
          some (.brk ([y21, y24, y27, y30] : List Int))).bind <| contL <| un1 fun z7 =>
    some (z3, z4, z5, z6, z7)
  else none

set_option maxRecDepth 100000 in
set_option maxHeartbeats 4000000 in
theorem w_spec_DrawCalc (fuel : Nat) {x0 : List UInt8} {a_x0 : Option Addr} {n_x0 c_x0 : Nat} {r0_0 : Int} {r0_1 : Int} {r0_2 : Int} {r0_3 : Int} {r1 : List Int} {w0 : World} (h : m_spec_DrawCalc fuel x0 = some (r0_0, r0_1, r0_2, r0_3, r1)) (hr_x0 : RdT (fun b => ¬ False) w0 (rowT x0) (.slice a_x0 n_x0 c_x0)) :
    Calls Try.prog 27 #[.slice a_x0 n_x0 c_x0] w0 fun e w => ∃ a_r1 n_r1 c_r1, e = .returned (.tuple #[.agg #[.int .i64 r0_0, .int .i64 r0_1, .int .i64 r0_2, .int .i64 r0_3], .slice a_r1 n_r1 c_r1]) ∧ St w0 (fun _ => False) w [Own 3 (rowT r1) (.slice a_r1 n_r1 c_r1)] := by
  obtain rfl := hr_x0.neq
  have HT : St w0 (fun _ => False) w0 [] := St.init0
  rw [m_spec_DrawCalc] at h
  refine calls_fr (n := 42) [.slice a_x0 x0.length c_x0] Try.func27 rfl rfl rfl (fun a HF => ?_)
  have HT : St w0 (fun _ => False) w0 [] := HT
  refine wp_seq ?_
  refine wc_text ?_
  refine wc_alloc (cs := [.int .i64 0, .int .i64 0, .int .i64 0, .int .i64 0]) HF HT zr25 rfl rfl rfl (fun p1 w HT hb => ⟨nS, fun a HF => ?_⟩)
  refine wc_assign HF nS rfl rfl rfl (fun a HF => ?_)
  refine wc_end ?_
  refine then_n ?_
  refine wp_seq ?_
  refine wc_text ?_
  refine wc_move HF nS rfl rfl rfl (fun a HF => ?_)
  obtain ⟨y1, y2, hx1, h⟩ := obs2 h
  refine wc_call HF cf62 rfl (w_spec_l1New fuel hx1 (HT.ro hr_x0).any) rfl rfl ?_
  rintro e w ⟨p2, rfl, hE⟩
  have hb := hE.below
  have HT := HT.pure hE
  have HT : St w0 (fun _ => False) w [Box p2 [.slice a_x0 x0.length c_x0, .int .i64 y1, .int .i64 y2], Box p1 [.int .i64 0, .int .i64 0, .int .i64 0, .int .i64 0]] := HT
  refine ⟨_, rfl, nS, fun a HF => ?_⟩
  refine wc_assign HF nS rfl rfl rfl (fun a HF => ?_)
  refine wc_end ?_
  refine then_n ?_
  refine wp_seq ?_
  refine wc_text ?_
  refine wc_move HF nS rfl rfl rfl (fun a HF => ?_)
  refine wc_move HF nS rfl rfl rfl (fun a HF => ?_)
  obtain ⟨y3, y4, y5, hx2, h⟩ := obs3 h
  obtain ⟨F1, hAF1, hFF1, hbackF1, hroF1, hownF1⟩ := St.handR (A := [Box p2 [.slice a_x0 x0.length c_x0, .int .i64 y1, .int .i64 y2]]) HT
  refine wc_call HF cf64 rfl (w_spec_l1Below fuel hx2 hAF1 (hroF1 hr_x0)) rfl rfl ?_
  rintro e w ⟨rfl, hE⟩
  have HT := hbackF1 _ _ hE
  have HT : St w0 (fun _ => False) w [Box p2 [.slice a_x0 x0.length c_x0, .int .i64 y4, .int .i64 y5], Box p1 [.int .i64 0, .int .i64 0, .int .i64 0, .int .i64 0]] := HT
  refine ⟨_, rfl, nS, fun a HF => ?_⟩
  obtain ⟨hg1, h⟩ := grd h
  refine wc_bin HF nS rfl rfl (b_add hg1) rfl rfl (fun a HF => ?_)
  obtain ⟨y6, y7, y8, y9, y10, y11, hx3, h⟩ := obs6 h
  obtain ⟨F2, hAF2, hFF2, hbackF2, hroF2, hownF2⟩ := St.handR (A := [Box p2 [.slice a_x0 x0.length c_x0, .int .i64 y4, .int .i64 y5]]) HT
  refine wc_call HF cf63 rfl (w_spec_l4Plain fuel hx3 hAF2 (hroF2 hr_x0)) rfl rfl ?_
  rintro e w ⟨rfl, hE⟩
  have HT := hbackF2 _ _ hE
  have HT : St w0 (fun _ => False) w [Box p2 [.slice a_x0 x0.length c_x0, .int .i64 y10, .int .i64 y11], Box p1 [.int .i64 0, .int .i64 0, .int .i64 0, .int .i64 0]] := HT
  refine ⟨_, rfl, nS, fun a HF => ?_⟩
  refine wc_alloc (cs := [.int .i64 0, .int .i64 0, .int .i64 0, .int .i64 0]) HF HT zr25 rfl rfl rfl (fun p3 w HT hb => ⟨nS, fun a HF => ?_⟩)
  refine wc_storeB (cs' := [.int .i64 y6, .int .i64 y7, .int .i64 y8, .int .i64 y9]) HF HT rfl rfl (fun w => (ag25 w).2) rfl rfl rfl rfl rfl (fun w HT => ⟨nS, ?_⟩)
  refine wc_end ?_
  refine then_n ?_
  obtain ⟨z1, z2, z3, z4, z5, z6, hx4, h⟩ := obs6 h
  refine wp_cut (fun a w => Fr a 42 [(2, .pointer (some ⟨p1, 0, none⟩)), (4, .pointer (some ⟨p2, 0, none⟩)), (5, .pointer (some ⟨p3, 0, none⟩))] ∧ St w0 (fun _ => False) w [Box p1 [.int .i64 0, .int .i64 0, .int .i64 0, .int .i64 0], Box p2 [.slice a_x0 x0.length c_x0, .int .i64 z1, .int .i64 z2], Box p3 [.int .i64 z3, .int .i64 z4, .int .i64 z5, .int .i64 z6]]) ?_ ?_
  · have hk1 := h
    have h := hx4
    refine wp_seq ?_
    refine wc_text ?_
    refine wc_move HF nS rfl rfl rfl (fun a HF => ?_)
    obtain ⟨y12, y13, y14, hx5, h⟩ := obs3 h
    have HT : St w0 (fun _ => False) w [Box p2 [.slice a_x0 x0.length c_x0, .int .i64 y10, .int .i64 y11], Box p3 [.int .i64 y6, .int .i64 y7, .int .i64 y8, .int .i64 y9], Box p1 [.int .i64 0, .int .i64 0, .int .i64 0, .int .i64 0]] := HT.pick 1
    obtain ⟨F3, hAF3, hFF3, hbackF3, hroF3, hownF3⟩ := St.handR (A := [Box p2 [.slice a_x0 x0.length c_x0, .int .i64 y10, .int .i64 y11]]) HT
    refine wc_call HF cf65 rfl (w_spec_l1Once fuel hx5 hAF3 (hroF3 hr_x0)) rfl rfl ?_
    rintro e w ⟨rfl, hE⟩
    have HT := hbackF3 _ _ hE
    have HT : St w0 (fun _ => False) w [Box p2 [.slice a_x0 x0.length c_x0, .int .i64 y13, .int .i64 y14], Box p3 [.int .i64 y6, .int .i64 y7, .int .i64 y8, .int .i64 y9], Box p1 [.int .i64 0, .int .i64 0, .int .i64 0, .int .i64 0]] := HT
    refine ⟨_, rfl, nS, fun a HF => ?_⟩
    refine wc_end ?_
    refine then_n ?_
    by_cases hb1 : y12 = true
    · have h := (if_pos hb1).symm.trans h
      refine wp_if (b' := true) HF rfl hb1 ?_
      refine wc_text ?_
      refine wc_move HF nS rfl rfl rfl (fun a HF => ?_)
      obtain ⟨y15, y16, y17, y18, y19, y20, hx6, h⟩ := obs6 h
      obtain ⟨F4, hAF4, hFF4, hbackF4, hroF4, hownF4⟩ := St.handR (A := [Box p2 [.slice a_x0 x0.length c_x0, .int .i64 y13, .int .i64 y14]]) HT
      refine wc_call HF cf66 rfl (w_spec_l4Any fuel hx6 hAF4 (hroF4 hr_x0)) rfl rfl ?_
      rintro e w ⟨rfl, hE⟩
      have HT := hbackF4 _ _ hE
      have HT : St w0 (fun _ => False) w [Box p2 [.slice a_x0 x0.length c_x0, .int .i64 y19, .int .i64 y20], Box p3 [.int .i64 y6, .int .i64 y7, .int .i64 y8, .int .i64 y9], Box p1 [.int .i64 0, .int .i64 0, .int .i64 0, .int .i64 0]] := HT
      refine ⟨_, rfl, nS, fun a HF => ?_⟩
      have HT : St w0 (fun _ => False) w [Box p3 [.int .i64 y6, .int .i64 y7, .int .i64 y8, .int .i64 y9], Box p2 [.slice a_x0 x0.length c_x0, .int .i64 y19, .int .i64 y20], Box p1 [.int .i64 0, .int .i64 0, .int .i64 0, .int .i64 0]] := HT.pick 1
      refine wc_storeB (cs' := [.int .i64 y15, .int .i64 y16, .int .i64 y17, .int .i64 y18]) HF HT rfl rfl (fun w => (ag25 w).2) rfl rfl rfl rfl rfl (fun w HT => ⟨nS, ?_⟩)
      refine wc_end ?_
      have HT : St w0 (fun _ => False) w [Box p2 [.slice a_x0 x0.length c_x0, .int .i64 y19, .int .i64 y20], Box p3 [.int .i64 y15, .int .i64 y16, .int .i64 y17, .int .i64 y18], Box p1 [.int .i64 0, .int .i64 0, .int .i64 0, .int .i64 0]] := HT.pick 1
      have HT : St w0 (fun _ => False) w [Box p1 [.int .i64 0, .int .i64 0, .int .i64 0, .int .i64 0], Box p2 [.slice a_x0 x0.length c_x0, .int .i64 y19, .int .i64 y20], Box p3 [.int .i64 y15, .int .i64 y16, .int .i64 y17, .int .i64 y18]] := HT.pick 2
      have hj1 := Option.some.inj h
      obtain ⟨hi1, hj2⟩ := Prod.mk.inj hj1
      subst hi1
      obtain ⟨hi2, hj3⟩ := Prod.mk.inj hj2
      subst hi2
      obtain ⟨hi3, hj4⟩ := Prod.mk.inj hj3
      subst hi3
      obtain ⟨hi4, hj5⟩ := Prod.mk.inj hj4
      subst hi4
      obtain ⟨hi5, hj6⟩ := Prod.mk.inj hj5
      subst hi5
      subst hj6
      exact then_n ⟨(HF.keep (HF.keep (HF.keep HF.nil rfl) rfl) rfl), HT⟩
    · have h := (if_neg hb1).symm.trans h
      refine wp_if (b' := false) HF rfl (Bool.eq_false_iff.2 hb1) ?_
      refine wp_skip ?_
      have HT : St w0 (fun _ => False) w [Box p3 [.int .i64 y6, .int .i64 y7, .int .i64 y8, .int .i64 y9], Box p2 [.slice a_x0 x0.length c_x0, .int .i64 y13, .int .i64 y14], Box p1 [.int .i64 0, .int .i64 0, .int .i64 0, .int .i64 0]] := HT.pick 1
      have HT : St w0 (fun _ => False) w [Box p2 [.slice a_x0 x0.length c_x0, .int .i64 y13, .int .i64 y14], Box p3 [.int .i64 y6, .int .i64 y7, .int .i64 y8, .int .i64 y9], Box p1 [.int .i64 0, .int .i64 0, .int .i64 0, .int .i64 0]] := HT.pick 1
      have HT : St w0 (fun _ => False) w [Box p1 [.int .i64 0, .int .i64 0, .int .i64 0, .int .i64 0], Box p2 [.slice a_x0 x0.length c_x0, .int .i64 y13, .int .i64 y14], Box p3 [.int .i64 y6, .int .i64 y7, .int .i64 y8, .int .i64 y9]] := HT.pick 2
      have hj7 := Option.some.inj h
      obtain ⟨hi7, hj8⟩ := Prod.mk.inj hj7
      subst hi7
      obtain ⟨hi8, hj9⟩ := Prod.mk.inj hj8
      subst hi8
      obtain ⟨hi9, hj10⟩ := Prod.mk.inj hj9
      subst hi9
      obtain ⟨hi10, hj11⟩ := Prod.mk.inj hj10
      subst hi10
      obtain ⟨hi11, hj12⟩ := Prod.mk.inj hj11
      subst hi11
      subst hj12
      exact then_n ⟨(HF.keep (HF.keep (HF.keep HF.nil rfl) rfl) rfl), HT⟩
  · rintro a w ⟨HF, HT⟩
    refine ?_
    refine wp_seq ?_
    refine wc_text ?_
    refine wc_move HF nS rfl rfl rfl (fun a HF => ?_)
    obtain ⟨y21, y22, y23, hx7, h⟩ := obs3 h
    have HT : St w0 (fun _ => False) w [Box p2 [.slice a_x0 x0.length c_x0, .int .i64 z1, .int .i64 z2], Box p1 [.int .i64 0, .int .i64 0, .int .i64 0, .int .i64 0], Box p3 [.int .i64 z3, .int .i64 z4, .int .i64 z5, .int .i64 z6]] := HT.pick 1
    obtain ⟨F5, hAF5, hFF5, hbackF5, hroF5, hownF5⟩ := St.handR (A := [Box p2 [.slice a_x0 x0.length c_x0, .int .i64 z1, .int .i64 z2]]) HT
    refine wc_call HF cf67 rfl (w_spec_l3Draw fuel hx7 hAF5 (hroF5 hr_x0)) rfl rfl ?_
    rintro e w ⟨rfl, hE⟩
    have HT := hbackF5 _ _ hE
    have HT : St w0 (fun _ => False) w [Box p2 [.slice a_x0 x0.length c_x0, .int .i64 y22, .int .i64 y23], Box p1 [.int .i64 0, .int .i64 0, .int .i64 0, .int .i64 0], Box p3 [.int .i64 z3, .int .i64 z4, .int .i64 z5, .int .i64 z6]] := HT
    refine ⟨_, rfl, nS, fun a HF => ?_⟩
    refine wc_move HF nS rfl rfl rfl (fun a HF => ?_)
    obtain ⟨y24, y25, y26, hx8, h⟩ := obs3 h
    obtain ⟨F6, hAF6, hFF6, hbackF6, hroF6, hownF6⟩ := St.handR (A := [Box p2 [.slice a_x0 x0.length c_x0, .int .i64 y22, .int .i64 y23]]) HT
    refine wc_call HF cf67 rfl (w_spec_l3Draw fuel hx8 hAF6 (hroF6 hr_x0)) rfl rfl ?_
    rintro e w ⟨rfl, hE⟩
    have HT := hbackF6 _ _ hE
    have HT : St w0 (fun _ => False) w [Box p2 [.slice a_x0 x0.length c_x0, .int .i64 y25, .int .i64 y26], Box p1 [.int .i64 0, .int .i64 0, .int .i64 0, .int .i64 0], Box p3 [.int .i64 z3, .int .i64 z4, .int .i64 z5, .int .i64 z6]] := HT
    refine ⟨_, rfl, nS, fun a HF => ?_⟩
    refine wc_move HF nS rfl rfl rfl (fun a HF => ?_)
    obtain ⟨y27, y28, y29, hx9, h⟩ := obs3 h
    obtain ⟨F7, hAF7, hFF7, hbackF7, hroF7, hownF7⟩ := St.handR (A := [Box p2 [.slice a_x0 x0.length c_x0, .int .i64 y25, .int .i64 y26]]) HT
    refine wc_call HF cf67 rfl (w_spec_l3Draw fuel hx9 hAF7 (hroF7 hr_x0)) rfl rfl ?_
    rintro e w ⟨rfl, hE⟩
    have HT := hbackF7 _ _ hE
    have HT : St w0 (fun _ => False) w [Box p2 [.slice a_x0 x0.length c_x0, .int .i64 y28, .int .i64 y29], Box p1 [.int .i64 0, .int .i64 0, .int .i64 0, .int .i64 0], Box p3 [.int .i64 z3, .int .i64 z4, .int .i64 z5, .int .i64 z6]] := HT
    refine ⟨_, rfl, nS, fun a HF => ?_⟩
    refine wc_move HF nS rfl rfl rfl (fun a HF => ?_)
    obtain ⟨y30, y31, y32, hx10, h⟩ := obs3 h
    obtain ⟨F8, hAF8, hFF8, hbackF8, hroF8, hownF8⟩ := St.handR (A := [Box p2 [.slice a_x0 x0.length c_x0, .int .i64 y28, .int .i64 y29]]) HT
    refine wc_call HF cf67 rfl (w_spec_l3Draw fuel hx10 hAF8 (hroF8 hr_x0)) rfl rfl ?_
    rintro e w ⟨rfl, hE⟩
    have HT := hbackF8 _ _ hE
    have HT : St w0 (fun _ => False) w [Box p2 [.slice a_x0 x0.length c_x0, .int .i64 y31, .int .i64 y32], Box p1 [.int .i64 0, .int .i64 0, .int .i64 0, .int .i64 0], Box p3 [.int .i64 z3, .int .i64 z4, .int .i64 z5, .int .i64 z6]] := HT
    refine ⟨_, rfl, nS, fun a HF => ?_⟩
    refine wc_bslice (l := ([y21, y24, y27, y30] : List Int)) (cs := [.int .i64 y21, .int .i64 y24, .int .i64 y27, .int .i64 y30]) (A := []) HF HT bs29_4 rfl rfl (gives_flat rfl) rfl (by decide) rfl rfl (fun p4 w HT hb => ⟨nS, fun a HF => ?_⟩)
    refine wc_assign HF nS rfl rfl rfl (fun a HF => ?_)
    refine wc_end ?_
    refine then_n ?_
    obtain ⟨q2, hx11, h⟩ := obs h
    refine wp_cut (fun a w => ∃ z7, q2 = .brk z7 ∧ Fr a 42 [(2, .pointer (some ⟨p1, 0, none⟩)), (5, .pointer (some ⟨p3, 0, none⟩)), (6, .slice (some ⟨p4, 0, none⟩) 4 4)] ∧ St w0 (fun _ => False) w [Box p1 [.int .i64 0, .int .i64 0, .int .i64 0, .int .i64 0], Box p3 [.int .i64 z3, .int .i64 z4, .int .i64 z5, .int .i64 z6], Own 3 (rowT z7) (.slice (some ⟨p4, 0, none⟩) 4 4)]) ?_ ?_
    · have hk1 := h
      have h := hx11
      refine wp_seq ?_
      refine wc_text ?_
      refine wc_move HF nS rfl rfl rfl (fun a HF => ?_)
      obtain ⟨y33, y34, y35, hx12, h⟩ := obs3 h
      have HT : St w0 (fun _ => False) w [Box p2 [.slice a_x0 x0.length c_x0, .int .i64 y31, .int .i64 y32], Own 3 (rowT ([y21, y24, y27, y30] : List Int)) (.slice (some ⟨p4, 0, none⟩) 4 4), Box p1 [.int .i64 0, .int .i64 0, .int .i64 0, .int .i64 0], Box p3 [.int .i64 z3, .int .i64 z4, .int .i64 z5, .int .i64 z6]] := HT.pick 1
      obtain ⟨F9, hAF9, hFF9, hbackF9, hroF9, hownF9⟩ := St.handR (A := [Box p2 [.slice a_x0 x0.length c_x0, .int .i64 y31, .int .i64 y32]]) HT
      refine wc_call HF cf64 rfl (w_spec_l1Below fuel hx12 hAF9 (hroF9 hr_x0)) rfl rfl ?_
      rintro e w ⟨rfl, hE⟩
      have HT := hbackF9 _ _ hE
      have HT : St w0 (fun _ => False) w [Box p2 [.slice a_x0 x0.length c_x0, .int .i64 y34, .int .i64 y35], Own 3 (rowT ([y21, y24, y27, y30] : List Int)) (.slice (some ⟨p4, 0, none⟩) 4 4), Box p1 [.int .i64 0, .int .i64 0, .int .i64 0, .int .i64 0], Box p3 [.int .i64 z3, .int .i64 z4, .int .i64 z5, .int .i64 z6]] := HT
      refine ⟨_, rfl, nS, fun a HF => ?_⟩
      refine wc_end ?_
      refine then_n ?_
      refine wp_block ?_
      refine wp_seq ?_
      refine wc_text ?_
      refine wc_bin HF nS rfl rfl b_eq rfl rfl (fun a HF => ?_)
      refine wc_assign HF nS rfl rfl rfl (fun a HF => ?_)
      refine wc_end ?_
      refine then_n ?_
      by_cases hb2 : y33 = 0
      · have h := (if_pos hb2).symm.trans h
        refine wp_if (b' := true) HF rfl (decide_eq_true hb2) ?_
        refine wp_seq ?_
        refine wp_region_can [(0, true), (1, false), (2, false), (3, false), (4, true)] (fun w' => True) (by kernel_rfl) (by kernel_rfl) ?_
        have HT : St w0 (fun _ => False) w.drew [Box p2 [.slice a_x0 x0.length c_x0, .int .i64 y34, .int .i64 y35], Own 3 (rowT ([y21, y24, y27, y30] : List Int)) (.slice (some ⟨p4, 0, none⟩) 4 4), Box p1 [.int .i64 0, .int .i64 0, .int .i64 0, .int .i64 0], Box p3 [.int .i64 z3, .int .i64 z4, .int .i64 z5, .int .i64 z6]] := HT.drew
        refine wc_loadA (vs := [.int .i64 z3, .int .i64 z4, .int .i64 z5, .int .i64 z6]) HF rfl ag25 rfl ((HT.boxAt 3 rfl).part 0 4) rfl rfl (fun a HF => ?_)
        refine wc_move HF (fun _ => trivial) rfl rfl rfl (fun a HF => ?_)
        have HT : St w0 (fun _ => False) w.drew [Own 3 (rowT ([y21, y24, y27, y30] : List Int)) (.slice (some ⟨p4, 0, none⟩) 4 4), Box p2 [.slice a_x0 x0.length c_x0, .int .i64 y34, .int .i64 y35], Box p1 [.int .i64 0, .int .i64 0, .int .i64 0, .int .i64 0], Box p3 [.int .i64 z3, .int .i64 z4, .int .i64 z5, .int .i64 z6]] := HT.pick 1
        obtain ⟨hg2, h⟩ := grd h
        obtain ⟨HT, hcut⟩ := St.cutO HT hg2
        refine wc_slrH HF (fun _ => trivial) el29 rfl rfl hcut rfl rfl (fun a HF => ?_)
        have HT : St w0 (fun _ => False) w.drew [Box p1 [.int .i64 0, .int .i64 0, .int .i64 0, .int .i64 0], Own 3 (rowT (subl ([y21, y24, y27, y30] : List Int) 0 3)) (.slice (some ⟨p4, 0, none⟩) ((subl ([y21, y24, y27, y30] : List Int) 0 3).length) 4), Box p2 [.slice a_x0 x0.length c_x0, .int .i64 y34, .int .i64 y35], Box p3 [.int .i64 z3, .int .i64 z4, .int .i64 z5, .int .i64 z6]] := HT.pick 2
        refine wc_storeB (cs' := [.int .i64 z3, .int .i64 z4, .int .i64 z5, .int .i64 z6]) HF HT rfl rfl (fun w => (ag25 w).2) rfl rfl rfl rfl rfl (fun w HT => ⟨(fun _ => trivial), ?_⟩)
        refine wc_assign HF nS rfl rfl rfl (fun a HF => ?_)
        refine wc_endN ?_
        refine then_n ?_
        refine wp_ret ?_
        obtain rfl := Option.some.inj h
        have h := retL hk1
        have hj13 := Option.some.inj h
        obtain ⟨hi13, hj14⟩ := Prod.mk.inj hj13
        subst hi13
        obtain ⟨hi14, hj15⟩ := Prod.mk.inj hj14
        subst hi14
        obtain ⟨hi15, hj16⟩ := Prod.mk.inj hj15
        subst hi15
        obtain ⟨hi16, hj17⟩ := Prod.mk.inj hj16
        subst hi16
        subst hj17
        refine blk_r (then_r (?_))
        refine bp_ret HF (res_cell_tmp (vs := [.int .i64 z3, .int .i64 z4, .int .i64 z5, .int .i64 z6]) rfl HF rfl ag25 rfl (HT.boxAt 0 rfl) rfl) ?_
        have HT : St w0 (fun _ => False) w [Own 3 (rowT (subl ([y21, y24, y27, y30] : List Int) 0 3)) (.slice (some ⟨p4, 0, none⟩) ((subl ([y21, y24, y27, y30] : List Int) 0 3).length) 4), Box p1 [.int .i64 z3, .int .i64 z4, .int .i64 z5, .int .i64 z6], Box p2 [.slice a_x0 x0.length c_x0, .int .i64 y34, .int .i64 y35], Box p3 [.int .i64 z3, .int .i64 z4, .int .i64 z5, .int .i64 z6]] := HT.pick 1
        have HT : St w0 (fun _ => False) w [Own 3 (rowT (subl ([y21, y24, y27, y30] : List Int) 0 3)) (.slice (some ⟨p4, 0, none⟩) ((subl ([y21, y24, y27, y30] : List Int) 0 3).length) 4)] := HT.take 1
        exact ⟨(some ⟨p4, 0, none⟩), (subl ([y21, y24, y27, y30] : List Int) 0 3).length, 4, rfl, HT⟩
      · have h := (if_neg hb2).symm.trans h
        refine wp_if (b' := false) HF rfl (decide_eq_false hb2) ?_
        refine wp_seq ?_
        refine wc_text ?_
        refine wc_bin HF nS rfl rfl b_eq rfl rfl (fun a HF => ?_)
        refine wc_assign HF nS rfl rfl rfl (fun a HF => ?_)
        refine wc_end ?_
        refine then_n ?_
        by_cases hb3 : y33 = 1
        · have h := (if_pos hb3).symm.trans h
          refine wp_if (b' := true) HF rfl (decide_eq_true hb3) ?_
          refine wc_text ?_
          refine wc_move HF nS rfl rfl rfl (fun a HF => ?_)
          refine wc_move HF nS rfl rfl rfl (fun a HF => ?_)
          obtain ⟨y36, y37, y38, hx13, h⟩ := obs3 h
          obtain ⟨F10, hAF10, hFF10, hbackF10, hroF10, hownF10⟩ := St.handR (A := [Box p2 [.slice a_x0 x0.length c_x0, .int .i64 y34, .int .i64 y35]]) HT
          refine wc_call HF cf64 rfl (w_spec_l1Below fuel hx13 hAF10 (hroF10 hr_x0)) rfl rfl ?_
          rintro e w ⟨rfl, hE⟩
          have HT := hbackF10 _ _ hE
          have HT : St w0 (fun _ => False) w [Box p2 [.slice a_x0 x0.length c_x0, .int .i64 y37, .int .i64 y38], Own 3 (rowT ([y21, y24, y27, y30] : List Int)) (.slice (some ⟨p4, 0, none⟩) 4 4), Box p1 [.int .i64 0, .int .i64 0, .int .i64 0, .int .i64 0], Box p3 [.int .i64 z3, .int .i64 z4, .int .i64 z5, .int .i64 z6]] := HT
          refine ⟨_, rfl, nS, fun a HF => ?_⟩
          obtain ⟨e1, hx14, h⟩ := obs h
          refine wc_ixaddr HF nS el29 rfl rfl ((HT.rdAt 1 rfl)).neq rfl hx14 rfl rfl (fun a HF => ?_)
          have HT : St w0 (fun _ => False) w [Own 3 (rowT ([y21, y24, y27, y30] : List Int)) (.slice (some ⟨p4, 0, none⟩) 4 4), Box p2 [.slice a_x0 x0.length c_x0, .int .i64 y37, .int .i64 y38], Box p1 [.int .i64 0, .int .i64 0, .int .i64 0, .int .i64 0], Box p3 [.int .i64 z3, .int .i64 z4, .int .i64 z5, .int .i64 z6]] := HT.pick 1
          refine wc_storeR (i := y36) (j := 0) (x' := 65536) HF HT rfl rfl rfl (fun w => (sc3 w).2) rfl rfl hx14 rfl rfl rfl rfl (fun w HT => ⟨nS, ?_⟩)
          refine wc_end ?_
          refine blk_n ?_
          have HT : St w0 (fun _ => False) w [Box p3 [.int .i64 z3, .int .i64 z4, .int .i64 z5, .int .i64 z6], Own 3 (rowT (([y21, y24, y27, y30] : List Int).set y36.toNat 65536)) (.slice (some ⟨p4, 0, none⟩) 4 4), Box p2 [.slice a_x0 x0.length c_x0, .int .i64 y37, .int .i64 y38], Box p1 [.int .i64 0, .int .i64 0, .int .i64 0, .int .i64 0]] := HT.pick 3
          have HT : St w0 (fun _ => False) w [Box p1 [.int .i64 0, .int .i64 0, .int .i64 0, .int .i64 0], Box p3 [.int .i64 z3, .int .i64 z4, .int .i64 z5, .int .i64 z6], Own 3 (rowT (([y21, y24, y27, y30] : List Int).set y36.toNat 65536)) (.slice (some ⟨p4, 0, none⟩) 4 4), Box p2 [.slice a_x0 x0.length c_x0, .int .i64 y37, .int .i64 y38]] := HT.pick 3
          have HT : St w0 (fun _ => False) w [Box p1 [.int .i64 0, .int .i64 0, .int .i64 0, .int .i64 0], Box p3 [.int .i64 z3, .int .i64 z4, .int .i64 z5, .int .i64 z6], Own 3 (rowT (([y21, y24, y27, y30] : List Int).set y36.toNat 65536)) (.slice (some ⟨p4, 0, none⟩) 4 4)] := HT.take 3
          exact then_n ⟨([y21, y24, y27, y30] : List Int).set y36.toNat 65536, (Option.some.inj h).symm, (HF.keep (HF.keep (HF.keep HF.nil rfl) rfl) rfl), HT⟩
        · have h := (if_neg hb3).symm.trans h
          refine wp_if (b' := false) HF rfl (decide_eq_false hb3) ?_
          refine wp_skip ?_
          refine blk_n ?_
          have HT : St w0 (fun _ => False) w [Own 3 (rowT ([y21, y24, y27, y30] : List Int)) (.slice (some ⟨p4, 0, none⟩) 4 4), Box p2 [.slice a_x0 x0.length c_x0, .int .i64 y34, .int .i64 y35], Box p1 [.int .i64 0, .int .i64 0, .int .i64 0, .int .i64 0], Box p3 [.int .i64 z3, .int .i64 z4, .int .i64 z5, .int .i64 z6]] := HT.pick 1
          have HT : St w0 (fun _ => False) w [Box p3 [.int .i64 z3, .int .i64 z4, .int .i64 z5, .int .i64 z6], Own 3 (rowT ([y21, y24, y27, y30] : List Int)) (.slice (some ⟨p4, 0, none⟩) 4 4), Box p2 [.slice a_x0 x0.length c_x0, .int .i64 y34, .int .i64 y35], Box p1 [.int .i64 0, .int .i64 0, .int .i64 0, .int .i64 0]] := HT.pick 3
          have HT : St w0 (fun _ => False) w [Box p1 [.int .i64 0, .int .i64 0, .int .i64 0, .int .i64 0], Box p3 [.int .i64 z3, .int .i64 z4, .int .i64 z5, .int .i64 z6], Own 3 (rowT ([y21, y24, y27, y30] : List Int)) (.slice (some ⟨p4, 0, none⟩) 4 4), Box p2 [.slice a_x0 x0.length c_x0, .int .i64 y34, .int .i64 y35]] := HT.pick 3
          have HT : St w0 (fun _ => False) w [Box p1 [.int .i64 0, .int .i64 0, .int .i64 0, .int .i64 0], Box p3 [.int .i64 z3, .int .i64 z4, .int .i64 z5, .int .i64 z6], Own 3 (rowT ([y21, y24, y27, y30] : List Int)) (.slice (some ⟨p4, 0, none⟩) 4 4)] := HT.take 3
          exact then_n ⟨([y21, y24, y27, y30] : List Int), (Option.some.inj h).symm, (HF.keep (HF.keep (HF.keep HF.nil rfl) rfl) rfl), HT⟩
    · rintro a w ⟨z7, rfl, HF, HT⟩
      have h := brkL1u h
      refine ?_
      refine wp_seq ?_
      refine wc_text ?_
      refine wc_loadA (vs := [.int .i64 z3, .int .i64 z4, .int .i64 z5, .int .i64 z6]) HF rfl ag25 rfl ((HT.boxAt 1 rfl).part 0 4) rfl rfl (fun a HF => ?_)
      refine wc_move HF nS rfl rfl rfl (fun a HF => ?_)
      refine wc_storeB (cs' := [.int .i64 z3, .int .i64 z4, .int .i64 z5, .int .i64 z6]) HF HT rfl rfl (fun w => (ag25 w).2) rfl rfl rfl rfl rfl (fun w HT => ⟨nS, ?_⟩)
      refine wc_assign HF nS rfl rfl rfl (fun a HF => ?_)
      refine wc_end ?_
      refine then_n ?_
      refine wp_ret ?_
      have hj18 := Option.some.inj h
      obtain ⟨hi18, hj19⟩ := Prod.mk.inj hj18
      subst hi18
      obtain ⟨hi19, hj20⟩ := Prod.mk.inj hj19
      subst hi19
      obtain ⟨hi20, hj21⟩ := Prod.mk.inj hj20
      subst hi20
      obtain ⟨hi21, hj22⟩ := Prod.mk.inj hj21
      subst hi21
      subst hj22
      refine bp_ret HF (res_cell_tmp (vs := [.int .i64 z3, .int .i64 z4, .int .i64 z5, .int .i64 z6]) rfl HF rfl ag25 rfl (HT.boxAt 0 rfl) rfl) ?_
      have HT : St w0 (fun _ => False) w [Own 3 (rowT z7) (.slice (some ⟨p4, 0, none⟩) 4 4), Box p1 [.int .i64 z3, .int .i64 z4, .int .i64 z5, .int .i64 z6], Box p3 [.int .i64 z3, .int .i64 z4, .int .i64 z5, .int .i64 z6]] := HT.pick 2
      have HT : St w0 (fun _ => False) w [Own 3 (rowT z7) (.slice (some ⟨p4, 0, none⟩) 4 4)] := HT.take 1
      exact ⟨(some ⟨p4, 0, none⟩), 4, 4, rfl, HT⟩

def m_laws_FnCalc_L0 (fuel : Nat) (y3 : Int) (y6 : List Int) (y7 : List Int) : Nat → Int → Option (Lp Unit Bool)
  | 0, _ => none
  | k1 + 1, z1 =>
    if z1 < (y7.length : Int) then
      if z1 = y3 then
        (at? y7 z1).bind fun e1 =>
        if e1 < 0 then
          some (.ret false)
        else
          if 65535 < e1 then
            some (.ret false)
          else
            if in64 (z1 + 1) then
              m_laws_FnCalc_L0 fuel y3 y6 y7 k1 (z1 + 1)
            else none
      else
        (at? y7 z1).bind fun e3 =>
        (at? y6 z1).bind fun e4 =>
        if e3 = e4 then
          if e3 < 0 then
            some (.ret false)
          else
            if 65535 < e3 then
              some (.ret false)
            else
              if in64 (z1 + 1) then
                m_laws_FnCalc_L0 fuel y3 y6 y7 k1 (z1 + 1)
              else none
        else
          some (.ret false)
    else
      some (.brk ())

def m_laws_FnCalc (fuel : Nat) (x0 : List UInt8) : Option Bool :=
  (m_laws_big fuel x0).bind fun y1 =>
  if y1 = true then
    some true
  else
    bind5 (m_spec_DrawCalc fuel x0) fun y2 y3 y4 y5 y6 =>
    bind2 (m_impl_Calc fuel y2 y3 y4 y5 y6) fun y7 y8 =>
    bind2 (m_spec_Calc fuel y2 y3 y4 y5 y6) fun y9 y10 =>
    if (y8 == y10) = true then
      if y8 = true then
        if (y7.length : Int) = (y6.length : Int) then
          (m_laws_FnCalc_L0 fuel y3 y6 y7 fuel 0).bind <| contL <| un1 fun _ =>
          bind2 (m_impl_Calc fuel 2 0 0 1 y6) fun y11 y12 =>
          bind2 (m_impl_Calc fuel 3 0 0 1 y11) fun y13 y14 =>
          if (y7.length : Int) = 4 then
            (m_laws_sameInts fuel y13 y6).bind fun y15 =>
            if y15 = true then
              (m_impl_Touches fuel y2 y3 y4 y5).bind fun y16 =>
              some (decide (y16 = 0))
            else
              some false
          else
            some false
        else
          some false
      else
        (m_laws_sameInts fuel y7 y6).bind fun y17 =>
        if y17 = true then
          some true
        else
          some false
    else
      some false

set_option maxRecDepth 100000 in
set_option maxHeartbeats 4000000 in
theorem w_laws_FnCalc (fuel : Nat) {x0 : List UInt8} {a_x0 : Option Addr} {n_x0 c_x0 : Nat} {r0 : Bool} {w0 : World} (h : m_laws_FnCalc fuel x0 = some r0) (hr_x0 : RdT (fun b => ¬ False) w0 (rowT x0) (.slice a_x0 n_x0 c_x0)) :
    Calls Try.prog 6 #[.slice a_x0 n_x0 c_x0] w0 fun e w => e = .returned (.bool r0) ∧ St w0 (fun _ => False) w [] := by
  obtain rfl := hr_x0.neq
  have HT : St w0 (fun _ => False) w0 [] := St.init0
  rw [m_laws_FnCalc] at h
  refine calls_fr (n := 113) [.slice a_x0 x0.length c_x0] Try.func6 rfl rfl rfl (fun a HF => ?_)
  have HT : St w0 (fun _ => False) w0 [] := HT
  refine wp_seq ?_
  refine wc_text ?_
  refine wc_assign HF nS rfl rfl rfl (fun a HF => ?_)
  refine wc_end ?_
  refine then_n ?_
  refine wp_seq ?_
  refine wp_seq ?_
  refine wc_text ?_
  refine wc_move HF nS rfl rfl rfl (fun a HF => ?_)
  obtain ⟨y1, hx1, h⟩ := obs h
  refine wc_call HF cf26 rfl (w_laws_big fuel hx1 (HT.ro hr_x0).any) rfl rfl ?_
  rintro e w ⟨rfl, hE⟩
  have hb := hE.below
  have HT := HT.pure hE
  have HT : St w0 (fun _ => False) w [] := HT
  refine ⟨_, rfl, nS, fun a HF => ?_⟩
  refine wc_end ?_
  refine then_n ?_
  by_cases hb1 : y1 = true
  · have h := (if_pos hb1).symm.trans h
    refine wp_if (b' := true) HF rfl hb1 ?_
    refine wp_seq ?_
    refine wc_text ?_
    refine wc_assign HF nS rfl rfl rfl (fun a HF => ?_)
    refine wc_end ?_
    refine then_n ?_
    refine wp_ret ?_
    obtain rfl := Option.some.inj h
    refine then_r (?_)
    refine bp_ret HF (res_one rfl HF rfl) ?_
    exact ⟨rfl, HT⟩
  · have h := (if_neg hb1).symm.trans h
    refine wp_if (b' := false) HF rfl (Bool.eq_false_iff.2 hb1) ?_
    refine wp_skip ?_
    refine then_n ?_
    refine wp_seq ?_
    refine wc_text ?_
    refine wc_move HF nS rfl rfl rfl (fun a HF => ?_)
    obtain ⟨y2, y3, y4, y5, y6, hx2, h⟩ := obs5 h
    refine wc_call HF cf27 rfl (w_spec_DrawCalc fuel hx2 (HT.ro hr_x0).any) rfl rfl ?_
    rintro e w ⟨a1, n1, c1, rfl, hE⟩
    have hb := hE.below
    have HT := HT.pure hE
    obtain rfl := (HT.rdAt 0 rfl).neq
    have HT : St w0 (fun _ => False) w [Own 3 (rowT y6) (.slice a1 y6.length c1)] := HT
    refine ⟨_, rfl, nS, fun a HF => ?_⟩
    refine wc_move HF nS rfl rfl rfl (fun a HF => ?_)
    refine wc_extract (v := .agg #[.int .i64 y2, .int .i64 y3, .int .i64 y4, .int .i64 y5]) HF nS rfl rfl rfl rfl (fun a HF => ?_)
    refine wc_extract (v := .slice a1 y6.length c1) HF nS rfl rfl rfl rfl (fun a HF => ?_)
    refine wc_alloc (cs := [.int .i64 0, .int .i64 0, .int .i64 0, .int .i64 0]) HF HT zr25 rfl rfl rfl (fun p1 w HT hb => ⟨nS, fun a HF => ?_⟩)
    refine wc_storeB (cs' := [.int .i64 y2, .int .i64 y3, .int .i64 y4, .int .i64 y5]) HF HT rfl rfl (fun w => (ag25 w).2) rfl rfl rfl rfl rfl (fun w HT => ⟨nS, ?_⟩)
    refine wc_assign HF nS rfl rfl rfl (fun a HF => ?_)
    refine wc_end ?_
    refine then_n ?_
    refine wp_seq ?_
    refine wc_text ?_
    refine wc_loadA (vs := [.int .i64 y2, .int .i64 y3, .int .i64 y4, .int .i64 y5]) HF rfl ag25 rfl ((HT.boxAt 0 rfl).part 0 4) rfl rfl (fun a HF => ?_)
    refine wc_move HF nS rfl rfl rfl (fun a HF => ?_)
    obtain ⟨y7, y8, hx3, h⟩ := obs2 h
    refine wc_call HF cf22 rfl (w_impl_Calc fuel hx3 (HT.rdAt 1 rfl)) rfl rfl ?_
    rintro e w ⟨a2, n2, c2, rfl, hE⟩
    have hb := hE.below
    have HT := HT.pure hE
    obtain rfl := (HT.rdAt 0 rfl).neq
    have HT : St w0 (fun _ => False) w [Own 3 (rowT y7) (.slice a2 y7.length c2), Box p1 [.int .i64 y2, .int .i64 y3, .int .i64 y4, .int .i64 y5], Own 3 (rowT y6) (.slice a1 y6.length c1)] := HT
    refine ⟨_, rfl, nS, fun a HF => ?_⟩
    refine wc_move HF nS rfl rfl rfl (fun a HF => ?_)
    refine wc_extract (v := .slice a2 y7.length c2) HF nS rfl rfl rfl rfl (fun a HF => ?_)
    refine wc_extract (v := .bool y8) HF nS rfl rfl rfl rfl (fun a HF => ?_)
    refine wc_assign HF nS rfl rfl rfl (fun a HF => ?_)
    refine wc_assign HF nS rfl rfl rfl (fun a HF => ?_)
    refine wc_end ?_
    refine then_n ?_
    refine wp_seq ?_
    refine wc_text ?_
    refine wc_loadA (vs := [.int .i64 y2, .int .i64 y3, .int .i64 y4, .int .i64 y5]) HF rfl ag25 rfl ((HT.boxAt 1 rfl).part 0 4) rfl rfl (fun a HF => ?_)
    refine wc_move HF nS rfl rfl rfl (fun a HF => ?_)
    obtain ⟨y9, y10, hx4, h⟩ := obs2 h
    refine wc_call HF cf20 rfl (w_spec_Calc fuel hx4 (HT.rdAt 2 rfl)) rfl rfl ?_
    rintro e w ⟨a3, n3, c3, rfl, hE⟩
    have hb := hE.below
    have HT := HT.pure hE
    obtain rfl := (HT.rdAt 0 rfl).neq
    have HT : St w0 (fun _ => False) w [Own 3 (rowT y9) (.slice a3 y9.length c3), Own 3 (rowT y7) (.slice a2 y7.length c2), Box p1 [.int .i64 y2, .int .i64 y3, .int .i64 y4, .int .i64 y5], Own 3 (rowT y6) (.slice a1 y6.length c1)] := HT
    refine ⟨_, rfl, nS, fun a HF => ?_⟩
    refine wc_move HF nS rfl rfl rfl (fun a HF => ?_)
    refine wc_extract (v := .slice a3 y9.length c3) HF nS rfl rfl rfl rfl (fun a HF => ?_)
    refine wc_extract (v := .bool y10) HF nS rfl rfl rfl rfl (fun a HF => ?_)
    refine wc_assign HF nS rfl rfl rfl (fun a HF => ?_)
    refine wc_assign HF nS rfl rfl rfl (fun a HF => ?_)
    refine wc_end ?_
    refine then_n ?_
    refine wp_seq ?_
    refine wp_seq ?_
    refine wc_text ?_
    refine wc_move HF nS rfl rfl rfl (fun a HF => ?_)
    refine wc_move HF nS rfl rfl rfl (fun a HF => ?_)
    refine wc_bin HF nS rfl rfl (b_bne Try.underlying4) rfl rfl (fun a HF => ?_)
    refine wc_move HF nS rfl rfl rfl (fun a HF => ?_)
    by_cases hb2 : (y8 == y10) = true
    · have h := (if_pos hb2).symm.trans h
      refine wc_move HF nS rfl (HF.wy rfl rfl rfl rfl (notT hb2)) rfl (fun a HF => ?_)
      refine wc_not HF nS rfl (HF.wy rfl rfl rfl rfl (notT hb2)) rfl (fun a HF => ?_)
      refine wc_move HF nS rfl (HF.wy rfl rfl rfl rfl (notT hb2)) rfl (fun a HF => ?_)
      by_cases hb3 : y8 = true
      · have h := (if_pos hb3).symm.trans h
        refine wc_skip HF nS (HF.wn rfl rfl rfl rfl (notT hb3)) rfl (fun a HF => ?_)
        refine wc_skip HF nS (HF.wn rfl rfl rfl rfl (notT hb3)) rfl (fun a HF => ?_)
        refine wc_skip HF nS (HF.wn rfl rfl rfl rfl (notT hb3)) rfl (fun a HF => ?_)
        refine wc_skip HF nS (HF.wn rfl rfl rfl rfl (notT hb3)) rfl (fun a HF => ?_)
        refine wc_pick (b := false) HF nS rfl (notT hb3) rfl (HF.wy rfl rfl rfl rfl (notT hb2)) rfl (fun a HF => ?_)
        refine wc_pick (b := false) HF nS rfl (notT hb2) rfl rfl rfl (fun a HF => ?_)
        refine wc_end ?_
        refine then_n ?_
        refine wp_if (b' := false) HF rfl rfl ?_
        refine wp_skip ?_
        refine then_n ?_
        refine wp_seq ?_
        refine wp_seq ?_
        refine wc_text ?_
        refine wc_move HF nS rfl rfl rfl (fun a HF => ?_)
        refine wc_not HF nS rfl rfl rfl (fun a HF => ?_)
        refine wc_end ?_
        refine then_n ?_
        refine wp_if (b' := false) HF rfl (notT hb3) ?_
        refine wp_skip ?_
        refine then_n ?_
        refine wp_seq ?_
        refine wp_seq ?_
        refine wc_text ?_
        refine wc_move HF nS rfl rfl rfl (fun a HF => ?_)
        refine wc_lenR HF nS Try.underlying29 rfl rfl rfl (fun a HF => ?_)
        refine wc_move HF nS rfl rfl rfl (fun a HF => ?_)
        refine wc_lenR HF nS Try.underlying29 rfl rfl rfl (fun a HF => ?_)
        refine wc_bin HF nS rfl rfl b_ne rfl rfl (fun a HF => ?_)
        refine wc_end ?_
        refine then_n ?_
        by_cases hb4 : (y7.length : Int) = (y6.length : Int)
        · have h := (if_pos hb4).symm.trans h
          refine wp_if (b' := false) HF rfl (notT (decide_eq_true hb4)) ?_
          refine wp_skip ?_
          refine then_n ?_
          obtain ⟨q1, hx5, h⟩ := obs h
          refine wp_cut (fun a w => q1 = .brk () ∧ Fr a 113 [(3, .pointer (some ⟨p1, 0, none⟩)), (4, .slice a1 y6.length c1), (5, .slice a2 y7.length c2)] ∧ St w0 (fun _ => False) w [Box p1 [.int .i64 y2, .int .i64 y3, .int .i64 y4, .int .i64 y5], Own 3 (rowT y6) (.slice a1 y6.length c1), Own 3 (rowT y7) (.slice a2 y7.length c2)]) ?_ ?_
          · have hk1 := h
            have h := hx5
            refine wp_seq ?_
            refine wc_text ?_
            refine wc_assign HF nS rfl rfl rfl (fun a HF => ?_)
            refine wc_end ?_
            refine then_n ?_
            refine wp_block ?_
            have HT : St w0 (fun _ => False) w [Own 3 (rowT y7) (.slice a2 y7.length c2), Own 3 (rowT y9) (.slice a3 y9.length c3), Box p1 [.int .i64 y2, .int .i64 y3, .int .i64 y4, .int .i64 y5], Own 3 (rowT y6) (.slice a1 y6.length c1)] := HT.pick 1
            have HT : St w0 (fun _ => False) w [Own 3 (rowT y6) (.slice a1 y6.length c1), Own 3 (rowT y7) (.slice a2 y7.length c2), Own 3 (rowT y9) (.slice a3 y9.length c3), Box p1 [.int .i64 y2, .int .i64 y3, .int .i64 y4, .int .i64 y5]] := HT.pick 3
            have HT : St w0 (fun _ => False) w [Box p1 [.int .i64 y2, .int .i64 y3, .int .i64 y4, .int .i64 y5], Own 3 (rowT y6) (.slice a1 y6.length c1), Own 3 (rowT y7) (.slice a2 y7.length c2), Own 3 (rowT y9) (.slice a3 y9.length c3)] := HT.pick 3
            have HT : St w0 (fun _ => False) w [Box p1 [.int .i64 y2, .int .i64 y3, .int .i64 y4, .int .i64 y5], Own 3 (rowT y6) (.slice a1 y6.length c1), Own 3 (rowT y7) (.slice a2 y7.length c2)] := HT.take 3
            refine wp_loopN (fun k1 a w => ∃ z1, m_laws_FnCalc_L0 fuel y3 y6 y7 k1 z1 = some q1 ∧ Fr a 113 [(3, .pointer (some ⟨p1, 0, none⟩)), (4, .slice a1 y6.length c1), (5, .slice a2 y7.length c2), (9, .int .i64 z1)] ∧ St w0 (fun _ => False) w [Box p1 [.int .i64 y2, .int .i64 y3, .int .i64 y4, .int .i64 y5], Own 3 (rowT y6) (.slice a1 y6.length c1), Own 3 (rowT y7) (.slice a2 y7.length c2)]) fuel ⟨0, h, (HF.keep (HF.keep (HF.keep (HF.keep HF.nil rfl) rfl) rfl) rfl), HT⟩ ?_
            rintro k1 a w ⟨z1, h, HF, HT⟩
            cases k1 with
            | zero => cases h
            | succ k1 =>
              rw [m_laws_FnCalc_L0] at h
              refine ?_
              refine wp_seq ?_
              refine wp_seq ?_
              refine wc_text ?_
              refine wc_move HF nS rfl rfl rfl (fun a HF => ?_)
              refine wc_move HF nS rfl rfl rfl (fun a HF => ?_)
              refine wc_lenR HF nS Try.underlying29 rfl rfl rfl (fun a HF => ?_)
              refine wc_bin HF nS rfl rfl b_lt rfl rfl (fun a HF => ?_)
              refine wc_end ?_
              refine then_n ?_
              by_cases hb5 : z1 < (y7.length : Int)
              · have h := (if_pos hb5).symm.trans h
                refine wp_if (b' := true) HF rfl (decide_eq_true hb5) ?_
                refine wp_skip ?_
                refine then_n ?_
                refine wp_seq ?_
                refine wp_block ?_
                refine wp_seq ?_
                refine wp_region_can [(0, true), (1, true), (2, true), (3, true), (4, true), (5, true), (6, true), (7, true), (8, true), (9, true), (10, true), (11, true), (12, true), (13, true), (14, true), (15, true), (16, true), (17, true), (18, true), (19, true), (20, true), (21, true), (22, true), (23, true), (24, true), (25, true), (26, true), (27, true), (28, true)] (fun w' => True) (by kernel_rfl) (by kernel_rfl) ?_
                have HT : St w0 (fun _ => False) w.drew [Box p1 [.int .i64 y2, .int .i64 y3, .int .i64 y4, .int .i64 y5], Own 3 (rowT y6) (.slice a1 y6.length c1), Own 3 (rowT y7) (.slice a2 y7.length c2)] := HT.drew
                refine wc_move HF nS rfl rfl rfl (fun a HF => ?_)
                refine wc_faddr HF nS rfl fl25_1 rfl rfl (fun a HF => ?_)
                refine wc_load HF rfl sc3 ((HT.boxAt 0 rfl).get 1 rfl) rfl rfl (fun a HF => ?_)
                refine wc_bin HF nS rfl rfl b_ne rfl rfl (fun a HF => ?_)
                refine wc_move HF nS rfl rfl rfl (fun a HF => ?_)
                by_cases hb6 : z1 = y3
                · have h := (if_pos hb6).symm.trans h
                  refine wc_skip HF nS (HF.wn rfl rfl rfl rfl (notT (decide_eq_true hb6))) rfl (fun a HF => ?_)
                  refine wc_skip HF nS (HF.wn rfl rfl rfl rfl (notT (decide_eq_true hb6))) rfl (fun a HF => ?_)
                  refine wc_skip HF nS (HF.wn rfl rfl rfl rfl (notT (decide_eq_true hb6))) rfl (fun a HF => ?_)
                  refine wc_skip HF nS (HF.wn rfl rfl rfl rfl (notT (decide_eq_true hb6))) rfl (fun a HF => ?_)
                  refine wc_skip HF nS (HF.wn rfl rfl rfl rfl (notT (decide_eq_true hb6))) rfl (fun a HF => ?_)
                  refine wc_skip HF nS (HF.wn rfl rfl rfl rfl (notT (decide_eq_true hb6))) rfl (fun a HF => ?_)
                  refine wc_skip HF nS (HF.wn rfl rfl rfl rfl (notT (decide_eq_true hb6))) rfl (fun a HF => ?_)
                  refine wc_skip HF nS (HF.wn rfl rfl rfl rfl (notT (decide_eq_true hb6))) rfl (fun a HF => ?_)
                  refine wc_skip HF nS (HF.wn rfl rfl rfl rfl (notT (decide_eq_true hb6))) rfl (fun a HF => ?_)
                  refine wc_pick (b := false) HF nS rfl (notT (decide_eq_true hb6)) rfl rfl rfl (fun a HF => ?_)
                  refine wc_move HF nS rfl rfl rfl (fun a HF => ?_)
                  refine wc_move HF nS rfl (HF.wy rfl rfl rfl rfl rfl) rfl (fun a HF => ?_)
                  refine wc_move HF nS rfl (HF.wy rfl rfl rfl rfl rfl) rfl (fun a HF => ?_)
                  obtain ⟨e1, hx6, h⟩ := obs h
                  obtain ⟨b1, o1, ha1⟩ := (HT.rdAt 2 rfl).addr hx6
                  refine wc_ixaddr HF nS el29 rfl ha1 ((HT.rdAt 2 rfl)).neq rfl hx6 (HF.wy rfl rfl rfl rfl rfl) rfl (fun a HF => ?_)
                  have hc1 := (HT.rdAt 2 rfl).flatAt ha1 hx6
                  refine wc_load HF rfl sc3 (hc1.get 0 rfl) (HF.wy rfl rfl rfl rfl rfl) rfl (fun a HF => ?_)
                  refine wc_bin HF nS rfl rfl b_lt (HF.wy rfl rfl rfl rfl rfl) rfl (fun a HF => ?_)
                  refine wc_pick (b := false) HF nS rfl rfl rfl rfl rfl (fun a HF => ?_)
                  refine wc_move HF nS rfl rfl rfl (fun a HF => ?_)
                  by_cases hb7 : e1 < 0
                  · have h := (if_pos hb7).symm.trans h
                    refine wc_skip HF nS (HF.wn rfl rfl rfl rfl (decide_eq_true hb7)) rfl (fun a HF => ?_)
                    refine wc_skip HF nS (HF.wn rfl rfl rfl rfl (decide_eq_true hb7)) rfl (fun a HF => ?_)
                    refine wc_skip HF nS (HF.wn rfl rfl rfl rfl (decide_eq_true hb7)) rfl (fun a HF => ?_)
                    refine wc_skip HF nS (HF.wn rfl rfl rfl rfl (decide_eq_true hb7)) rfl (fun a HF => ?_)
                    refine wc_skip HF nS (HF.wn rfl rfl rfl rfl (decide_eq_true hb7)) rfl (fun a HF => ?_)
                    refine wc_pick (b := true) HF nS rfl (decide_eq_true hb7) rfl rfl rfl (fun a HF => ?_)
                    refine wc_endN ?_
                    refine then_n ?_
                    refine wp_if (b' := true) HF rfl rfl ?_
                    refine wp_seq ?_
                    refine wc_text ?_
                    refine wc_assign HF nS rfl rfl rfl (fun a HF => ?_)
                    refine wc_end ?_
                    refine then_n ?_
                    refine wp_ret ?_
                    obtain rfl := Option.some.inj h
                    have h := retL hk1
                    obtain rfl := Option.some.inj h
                    refine blk_r (then_r (then_r (blk_r (then_r (?_)))))
                    refine bp_ret HF (res_one rfl HF rfl) ?_
                    have HT : St w0 (fun _ => False) w.drew [] := HT.take 0
                    exact ⟨rfl, HT⟩
                  · have h := (if_neg hb7).symm.trans h
                    refine wc_move HF nS rfl (HF.wy rfl rfl rfl rfl (decide_eq_false hb7)) rfl (fun a HF => ?_)
                    refine wc_move HF nS rfl (HF.wy rfl rfl rfl rfl (decide_eq_false hb7)) rfl (fun a HF => ?_)
                    refine wc_ixaddr HF nS el29 rfl ha1 ((HT.rdAt 2 rfl)).neq rfl hx6 (HF.wy rfl rfl rfl rfl (decide_eq_false hb7)) rfl (fun a HF => ?_)
                    have hc2 := (HT.rdAt 2 rfl).flatAt ha1 hx6
                    refine wc_load HF rfl sc3 (hc2.get 0 rfl) (HF.wy rfl rfl rfl rfl (decide_eq_false hb7)) rfl (fun a HF => ?_)
                    refine wc_bin HF nS rfl rfl b_gt (HF.wy rfl rfl rfl rfl (decide_eq_false hb7)) rfl (fun a HF => ?_)
                    refine wc_pick (b := false) HF nS rfl (decide_eq_false hb7) rfl rfl rfl (fun a HF => ?_)
                    refine wc_endN ?_
                    refine then_n ?_
                    by_cases hb8 : 65535 < e1
                    · have h := (if_pos hb8).symm.trans h
                      refine wp_if (b' := true) HF rfl (decide_eq_true hb8) ?_
                      refine wp_seq ?_
                      refine wc_text ?_
                      refine wc_assign HF nS rfl rfl rfl (fun a HF => ?_)
                      refine wc_end ?_
                      refine then_n ?_
                      refine wp_ret ?_
                      obtain rfl := Option.some.inj h
                      have h := retL hk1
                      obtain rfl := Option.some.inj h
                      refine blk_r (then_r (then_r (blk_r (then_r (?_)))))
                      refine bp_ret HF (res_one rfl HF rfl) ?_
                      have HT : St w0 (fun _ => False) w.drew [] := HT.take 0
                      exact ⟨rfl, HT⟩
                    · have h := (if_neg hb8).symm.trans h
                      refine wp_if (b' := false) HF rfl (decide_eq_false hb8) ?_
                      refine wp_skip ?_
                      refine blk_n ?_
                      refine then_n ?_
                      refine wc_text ?_
                      refine wc_move HF nS rfl rfl rfl (fun a HF => ?_)
                      obtain ⟨hg1, h⟩ := grd h
                      refine wc_bin HF nS rfl rfl (b_add hg1) rfl rfl (fun a HF => ?_)
                      refine wc_assign HF nS rfl rfl rfl (fun a HF => ?_)
                      refine wc_end ?_
                      exact then_n ⟨k1, Nat.lt_succ_self k1, z1 + 1, h, (HF.keep (HF.keep (HF.keep (HF.keep HF.nil rfl) rfl) rfl) rfl), HT⟩
                · have h := (if_neg hb6).symm.trans h
                  refine wc_move HF nS rfl (HF.wy rfl rfl rfl rfl (notF (decide_eq_false hb6))) rfl (fun a HF => ?_)
                  refine wc_move HF nS rfl (HF.wy rfl rfl rfl rfl (notF (decide_eq_false hb6))) rfl (fun a HF => ?_)
                  obtain ⟨e3, hx7, h⟩ := obs h
                  obtain ⟨b2, o2, ha2⟩ := (HT.rdAt 2 rfl).addr hx7
                  refine wc_ixaddr HF nS el29 rfl ha2 ((HT.rdAt 2 rfl)).neq rfl hx7 (HF.wy rfl rfl rfl rfl (notF (decide_eq_false hb6))) rfl (fun a HF => ?_)
                  have hc3 := (HT.rdAt 2 rfl).flatAt ha2 hx7
                  refine wc_load HF rfl sc3 (hc3.get 0 rfl) (HF.wy rfl rfl rfl rfl (notF (decide_eq_false hb6))) rfl (fun a HF => ?_)
                  refine wc_move HF nS rfl (HF.wy rfl rfl rfl rfl (notF (decide_eq_false hb6))) rfl (fun a HF => ?_)
                  refine wc_move HF nS rfl (HF.wy rfl rfl rfl rfl (notF (decide_eq_false hb6))) rfl (fun a HF => ?_)
                  obtain ⟨e4, hx8, h⟩ := obs h
                  obtain ⟨b3, o3, ha3⟩ := (HT.rdAt 1 rfl).addr hx8
                  refine wc_ixaddr HF nS el29 rfl ha3 ((HT.rdAt 1 rfl)).neq rfl hx8 (HF.wy rfl rfl rfl rfl (notF (decide_eq_false hb6))) rfl (fun a HF => ?_)
                  have hc4 := (HT.rdAt 1 rfl).flatAt ha3 hx8
                  refine wc_load HF rfl sc3 (hc4.get 0 rfl) (HF.wy rfl rfl rfl rfl (notF (decide_eq_false hb6))) rfl (fun a HF => ?_)
                  refine wc_bin HF nS rfl rfl b_ne (HF.wy rfl rfl rfl rfl (notF (decide_eq_false hb6))) rfl (fun a HF => ?_)
                  refine wc_pick (b := true) HF nS rfl (notF (decide_eq_false hb6)) rfl rfl rfl (fun a HF => ?_)
                  refine wc_move HF nS rfl rfl rfl (fun a HF => ?_)
                  by_cases hb9 : e3 = e4
                  · have h := (if_pos hb9).symm.trans h
                    refine wc_move HF nS rfl (HF.wy rfl rfl rfl rfl (notT (decide_eq_true hb9))) rfl (fun a HF => ?_)
                    refine wc_move HF nS rfl (HF.wy rfl rfl rfl rfl (notT (decide_eq_true hb9))) rfl (fun a HF => ?_)
                    refine wc_ixaddr HF nS el29 rfl ha2 ((HT.rdAt 2 rfl)).neq rfl hx7 (HF.wy rfl rfl rfl rfl (notT (decide_eq_true hb9))) rfl (fun a HF => ?_)
                    have hc5 := (HT.rdAt 2 rfl).flatAt ha2 hx7
                    refine wc_load HF rfl sc3 (hc5.get 0 rfl) (HF.wy rfl rfl rfl rfl (notT (decide_eq_true hb9))) rfl (fun a HF => ?_)
                    refine wc_bin HF nS rfl rfl b_lt (HF.wy rfl rfl rfl rfl (notT (decide_eq_true hb9))) rfl (fun a HF => ?_)
                    refine wc_pick (b := false) HF nS rfl (notT (decide_eq_true hb9)) rfl rfl rfl (fun a HF => ?_)
                    refine wc_move HF nS rfl rfl rfl (fun a HF => ?_)
                    by_cases hb10 : e3 < 0
                    · have h := (if_pos hb10).symm.trans h
                      refine wc_skip HF nS (HF.wn rfl rfl rfl rfl (decide_eq_true hb10)) rfl (fun a HF => ?_)
                      refine wc_skip HF nS (HF.wn rfl rfl rfl rfl (decide_eq_true hb10)) rfl (fun a HF => ?_)
                      refine wc_skip HF nS (HF.wn rfl rfl rfl rfl (decide_eq_true hb10)) rfl (fun a HF => ?_)
                      refine wc_skip HF nS (HF.wn rfl rfl rfl rfl (decide_eq_true hb10)) rfl (fun a HF => ?_)
                      refine wc_skip HF nS (HF.wn rfl rfl rfl rfl (decide_eq_true hb10)) rfl (fun a HF => ?_)
                      refine wc_pick (b := true) HF nS rfl (decide_eq_true hb10) rfl rfl rfl (fun a HF => ?_)
                      refine wc_endN ?_
                      refine then_n ?_
                      refine wp_if (b' := true) HF rfl rfl ?_
                      refine wp_seq ?_
                      refine wc_text ?_
                      refine wc_assign HF nS rfl rfl rfl (fun a HF => ?_)
                      refine wc_end ?_
                      refine then_n ?_
                      refine wp_ret ?_
                      obtain rfl := Option.some.inj h
                      have h := retL hk1
                      obtain rfl := Option.some.inj h
                      refine blk_r (then_r (then_r (blk_r (then_r (?_)))))
                      refine bp_ret HF (res_one rfl HF rfl) ?_
                      have HT : St w0 (fun _ => False) w.drew [] := HT.take 0
                      exact ⟨rfl, HT⟩
                    · have h := (if_neg hb10).symm.trans h
                      refine wc_move HF nS rfl (HF.wy rfl rfl rfl rfl (decide_eq_false hb10)) rfl (fun a HF => ?_)
                      refine wc_move HF nS rfl (HF.wy rfl rfl rfl rfl (decide_eq_false hb10)) rfl (fun a HF => ?_)
                      refine wc_ixaddr HF nS el29 rfl ha2 ((HT.rdAt 2 rfl)).neq rfl hx7 (HF.wy rfl rfl rfl rfl (decide_eq_false hb10)) rfl (fun a HF => ?_)
                      have hc6 := (HT.rdAt 2 rfl).flatAt ha2 hx7
                      refine wc_load HF rfl sc3 (hc6.get 0 rfl) (HF.wy rfl rfl rfl rfl (decide_eq_false hb10)) rfl (fun a HF => ?_)
                      refine wc_bin HF nS rfl rfl b_gt (HF.wy rfl rfl rfl rfl (decide_eq_false hb10)) rfl (fun a HF => ?_)
                      refine wc_pick (b := false) HF nS rfl (decide_eq_false hb10) rfl rfl rfl (fun a HF => ?_)
                      refine wc_endN ?_
                      refine then_n ?_
                      by_cases hb11 : 65535 < e3
                      · have h := (if_pos hb11).symm.trans h
                        refine wp_if (b' := true) HF rfl (decide_eq_true hb11) ?_
                        refine wp_seq ?_
                        refine wc_text ?_
                        refine wc_assign HF nS rfl rfl rfl (fun a HF => ?_)
                        refine wc_end ?_
                        refine then_n ?_
                        refine wp_ret ?_
                        obtain rfl := Option.some.inj h
                        have h := retL hk1
                        obtain rfl := Option.some.inj h
                        refine blk_r (then_r (then_r (blk_r (then_r (?_)))))
                        refine bp_ret HF (res_one rfl HF rfl) ?_
                        have HT : St w0 (fun _ => False) w.drew [] := HT.take 0
                        exact ⟨rfl, HT⟩
                      · have h := (if_neg hb11).symm.trans h
                        refine wp_if (b' := false) HF rfl (decide_eq_false hb11) ?_
                        refine wp_skip ?_
                        refine blk_n ?_
                        refine then_n ?_
                        refine wc_text ?_
                        refine wc_move HF nS rfl rfl rfl (fun a HF => ?_)
                        obtain ⟨hg2, h⟩ := grd h
                        refine wc_bin HF nS rfl rfl (b_add hg2) rfl rfl (fun a HF => ?_)
                        refine wc_assign HF nS rfl rfl rfl (fun a HF => ?_)
                        refine wc_end ?_
                        exact then_n ⟨k1, Nat.lt_succ_self k1, z1 + 1, h, (HF.keep (HF.keep (HF.keep (HF.keep HF.nil rfl) rfl) rfl) rfl), HT⟩
                  · have h := (if_neg hb9).symm.trans h
                    refine wc_skip HF nS (HF.wn rfl rfl rfl rfl (notF (decide_eq_false hb9))) rfl (fun a HF => ?_)
                    refine wc_skip HF nS (HF.wn rfl rfl rfl rfl (notF (decide_eq_false hb9))) rfl (fun a HF => ?_)
                    refine wc_skip HF nS (HF.wn rfl rfl rfl rfl (notF (decide_eq_false hb9))) rfl (fun a HF => ?_)
                    refine wc_skip HF nS (HF.wn rfl rfl rfl rfl (notF (decide_eq_false hb9))) rfl (fun a HF => ?_)
                    refine wc_skip HF nS (HF.wn rfl rfl rfl rfl (notF (decide_eq_false hb9))) rfl (fun a HF => ?_)
                    refine wc_pick (b := true) HF nS rfl (notF (decide_eq_false hb9)) rfl rfl rfl (fun a HF => ?_)
                    refine wc_move HF nS rfl rfl rfl (fun a HF => ?_)
                    refine wc_skip HF nS (HF.wn rfl rfl rfl rfl rfl) rfl (fun a HF => ?_)
                    refine wc_skip HF nS (HF.wn rfl rfl rfl rfl rfl) rfl (fun a HF => ?_)
                    refine wc_skip HF nS (HF.wn rfl rfl rfl rfl rfl) rfl (fun a HF => ?_)
                    refine wc_skip HF nS (HF.wn rfl rfl rfl rfl rfl) rfl (fun a HF => ?_)
                    refine wc_skip HF nS (HF.wn rfl rfl rfl rfl rfl) rfl (fun a HF => ?_)
                    refine wc_pick (b := true) HF nS rfl rfl rfl rfl rfl (fun a HF => ?_)
                    refine wc_endN ?_
                    refine then_n ?_
                    refine wp_if (b' := true) HF rfl rfl ?_
                    refine wp_seq ?_
                    refine wc_text ?_
                    refine wc_assign HF nS rfl rfl rfl (fun a HF => ?_)
                    refine wc_end ?_
                    refine then_n ?_
                    refine wp_ret ?_
                    obtain rfl := Option.some.inj h
                    have h := retL hk1
                    obtain rfl := Option.some.inj h
                    refine blk_r (then_r (then_r (blk_r (then_r (?_)))))
                    refine bp_ret HF (res_one rfl HF rfl) ?_
                    have HT : St w0 (fun _ => False) w.drew [] := HT.take 0
                    exact ⟨rfl, HT⟩
              · have h := (if_neg hb5).symm.trans h
                refine wp_if (b' := false) HF rfl (decide_eq_false hb5) ?_
                refine wp_exit ?_
                refine then_x (then_x (?_))
                refine blk_x ?_
                exact then_n ⟨(Option.some.inj h).symm, (HF.keep (HF.keep (HF.keep HF.nil rfl) rfl) rfl), HT⟩
          · rintro a w ⟨rfl, HF, HT⟩
            have h := brkL1u h
            refine ?_
            refine wp_seq ?_
            refine wc_text ?_
            refine wc_build (cs := #[.int .i64 2, .int .i64 0, .int .i64 0, .int .i64 1]) HF nS bd25 rfl rfl rfl rfl (fun a HF => ?_)
            refine wc_move HF nS rfl rfl rfl (fun a HF => ?_)
            obtain ⟨y11, y12, hx9, h⟩ := obs2 h
            refine wc_call HF cf22 rfl (w_impl_Calc fuel hx9 (HT.rdAt 1 rfl)) rfl rfl ?_
            rintro e w ⟨a4, n4, c4, rfl, hE⟩
            have hb := hE.below
            have HT := HT.pure hE
            obtain rfl := (HT.rdAt 0 rfl).neq
            have HT : St w0 (fun _ => False) w [Own 3 (rowT y11) (.slice a4 y11.length c4), Box p1 [.int .i64 y2, .int .i64 y3, .int .i64 y4, .int .i64 y5], Own 3 (rowT y6) (.slice a1 y6.length c1), Own 3 (rowT y7) (.slice a2 y7.length c2)] := HT
            refine ⟨_, rfl, nS, fun a HF => ?_⟩
            refine wc_move HF nS rfl rfl rfl (fun a HF => ?_)
            refine wc_extract (v := .slice a4 y11.length c4) HF nS rfl rfl rfl rfl (fun a HF => ?_)
            refine wc_extract (v := .bool y12) HF nS rfl rfl rfl rfl (fun a HF => ?_)
            refine wc_assign HF nS rfl rfl rfl (fun a HF => ?_)
            refine wc_assign HF nS rfl rfl rfl (fun a HF => ?_)
            refine wc_end ?_
            refine then_n ?_
            refine wp_seq ?_
            refine wc_text ?_
            refine wc_build (cs := #[.int .i64 3, .int .i64 0, .int .i64 0, .int .i64 1]) HF nS bd25 rfl rfl rfl rfl (fun a HF => ?_)
            refine wc_move HF nS rfl rfl rfl (fun a HF => ?_)
            obtain ⟨y13, y14, hx10, h⟩ := obs2 h
            refine wc_call HF cf22 rfl (w_impl_Calc fuel hx10 (HT.rdAt 0 rfl)) rfl rfl ?_
            rintro e w ⟨a5, n5, c5, rfl, hE⟩
            have hb := hE.below
            have HT := HT.pure hE
            obtain rfl := (HT.rdAt 0 rfl).neq
            have HT : St w0 (fun _ => False) w [Own 3 (rowT y13) (.slice a5 y13.length c5), Own 3 (rowT y11) (.slice a4 y11.length c4), Box p1 [.int .i64 y2, .int .i64 y3, .int .i64 y4, .int .i64 y5], Own 3 (rowT y6) (.slice a1 y6.length c1), Own 3 (rowT y7) (.slice a2 y7.length c2)] := HT
            refine ⟨_, rfl, nS, fun a HF => ?_⟩
            refine wc_move HF nS rfl rfl rfl (fun a HF => ?_)
            refine wc_extract (v := .slice a5 y13.length c5) HF nS rfl rfl rfl rfl (fun a HF => ?_)
            refine wc_extract (v := .bool y14) HF nS rfl rfl rfl rfl (fun a HF => ?_)
            refine wc_assign HF nS rfl rfl rfl (fun a HF => ?_)
            refine wc_assign HF nS rfl rfl rfl (fun a HF => ?_)
            refine wc_end ?_
            refine then_n ?_
            refine wp_seq ?_
            refine wc_text ?_
            refine wc_move HF nS rfl rfl rfl (fun a HF => ?_)
            refine wc_lenR HF nS Try.underlying29 rfl rfl rfl (fun a HF => ?_)
            refine wc_bin HF nS rfl rfl b_eq rfl rfl (fun a HF => ?_)
            refine wc_move HF nS rfl rfl rfl (fun a HF => ?_)
            by_cases hb12 : (y7.length : Int) = 4
            · have h := (if_pos hb12).symm.trans h
              refine wc_move HF nS rfl (HF.wy rfl rfl rfl rfl (decide_eq_true hb12)) rfl (fun a HF => ?_)
              refine wc_move HF nS rfl (HF.wy rfl rfl rfl rfl (decide_eq_true hb12)) rfl (fun a HF => ?_)
              obtain ⟨y15, hx11, h⟩ := obs h
              refine wc_call HF cf28 rfl (w_laws_sameInts fuel hx11 (HT.rdAt 0 rfl) (HT.rdAt 3 rfl)) (HF.wy rfl rfl rfl rfl (decide_eq_true hb12)) rfl ?_
              rintro e w ⟨rfl, hE⟩
              have hb := hE.below
              have HT := HT.pure hE
              have HT : St w0 (fun _ => False) w [Own 3 (rowT y13) (.slice a5 y13.length c5), Own 3 (rowT y11) (.slice a4 y11.length c4), Box p1 [.int .i64 y2, .int .i64 y3, .int .i64 y4, .int .i64 y5], Own 3 (rowT y6) (.slice a1 y6.length c1), Own 3 (rowT y7) (.slice a2 y7.length c2)] := HT
              refine ⟨_, rfl, nS, fun a HF => ?_⟩
              refine wc_pick (b := true) HF nS rfl (decide_eq_true hb12) rfl rfl rfl (fun a HF => ?_)
              refine wc_move HF nS rfl rfl rfl (fun a HF => ?_)
              by_cases hb13 : y15 = true
              · have h := (if_pos hb13).symm.trans h
                refine wc_loadA (vs := [.int .i64 y2, .int .i64 y3, .int .i64 y4, .int .i64 y5]) HF rfl ag25 rfl ((HT.boxAt 2 rfl).part 0 4) (HF.wy rfl rfl rfl rfl hb13) rfl (fun a HF => ?_)
                obtain ⟨y16, hx12, h⟩ := obs h
                refine wc_call HF cf19 rfl (w_impl_Touches fuel hx12) (HF.wy rfl rfl rfl rfl hb13) rfl ?_
                rintro e w ⟨rfl, hE⟩
                have hb := hE.below
                have HT := HT.pure hE
                have HT : St w0 (fun _ => False) w [Own 3 (rowT y13) (.slice a5 y13.length c5), Own 3 (rowT y11) (.slice a4 y11.length c4), Box p1 [.int .i64 y2, .int .i64 y3, .int .i64 y4, .int .i64 y5], Own 3 (rowT y6) (.slice a1 y6.length c1), Own 3 (rowT y7) (.slice a2 y7.length c2)] := HT
                refine ⟨_, rfl, nS, fun a HF => ?_⟩
                refine wc_bin HF nS rfl rfl b_eq (HF.wy rfl rfl rfl rfl hb13) rfl (fun a HF => ?_)
                refine wc_pick (b := true) HF nS rfl hb13 rfl rfl rfl (fun a HF => ?_)
                refine wc_assign HF nS rfl rfl rfl (fun a HF => ?_)
                refine wc_end ?_
                refine then_n ?_
                refine wp_ret ?_
                obtain rfl := Option.some.inj h
                refine bp_ret HF (res_one rfl HF rfl) ?_
                have HT : St w0 (fun _ => False) w [] := HT.take 0
                exact ⟨rfl, HT⟩
              · have h := (if_neg hb13).symm.trans h
                refine wc_skip HF nS (HF.wn rfl rfl rfl rfl (Bool.eq_false_iff.2 hb13)) rfl (fun a HF => ?_)
                refine wc_skip HF nS (HF.wn rfl rfl rfl rfl (Bool.eq_false_iff.2 hb13)) rfl (fun a HF => ?_)
                refine wc_skip HF nS (HF.wn rfl rfl rfl rfl (Bool.eq_false_iff.2 hb13)) rfl (fun a HF => ?_)
                refine wc_pick (b := false) HF nS rfl (Bool.eq_false_iff.2 hb13) rfl rfl rfl (fun a HF => ?_)
                refine wc_assign HF nS rfl rfl rfl (fun a HF => ?_)
                refine wc_end ?_
                refine then_n ?_
                refine wp_ret ?_
                obtain rfl := Option.some.inj h
                refine bp_ret HF (res_one rfl HF rfl) ?_
                have HT : St w0 (fun _ => False) w [] := HT.take 0
                exact ⟨rfl, HT⟩
            · have h := (if_neg hb12).symm.trans h
              refine wc_skip HF nS (HF.wn rfl rfl rfl rfl (decide_eq_false hb12)) rfl (fun a HF => ?_)
              refine wc_skip HF nS (HF.wn rfl rfl rfl rfl (decide_eq_false hb12)) rfl (fun a HF => ?_)
              refine wc_skip HF nS (HF.wn rfl rfl rfl rfl (decide_eq_false hb12)) rfl (fun a HF => ?_)
              refine wc_pick (b := false) HF nS rfl (decide_eq_false hb12) rfl rfl rfl (fun a HF => ?_)
              refine wc_move HF nS rfl rfl rfl (fun a HF => ?_)
              refine wc_skip HF nS (HF.wn rfl rfl rfl rfl rfl) rfl (fun a HF => ?_)
              refine wc_skip HF nS (HF.wn rfl rfl rfl rfl rfl) rfl (fun a HF => ?_)
              refine wc_skip HF nS (HF.wn rfl rfl rfl rfl rfl) rfl (fun a HF => ?_)
              refine wc_pick (b := false) HF nS rfl rfl rfl rfl rfl (fun a HF => ?_)
              refine wc_assign HF nS rfl rfl rfl (fun a HF => ?_)
              refine wc_end ?_
              refine then_n ?_
              refine wp_ret ?_
              obtain rfl := Option.some.inj h
              refine bp_ret HF (res_one rfl HF rfl) ?_
              have HT : St w0 (fun _ => False) w [] := HT.take 0
              exact ⟨rfl, HT⟩
        · have h := (if_neg hb4).symm.trans h
          refine wp_if (b' := true) HF rfl (notF (decide_eq_false hb4)) ?_
          refine wp_seq ?_
          refine wc_text ?_
          refine wc_assign HF nS rfl rfl rfl (fun a HF => ?_)
          refine wc_end ?_
          refine then_n ?_
          refine wp_ret ?_
          obtain rfl := Option.some.inj h
          refine then_r (?_)
          refine bp_ret HF (res_one rfl HF rfl) ?_
          have HT : St w0 (fun _ => False) w [] := HT.take 0
          exact ⟨rfl, HT⟩
      · have h := (if_neg hb3).symm.trans h
        refine wc_move HF nS rfl (HF.wy rfl rfl rfl rfl (notF (Bool.eq_false_iff.2 hb3))) rfl (fun a HF => ?_)
        refine wc_move HF nS rfl (HF.wy rfl rfl rfl rfl (notF (Bool.eq_false_iff.2 hb3))) rfl (fun a HF => ?_)
        obtain ⟨y17, hx13, h⟩ := obs h
        refine wc_call HF cf28 rfl (w_laws_sameInts fuel hx13 (HT.rdAt 1 rfl) (HT.rdAt 3 rfl)) (HF.wy rfl rfl rfl rfl (notF (Bool.eq_false_iff.2 hb3))) rfl ?_
        rintro e w ⟨rfl, hE⟩
        have hb := hE.below
        have HT := HT.pure hE
        have HT : St w0 (fun _ => False) w [Own 3 (rowT y9) (.slice a3 y9.length c3), Own 3 (rowT y7) (.slice a2 y7.length c2), Box p1 [.int .i64 y2, .int .i64 y3, .int .i64 y4, .int .i64 y5], Own 3 (rowT y6) (.slice a1 y6.length c1)] := HT
        refine ⟨_, rfl, nS, fun a HF => ?_⟩
        refine wc_not HF nS rfl (HF.wy rfl rfl rfl rfl (notF (Bool.eq_false_iff.2 hb3))) rfl (fun a HF => ?_)
        refine wc_pick (b := true) HF nS rfl (notF (Bool.eq_false_iff.2 hb3)) rfl (HF.wy rfl rfl rfl rfl (notT hb2)) rfl (fun a HF => ?_)
        refine wc_pick (b := false) HF nS rfl (notT hb2) rfl rfl rfl (fun a HF => ?_)
        refine wc_end ?_
        refine then_n ?_
        by_cases hb14 : y17 = true
        · have h := (if_pos hb14).symm.trans h
          refine wp_if (b' := false) HF rfl (notT hb14) ?_
          refine wp_skip ?_
          refine then_n ?_
          refine wp_seq ?_
          refine wp_seq ?_
          refine wc_text ?_
          refine wc_move HF nS rfl rfl rfl (fun a HF => ?_)
          refine wc_not HF nS rfl rfl rfl (fun a HF => ?_)
          refine wc_end ?_
          refine then_n ?_
          refine wp_if (b' := true) HF rfl (notF (Bool.eq_false_iff.2 hb3)) ?_
          refine wp_seq ?_
          refine wc_text ?_
          refine wc_assign HF nS rfl rfl rfl (fun a HF => ?_)
          refine wc_end ?_
          refine then_n ?_
          refine wp_ret ?_
          obtain rfl := Option.some.inj h
          refine then_r (?_)
          refine bp_ret HF (res_one rfl HF rfl) ?_
          have HT : St w0 (fun _ => False) w [] := HT.take 0
          exact ⟨rfl, HT⟩
        · have h := (if_neg hb14).symm.trans h
          refine wp_if (b' := true) HF rfl (notF (Bool.eq_false_iff.2 hb14)) ?_
          refine wp_seq ?_
          refine wc_text ?_
          refine wc_assign HF nS rfl rfl rfl (fun a HF => ?_)
          refine wc_end ?_
          refine then_n ?_
          refine wp_ret ?_
          obtain rfl := Option.some.inj h
          refine then_r (?_)
          refine bp_ret HF (res_one rfl HF rfl) ?_
          have HT : St w0 (fun _ => False) w [] := HT.take 0
          exact ⟨rfl, HT⟩
    · have h := (if_neg hb2).symm.trans h
      refine wc_skip HF nS (HF.wn rfl rfl rfl rfl (notF (Bool.eq_false_iff.2 hb2))) rfl (fun a HF => ?_)
      refine wc_skip HF nS (HF.wn rfl rfl rfl rfl (notF (Bool.eq_false_iff.2 hb2))) rfl (fun a HF => ?_)
      refine wc_skip HF nS (HF.wn rfl rfl rfl rfl (notF (Bool.eq_false_iff.2 hb2))) rfl (fun a HF => ?_)
      refine wc_skip HF nS (HF.unwanted rfl rfl rfl rfl) rfl (fun a HF => ?_)
      refine wc_skip HF nS (HF.unwanted rfl rfl rfl rfl) rfl (fun a HF => ?_)
      refine wc_skip HF nS (HF.unwanted rfl rfl rfl rfl) rfl (fun a HF => ?_)
      refine wc_skip HF nS (HF.unwanted rfl rfl rfl rfl) rfl (fun a HF => ?_)
      refine wc_skip HF nS (HF.wn rfl rfl rfl rfl (notF (Bool.eq_false_iff.2 hb2))) rfl (fun a HF => ?_)
      refine wc_pick (b := true) HF nS rfl (notF (Bool.eq_false_iff.2 hb2)) rfl rfl rfl (fun a HF => ?_)
      refine wc_end ?_
      refine then_n ?_
      refine wp_if (b' := true) HF rfl rfl ?_
      refine wp_seq ?_
      refine wc_text ?_
      refine wc_assign HF nS rfl rfl rfl (fun a HF => ?_)
      refine wc_end ?_
      refine then_n ?_
      refine wp_ret ?_
      obtain rfl := Option.some.inj h
      refine then_r (?_)
      refine bp_ret HF (res_one rfl HF rfl) ?_
      have HT : St w0 (fun _ => False) w [] := HT.take 0
      exact ⟨rfl, HT⟩
end Go.Proofs.Ytinlleepikjopaa
