/- Walks of functions, by program: spec.CodeOk, spec.l6Lines, spec.ReadCode, laws.FnExactReadCode, impl.HasFork$1, slices.IndexFunc[[]impl.Op,impl.Op]@102, slices.ContainsFunc[[]impl.Op,impl.Op]@102, impl.HasFork, impl.Touches, impl.KidOk, impl.ProgOk, impl.ReadProg, laws.eqKid, laws.eqKidS, laws.eqProg, laws.heldKidS, laws.heldProg, laws.markKidS, laws.markProg, spec.HasFork, spec.Touches, spec.KidOk, spec.ProgOk. -/
import Derived.Test.YtpbfppelmgjfpaaTy
import Derived.Test.YtpbfppelmgjfpaaG2
namespace Go.Proofs.Ytpbfppelmgjfpaa
open Go Go.RowKit
set_option linter.unusedVariables false
set_option linter.unusedSimpArgs false
def m_spec_CodeOk_L0 (fuel : Nat) (x0 : List I4) : Nat → Int → Int → Int → Option (Lp Int Bool)
  | 0, _, _, _ => none
  | k1 + 1, z2, z3, z4 =>
    if z4 < (x0.length : Int) then
      (
        (at? x0 z4).bind fun e1 =>
        (m_spec_OpOk fuel e1.a e1.b e1.c e1.d).bind fun y1 =>
        if y1 = true then
          (
            if e1.a = 8 then
              if in64 (z2 + 1) then
                some (.brk (z2 + 1, z3))
              else none
            else
            if e1.a = 9 then
              if in64 (z2 - 1) then
                some (.brk (z2 - 1, z3))
              else none
            else
            if e1.a = 7 then
              (m_spec_l5Skip fuel x0 z4).bind fun y2 =>
              if y2 = true then
                some (.brk (z2, z3))
              else
              some (.ret false)
            else
            if e1.a = 11 then
              if in64 (z3 + 1) then
                if 0 < z2 then
                  some (.ret false)
                else
                if 1 < (z3 + 1) then
                  some (.ret false)
                else
                some (.brk (z2, z3 + 1))
              else none
            else
            some (.brk (z2, z3))).bind <| contM <| un2 fun z7 z8 =>
          if z7 < 0 then
            some (.ret false)
          else
          some (.brk (z7, z8))
        else
        some (.ret false)).bind <| contM <| un2 fun z5 z6 =>
      if in64 (z4 + 1) then
        m_spec_CodeOk_L0 fuel x0 k1 z5 z6 (z4 + 1)
      else none
    else
    some (.brk z2)

def m_spec_CodeOk (fuel : Nat) (x0 : List I4) : Option Bool :=
  if 24 < (x0.length : Int) then
    some false
  else
  (m_spec_CodeOk_L0 fuel x0 fuel 0 0 0).bind <| contL <| un1 fun z1 =>
  some (decide (z1 = 0))

set_option maxRecDepth 100000 in
set_option maxHeartbeats 4000000 in
theorem w_spec_CodeOk (fuel : Nat) {x0 : List I4} {a_x0 : Option Addr} {n_x0 c_x0 : Nat} {r0 : Bool} {w0 : World} (h : m_spec_CodeOk fuel x0 = some r0) (hr_x0 : RdT (fun b => ¬ False) w0 (rowT x0) (.slice a_x0 n_x0 c_x0)) :
    Calls Try.prog 52 #[.slice a_x0 n_x0 c_x0] w0 fun e w => e = .returned (.bool r0) ∧ St w0 (fun _ => False) w [] := by
  obtain rfl := hr_x0.neq
  have HT : St w0 (fun _ => False) w0 [] := St.init0
  rw [m_spec_CodeOk] at h
  refine calls_fr (n := 54) [.slice a_x0 x0.length c_x0] Try.func52 rfl rfl rfl (fun a HF => ?_)
  have HT : St w0 (fun _ => False) w0 [] := HT
  refine wp_seq ?_
  refine wc_text ?_
  refine wc_assign HF nS rfl rfl rfl (fun a HF => ?_)
  refine wc_end ?_
  refine then_n ?_
  refine wp_seq ?_
  refine wp_seq ?_
  refine wc_text ?_
  refine wc_move HF nS rfl rfl rfl (fun a HF => ?_)
  refine wc_lenR HF nS Try.underlying35 rfl rfl rfl (fun a HF => ?_)
  refine wc_bin HF nS rfl rfl b_gt rfl rfl (fun a HF => ?_)
  refine wc_end ?_
  refine then_n ?_
  by_cases hb1 : 24 < (x0.length : Int)
  · have h := (if_pos hb1).symm.trans h
    refine wp_if (b' := true) HF rfl (decide_eq_true hb1) ?_
    refine wp_seq ?_
    refine wc_text ?_
    refine wc_assign HF nS rfl rfl rfl (fun a HF => ?_)
    refine wc_end ?_
    refine then_n ?_
    refine wp_ret ?_
    obtain rfl := Option.some.inj h
    refine then_r (?_)
    refine bp_ret HF (res_one rfl HF rfl) ?_
    exact ⟨rfl, HT⟩
  have h := (if_neg hb1).symm.trans h
  refine wp_if (b' := false) HF rfl (decide_eq_false hb1) ?_
  refine wp_skip ?_
  refine then_n ?_
  refine wp_seq ?_
  refine wc_text ?_
  refine wc_assign HF nS rfl rfl rfl (fun a HF => ?_)
  refine wc_end ?_
  refine then_n ?_
  refine wp_seq ?_
  refine wc_text ?_
  refine wc_assign HF nS rfl rfl rfl (fun a HF => ?_)
  refine wc_end ?_
  refine then_n ?_
  obtain ⟨q1, hx1, h⟩ := obs h
  refine wp_cut (fun a w => ∃ z1, q1 = .brk z1 ∧ Fr a 54 [(3, .int .i64 z1)] ∧ St w0 (fun _ => False) w []) ?_ ?_
  · have hk1 := h
    have h := hx1
    refine wp_seq ?_
    refine wc_text ?_
    refine wc_assign HF nS rfl rfl rfl (fun a HF => ?_)
    refine wc_end ?_
    refine then_n ?_
    refine wp_block ?_
    refine wp_loopN (fun k1 a w => ∃ z2 z3 z4, m_spec_CodeOk_L0 fuel x0 k1 z2 z3 z4 = some q1 ∧ Fr a 54 [(0, .slice a_x0 x0.length c_x0), (3, .int .i64 z2), (4, .int .i64 z3), (5, .int .i64 z4)] ∧ St w0 (fun _ => False) w []) fuel ⟨0, 0, 0, h, (HF.keep (HF.keep (HF.keep (HF.keep HF.nil rfl) rfl) rfl) rfl), HT⟩ ?_
    rintro k1 a w ⟨z2, z3, z4, h, HF, HT⟩
    cases k1 with
    | zero => cases h
    | succ k1 =>
      rw [m_spec_CodeOk_L0] at h
      refine ?_
      refine wp_seq ?_
      refine wp_seq ?_
      refine wc_text ?_
      refine wc_move HF nS rfl rfl rfl (fun a HF => ?_)
      refine wc_move HF nS rfl rfl rfl (fun a HF => ?_)
      refine wc_lenR HF nS Try.underlying35 rfl rfl rfl (fun a HF => ?_)
      refine wc_bin HF nS rfl rfl b_lt rfl rfl (fun a HF => ?_)
      refine wc_end ?_
      refine then_n ?_
      by_cases hb2 : z4 < (x0.length : Int)
      · have h := (if_pos hb2).symm.trans h
        refine wp_if (b' := true) HF rfl (decide_eq_true hb2) ?_
        refine wp_skip ?_
        refine then_n ?_
        obtain ⟨q2, hx2, h⟩ := obs h
        refine wp_cut (fun a w => ∃ z5 z6, q2 = .brk (z5, z6) ∧ Fr a 54 [(0, .slice a_x0 x0.length c_x0), (3, .int .i64 z5), (4, .int .i64 z6), (5, .int .i64 z4)] ∧ St w0 (fun _ => False) w []) ?_ ?_
        · have hk2 := h
          have h := hx2
          refine wp_block ?_
          refine wp_seq ?_
          refine wp_seq ?_
          refine wc_text ?_
          refine wc_move HF nS rfl rfl rfl (fun a HF => ?_)
          refine wc_move HF nS rfl rfl rfl (fun a HF => ?_)
          obtain ⟨e1, hx3, h⟩ := obs h
          obtain ⟨b1, o1, ha1⟩ := (HT.ro hr_x0).any.addr hx3
          refine wc_ixaddr HF nS el35 rfl ha1 ((HT.ro hr_x0).any).neq rfl hx3 rfl rfl (fun a HF => ?_)
          have hc1 := (HT.ro hr_x0).any.flatAt ha1 hx3
          refine wc_loadA (vs := [.int .i64 e1.a, .int .i64 e1.b, .int .i64 e1.c, .int .i64 e1.d]) HF rfl ag25 rfl (hc1.part 0 4) rfl rfl (fun a HF => ?_)
          obtain ⟨y1, hx4, h⟩ := obs h
          refine wc_call HF cf40 rfl (w_spec_OpOk fuel hx4) rfl rfl ?_
          rintro e w ⟨rfl, hE⟩
          have hb := hE.below
          have HT := HT.pure hE
          have HT : St w0 (fun _ => False) w [] := HT
          refine ⟨_, rfl, nS, fun a HF => ?_⟩
          refine wc_not HF nS rfl rfl rfl (fun a HF => ?_)
          refine wc_end ?_
          refine then_n ?_
          by_cases hb3 : y1 = true
          · have h := (if_pos hb3).symm.trans h
            refine wp_if (b' := false) HF rfl (notT hb3) ?_
            refine wp_skip ?_
            refine then_n ?_
            obtain ⟨q3, hx5, h⟩ := obs h
            refine wp_cut (fun a w => ∃ z7 z8, q3 = .brk (z7, z8) ∧ Fr a 54 [(0, .slice a_x0 x0.length c_x0), (3, .int .i64 z7), (4, .int .i64 z8), (5, .int .i64 z4)] ∧ St w0 (fun _ => False) w []) ?_ ?_
            · have hk3 := h
              have h := hx5
              refine wp_seq ?_
              refine wc_text ?_
              refine wc_move HF nS rfl rfl rfl (fun a HF => ?_)
              refine wc_move HF nS rfl rfl rfl (fun a HF => ?_)
              refine wc_ixaddr HF nS el35 rfl ha1 ((HT.ro hr_x0).any).neq rfl hx3 rfl rfl (fun a HF => ?_)
              refine wc_faddr HF nS rfl fl25_0 rfl rfl (fun a HF => ?_)
              have hc2 := (HT.ro hr_x0).any.flatAt ha1 hx3
              refine wc_load HF rfl sc3 (hc2.get 0 rfl) rfl rfl (fun a HF => ?_)
              refine wc_end ?_
              refine then_n ?_
              refine wp_block ?_
              refine wp_seq ?_
              refine wc_text ?_
              refine wc_bin HF nS rfl rfl b_eq rfl rfl (fun a HF => ?_)
              refine wc_assign HF nS rfl rfl rfl (fun a HF => ?_)
              refine wc_end ?_
              refine then_n ?_
              by_cases hb4 : e1.a = 8
              · have h := (if_pos hb4).symm.trans h
                refine wp_if (b' := true) HF rfl (decide_eq_true hb4) ?_
                refine wc_text ?_
                refine wc_move HF nS rfl rfl rfl (fun a HF => ?_)
                obtain ⟨hg1, h⟩ := grd h
                refine wc_bin HF nS rfl rfl (b_add hg1) rfl rfl (fun a HF => ?_)
                refine wc_assign HF nS rfl rfl rfl (fun a HF => ?_)
                refine wc_end ?_
                refine blk_n ?_
                exact then_n ⟨z2 + 1, z3, (Option.some.inj h).symm, (HF.keep (HF.keep (HF.keep (HF.keep HF.nil rfl) rfl) rfl) rfl), HT⟩
              have h := (if_neg hb4).symm.trans h
              refine wp_if (b' := false) HF rfl (decide_eq_false hb4) ?_
              refine wp_seq ?_
              refine wc_text ?_
              refine wc_bin HF nS rfl rfl b_eq rfl rfl (fun a HF => ?_)
              refine wc_assign HF nS rfl rfl rfl (fun a HF => ?_)
              refine wc_end ?_
              refine then_n ?_
              by_cases hb5 : e1.a = 9
              · have h := (if_pos hb5).symm.trans h
                refine wp_if (b' := true) HF rfl (decide_eq_true hb5) ?_
                refine wc_text ?_
                refine wc_move HF nS rfl rfl rfl (fun a HF => ?_)
                obtain ⟨hg2, h⟩ := grd h
                refine wc_bin HF nS rfl rfl (b_sub hg2) rfl rfl (fun a HF => ?_)
                refine wc_assign HF nS rfl rfl rfl (fun a HF => ?_)
                refine wc_end ?_
                refine blk_n ?_
                exact then_n ⟨z2 - 1, z3, (Option.some.inj h).symm, (HF.keep (HF.keep (HF.keep (HF.keep HF.nil rfl) rfl) rfl) rfl), HT⟩
              have h := (if_neg hb5).symm.trans h
              refine wp_if (b' := false) HF rfl (decide_eq_false hb5) ?_
              refine wp_seq ?_
              refine wc_text ?_
              refine wc_bin HF nS rfl rfl b_eq rfl rfl (fun a HF => ?_)
              refine wc_assign HF nS rfl rfl rfl (fun a HF => ?_)
              refine wc_end ?_
              refine then_n ?_
              by_cases hb6 : e1.a = 7
              · have h := (if_pos hb6).symm.trans h
                refine wp_if (b' := true) HF rfl (decide_eq_true hb6) ?_
                refine wp_seq ?_
                refine wc_text ?_
                refine wc_move HF nS rfl rfl rfl (fun a HF => ?_)
                refine wc_move HF nS rfl rfl rfl (fun a HF => ?_)
                obtain ⟨y2, hx6, h⟩ := obs h
                refine wc_call HF cf82 rfl (w_spec_l5Skip fuel hx6 (HT.ro hr_x0).any) rfl rfl ?_
                rintro e w ⟨rfl, hE⟩
                have hb := hE.below
                have HT := HT.pure hE
                have HT : St w0 (fun _ => False) w [] := HT
                refine ⟨_, rfl, nS, fun a HF => ?_⟩
                refine wc_not HF nS rfl rfl rfl (fun a HF => ?_)
                refine wc_end ?_
                refine then_n ?_
                by_cases hb7 : y2 = true
                · have h := (if_pos hb7).symm.trans h
                  refine wp_if (b' := false) HF rfl (notT hb7) ?_
                  refine wp_skip ?_
                  refine blk_n ?_
                  exact then_n ⟨z2, z3, (Option.some.inj h).symm, (HF.keep (HF.keep (HF.keep (HF.keep HF.nil rfl) rfl) rfl) rfl), HT⟩
                have h := (if_neg hb7).symm.trans h
                refine wp_if (b' := true) HF rfl (notF (Bool.eq_false_iff.2 hb7)) ?_
                refine wp_seq ?_
                refine wc_text ?_
                refine wc_assign HF nS rfl rfl rfl (fun a HF => ?_)
                refine wc_end ?_
                refine then_n ?_
                refine wp_ret ?_
                obtain rfl := Option.some.inj h
                have h := retM hk3
                obtain rfl := Option.some.inj h
                have h := retM hk2
                obtain rfl := Option.some.inj h
                have h := retL hk1
                obtain rfl := Option.some.inj h
                refine blk_r (then_r (blk_r (then_r (then_r (blk_r (then_r (?_)))))))
                refine bp_ret HF (res_one rfl HF rfl) ?_
                exact ⟨rfl, HT⟩
              have h := (if_neg hb6).symm.trans h
              refine wp_if (b' := false) HF rfl (decide_eq_false hb6) ?_
              refine wp_seq ?_
              refine wc_text ?_
              refine wc_bin HF nS rfl rfl b_eq rfl rfl (fun a HF => ?_)
              refine wc_assign HF nS rfl rfl rfl (fun a HF => ?_)
              refine wc_end ?_
              refine then_n ?_
              by_cases hb8 : e1.a = 11
              · have h := (if_pos hb8).symm.trans h
                refine wp_if (b' := true) HF rfl (decide_eq_true hb8) ?_
                refine wp_seq ?_
                refine wc_text ?_
                refine wc_move HF nS rfl rfl rfl (fun a HF => ?_)
                obtain ⟨hg3, h⟩ := grd h
                refine wc_bin HF nS rfl rfl (b_add hg3) rfl rfl (fun a HF => ?_)
                refine wc_assign HF nS rfl rfl rfl (fun a HF => ?_)
                refine wc_end ?_
                refine then_n ?_
                refine wp_seq ?_
                refine wc_text ?_
                refine wc_move HF nS rfl rfl rfl (fun a HF => ?_)
                refine wc_bin HF nS rfl rfl b_gt rfl rfl (fun a HF => ?_)
                refine wc_move HF nS rfl rfl rfl (fun a HF => ?_)
                by_cases hb9 : 0 < z2
                · have h := (if_pos hb9).symm.trans h
                  refine wc_skip HF nS (HF.wn rfl rfl rfl rfl (decide_eq_true hb9)) rfl (fun a HF => ?_)
                  refine wc_skip HF nS (HF.wn rfl rfl rfl rfl (decide_eq_true hb9)) rfl (fun a HF => ?_)
                  refine wc_pick (b := true) HF nS rfl (decide_eq_true hb9) rfl rfl rfl (fun a HF => ?_)
                  refine wc_end ?_
                  refine then_n ?_
                  refine wp_if (b' := true) HF rfl rfl ?_
                  refine wp_seq ?_
                  refine wc_text ?_
                  refine wc_assign HF nS rfl rfl rfl (fun a HF => ?_)
                  refine wc_end ?_
                  refine then_n ?_
                  refine wp_ret ?_
                  obtain rfl := Option.some.inj h
                  have h := retM hk3
                  obtain rfl := Option.some.inj h
                  have h := retM hk2
                  obtain rfl := Option.some.inj h
                  have h := retL hk1
                  obtain rfl := Option.some.inj h
                  refine blk_r (then_r (blk_r (then_r (then_r (blk_r (then_r (?_)))))))
                  refine bp_ret HF (res_one rfl HF rfl) ?_
                  exact ⟨rfl, HT⟩
                have h := (if_neg hb9).symm.trans h
                refine wc_move HF nS rfl (HF.wy rfl rfl rfl rfl (decide_eq_false hb9)) rfl (fun a HF => ?_)
                refine wc_bin HF nS rfl rfl b_gt (HF.wy rfl rfl rfl rfl (decide_eq_false hb9)) rfl (fun a HF => ?_)
                refine wc_pick (b := false) HF nS rfl (decide_eq_false hb9) rfl rfl rfl (fun a HF => ?_)
                refine wc_end ?_
                refine then_n ?_
                by_cases hb10 : 1 < (z3 + 1)
                · have h := (if_pos hb10).symm.trans h
                  refine wp_if (b' := true) HF rfl (decide_eq_true hb10) ?_
                  refine wp_seq ?_
                  refine wc_text ?_
                  refine wc_assign HF nS rfl rfl rfl (fun a HF => ?_)
                  refine wc_end ?_
                  refine then_n ?_
                  refine wp_ret ?_
                  obtain rfl := Option.some.inj h
                  have h := retM hk3
                  obtain rfl := Option.some.inj h
                  have h := retM hk2
                  obtain rfl := Option.some.inj h
                  have h := retL hk1
                  obtain rfl := Option.some.inj h
                  refine blk_r (then_r (blk_r (then_r (then_r (blk_r (then_r (?_)))))))
                  refine bp_ret HF (res_one rfl HF rfl) ?_
                  exact ⟨rfl, HT⟩
                have h := (if_neg hb10).symm.trans h
                refine wp_if (b' := false) HF rfl (decide_eq_false hb10) ?_
                refine wp_skip ?_
                refine blk_n ?_
                exact then_n ⟨z2, z3 + 1, (Option.some.inj h).symm, (HF.keep (HF.keep (HF.keep (HF.keep HF.nil rfl) rfl) rfl) rfl), HT⟩
              have h := (if_neg hb8).symm.trans h
              refine wp_if (b' := false) HF rfl (decide_eq_false hb8) ?_
              refine wp_skip ?_
              refine blk_n ?_
              exact then_n ⟨z2, z3, (Option.some.inj h).symm, (HF.keep (HF.keep (HF.keep (HF.keep HF.nil rfl) rfl) rfl) rfl), HT⟩
            rintro a w ⟨z7, z8, rfl, HF, HT⟩
            have h := brkM2 h
            refine ?_
            refine wp_seq ?_
            refine wc_text ?_
            refine wc_move HF nS rfl rfl rfl (fun a HF => ?_)
            refine wc_bin HF nS rfl rfl b_lt rfl rfl (fun a HF => ?_)
            refine wc_end ?_
            refine then_n ?_
            by_cases hb11 : z7 < 0
            · have h := (if_pos hb11).symm.trans h
              refine wp_if (b' := true) HF rfl (decide_eq_true hb11) ?_
              refine wp_seq ?_
              refine wc_text ?_
              refine wc_assign HF nS rfl rfl rfl (fun a HF => ?_)
              refine wc_end ?_
              refine then_n ?_
              refine wp_ret ?_
              obtain rfl := Option.some.inj h
              have h := retM hk2
              obtain rfl := Option.some.inj h
              have h := retL hk1
              obtain rfl := Option.some.inj h
              refine blk_r (then_r (then_r (blk_r (then_r (?_)))))
              refine bp_ret HF (res_one rfl HF rfl) ?_
              exact ⟨rfl, HT⟩
            have h := (if_neg hb11).symm.trans h
            refine wp_if (b' := false) HF rfl (decide_eq_false hb11) ?_
            refine wp_skip ?_
            refine blk_n ?_
            exact then_n ⟨z7, z8, (Option.some.inj h).symm, (HF.keep (HF.keep (HF.keep (HF.keep HF.nil rfl) rfl) rfl) rfl), HT⟩
          have h := (if_neg hb3).symm.trans h
          refine wp_if (b' := true) HF rfl (notF (Bool.eq_false_iff.2 hb3)) ?_
          refine wp_seq ?_
          refine wc_text ?_
          refine wc_assign HF nS rfl rfl rfl (fun a HF => ?_)
          refine wc_end ?_
          refine then_n ?_
          refine wp_ret ?_
          obtain rfl := Option.some.inj h
          have h := retM hk2
          obtain rfl := Option.some.inj h
          have h := retL hk1
          obtain rfl := Option.some.inj h
          refine then_r (blk_r (then_r (then_r (blk_r (then_r (?_))))))
          refine bp_ret HF (res_one rfl HF rfl) ?_
          exact ⟨rfl, HT⟩
        rintro a w ⟨z5, z6, rfl, HF, HT⟩
        have h := brkM2 h
        refine ?_
        refine wc_text ?_
        refine wc_move HF nS rfl rfl rfl (fun a HF => ?_)
        obtain ⟨hg4, h⟩ := grd h
        refine wc_bin HF nS rfl rfl (b_add hg4) rfl rfl (fun a HF => ?_)
        refine wc_assign HF nS rfl rfl rfl (fun a HF => ?_)
        refine wc_end ?_
        exact then_n ⟨k1, Nat.lt_succ_self k1, z5, z6, z4 + 1, h, (HF.keep (HF.keep (HF.keep (HF.keep HF.nil rfl) rfl) rfl) rfl), HT⟩
      have h := (if_neg hb2).symm.trans h
      refine wp_if (b' := false) HF rfl (decide_eq_false hb2) ?_
      refine wp_exit ?_
      refine then_x (then_x (?_))
      refine blk_x ?_
      exact then_n ⟨z2, (Option.some.inj h).symm, (HF.keep HF.nil rfl), HT⟩
  rintro a w ⟨z1, rfl, HF, HT⟩
  have h := brkL1u h
  refine ?_
  refine wp_seq ?_
  refine wc_text ?_
  refine wc_move HF nS rfl rfl rfl (fun a HF => ?_)
  refine wc_bin HF nS rfl rfl b_eq rfl rfl (fun a HF => ?_)
  refine wc_assign HF nS rfl rfl rfl (fun a HF => ?_)
  refine wc_end ?_
  refine then_n ?_
  refine wp_ret ?_
  obtain rfl := Option.some.inj h
  refine bp_ret HF (res_one rfl HF rfl) ?_
  exact ⟨rfl, HT⟩

def m_spec_l6Lines_L0 (fuel : Nat) (x0 : List SE) : Nat → (List I4) → Int → Option (Lp (List I4) (List I4 × Bool))
  | 0, _, _ => none
  | k1 + 1, z2, z3 =>
    if z3 < (x0.length : Int) then
      (at? x0 z3).bind fun e1 =>
      bind5 (m_spec_ReadOp fuel e1.s) fun y1 y2 y3 y4 y5 =>
      if y5 = true then
        if z2.length + 1 ≤ 17179869184 then
          if in64 (z3 + 1) then
            m_spec_l6Lines_L0 fuel x0 k1 (z2 ++ ([(⟨y1, y2, y3, y4⟩ : I4)] : List I4)) (z3 + 1)
          else none
        else none
      else
      some (.ret (([] : List I4), false))
    else
    some (.brk z2)

def m_spec_l6Lines (fuel : Nat) (x0 : List SE) : Option (List I4 × Bool) :=
  (m_spec_l6Lines_L0 fuel x0 fuel ([] : List I4) 0).bind <| contL <| un1 fun z1 =>
  some (z1, true)

set_option maxRecDepth 100000 in
set_option maxHeartbeats 4000000 in
theorem w_spec_l6Lines (fuel : Nat) {x0 : List SE} {a_x0 : Option Addr} {n_x0 c_x0 : Nat} {r0 : List I4} {r1 : Bool} {w0 : World} (h : m_spec_l6Lines fuel x0 = some (r0, r1)) (hr_x0 : RdT (fun b => ¬ False) w0 (rowT x0) (.slice a_x0 n_x0 c_x0)) :
    Calls Try.prog 54 #[.slice a_x0 n_x0 c_x0] w0 fun e w => ∃ a_r0 n_r0 c_r0, e = .returned (.tuple #[.slice a_r0 n_r0 c_r0, .bool r1]) ∧ St w0 (fun _ => False) w [Own 25 (rowT r0) (.slice a_r0 n_r0 c_r0)] := by
  obtain rfl := hr_x0.neq
  have HT : St w0 (fun _ => False) w0 [] := St.init0
  rw [m_spec_l6Lines] at h
  refine calls_fr (n := 31) [.slice a_x0 x0.length c_x0] Try.func54 rfl rfl rfl (fun a HF => ?_)
  have HT : St w0 (fun _ => False) w0 [] := HT
  refine wp_seq ?_
  refine wc_text ?_
  refine wc_assign HF nS rfl rfl rfl (fun a HF => ?_)
  refine wc_assign HF nS rfl rfl rfl (fun a HF => ?_)
  refine wc_end ?_
  refine then_n ?_
  refine wp_seq ?_
  refine wc_text ?_
  refine wc_bslice (l := ([] : List I4)) (cs := []) (A := []) HF HT bs35_0 rfl rfl (gives_flat rfl) rfl (by decide) rfl rfl (fun p1 w HT hb => ⟨nS, fun a HF => ?_⟩)
  refine wc_assign HF nS rfl rfl rfl (fun a HF => ?_)
  refine wc_end ?_
  refine then_n ?_
  obtain ⟨q1, hx1, h⟩ := obs h
  refine wp_cut (fun a w => ∃ z1 a1 n1 c1, q1 = .brk z1 ∧ Fr a 31 [(4, .slice a1 n1 c1)] ∧ St w0 (fun _ => False) w [Own 25 (rowT z1) (.slice a1 n1 c1)]) ?_ ?_
  · have hk1 := h
    have h := hx1
    refine wp_seq ?_
    refine wc_text ?_
    refine wc_assign HF nS rfl rfl rfl (fun a HF => ?_)
    refine wc_end ?_
    refine then_n ?_
    refine wp_block ?_
    refine wp_loopN (fun k1 a w => ∃ z2 z3 a2 n2 c2, m_spec_l6Lines_L0 fuel x0 k1 z2 z3 = some q1 ∧ Fr a 31 [(0, .slice a_x0 x0.length c_x0), (4, .slice a2 n2 c2), (5, .int .i64 z3)] ∧ St w0 (fun _ => False) w [Own 25 (rowT z2) (.slice a2 n2 c2)]) fuel ⟨([] : List I4), 0, (some ⟨p1, 0, none⟩), 0, 0, h, (HF.keep (HF.keep (HF.keep HF.nil rfl) rfl) rfl), HT⟩ ?_
    rintro k1 a w ⟨z2, z3, a2, n2, c2, h, HF, HT⟩
    cases k1 with
    | zero => cases h
    | succ k1 =>
      rw [m_spec_l6Lines_L0] at h
      obtain rfl := (HT.rdAt 0 rfl).neq
      refine ?_
      refine wp_seq ?_
      refine wp_seq ?_
      refine wc_text ?_
      refine wc_move HF nS rfl rfl rfl (fun a HF => ?_)
      refine wc_move HF nS rfl rfl rfl (fun a HF => ?_)
      refine wc_lenR HF nS Try.underlying62 rfl rfl rfl (fun a HF => ?_)
      refine wc_bin HF nS rfl rfl b_lt rfl rfl (fun a HF => ?_)
      refine wc_end ?_
      refine then_n ?_
      by_cases hb1 : z3 < (x0.length : Int)
      · have h := (if_pos hb1).symm.trans h
        refine wp_if (b' := true) HF rfl (decide_eq_true hb1) ?_
        refine wp_skip ?_
        refine then_n ?_
        refine wp_seq ?_
        refine wp_block ?_
        refine wp_seq ?_
        refine wc_text ?_
        refine wc_move HF nS rfl rfl rfl (fun a HF => ?_)
        refine wc_move HF nS rfl rfl rfl (fun a HF => ?_)
        obtain ⟨e1, hx2, h⟩ := obs h
        obtain ⟨b1, o1, ha1⟩ := (HT.ro hr_x0).any.addr hx2
        refine wc_ixaddr HF nS el62 rfl ha1 ((HT.ro hr_x0).any).neq rfl hx2 rfl rfl (fun a HF => ?_)
        have hc1 := (HT.ro hr_x0).any.flatAt ha1 hx2
        refine wc_load HF rfl sc9 (hc1.get 0 rfl) rfl rfl (fun a HF => ?_)
        obtain ⟨y1, y2, y3, y4, y5, hx3, h⟩ := obs5 h
        refine wc_call HF cf13 rfl (w_spec_ReadOp fuel hx3) rfl rfl ?_
        rintro e w ⟨rfl, hE⟩
        have hb := hE.below
        have HT := HT.pure hE
        have HT : St w0 (fun _ => False) w [Own 25 (rowT z2) (.slice a2 z2.length c2)] := HT
        refine ⟨_, rfl, nS, fun a HF => ?_⟩
        refine wc_move HF nS rfl rfl rfl (fun a HF => ?_)
        refine wc_extract (v := .agg #[.int .i64 y1, .int .i64 y2, .int .i64 y3, .int .i64 y4]) HF nS rfl rfl rfl rfl (fun a HF => ?_)
        refine wc_extract (v := .bool y5) HF nS rfl rfl rfl rfl (fun a HF => ?_)
        refine wc_alloc (cs := [.int .i64 0, .int .i64 0, .int .i64 0, .int .i64 0]) HF HT zr25 rfl rfl rfl (fun p2 w HT hb => ⟨nS, fun a HF => ?_⟩)
        refine wc_storeB (cs' := [.int .i64 y1, .int .i64 y2, .int .i64 y3, .int .i64 y4]) HF HT rfl rfl (fun w => (ag25 w).2) rfl rfl rfl rfl rfl (fun w HT => ⟨nS, ?_⟩)
        refine wc_assign HF nS rfl rfl rfl (fun a HF => ?_)
        refine wc_end ?_
        refine then_n ?_
        refine wp_seq ?_
        refine wp_seq ?_
        refine wc_text ?_
        refine wc_move HF nS rfl rfl rfl (fun a HF => ?_)
        refine wc_not HF nS rfl rfl rfl (fun a HF => ?_)
        refine wc_end ?_
        refine then_n ?_
        by_cases hb2 : y5 = true
        · have h := (if_pos hb2).symm.trans h
          refine wp_if (b' := false) HF rfl (notT hb2) ?_
          refine wp_skip ?_
          refine then_n ?_
          refine wc_text ?_
          refine wc_move HF nS rfl rfl rfl (fun a HF => ?_)
          refine wc_loadA (vs := [.int .i64 y1, .int .i64 y2, .int .i64 y3, .int .i64 y4]) HF rfl ag25 rfl ((HT.boxAt 0 rfl).part 0 4) rfl rfl (fun a HF => ?_)
          refine wc_bslice (l := ([(⟨y1, y2, y3, y4⟩ : I4)] : List I4)) (cs := [.int .i64 y1, .int .i64 y2, .int .i64 y3, .int .i64 y4]) (A := []) HF HT bs35_1 rfl rfl (gives_flat rfl) rfl (by decide) rfl rfl (fun p3 w HT hb => ⟨nS, fun a HF => ?_⟩)
          obtain ⟨hg1, h⟩ := grd h
          have HT : St w0 (fun _ => False) w [Own 25 (rowT z2) (.slice a2 z2.length c2), Own 25 (rowT ([(⟨y1, y2, y3, y4⟩ : I4)] : List I4)) (.slice (some ⟨p3, 0, none⟩) 1 1), Box p2 [.int .i64 y1, .int .i64 y2, .int .i64 y3, .int .i64 y4]] := HT.pick 2
          refine wc_append HF HT el35 rfl rfl (Nat.zero_lt_succ _) hg1 rfl rfl rfl (fun a3 c3 w HT => ⟨nS, fun a HF => ?_⟩)
          refine wc_assign HF nS rfl rfl rfl (fun a HF => ?_)
          refine wc_end ?_
          refine blk_n ?_
          refine then_n ?_
          refine wc_text ?_
          refine wc_move HF nS rfl rfl rfl (fun a HF => ?_)
          obtain ⟨hg2, h⟩ := grd h
          refine wc_bin HF nS rfl rfl (b_add hg2) rfl rfl (fun a HF => ?_)
          refine wc_assign HF nS rfl rfl rfl (fun a HF => ?_)
          refine wc_end ?_
          have HT : St w0 (fun _ => False) w [Own 25 (rowT (z2 ++ ([(⟨y1, y2, y3, y4⟩ : I4)] : List I4))) (.slice a3 ((z2 ++ ([(⟨y1, y2, y3, y4⟩ : I4)] : List I4)).length) c3)] := HT.take 1
          exact then_n ⟨k1, Nat.lt_succ_self k1, z2 ++ ([(⟨y1, y2, y3, y4⟩ : I4)] : List I4), z3 + 1, a3, (z2 ++ ([(⟨y1, y2, y3, y4⟩ : I4)] : List I4)).length, c3, h, (HF.keep (HF.keep (HF.keep HF.nil rfl) rfl) rfl), HT⟩
        have h := (if_neg hb2).symm.trans h
        refine wp_if (b' := true) HF rfl (notF (Bool.eq_false_iff.2 hb2)) ?_
        refine wp_seq ?_
        refine wc_text ?_
        refine wc_bslice (l := ([] : List I4)) (cs := []) (A := []) HF HT bs35_0 rfl rfl (gives_flat rfl) rfl (by decide) rfl rfl (fun p4 w HT hb => ⟨nS, fun a HF => ?_⟩)
        refine wc_assign HF nS rfl rfl rfl (fun a HF => ?_)
        refine wc_assign HF nS rfl rfl rfl (fun a HF => ?_)
        refine wc_end ?_
        refine then_n ?_
        refine wp_ret ?_
        obtain rfl := Option.some.inj h
        have h := retL hk1
        have hj1 := Option.some.inj h
        obtain ⟨hi1, hj2⟩ := Prod.mk.inj hj1
        subst hi1
        subst hj2
        refine then_r (blk_r (then_r (then_r (blk_r (then_r (?_))))))
        refine bp_ret HF (res_two rfl HF rfl rfl) ?_
        have HT : St w0 (fun _ => False) w [Own 25 (rowT ([] : List I4)) (.slice (some ⟨p4, 0, none⟩) 0 0)] := HT.take 1
        exact ⟨(some ⟨p4, 0, none⟩), 0, 0, rfl, HT⟩
      have h := (if_neg hb1).symm.trans h
      refine wp_if (b' := false) HF rfl (decide_eq_false hb1) ?_
      refine wp_exit ?_
      refine then_x (then_x (?_))
      refine blk_x ?_
      exact then_n ⟨z2, a2, z2.length, c2, (Option.some.inj h).symm, (HF.keep HF.nil rfl), HT⟩
  rintro a w ⟨z1, a1, n1, c1, rfl, HF, HT⟩
  have h := brkL1u h
  obtain rfl := (HT.rdAt 0 rfl).neq
  refine ?_
  refine wp_seq ?_
  refine wc_text ?_
  refine wc_move HF nS rfl rfl rfl (fun a HF => ?_)
  refine wc_assign HF nS rfl rfl rfl (fun a HF => ?_)
  refine wc_assign HF nS rfl rfl rfl (fun a HF => ?_)
  refine wc_end ?_
  refine then_n ?_
  refine wp_ret ?_
  have hj3 := Option.some.inj h
  obtain ⟨hi3, hj4⟩ := Prod.mk.inj hj3
  subst hi3
  subst hj4
  refine bp_ret HF (res_two rfl HF rfl rfl) ?_
  exact ⟨a1, z1.length, c1, rfl, HT⟩

def m_spec_ReadCode (fuel : Nat) (x0 : Str) : Option (List I4 × Bool) :=
  if x0 = [] then
    some (([] : List I4), true)
  else
  if in64 ((x0.length : Int) - 1) then
    (at? x0 ((x0.length : Int) - 1)).bind fun c1 =>
    if (c1.toNat : Int) = 10 then
      if in64 ((x0.length : Int) - 1) then
        if 0 ≤ (0 : Int) ∧ (0 : Int) ≤ ((x0.length : Int) - 1) ∧ ((x0.length : Int) - 1) ≤ (x0.length : Int) then
          (m_spec_l6Split fuel (sub x0 0 ((x0.length : Int) - 1)) (10 : UInt8)).bind fun y1 =>
          if 24 < (y1.length : Int) then
            some (([] : List I4), false)
          else
          bind2 (m_spec_l6Lines fuel y1) fun y2 y3 =>
          if y3 = true then
            (m_spec_CodeOk fuel y2).bind fun y4 =>
            if y4 = true then
              some (y2, true)
            else
            some (([] : List I4), false)
          else
          some (([] : List I4), false)
        else none
      else none
    else
    some (([] : List I4), false)
  else none

set_option maxRecDepth 100000 in
set_option maxHeartbeats 4000000 in
theorem w_spec_ReadCode (fuel : Nat) {x0 : Str} {r0 : List I4} {r1 : Bool} {w0 : World} (h : m_spec_ReadCode fuel x0 = some (r0, r1)) :
    Calls Try.prog 21 #[sv x0] w0 fun e w => ∃ a_r0 n_r0 c_r0, e = .returned (.tuple #[.slice a_r0 n_r0 c_r0, .bool r1]) ∧ St w0 (fun _ => False) w [Own 25 (rowT r0) (.slice a_r0 n_r0 c_r0)] := by
  have HT : St w0 (fun _ => False) w0 [] := St.init0
  rw [m_spec_ReadCode] at h
  refine calls_fr (n := 41) [sv x0] Try.func21 rfl rfl rfl (fun a HF => ?_)
  have HT : St w0 (fun _ => False) w0 [] := HT
  refine wp_seq ?_
  refine wc_text ?_
  refine wc_assign HF nS rfl rfl rfl (fun a HF => ?_)
  refine wc_assign HF nS rfl rfl rfl (fun a HF => ?_)
  refine wc_end ?_
  refine then_n ?_
  refine wp_seq ?_
  refine wp_seq ?_
  refine wc_text ?_
  refine wc_move HF nS rfl rfl rfl (fun a HF => ?_)
  refine wc_bin HF nS rfl rfl b_seq rfl rfl (fun a HF => ?_)
  refine wc_end ?_
  refine then_n ?_
  by_cases hb1 : x0 = []
  · have h := (if_pos hb1).symm.trans h
    refine wp_if (b' := true) HF rfl (decide_eq_true hb1) ?_
    refine wp_seq ?_
    refine wc_text ?_
    refine wc_bslice (l := ([] : List I4)) (cs := []) (A := []) HF HT bs35_0 rfl rfl (gives_flat rfl) rfl (by decide) rfl rfl (fun p1 w HT hb => ⟨nS, fun a HF => ?_⟩)
    refine wc_assign HF nS rfl rfl rfl (fun a HF => ?_)
    refine wc_assign HF nS rfl rfl rfl (fun a HF => ?_)
    refine wc_end ?_
    refine then_n ?_
    refine wp_ret ?_
    have hj1 := Option.some.inj h
    obtain ⟨hi1, hj2⟩ := Prod.mk.inj hj1
    subst hi1
    subst hj2
    refine then_r (?_)
    refine bp_ret HF (res_two rfl HF rfl rfl) ?_
    exact ⟨(some ⟨p1, 0, none⟩), 0, 0, rfl, HT⟩
  have h := (if_neg hb1).symm.trans h
  refine wp_if (b' := false) HF rfl (decide_eq_false hb1) ?_
  refine wp_skip ?_
  refine then_n ?_
  refine wp_seq ?_
  refine wp_seq ?_
  refine wc_text ?_
  refine wc_move HF nS rfl rfl rfl (fun a HF => ?_)
  refine wc_move HF nS rfl rfl rfl (fun a HF => ?_)
  refine wc_lenS (ats := #[]) HF nS Try.underlying9 rfl rfl rfl (fun a HF => ?_)
  obtain ⟨hg1, h⟩ := grd h
  refine wc_bin HF nS rfl rfl (b_sub hg1) rfl rfl (fun a HF => ?_)
  obtain ⟨c1, hx1, h⟩ := obs h
  refine wc_index HF nS Try.underlying9 rfl rfl hx1 rfl rfl (fun a HF => ?_)
  refine wc_bin HF nS rfl rfl b_ne rfl rfl (fun a HF => ?_)
  refine wc_end ?_
  refine then_n ?_
  by_cases hb2 : (c1.toNat : Int) = 10
  · have h := (if_pos hb2).symm.trans h
    refine wp_if (b' := false) HF rfl (notT (decide_eq_true hb2)) ?_
    refine wp_skip ?_
    refine then_n ?_
    refine wp_seq ?_
    refine wc_text ?_
    refine wc_move HF nS rfl rfl rfl (fun a HF => ?_)
    refine wc_move HF nS rfl rfl rfl (fun a HF => ?_)
    refine wc_lenS (ats := #[]) HF nS Try.underlying9 rfl rfl rfl (fun a HF => ?_)
    obtain ⟨hg2, h⟩ := grd h
    refine wc_bin HF nS rfl rfl (b_sub hg2) rfl rfl (fun a HF => ?_)
    obtain ⟨hg3, h⟩ := grd h
    refine wc_slsH HF nS Try.underlying9 rfl rfl hg3 rfl rfl (fun a HF => ?_)
    obtain ⟨y1, hx2, h⟩ := obs h
    refine wc_call HF cf48 rfl (w_spec_l6Split (x1 := (10 : UInt8)) fuel hx2) rfl rfl ?_
    rintro e w ⟨a1, n1, c2, rfl, hE⟩
    have hb := hE.below
    have HT := HT.pure hE
    obtain rfl := (HT.rdAt 0 rfl).neq
    have HT : St w0 (fun _ => False) w [Own 9 (rowT y1) (.slice a1 y1.length c2)] := HT
    refine ⟨_, rfl, nS, fun a HF => ?_⟩
    refine wc_assign HF nS rfl rfl rfl (fun a HF => ?_)
    refine wc_end ?_
    refine then_n ?_
    refine wp_seq ?_
    refine wp_seq ?_
    refine wc_text ?_
    refine wc_move HF nS rfl rfl rfl (fun a HF => ?_)
    refine wc_lenR HF nS Try.underlying62 rfl rfl rfl (fun a HF => ?_)
    refine wc_bin HF nS rfl rfl b_gt rfl rfl (fun a HF => ?_)
    refine wc_end ?_
    refine then_n ?_
    by_cases hb3 : 24 < (y1.length : Int)
    · have h := (if_pos hb3).symm.trans h
      refine wp_if (b' := true) HF rfl (decide_eq_true hb3) ?_
      refine wp_seq ?_
      refine wc_text ?_
      refine wc_bslice (l := ([] : List I4)) (cs := []) (A := []) HF HT bs35_0 rfl rfl (gives_flat rfl) rfl (by decide) rfl rfl (fun p2 w HT hb => ⟨nS, fun a HF => ?_⟩)
      refine wc_assign HF nS rfl rfl rfl (fun a HF => ?_)
      refine wc_assign HF nS rfl rfl rfl (fun a HF => ?_)
      refine wc_end ?_
      refine then_n ?_
      refine wp_ret ?_
      have hj3 := Option.some.inj h
      obtain ⟨hi3, hj4⟩ := Prod.mk.inj hj3
      subst hi3
      subst hj4
      refine then_r (?_)
      refine bp_ret HF (res_two rfl HF rfl rfl) ?_
      have HT : St w0 (fun _ => False) w [Own 25 (rowT ([] : List I4)) (.slice (some ⟨p2, 0, none⟩) 0 0)] := HT.take 1
      exact ⟨(some ⟨p2, 0, none⟩), 0, 0, rfl, HT⟩
    have h := (if_neg hb3).symm.trans h
    refine wp_if (b' := false) HF rfl (decide_eq_false hb3) ?_
    refine wp_skip ?_
    refine then_n ?_
    refine wp_seq ?_
    refine wc_text ?_
    refine wc_move HF nS rfl rfl rfl (fun a HF => ?_)
    obtain ⟨y2, y3, hx3, h⟩ := obs2 h
    refine wc_call HF cf54 rfl (w_spec_l6Lines fuel hx3 (HT.rdAt 0 rfl)) rfl rfl ?_
    rintro e w ⟨a2, n2, c3, rfl, hE⟩
    have hb := hE.below
    have HT := HT.pure hE
    obtain rfl := (HT.rdAt 0 rfl).neq
    have HT : St w0 (fun _ => False) w [Own 25 (rowT y2) (.slice a2 y2.length c3), Own 9 (rowT y1) (.slice a1 y1.length c2)] := HT
    refine ⟨_, rfl, nS, fun a HF => ?_⟩
    refine wc_move HF nS rfl rfl rfl (fun a HF => ?_)
    refine wc_extract (v := .slice a2 y2.length c3) HF nS rfl rfl rfl rfl (fun a HF => ?_)
    refine wc_extract (v := .bool y3) HF nS rfl rfl rfl rfl (fun a HF => ?_)
    refine wc_assign HF nS rfl rfl rfl (fun a HF => ?_)
    refine wc_assign HF nS rfl rfl rfl (fun a HF => ?_)
    refine wc_end ?_
    refine then_n ?_
    refine wp_seq ?_
    refine wp_seq ?_
    refine wc_text ?_
    refine wc_move HF nS rfl rfl rfl (fun a HF => ?_)
    refine wc_not HF nS rfl rfl rfl (fun a HF => ?_)
    refine wc_move HF nS rfl rfl rfl (fun a HF => ?_)
    by_cases hb4 : y3 = true
    · have h := (if_pos hb4).symm.trans h
      refine wc_move HF nS rfl (HF.wy rfl rfl rfl rfl (notT hb4)) rfl (fun a HF => ?_)
      obtain ⟨y4, hx4, h⟩ := obs h
      refine wc_call HF cf52 rfl (w_spec_CodeOk fuel hx4 (HT.rdAt 0 rfl)) (HF.wy rfl rfl rfl rfl (notT hb4)) rfl ?_
      rintro e w ⟨rfl, hE⟩
      have hb := hE.below
      have HT := HT.pure hE
      have HT : St w0 (fun _ => False) w [Own 25 (rowT y2) (.slice a2 y2.length c3), Own 9 (rowT y1) (.slice a1 y1.length c2)] := HT
      refine ⟨_, rfl, nS, fun a HF => ?_⟩
      refine wc_not HF nS rfl (HF.wy rfl rfl rfl rfl (notT hb4)) rfl (fun a HF => ?_)
      refine wc_pick (b := false) HF nS rfl (notT hb4) rfl rfl rfl (fun a HF => ?_)
      refine wc_end ?_
      refine then_n ?_
      by_cases hb5 : y4 = true
      · have h := (if_pos hb5).symm.trans h
        refine wp_if (b' := false) HF rfl (notT hb5) ?_
        refine wp_skip ?_
        refine then_n ?_
        refine wp_seq ?_
        refine wc_text ?_
        refine wc_move HF nS rfl rfl rfl (fun a HF => ?_)
        refine wc_assign HF nS rfl rfl rfl (fun a HF => ?_)
        refine wc_assign HF nS rfl rfl rfl (fun a HF => ?_)
        refine wc_end ?_
        refine then_n ?_
        refine wp_ret ?_
        have hj5 := Option.some.inj h
        obtain ⟨hi5, hj6⟩ := Prod.mk.inj hj5
        subst hi5
        subst hj6
        refine bp_ret HF (res_two rfl HF rfl rfl) ?_
        have HT : St w0 (fun _ => False) w [Own 25 (rowT y2) (.slice a2 y2.length c3)] := HT.take 1
        exact ⟨a2, y2.length, c3, rfl, HT⟩
      have h := (if_neg hb5).symm.trans h
      refine wp_if (b' := true) HF rfl (notF (Bool.eq_false_iff.2 hb5)) ?_
      refine wp_seq ?_
      refine wc_text ?_
      refine wc_bslice (l := ([] : List I4)) (cs := []) (A := []) HF HT bs35_0 rfl rfl (gives_flat rfl) rfl (by decide) rfl rfl (fun p3 w HT hb => ⟨nS, fun a HF => ?_⟩)
      refine wc_assign HF nS rfl rfl rfl (fun a HF => ?_)
      refine wc_assign HF nS rfl rfl rfl (fun a HF => ?_)
      refine wc_end ?_
      refine then_n ?_
      refine wp_ret ?_
      have hj7 := Option.some.inj h
      obtain ⟨hi7, hj8⟩ := Prod.mk.inj hj7
      subst hi7
      subst hj8
      refine then_r (?_)
      refine bp_ret HF (res_two rfl HF rfl rfl) ?_
      have HT : St w0 (fun _ => False) w [Own 25 (rowT ([] : List I4)) (.slice (some ⟨p3, 0, none⟩) 0 0)] := HT.take 1
      exact ⟨(some ⟨p3, 0, none⟩), 0, 0, rfl, HT⟩
    have h := (if_neg hb4).symm.trans h
    refine wc_skip HF nS (HF.wn rfl rfl rfl rfl (notF (Bool.eq_false_iff.2 hb4))) rfl (fun a HF => ?_)
    refine wc_skip HF nS (HF.wn rfl rfl rfl rfl (notF (Bool.eq_false_iff.2 hb4))) rfl (fun a HF => ?_)
    refine wc_skip HF nS (HF.wn rfl rfl rfl rfl (notF (Bool.eq_false_iff.2 hb4))) rfl (fun a HF => ?_)
    refine wc_pick (b := true) HF nS rfl (notF (Bool.eq_false_iff.2 hb4)) rfl rfl rfl (fun a HF => ?_)
    refine wc_end ?_
    refine then_n ?_
    refine wp_if (b' := true) HF rfl rfl ?_
    refine wp_seq ?_
    refine wc_text ?_
    refine wc_bslice (l := ([] : List I4)) (cs := []) (A := []) HF HT bs35_0 rfl rfl (gives_flat rfl) rfl (by decide) rfl rfl (fun p4 w HT hb => ⟨nS, fun a HF => ?_⟩)
    refine wc_assign HF nS rfl rfl rfl (fun a HF => ?_)
    refine wc_assign HF nS rfl rfl rfl (fun a HF => ?_)
    refine wc_end ?_
    refine then_n ?_
    refine wp_ret ?_
    have hj9 := Option.some.inj h
    obtain ⟨hi9, hj10⟩ := Prod.mk.inj hj9
    subst hi9
    subst hj10
    refine then_r (?_)
    refine bp_ret HF (res_two rfl HF rfl rfl) ?_
    have HT : St w0 (fun _ => False) w [Own 25 (rowT ([] : List I4)) (.slice (some ⟨p4, 0, none⟩) 0 0)] := HT.take 1
    exact ⟨(some ⟨p4, 0, none⟩), 0, 0, rfl, HT⟩
  have h := (if_neg hb2).symm.trans h
  refine wp_if (b' := true) HF rfl (notF (decide_eq_false hb2)) ?_
  refine wp_seq ?_
  refine wc_text ?_
  refine wc_bslice (l := ([] : List I4)) (cs := []) (A := []) HF HT bs35_0 rfl rfl (gives_flat rfl) rfl (by decide) rfl rfl (fun p5 w HT hb => ⟨nS, fun a HF => ?_⟩)
  refine wc_assign HF nS rfl rfl rfl (fun a HF => ?_)
  refine wc_assign HF nS rfl rfl rfl (fun a HF => ?_)
  refine wc_end ?_
  refine then_n ?_
  refine wp_ret ?_
  have hj11 := Option.some.inj h
  obtain ⟨hi11, hj12⟩ := Prod.mk.inj hj11
  subst hi11
  subst hj12
  refine then_r (?_)
  refine bp_ret HF (res_two rfl HF rfl rfl) ?_
  exact ⟨(some ⟨p5, 0, none⟩), 0, 0, rfl, HT⟩

def m_laws_FnExactReadCode (fuel : Nat) (x0 : Str) : Option Bool :=
  if 1048576 < (x0.length : Int) then
    some true
  else
  bind2 (m_spec_ReadCode fuel x0) fun y1 y2 =>
  bind2 (m_impl_ReadCode fuel x0) fun y3 y4 =>
  (
    (
      (m_laws_eqOpS fuel y3 y1).bind fun y5 =>
      if y5 = true then
        some (!((y4 == y2)))
      else
      some true).bind fun z1 =>
    if z1 = true then
      some (.ret false)
    else
    some (.brk ())).bind <| contL <| un1 fun _ =>
  bind2 (m_laws_markOpS fuel y3 1) fun y6 y7 =>
  (m_laws_heldOpS fuel y7 1).bind fun y8 =>
  if y8 < 0 then
    some false
  else
  if y8 = y6 then
    bind2 (m_impl_ReadCode fuel x0) fun y9 y10 =>
    (
      (
        (m_laws_eqOpS fuel y9 y1).bind fun y11 =>
        if y11 = true then
          some (!((y10 == y2)))
        else
        some true).bind fun z2 =>
      if z2 = true then
        some (.ret false)
      else
      some (.brk ())).bind <| contL <| un1 fun _ =>
    (m_laws_heldOpS fuel y7 1).bind fun y12 =>
    if y12 < 0 then
      some false
    else
    if y12 = y6 then
      some true
    else
    some false
  else
  some false

set_option maxRecDepth 100000 in
set_option maxHeartbeats 4000000 in
theorem w_laws_FnExactReadCode (fuel : Nat) {x0 : Str} {r0 : Bool} {w0 : World} (h : m_laws_FnExactReadCode fuel x0 = some r0) :
    Calls Try.prog 6 #[sv x0] w0 fun e w => e = .returned (.bool r0) ∧ St w0 (fun _ => False) w [] := by
  have HT : St w0 (fun _ => False) w0 [] := St.init0
  rw [m_laws_FnExactReadCode] at h
  refine calls_fr (n := 66) [sv x0] Try.func6 rfl rfl rfl (fun a HF => ?_)
  have HT : St w0 (fun _ => False) w0 [] := HT
  refine wp_seq ?_
  refine wc_text ?_
  refine wc_assign HF nS rfl rfl rfl (fun a HF => ?_)
  refine wc_end ?_
  refine then_n ?_
  refine wp_seq ?_
  refine wp_seq ?_
  refine wc_text ?_
  refine wc_move HF nS rfl rfl rfl (fun a HF => ?_)
  refine wc_lenS (ats := #[]) HF nS Try.underlying9 rfl rfl rfl (fun a HF => ?_)
  refine wc_bin HF nS rfl rfl b_gt rfl rfl (fun a HF => ?_)
  refine wc_end ?_
  refine then_n ?_
  by_cases hb1 : 1048576 < (x0.length : Int)
  · have h := (if_pos hb1).symm.trans h
    refine wp_if (b' := true) HF rfl (decide_eq_true hb1) ?_
    refine wp_seq ?_
    refine wc_text ?_
    refine wc_assign HF nS rfl rfl rfl (fun a HF => ?_)
    refine wc_end ?_
    refine then_n ?_
    refine wp_ret ?_
    obtain rfl := Option.some.inj h
    refine then_r (?_)
    refine bp_ret HF (res_one rfl HF rfl) ?_
    exact ⟨rfl, HT⟩
  have h := (if_neg hb1).symm.trans h
  refine wp_if (b' := false) HF rfl (decide_eq_false hb1) ?_
  refine wp_skip ?_
  refine then_n ?_
  refine wp_seq ?_
  refine wc_text ?_
  refine wc_move HF nS rfl rfl rfl (fun a HF => ?_)
  obtain ⟨y1, y2, hx1, h⟩ := obs2 h
  refine wc_call HF cf21 rfl (w_spec_ReadCode fuel hx1) rfl rfl ?_
  rintro e w ⟨a1, n1, c1, rfl, hE⟩
  have hb := hE.below
  have HT := HT.pure hE
  obtain rfl := (HT.rdAt 0 rfl).neq
  have HT : St w0 (fun _ => False) w [Own 25 (rowT y1) (.slice a1 y1.length c1)] := HT
  refine ⟨_, rfl, nS, fun a HF => ?_⟩
  refine wc_move HF nS rfl rfl rfl (fun a HF => ?_)
  refine wc_extract (v := .slice a1 y1.length c1) HF nS rfl rfl rfl rfl (fun a HF => ?_)
  refine wc_extract (v := .bool y2) HF nS rfl rfl rfl rfl (fun a HF => ?_)
  refine wc_assign HF nS rfl rfl rfl (fun a HF => ?_)
  refine wc_assign HF nS rfl rfl rfl (fun a HF => ?_)
  refine wc_end ?_
  refine then_n ?_
  refine wp_seq ?_
  refine wc_text ?_
  refine wc_move HF nS rfl rfl rfl (fun a HF => ?_)
  obtain ⟨y3, y4, hx2, h⟩ := obs2 h
  refine wc_call HF cf22 rfl (w_impl_ReadCode fuel hx2) rfl rfl ?_
  rintro e w ⟨a2, n2, c2, rfl, hE⟩
  have hb := hE.below
  have HT := HT.pure hE
  obtain rfl := (HT.rdAt 0 rfl).neq
  have HT : St w0 (fun _ => False) w [Own 25 (rowT y3) (.slice a2 y3.length c2), Own 25 (rowT y1) (.slice a1 y1.length c1)] := HT
  refine ⟨_, rfl, nS, fun a HF => ?_⟩
  refine wc_move HF nS rfl rfl rfl (fun a HF => ?_)
  refine wc_extract (v := .slice a2 y3.length c2) HF nS rfl rfl rfl rfl (fun a HF => ?_)
  refine wc_extract (v := .bool y4) HF nS rfl rfl rfl rfl (fun a HF => ?_)
  refine wc_assign HF nS rfl rfl rfl (fun a HF => ?_)
  refine wc_assign HF nS rfl rfl rfl (fun a HF => ?_)
  refine wc_end ?_
  refine then_n ?_
  obtain ⟨q1, hx3, h⟩ := obs h
  refine wp_cut (fun a w => q1 = .brk () ∧ Fr a 66 [(0, sv x0), (3, .slice a1 y1.length c1), (4, .bool y2), (5, .slice a2 y3.length c2)] ∧ St w0 (fun _ => False) w [Own 25 (rowT y1) (.slice a1 y1.length c1), Own 25 (rowT y3) (.slice a2 y3.length c2)]) ?_ ?_
  · have hk1 := h
    have h := hx3
    obtain ⟨z1, hx4, h⟩ := obs h
    refine wp_cut (fun a w => Fr a 66 [(0, sv x0), (3, .slice a1 y1.length c1), (4, .bool y2), (5, .slice a2 y3.length c2), (32, .bool z1)] ∧ St w0 (fun _ => False) w [Own 25 (rowT y1) (.slice a1 y1.length c1), Own 25 (rowT y3) (.slice a2 y3.length c2)]) ?_ ?_
    · have hk2 := h
      have h := hx4
      refine wc_text ?_
      refine wc_move HF nS rfl rfl rfl (fun a HF => ?_)
      refine wc_move HF nS rfl rfl rfl (fun a HF => ?_)
      obtain ⟨y5, hx5, h⟩ := obs h
      refine wc_call HF cf20 rfl (w_laws_eqOpS fuel hx5 (HT.rdAt 0 rfl) (HT.rdAt 1 rfl)) rfl rfl ?_
      rintro e w ⟨rfl, hE⟩
      have hb := hE.below
      have HT := HT.pure hE
      have HT : St w0 (fun _ => False) w [Own 25 (rowT y3) (.slice a2 y3.length c2), Own 25 (rowT y1) (.slice a1 y1.length c1)] := HT
      refine ⟨_, rfl, nS, fun a HF => ?_⟩
      refine wc_not HF nS rfl rfl rfl (fun a HF => ?_)
      refine wc_move HF nS rfl rfl rfl (fun a HF => ?_)
      by_cases hb2 : y5 = true
      · have h := (if_pos hb2).symm.trans h
        refine wc_move HF nS rfl (HF.wy rfl rfl rfl rfl (notT hb2)) rfl (fun a HF => ?_)
        refine wc_move HF nS rfl (HF.wy rfl rfl rfl rfl (notT hb2)) rfl (fun a HF => ?_)
        refine wc_bin HF nS rfl rfl (b_bne Try.underlying4) (HF.wy rfl rfl rfl rfl (notT hb2)) rfl (fun a HF => ?_)
        refine wc_pick (b := false) HF nS rfl (notT hb2) rfl rfl rfl (fun a HF => ?_)
        refine wc_end ?_
        have HT : St w0 (fun _ => False) w [Own 25 (rowT y1) (.slice a1 y1.length c1), Own 25 (rowT y3) (.slice a2 y3.length c2)] := HT.pick 1
        obtain rfl := Option.some.inj h
        exact then_n ⟨(HF.keep (HF.keep (HF.keep (HF.keep (HF.keep HF.nil rfl) rfl) rfl) rfl) rfl), HT⟩
      have h := (if_neg hb2).symm.trans h
      refine wc_skip HF nS (HF.wn rfl rfl rfl rfl (notF (Bool.eq_false_iff.2 hb2))) rfl (fun a HF => ?_)
      refine wc_skip HF nS (HF.wn rfl rfl rfl rfl (notF (Bool.eq_false_iff.2 hb2))) rfl (fun a HF => ?_)
      refine wc_skip HF nS (HF.wn rfl rfl rfl rfl (notF (Bool.eq_false_iff.2 hb2))) rfl (fun a HF => ?_)
      refine wc_pick (b := true) HF nS rfl (notF (Bool.eq_false_iff.2 hb2)) rfl rfl rfl (fun a HF => ?_)
      refine wc_end ?_
      have HT : St w0 (fun _ => False) w [Own 25 (rowT y1) (.slice a1 y1.length c1), Own 25 (rowT y3) (.slice a2 y3.length c2)] := HT.pick 1
      obtain rfl := Option.some.inj h
      exact then_n ⟨(HF.keep (HF.keep (HF.keep (HF.keep (HF.keep HF.nil rfl) rfl) rfl) rfl) rfl), HT⟩
    rintro a w ⟨HF, HT⟩
    refine ?_
    by_cases hb3 : z1 = true
    · have h := (if_pos hb3).symm.trans h
      refine wp_if (b' := true) HF rfl hb3 ?_
      refine wp_seq ?_
      refine wc_text ?_
      refine wc_assign HF nS rfl rfl rfl (fun a HF => ?_)
      refine wc_end ?_
      refine then_n ?_
      refine wp_ret ?_
      obtain rfl := Option.some.inj h
      have h := retL hk1
      obtain rfl := Option.some.inj h
      refine then_r (?_)
      refine bp_ret HF (res_one rfl HF rfl) ?_
      have HT : St w0 (fun _ => False) w [] := HT.take 0
      exact ⟨rfl, HT⟩
    have h := (if_neg hb3).symm.trans h
    refine wp_if (b' := false) HF rfl (Bool.eq_false_iff.2 hb3) ?_
    refine wp_skip ?_
    exact then_n ⟨(Option.some.inj h).symm, (HF.keep (HF.keep (HF.keep (HF.keep HF.nil rfl) rfl) rfl) rfl), HT⟩
  rintro a w ⟨rfl, HF, HT⟩
  have h := brkL1u h
  refine ?_
  refine wp_seq ?_
  refine wc_text ?_
  refine wc_assign HF nS rfl rfl rfl (fun a HF => ?_)
  refine wc_end ?_
  refine then_n ?_
  refine wp_seq ?_
  refine wc_text ?_
  refine wc_move HF nS rfl rfl rfl (fun a HF => ?_)
  refine wc_move HF nS rfl rfl rfl (fun a HF => ?_)
  have HT : St w0 (fun _ => False) w [Own 25 (rowT y3) (.slice a2 y3.length c2), Own 25 (rowT y1) (.slice a1 y1.length c1)] := HT.pick 1
  have HT : St w0 (fun _ => False) w [OwnA (rowT y3) (.slice a2 y3.length c2), Own 25 (rowT y1) (.slice a1 y1.length c1)] := HT.weak
  obtain ⟨y6, y7, hx6, h⟩ := obs2 h
  obtain ⟨F1, hAF1, hFF1, hbackF1, hroF1, hownF1, hownAF1⟩ := St.handR2 (A := [OwnA (rowT y3) (.slice a2 y3.length c2)]) HT
  refine wc_call HF cf23 rfl (w_laws_markOpS fuel hx6 hAF1) rfl rfl ?_
  rintro e w ⟨rfl, hE⟩
  have HT := hbackF1 _ _ hE
  have HT : St w0 (fun _ => False) w [OwnA (rowT y7) (.slice a2 y3.length c2), Own 25 (rowT y1) (.slice a1 y1.length c1)] := HT
  refine ⟨_, rfl, nS, fun a HF => ?_⟩
  refine wc_assign HF nS rfl rfl rfl (fun a HF => ?_)
  refine wc_end ?_
  refine then_n ?_
  refine wp_seq ?_
  refine wc_text ?_
  refine wc_assign HF nS rfl rfl rfl (fun a HF => ?_)
  refine wc_end ?_
  refine then_n ?_
  refine wp_seq ?_
  refine wc_text ?_
  refine wc_move HF nS rfl rfl rfl (fun a HF => ?_)
  refine wc_move HF nS rfl rfl rfl (fun a HF => ?_)
  obtain ⟨y8, hx7, h⟩ := obs h
  refine wc_call HF cf24 rfl (w_laws_heldOpS fuel hx7 (HT.rdAAt 0 rfl)) rfl rfl ?_
  rintro e w ⟨rfl, hE⟩
  have hb := hE.below
  have HT := HT.pure hE
  have HT : St w0 (fun _ => False) w [OwnA (rowT y7) (.slice a2 y3.length c2), Own 25 (rowT y1) (.slice a1 y1.length c1)] := HT
  refine ⟨_, rfl, nS, fun a HF => ?_⟩
  refine wc_assign HF nS rfl rfl rfl (fun a HF => ?_)
  refine wc_end ?_
  refine then_n ?_
  refine wp_seq ?_
  refine wp_seq ?_
  refine wc_text ?_
  refine wc_move HF nS rfl rfl rfl (fun a HF => ?_)
  refine wc_bin HF nS rfl rfl b_lt rfl rfl (fun a HF => ?_)
  refine wc_end ?_
  refine then_n ?_
  by_cases hb4 : y8 < 0
  · have h := (if_pos hb4).symm.trans h
    refine wp_if (b' := true) HF rfl (decide_eq_true hb4) ?_
    refine wp_seq ?_
    refine wc_text ?_
    refine wc_assign HF nS rfl rfl rfl (fun a HF => ?_)
    refine wc_end ?_
    refine then_n ?_
    refine wp_ret ?_
    obtain rfl := Option.some.inj h
    refine then_r (?_)
    refine bp_ret HF (res_one rfl HF rfl) ?_
    have HT : St w0 (fun _ => False) w [] := HT.take 0
    exact ⟨rfl, HT⟩
  have h := (if_neg hb4).symm.trans h
  refine wp_if (b' := false) HF rfl (decide_eq_false hb4) ?_
  refine wp_skip ?_
  refine then_n ?_
  refine wp_seq ?_
  refine wp_seq ?_
  refine wc_text ?_
  refine wc_move HF nS rfl rfl rfl (fun a HF => ?_)
  refine wc_move HF nS rfl rfl rfl (fun a HF => ?_)
  refine wc_bin HF nS rfl rfl b_ne rfl rfl (fun a HF => ?_)
  refine wc_end ?_
  refine then_n ?_
  by_cases hb5 : y8 = y6
  · have h := (if_pos hb5).symm.trans h
    refine wp_if (b' := false) HF rfl (notT (decide_eq_true hb5)) ?_
    refine wp_skip ?_
    refine then_n ?_
    refine wp_seq ?_
    refine wc_text ?_
    refine wc_move HF nS rfl rfl rfl (fun a HF => ?_)
    obtain ⟨y9, y10, hx8, h⟩ := obs2 h
    refine wc_call HF cf22 rfl (w_impl_ReadCode fuel hx8) rfl rfl ?_
    rintro e w ⟨a3, n3, c3, rfl, hE⟩
    have hb := hE.below
    have HT := HT.pure hE
    obtain rfl := (HT.rdAt 0 rfl).neq
    have HT : St w0 (fun _ => False) w [Own 25 (rowT y9) (.slice a3 y9.length c3), OwnA (rowT y7) (.slice a2 y3.length c2), Own 25 (rowT y1) (.slice a1 y1.length c1)] := HT
    refine ⟨_, rfl, nS, fun a HF => ?_⟩
    refine wc_move HF nS rfl rfl rfl (fun a HF => ?_)
    refine wc_extract (v := .slice a3 y9.length c3) HF nS rfl rfl rfl rfl (fun a HF => ?_)
    refine wc_extract (v := .bool y10) HF nS rfl rfl rfl rfl (fun a HF => ?_)
    refine wc_assign HF nS rfl rfl rfl (fun a HF => ?_)
    refine wc_assign HF nS rfl rfl rfl (fun a HF => ?_)
    refine wc_end ?_
    refine then_n ?_
    obtain ⟨q3, hx9, h⟩ := obs h
    refine wp_cut (fun a w => q3 = .brk () ∧ Fr a 66 [(5, .slice a2 y3.length c2), (7, .int .i64 y6)] ∧ St w0 (fun _ => False) w [OwnA (rowT y7) (.slice a2 y3.length c2)]) ?_ ?_
    · have hk1 := h
      have h := hx9
      obtain ⟨z2, hx10, h⟩ := obs h
      refine wp_cut (fun a w => Fr a 66 [(5, .slice a2 y3.length c2), (7, .int .i64 y6), (57, .bool z2)] ∧ St w0 (fun _ => False) w [OwnA (rowT y7) (.slice a2 y3.length c2)]) ?_ ?_
      · have hk2 := h
        have h := hx10
        refine wc_text ?_
        refine wc_move HF nS rfl rfl rfl (fun a HF => ?_)
        refine wc_move HF nS rfl rfl rfl (fun a HF => ?_)
        obtain ⟨y11, hx11, h⟩ := obs h
        refine wc_call HF cf20 rfl (w_laws_eqOpS fuel hx11 (HT.rdAt 0 rfl) (HT.rdAt 2 rfl)) rfl rfl ?_
        rintro e w ⟨rfl, hE⟩
        have hb := hE.below
        have HT := HT.pure hE
        have HT : St w0 (fun _ => False) w [Own 25 (rowT y9) (.slice a3 y9.length c3), OwnA (rowT y7) (.slice a2 y3.length c2), Own 25 (rowT y1) (.slice a1 y1.length c1)] := HT
        refine ⟨_, rfl, nS, fun a HF => ?_⟩
        refine wc_not HF nS rfl rfl rfl (fun a HF => ?_)
        refine wc_move HF nS rfl rfl rfl (fun a HF => ?_)
        by_cases hb6 : y11 = true
        · have h := (if_pos hb6).symm.trans h
          refine wc_move HF nS rfl (HF.wy rfl rfl rfl rfl (notT hb6)) rfl (fun a HF => ?_)
          refine wc_move HF nS rfl (HF.wy rfl rfl rfl rfl (notT hb6)) rfl (fun a HF => ?_)
          refine wc_bin HF nS rfl rfl (b_bne Try.underlying4) (HF.wy rfl rfl rfl rfl (notT hb6)) rfl (fun a HF => ?_)
          refine wc_pick (b := false) HF nS rfl (notT hb6) rfl rfl rfl (fun a HF => ?_)
          refine wc_end ?_
          have HT : St w0 (fun _ => False) w [OwnA (rowT y7) (.slice a2 y3.length c2)] := (HT.pick 1).take 1
          obtain rfl := Option.some.inj h
          exact then_n ⟨(HF.keep (HF.keep (HF.keep HF.nil rfl) rfl) rfl), HT⟩
        have h := (if_neg hb6).symm.trans h
        refine wc_skip HF nS (HF.wn rfl rfl rfl rfl (notF (Bool.eq_false_iff.2 hb6))) rfl (fun a HF => ?_)
        refine wc_skip HF nS (HF.wn rfl rfl rfl rfl (notF (Bool.eq_false_iff.2 hb6))) rfl (fun a HF => ?_)
        refine wc_skip HF nS (HF.wn rfl rfl rfl rfl (notF (Bool.eq_false_iff.2 hb6))) rfl (fun a HF => ?_)
        refine wc_pick (b := true) HF nS rfl (notF (Bool.eq_false_iff.2 hb6)) rfl rfl rfl (fun a HF => ?_)
        refine wc_end ?_
        have HT : St w0 (fun _ => False) w [OwnA (rowT y7) (.slice a2 y3.length c2)] := (HT.pick 1).take 1
        obtain rfl := Option.some.inj h
        exact then_n ⟨(HF.keep (HF.keep (HF.keep HF.nil rfl) rfl) rfl), HT⟩
      rintro a w ⟨HF, HT⟩
      refine ?_
      by_cases hb7 : z2 = true
      · have h := (if_pos hb7).symm.trans h
        refine wp_if (b' := true) HF rfl hb7 ?_
        refine wp_seq ?_
        refine wc_text ?_
        refine wc_assign HF nS rfl rfl rfl (fun a HF => ?_)
        refine wc_end ?_
        refine then_n ?_
        refine wp_ret ?_
        obtain rfl := Option.some.inj h
        have h := retL hk1
        obtain rfl := Option.some.inj h
        refine then_r (?_)
        refine bp_ret HF (res_one rfl HF rfl) ?_
        have HT : St w0 (fun _ => False) w [] := HT.take 0
        exact ⟨rfl, HT⟩
      have h := (if_neg hb7).symm.trans h
      refine wp_if (b' := false) HF rfl (Bool.eq_false_iff.2 hb7) ?_
      refine wp_skip ?_
      exact then_n ⟨(Option.some.inj h).symm, (HF.keep (HF.keep HF.nil rfl) rfl), HT⟩
    rintro a w ⟨rfl, HF, HT⟩
    have h := brkL1u h
    refine ?_
    refine wp_seq ?_
    refine wc_text ?_
    refine wc_assign HF nS rfl rfl rfl (fun a HF => ?_)
    refine wc_end ?_
    refine then_n ?_
    refine wp_seq ?_
    refine wc_text ?_
    refine wc_move HF nS rfl rfl rfl (fun a HF => ?_)
    refine wc_move HF nS rfl rfl rfl (fun a HF => ?_)
    obtain ⟨y12, hx12, h⟩ := obs h
    refine wc_call HF cf24 rfl (w_laws_heldOpS fuel hx12 (HT.rdAAt 0 rfl)) rfl rfl ?_
    rintro e w ⟨rfl, hE⟩
    have hb := hE.below
    have HT := HT.pure hE
    have HT : St w0 (fun _ => False) w [OwnA (rowT y7) (.slice a2 y3.length c2)] := HT
    refine ⟨_, rfl, nS, fun a HF => ?_⟩
    refine wc_assign HF nS rfl rfl rfl (fun a HF => ?_)
    refine wc_end ?_
    refine then_n ?_
    refine wp_seq ?_
    refine wp_seq ?_
    refine wc_text ?_
    refine wc_move HF nS rfl rfl rfl (fun a HF => ?_)
    refine wc_bin HF nS rfl rfl b_lt rfl rfl (fun a HF => ?_)
    refine wc_end ?_
    refine then_n ?_
    by_cases hb8 : y12 < 0
    · have h := (if_pos hb8).symm.trans h
      refine wp_if (b' := true) HF rfl (decide_eq_true hb8) ?_
      refine wp_seq ?_
      refine wc_text ?_
      refine wc_assign HF nS rfl rfl rfl (fun a HF => ?_)
      refine wc_end ?_
      refine then_n ?_
      refine wp_ret ?_
      obtain rfl := Option.some.inj h
      refine then_r (?_)
      refine bp_ret HF (res_one rfl HF rfl) ?_
      have HT : St w0 (fun _ => False) w [] := HT.take 0
      exact ⟨rfl, HT⟩
    have h := (if_neg hb8).symm.trans h
    refine wp_if (b' := false) HF rfl (decide_eq_false hb8) ?_
    refine wp_skip ?_
    refine then_n ?_
    refine wp_seq ?_
    refine wp_seq ?_
    refine wc_text ?_
    refine wc_move HF nS rfl rfl rfl (fun a HF => ?_)
    refine wc_move HF nS rfl rfl rfl (fun a HF => ?_)
    refine wc_bin HF nS rfl rfl b_ne rfl rfl (fun a HF => ?_)
    refine wc_end ?_
    refine then_n ?_
    by_cases hb9 : y12 = y6
    · have h := (if_pos hb9).symm.trans h
      refine wp_if (b' := false) HF rfl (notT (decide_eq_true hb9)) ?_
      refine wp_skip ?_
      refine then_n ?_
      refine wp_seq ?_
      refine wc_text ?_
      refine wc_assign HF nS rfl rfl rfl (fun a HF => ?_)
      refine wc_end ?_
      refine then_n ?_
      refine wp_ret ?_
      obtain rfl := Option.some.inj h
      refine bp_ret HF (res_one rfl HF rfl) ?_
      have HT : St w0 (fun _ => False) w [] := HT.take 0
      exact ⟨rfl, HT⟩
    have h := (if_neg hb9).symm.trans h
    refine wp_if (b' := true) HF rfl (notF (decide_eq_false hb9)) ?_
    refine wp_seq ?_
    refine wc_text ?_
    refine wc_assign HF nS rfl rfl rfl (fun a HF => ?_)
    refine wc_end ?_
    refine then_n ?_
    refine wp_ret ?_
    obtain rfl := Option.some.inj h
    refine then_r (?_)
    refine bp_ret HF (res_one rfl HF rfl) ?_
    have HT : St w0 (fun _ => False) w [] := HT.take 0
    exact ⟨rfl, HT⟩
  have h := (if_neg hb5).symm.trans h
  refine wp_if (b' := true) HF rfl (notF (decide_eq_false hb5)) ?_
  refine wp_seq ?_
  refine wc_text ?_
  refine wc_assign HF nS rfl rfl rfl (fun a HF => ?_)
  refine wc_end ?_
  refine then_n ?_
  refine wp_ret ?_
  obtain rfl := Option.some.inj h
  refine then_r (?_)
  refine bp_ret HF (res_one rfl HF rfl) ?_
  have HT : St w0 (fun _ => False) w [] := HT.take 0
  exact ⟨rfl, HT⟩

def m_impl_HasFork_1 (fuel : Nat) (x0_0 : Int) (x0_1 : Int) (x0_2 : Int) (x0_3 : Int) : Option Bool :=
  some (decide (x0_0 = 11))

set_option maxRecDepth 100000 in
set_option maxHeartbeats 4000000 in
theorem w_impl_HasFork_1 (fuel : Nat) {x0_0 : Int} {x0_1 : Int} {x0_2 : Int} {x0_3 : Int} {r0 : Bool} {w0 : World} (h : m_impl_HasFork_1 fuel x0_0 x0_1 x0_2 x0_3 = some r0) :
    Calls Try.prog 102 #[.agg #[.int .i64 x0_0, .int .i64 x0_1, .int .i64 x0_2, .int .i64 x0_3]] w0 fun e w => e = .returned (.bool r0) ∧ St w0 (fun _ => False) w [] := by
  have HT : St w0 (fun _ => False) w0 [] := St.init0
  rw [m_impl_HasFork_1] at h
  refine calls_fr (n := 6) [.agg #[.int .i64 x0_0, .int .i64 x0_1, .int .i64 x0_2, .int .i64 x0_3]] Try.func102 rfl rfl rfl (fun a HF => ?_)
  have HT : St w0 (fun _ => False) w0 [] := HT
  refine wp_seq ?_
  refine wc_text ?_
  refine wc_box (cs := [.int .i64 x0_0, .int .i64 x0_1, .int .i64 x0_2, .int .i64 x0_3]) HF HT rfl rfl rfl rfl (fun p1 w HT hb => ⟨nS, fun a HF => ?_⟩)
  refine wc_assign HF nS rfl rfl rfl (fun a HF => ?_)
  refine wc_end ?_
  refine then_n ?_
  refine wp_seq ?_
  refine wc_text ?_
  refine wc_faddr HF nS rfl fl25_0 rfl rfl (fun a HF => ?_)
  refine wc_load HF rfl sc3 ((HT.boxAt 0 rfl).get 0 rfl) rfl rfl (fun a HF => ?_)
  refine wc_bin HF nS rfl rfl b_eq rfl rfl (fun a HF => ?_)
  refine wc_assign HF nS rfl rfl rfl (fun a HF => ?_)
  refine wc_end ?_
  refine then_n ?_
  refine wp_ret ?_
  obtain rfl := Option.some.inj h
  refine bp_ret HF (res_one rfl HF rfl) ?_
  have HT : St w0 (fun _ => False) w [] := HT.take 0
  exact ⟨rfl, HT⟩

def m_slices_IndexFunc___impl_Op_impl_Op__102_L0 (fuel : Nat) (x0 : List I4) : Nat → Int → Option (Lp Unit Int)
  | 0, _ => none
  | k1 + 1, z1 =>
    if z1 < (x0.length : Int) then
      (at? x0 z1).bind fun e1 =>
      (m_impl_HasFork_1 fuel e1.a e1.b e1.c e1.d).bind fun y1 =>
      if y1 = true then
        some (.ret z1)
      else
      if in64 (z1 + 1) then
        m_slices_IndexFunc___impl_Op_impl_Op__102_L0 fuel x0 k1 (z1 + 1)
      else none
    else
    some (.brk ())

def m_slices_IndexFunc___impl_Op_impl_Op__102 (fuel : Nat) (x0 : List I4) : Option Int :=
  (m_slices_IndexFunc___impl_Op_impl_Op__102_L0 fuel x0 fuel 0).bind <| contL <| un1 fun _ =>
  some (-1)

set_option maxRecDepth 100000 in
set_option maxHeartbeats 4000000 in
theorem w_slices_IndexFunc___impl_Op_impl_Op__102 (fuel : Nat) {x0 : List I4} {a_x0 : Option Addr} {n_x0 c_x0 : Nat} {r0 : Int} {w0 : World} (h : m_slices_IndexFunc___impl_Op_impl_Op__102 fuel x0 = some r0) (hr_x0 : RdT (fun b => ¬ False) w0 (rowT x0) (.slice a_x0 n_x0 c_x0)) :
    Calls Try.prog 105 #[.slice a_x0 n_x0 c_x0, .func (.func 102) #[] #[]] w0 fun e w => e = .returned (.int .i64 r0) ∧ St w0 (fun _ => False) w [] := by
  obtain rfl := hr_x0.neq
  have HT : St w0 (fun _ => False) w0 [] := St.init0
  rw [m_slices_IndexFunc___impl_Op_impl_Op__102] at h
  refine calls_fr (n := 19) [.slice a_x0 x0.length c_x0, .func (.func 102) #[] #[]] Try.func105 rfl rfl rfl (fun a HF => ?_)
  have HT : St w0 (fun _ => False) w0 [] := HT
  refine wp_seq ?_
  refine wc_text ?_
  refine wc_assign HF nS rfl rfl rfl (fun a HF => ?_)
  refine wc_end ?_
  refine then_n ?_
  obtain ⟨q1, hx1, h⟩ := obs h
  refine wp_cut (fun a w => q1 = .brk () ∧ Fr a 19 [] ∧ St w0 (fun _ => False) w []) ?_ ?_
  · have hk1 := h
    have h := hx1
    refine wp_seq ?_
    refine wc_text ?_
    refine wc_move HF nS rfl rfl rfl (fun a HF => ?_)
    refine wc_lenR HF nS Try.underlying35 rfl rfl rfl (fun a HF => ?_)
    refine wc_move HF nS rfl rfl rfl (fun a HF => ?_)
    refine wc_end ?_
    refine then_n ?_
    refine wp_block ?_
    refine wp_loopN (fun k1 a w => ∃ z1, m_slices_IndexFunc___impl_Op_impl_Op__102_L0 fuel x0 k1 z1 = some q1 ∧ Fr a 19 [(0, .slice a_x0 x0.length c_x0), (1, .func (.func 102) #[] #[]), (7, .int .i64 (x0.length : Int)), (8, .int .i64 z1)] ∧ St w0 (fun _ => False) w []) fuel ⟨0, h, (HF.keep (HF.keep (HF.keep (HF.keep HF.nil rfl) rfl) rfl) rfl), HT⟩ ?_
    rintro k1 a w ⟨z1, h, HF, HT⟩
    cases k1 with
    | zero => cases h
    | succ k1 =>
      rw [m_slices_IndexFunc___impl_Op_impl_Op__102_L0] at h
      refine ?_
      refine wp_seq ?_
      refine wc_text ?_
      refine wc_bin HF nS rfl rfl b_lt rfl rfl (fun a HF => ?_)
      refine wc_end ?_
      refine then_n ?_
      refine wp_seq ?_
      by_cases hb1 : z1 < (x0.length : Int)
      · have h := (if_pos hb1).symm.trans h
        refine wp_if (b' := true) HF rfl (decide_eq_true hb1) ?_
        refine wp_skip ?_
        refine then_n ?_
        refine wp_seq ?_
        refine wp_block ?_
        refine wp_seq ?_
        refine wc_text ?_
        refine wc_move HF nS rfl rfl rfl (fun a HF => ?_)
        refine wc_assign HF nS rfl rfl rfl (fun a HF => ?_)
        refine wc_end ?_
        refine then_n ?_
        refine wp_seq ?_
        refine wc_text ?_
        refine wc_move HF nS rfl rfl rfl (fun a HF => ?_)
        refine wc_move HF nS rfl rfl rfl (fun a HF => ?_)
        refine wc_move HF nS rfl rfl rfl (fun a HF => ?_)
        obtain ⟨e1, hx2, h⟩ := obs h
        obtain ⟨b1, o1, ha1⟩ := (HT.ro hr_x0).any.addr hx2
        refine wc_ixaddr HF nS el35 rfl ha1 ((HT.ro hr_x0).any).neq rfl hx2 rfl rfl (fun a HF => ?_)
        have hc1 := (HT.ro hr_x0).any.flatAt ha1 hx2
        refine wc_loadA (vs := [.int .i64 e1.a, .int .i64 e1.b, .int .i64 e1.c, .int .i64 e1.d]) HF rfl ag25 rfl (hc1.part 0 4) rfl rfl (fun a HF => ?_)
        obtain ⟨y1, hx3, h⟩ := obs h
        refine wc_callv HF cf102 rfl rfl (w_impl_HasFork_1 fuel hx3) rfl rfl ?_
        rintro e w ⟨rfl, hE⟩
        have hb := hE.below
        have HT := HT.pure hE
        have HT : St w0 (fun _ => False) w [] := HT
        refine ⟨_, rfl, nS, fun a HF => ?_⟩
        refine wc_end ?_
        refine then_n ?_
        by_cases hb2 : y1 = true
        · have h := (if_pos hb2).symm.trans h
          refine wp_if (b' := true) HF rfl hb2 ?_
          refine wp_seq ?_
          refine wc_text ?_
          refine wc_move HF nS rfl rfl rfl (fun a HF => ?_)
          refine wc_assign HF nS rfl rfl rfl (fun a HF => ?_)
          refine wc_end ?_
          refine then_n ?_
          refine wp_ret ?_
          obtain rfl := Option.some.inj h
          have h := retL hk1
          obtain rfl := Option.some.inj h
          refine blk_r (then_r (then_r (blk_r (then_r (?_)))))
          refine bp_ret HF (res_one rfl HF rfl) ?_
          exact ⟨rfl, HT⟩
        have h := (if_neg hb2).symm.trans h
        refine wp_if (b' := false) HF rfl (Bool.eq_false_iff.2 hb2) ?_
        refine wp_skip ?_
        refine blk_n ?_
        refine then_n ?_
        refine wc_text ?_
        obtain ⟨hg1, h⟩ := grd h
        refine wc_bin HF nS rfl rfl (b_add hg1) rfl rfl (fun a HF => ?_)
        refine wc_move HF nS rfl rfl rfl (fun a HF => ?_)
        refine wc_end ?_
        exact then_n ⟨k1, Nat.lt_succ_self k1, z1 + 1, h, (HF.keep (HF.keep (HF.keep (HF.keep HF.nil rfl) rfl) rfl) rfl), HT⟩
      have h := (if_neg hb1).symm.trans h
      refine wp_if (b' := false) HF rfl (decide_eq_false hb1) ?_
      refine wp_exit ?_
      refine then_x (then_x (?_))
      refine blk_x ?_
      exact then_n ⟨(Option.some.inj h).symm, HF.nil, HT⟩
  rintro a w ⟨rfl, HF, HT⟩
  have h := brkL1u h
  refine ?_
  refine wp_seq ?_
  refine wc_text ?_
  refine wc_assign HF nS rfl rfl rfl (fun a HF => ?_)
  refine wc_end ?_
  refine then_n ?_
  refine wp_ret ?_
  obtain rfl := Option.some.inj h
  refine bp_ret HF (res_one rfl HF rfl) ?_
  exact ⟨rfl, HT⟩

def m_slices_ContainsFunc___impl_Op_impl_Op__102 (fuel : Nat) (x0 : List I4) : Option Bool :=
  (m_slices_IndexFunc___impl_Op_impl_Op__102 fuel x0).bind fun y1 =>
  some (decide (0 ≤ y1))

set_option maxRecDepth 100000 in
set_option maxHeartbeats 4000000 in
theorem w_slices_ContainsFunc___impl_Op_impl_Op__102 (fuel : Nat) {x0 : List I4} {a_x0 : Option Addr} {n_x0 c_x0 : Nat} {r0 : Bool} {w0 : World} (h : m_slices_ContainsFunc___impl_Op_impl_Op__102 fuel x0 = some r0) (hr_x0 : RdT (fun b => ¬ False) w0 (rowT x0) (.slice a_x0 n_x0 c_x0)) :
    Calls Try.prog 101 #[.slice a_x0 n_x0 c_x0, .func (.func 102) #[] #[]] w0 fun e w => e = .returned (.bool r0) ∧ St w0 (fun _ => False) w [] := by
  obtain rfl := hr_x0.neq
  have HT : St w0 (fun _ => False) w0 [] := St.init0
  rw [m_slices_ContainsFunc___impl_Op_impl_Op__102] at h
  refine calls_fr (n := 9) [.slice a_x0 x0.length c_x0, .func (.func 102) #[] #[]] Try.func101 rfl rfl rfl (fun a HF => ?_)
  have HT : St w0 (fun _ => False) w0 [] := HT
  refine wp_seq ?_
  refine wc_text ?_
  refine wc_assign HF nS rfl rfl rfl (fun a HF => ?_)
  refine wc_end ?_
  refine then_n ?_
  refine wp_seq ?_
  refine wc_text ?_
  refine wc_move HF nS rfl rfl rfl (fun a HF => ?_)
  refine wc_move HF nS rfl rfl rfl (fun a HF => ?_)
  obtain ⟨y1, hx1, h⟩ := obs h
  refine wc_call HF cf105 rfl (w_slices_IndexFunc___impl_Op_impl_Op__102 fuel hx1 (HT.ro hr_x0).any) rfl rfl ?_
  rintro e w ⟨rfl, hE⟩
  have hb := hE.below
  have HT := HT.pure hE
  have HT : St w0 (fun _ => False) w [] := HT
  refine ⟨_, rfl, nS, fun a HF => ?_⟩
  refine wc_bin HF nS rfl rfl b_ge rfl rfl (fun a HF => ?_)
  refine wc_assign HF nS rfl rfl rfl (fun a HF => ?_)
  refine wc_end ?_
  refine then_n ?_
  refine wp_ret ?_
  obtain rfl := Option.some.inj h
  refine bp_ret HF (res_one rfl HF rfl) ?_
  exact ⟨rfl, HT⟩

def m_impl_HasFork (fuel : Nat) (x0 : List I4) : Option Bool :=
  (m_slices_ContainsFunc___impl_Op_impl_Op__102 fuel x0).bind fun y1 =>
  some y1

set_option maxRecDepth 100000 in
set_option maxHeartbeats 4000000 in
theorem w_impl_HasFork (fuel : Nat) {x0 : List I4} {a_x0 : Option Addr} {n_x0 c_x0 : Nat} {r0 : Bool} {w0 : World} (h : m_impl_HasFork fuel x0 = some r0) (hr_x0 : RdT (fun b => ¬ False) w0 (rowT x0) (.slice a_x0 n_x0 c_x0)) :
    Calls Try.prog 88 #[.slice a_x0 n_x0 c_x0] w0 fun e w => e = .returned (.bool r0) ∧ St w0 (fun _ => False) w [] := by
  obtain rfl := hr_x0.neq
  have HT : St w0 (fun _ => False) w0 [] := St.init0
  rw [m_impl_HasFork] at h
  refine calls_fr (n := 5) [.slice a_x0 x0.length c_x0] Try.func88 rfl rfl rfl (fun a HF => ?_)
  have HT : St w0 (fun _ => False) w0 [] := HT
  refine wp_seq ?_
  refine wc_text ?_
  refine wc_assign HF nS rfl rfl rfl (fun a HF => ?_)
  refine wc_end ?_
  refine then_n ?_
  refine wp_seq ?_
  refine wc_text ?_
  refine wc_move HF nS rfl rfl rfl (fun a HF => ?_)
  obtain ⟨y1, hx1, h⟩ := obs h
  refine wc_call HF cf101 rfl (w_slices_ContainsFunc___impl_Op_impl_Op__102 fuel hx1 (HT.ro hr_x0).any) rfl rfl ?_
  rintro e w ⟨rfl, hE⟩
  have hb := hE.below
  have HT := HT.pure hE
  have HT : St w0 (fun _ => False) w [] := HT
  refine ⟨_, rfl, nS, fun a HF => ?_⟩
  refine wc_assign HF nS rfl rfl rfl (fun a HF => ?_)
  refine wc_end ?_
  refine then_n ?_
  refine wp_ret ?_
  obtain rfl := Option.some.inj h
  refine bp_ret HF (res_one rfl HF rfl) ?_
  exact ⟨rfl, HT⟩

def m_impl_Touches (fuel : Nat) (x0_0 : Int) (x0_1 : Int) (x0_2 : Int) (x0_3 : Int) : Option Int :=
  (m_impl_OpOk fuel x0_0 x0_1 x0_2 x0_3).bind fun y1 =>
  if y1 = true then
    (
      (
        if x0_0 = 5 then
          some (decide (x0_0 = 5))
        else
        some (decide (x0_0 = 6))).bind fun z1 =>
      if z1 = true then
        some (.ret 1)
      else
      (
        if x0_0 = 12 then
          some (decide (x0_0 = 12))
        else
        if x0_0 = 13 then
          some (decide (x0_0 = 13))
        else
        if x0_0 = 14 then
          some (decide (x0_0 = 14))
        else
        if x0_0 = 15 then
          some (decide (x0_0 = 15))
        else
        some (decide (x0_0 = 16))).bind fun z2 =>
      if z2 = true then
        some (.ret 2)
      else
      some (.brk ())).bind <| contL <| un1 fun _ =>
    some 0
  else
  some 0

set_option maxRecDepth 100000 in
set_option maxHeartbeats 4000000 in
theorem w_impl_Touches (fuel : Nat) {x0_0 : Int} {x0_1 : Int} {x0_2 : Int} {x0_3 : Int} {r0 : Int} {w0 : World} (h : m_impl_Touches fuel x0_0 x0_1 x0_2 x0_3 = some r0) :
    Calls Try.prog 100 #[.agg #[.int .i64 x0_0, .int .i64 x0_1, .int .i64 x0_2, .int .i64 x0_3]] w0 fun e w => e = .returned (.int .i64 r0) ∧ St w0 (fun _ => False) w [] := by
  have HT : St w0 (fun _ => False) w0 [] := St.init0
  rw [m_impl_Touches] at h
  refine calls_fr (n := 17) [.agg #[.int .i64 x0_0, .int .i64 x0_1, .int .i64 x0_2, .int .i64 x0_3]] Try.func100 rfl rfl rfl (fun a HF => ?_)
  have HT : St w0 (fun _ => False) w0 [] := HT
  refine wp_seq ?_
  refine wc_text ?_
  refine wc_box (cs := [.int .i64 x0_0, .int .i64 x0_1, .int .i64 x0_2, .int .i64 x0_3]) HF HT rfl rfl rfl rfl (fun p1 w HT hb => ⟨nS, fun a HF => ?_⟩)
  refine wc_assign HF nS rfl rfl rfl (fun a HF => ?_)
  refine wc_end ?_
  refine then_n ?_
  refine wp_seq ?_
  refine wp_seq ?_
  refine wc_text ?_
  refine wc_loadA (vs := [.int .i64 x0_0, .int .i64 x0_1, .int .i64 x0_2, .int .i64 x0_3]) HF rfl ag25 rfl ((HT.boxAt 0 rfl).part 0 4) rfl rfl (fun a HF => ?_)
  obtain ⟨y1, hx1, h⟩ := obs h
  refine wc_call HF cf44 rfl (w_impl_OpOk fuel hx1) rfl rfl ?_
  rintro e w ⟨rfl, hE⟩
  have hb := hE.below
  have HT := HT.pure hE
  have HT : St w0 (fun _ => False) w [Box p1 [.int .i64 x0_0, .int .i64 x0_1, .int .i64 x0_2, .int .i64 x0_3]] := HT
  refine ⟨_, rfl, nS, fun a HF => ?_⟩
  refine wc_not HF nS rfl rfl rfl (fun a HF => ?_)
  refine wc_end ?_
  refine then_n ?_
  by_cases hb1 : y1 = true
  · have h := (if_pos hb1).symm.trans h
    refine wp_if (b' := false) HF rfl (notT hb1) ?_
    refine wp_skip ?_
    refine then_n ?_
    obtain ⟨q1, hx2, h⟩ := obs h
    refine wp_cut (fun a w => q1 = .brk () ∧ Fr a 17 [] ∧ St w0 (fun _ => False) w []) ?_ ?_
    · have hk1 := h
      have h := hx2
      refine wp_seq ?_
      refine wc_text ?_
      refine wc_faddr HF nS rfl fl25_0 rfl rfl (fun a HF => ?_)
      refine wc_load HF rfl sc3 ((HT.boxAt 0 rfl).get 0 rfl) rfl rfl (fun a HF => ?_)
      refine wc_end ?_
      refine then_n ?_
      refine wp_block ?_
      obtain ⟨z1, hx3, h⟩ := obs h
      refine wp_cut (fun a w => Fr a 17 [(7, .int .i64 x0_0), (8, .bool z1)] ∧ St w0 (fun _ => False) w []) ?_ ?_
      · have hk2 := h
        have h := hx3
        refine wp_seq ?_
        refine wc_text ?_
        refine wc_bin HF nS rfl rfl b_eq rfl rfl (fun a HF => ?_)
        refine wc_assign HF nS rfl rfl rfl (fun a HF => ?_)
        refine wc_end ?_
        refine then_n ?_
        by_cases hb2 : x0_0 = 5
        · have h := (if_pos hb2).symm.trans h
          refine wp_if (b' := true) HF rfl (decide_eq_true hb2) ?_
          refine wp_skip ?_
          have HT : St w0 (fun _ => False) w [] := HT.take 0
          obtain rfl := Option.some.inj h
          exact then_n ⟨(HF.keep (HF.keep HF.nil rfl) rfl), HT⟩
        have h := (if_neg hb2).symm.trans h
        refine wp_if (b' := false) HF rfl (decide_eq_false hb2) ?_
        refine wc_text ?_
        refine wc_bin HF nS rfl rfl b_eq rfl rfl (fun a HF => ?_)
        refine wc_assign HF nS rfl rfl rfl (fun a HF => ?_)
        refine wc_end ?_
        have HT : St w0 (fun _ => False) w [] := HT.take 0
        obtain rfl := Option.some.inj h
        exact then_n ⟨(HF.keep (HF.keep HF.nil rfl) rfl), HT⟩
      rintro a w ⟨HF, HT⟩
      refine ?_
      by_cases hb3 : z1 = true
      · have h := (if_pos hb3).symm.trans h
        refine wp_if (b' := true) HF rfl hb3 ?_
        refine wp_seq ?_
        refine wc_text ?_
        refine wc_assign HF nS rfl rfl rfl (fun a HF => ?_)
        refine wc_end ?_
        refine then_n ?_
        refine wp_ret ?_
        obtain rfl := Option.some.inj h
        have h := retL hk1
        obtain rfl := Option.some.inj h
        refine blk_r (then_r (?_))
        refine bp_ret HF (res_one rfl HF rfl) ?_
        exact ⟨rfl, HT⟩
      have h := (if_neg hb3).symm.trans h
      refine wp_if (b' := false) HF rfl (Bool.eq_false_iff.2 hb3) ?_
      obtain ⟨z2, hx4, h⟩ := obs h
      refine wp_cut (fun a w => Fr a 17 [(11, .bool z2)] ∧ St w0 (fun _ => False) w []) ?_ ?_
      · have hk2 := h
        have h := hx4
        refine wp_seq ?_
        refine wc_text ?_
        refine wc_bin HF nS rfl rfl b_eq rfl rfl (fun a HF => ?_)
        refine wc_assign HF nS rfl rfl rfl (fun a HF => ?_)
        refine wc_end ?_
        refine then_n ?_
        by_cases hb4 : x0_0 = 12
        · have h := (if_pos hb4).symm.trans h
          refine wp_if (b' := true) HF rfl (decide_eq_true hb4) ?_
          refine wp_skip ?_
          obtain rfl := Option.some.inj h
          exact then_n ⟨(HF.keep HF.nil rfl), HT⟩
        have h := (if_neg hb4).symm.trans h
        refine wp_if (b' := false) HF rfl (decide_eq_false hb4) ?_
        refine wp_seq ?_
        refine wc_text ?_
        refine wc_bin HF nS rfl rfl b_eq rfl rfl (fun a HF => ?_)
        refine wc_assign HF nS rfl rfl rfl (fun a HF => ?_)
        refine wc_end ?_
        refine then_n ?_
        by_cases hb5 : x0_0 = 13
        · have h := (if_pos hb5).symm.trans h
          refine wp_if (b' := true) HF rfl (decide_eq_true hb5) ?_
          refine wp_skip ?_
          obtain rfl := Option.some.inj h
          exact then_n ⟨(HF.keep HF.nil rfl), HT⟩
        have h := (if_neg hb5).symm.trans h
        refine wp_if (b' := false) HF rfl (decide_eq_false hb5) ?_
        refine wp_seq ?_
        refine wc_text ?_
        refine wc_bin HF nS rfl rfl b_eq rfl rfl (fun a HF => ?_)
        refine wc_assign HF nS rfl rfl rfl (fun a HF => ?_)
        refine wc_end ?_
        refine then_n ?_
        by_cases hb6 : x0_0 = 14
        · have h := (if_pos hb6).symm.trans h
          refine wp_if (b' := true) HF rfl (decide_eq_true hb6) ?_
          refine wp_skip ?_
          obtain rfl := Option.some.inj h
          exact then_n ⟨(HF.keep HF.nil rfl), HT⟩
        have h := (if_neg hb6).symm.trans h
        refine wp_if (b' := false) HF rfl (decide_eq_false hb6) ?_
        refine wp_seq ?_
        refine wc_text ?_
        refine wc_bin HF nS rfl rfl b_eq rfl rfl (fun a HF => ?_)
        refine wc_assign HF nS rfl rfl rfl (fun a HF => ?_)
        refine wc_end ?_
        refine then_n ?_
        by_cases hb7 : x0_0 = 15
        · have h := (if_pos hb7).symm.trans h
          refine wp_if (b' := true) HF rfl (decide_eq_true hb7) ?_
          refine wp_skip ?_
          obtain rfl := Option.some.inj h
          exact then_n ⟨(HF.keep HF.nil rfl), HT⟩
        have h := (if_neg hb7).symm.trans h
        refine wp_if (b' := false) HF rfl (decide_eq_false hb7) ?_
        refine wc_text ?_
        refine wc_bin HF nS rfl rfl b_eq rfl rfl (fun a HF => ?_)
        refine wc_assign HF nS rfl rfl rfl (fun a HF => ?_)
        refine wc_end ?_
        obtain rfl := Option.some.inj h
        exact then_n ⟨(HF.keep HF.nil rfl), HT⟩
      rintro a w ⟨HF, HT⟩
      refine ?_
      by_cases hb8 : z2 = true
      · have h := (if_pos hb8).symm.trans h
        refine wp_if (b' := true) HF rfl hb8 ?_
        refine wp_seq ?_
        refine wc_text ?_
        refine wc_assign HF nS rfl rfl rfl (fun a HF => ?_)
        refine wc_end ?_
        refine then_n ?_
        refine wp_ret ?_
        obtain rfl := Option.some.inj h
        have h := retL hk1
        obtain rfl := Option.some.inj h
        refine blk_r (then_r (?_))
        refine bp_ret HF (res_one rfl HF rfl) ?_
        exact ⟨rfl, HT⟩
      have h := (if_neg hb8).symm.trans h
      refine wp_if (b' := false) HF rfl (Bool.eq_false_iff.2 hb8) ?_
      refine wp_skip ?_
      refine blk_n ?_
      exact then_n ⟨(Option.some.inj h).symm, HF.nil, HT⟩
    rintro a w ⟨rfl, HF, HT⟩
    have h := brkL1u h
    refine ?_
    refine wp_seq ?_
    refine wc_text ?_
    refine wc_assign HF nS rfl rfl rfl (fun a HF => ?_)
    refine wc_end ?_
    refine then_n ?_
    refine wp_ret ?_
    obtain rfl := Option.some.inj h
    refine bp_ret HF (res_one rfl HF rfl) ?_
    exact ⟨rfl, HT⟩
  have h := (if_neg hb1).symm.trans h
  refine wp_if (b' := true) HF rfl (notF (Bool.eq_false_iff.2 hb1)) ?_
  refine wp_seq ?_
  refine wc_text ?_
  refine wc_assign HF nS rfl rfl rfl (fun a HF => ?_)
  refine wc_end ?_
  refine then_n ?_
  refine wp_ret ?_
  obtain rfl := Option.some.inj h
  refine then_r (?_)
  refine bp_ret HF (res_one rfl HF rfl) ?_
  have HT : St w0 (fun _ => False) w [] := HT.take 0
  exact ⟨rfl, HT⟩

def m_impl_KidOk_L0 (fuel : Nat) (x0 : List I4) : Nat → Int → Option (Lp Unit Bool)
  | 0, _ => none
  | k1 + 1, z1 =>
    if z1 < (x0.length : Int) then
      (at? x0 z1).bind fun e1 =>
      if e1.a = 11 then
        some (.ret false)
      else
      (m_impl_Touches fuel e1.a e1.b e1.c e1.d).bind fun y1 =>
      if y1 = 2 then
        some (.ret false)
      else
      if in64 (z1 + 1) then
        m_impl_KidOk_L0 fuel x0 k1 (z1 + 1)
      else none
    else
    some (.brk ())

def m_impl_KidOk (fuel : Nat) (x0 : List I4) : Option Bool :=
  (m_impl_KidOk_L0 fuel x0 fuel 0).bind <| contL <| un1 fun _ =>
  (m_impl_CodeOk fuel x0).bind fun y2 =>
  some y2

set_option maxRecDepth 100000 in
set_option maxHeartbeats 4000000 in
theorem w_impl_KidOk (fuel : Nat) {x0 : List I4} {a_x0 : Option Addr} {n_x0 c_x0 : Nat} {r0 : Bool} {w0 : World} (h : m_impl_KidOk fuel x0 = some r0) (hr_x0 : RdT (fun b => ¬ False) w0 (rowT x0) (.slice a_x0 n_x0 c_x0)) :
    Calls Try.prog 87 #[.slice a_x0 n_x0 c_x0] w0 fun e w => e = .returned (.bool r0) ∧ St w0 (fun _ => False) w [] := by
  obtain rfl := hr_x0.neq
  have HT : St w0 (fun _ => False) w0 [] := St.init0
  rw [m_impl_KidOk] at h
  refine calls_fr (n := 22) [.slice a_x0 x0.length c_x0] Try.func87 rfl rfl rfl (fun a HF => ?_)
  have HT : St w0 (fun _ => False) w0 [] := HT
  refine wp_seq ?_
  refine wc_text ?_
  refine wc_assign HF nS rfl rfl rfl (fun a HF => ?_)
  refine wc_end ?_
  refine then_n ?_
  obtain ⟨q1, hx1, h⟩ := obs h
  refine wp_cut (fun a w => q1 = .brk () ∧ Fr a 22 [(0, .slice a_x0 x0.length c_x0)] ∧ St w0 (fun _ => False) w []) ?_ ?_
  · have hk1 := h
    have h := hx1
    refine wp_seq ?_
    refine wc_text ?_
    refine wc_move HF nS rfl rfl rfl (fun a HF => ?_)
    refine wc_lenR HF nS Try.underlying35 rfl rfl rfl (fun a HF => ?_)
    refine wc_move HF nS rfl rfl rfl (fun a HF => ?_)
    refine wc_end ?_
    refine then_n ?_
    refine wp_block ?_
    refine wp_loopN (fun k1 a w => ∃ z1, m_impl_KidOk_L0 fuel x0 k1 z1 = some q1 ∧ Fr a 22 [(0, .slice a_x0 x0.length c_x0), (5, .slice a_x0 x0.length c_x0), (6, .int .i64 (x0.length : Int)), (7, .int .i64 z1)] ∧ St w0 (fun _ => False) w []) fuel ⟨0, h, (HF.keep (HF.keep (HF.keep (HF.keep HF.nil rfl) rfl) rfl) rfl), HT⟩ ?_
    rintro k1 a w ⟨z1, h, HF, HT⟩
    cases k1 with
    | zero => cases h
    | succ k1 =>
      rw [m_impl_KidOk_L0] at h
      refine ?_
      refine wp_seq ?_
      refine wc_text ?_
      refine wc_bin HF nS rfl rfl b_lt rfl rfl (fun a HF => ?_)
      refine wc_end ?_
      refine then_n ?_
      refine wp_seq ?_
      by_cases hb1 : z1 < (x0.length : Int)
      · have h := (if_pos hb1).symm.trans h
        refine wp_if (b' := true) HF rfl (decide_eq_true hb1) ?_
        refine wp_skip ?_
        refine then_n ?_
        refine wp_seq ?_
        refine wp_block ?_
        refine wp_seq ?_
        refine wc_text ?_
        obtain ⟨e1, hx2, h⟩ := obs h
        obtain ⟨b1, o1, ha1⟩ := (HT.ro hr_x0).any.addr hx2
        refine wc_ixaddr HF nS el35 rfl ha1 ((HT.ro hr_x0).any).neq rfl hx2 rfl rfl (fun a HF => ?_)
        have hc1 := (HT.ro hr_x0).any.flatAt ha1 hx2
        refine wc_loadA (vs := [.int .i64 e1.a, .int .i64 e1.b, .int .i64 e1.c, .int .i64 e1.d]) HF rfl ag25 rfl (hc1.part 0 4) rfl rfl (fun a HF => ?_)
        refine wc_alloc (cs := [.int .i64 0, .int .i64 0, .int .i64 0, .int .i64 0]) HF HT zr25 rfl rfl rfl (fun p1 w HT hb => ⟨nS, fun a HF => ?_⟩)
        refine wc_storeB (cs' := [.int .i64 e1.a, .int .i64 e1.b, .int .i64 e1.c, .int .i64 e1.d]) HF HT rfl rfl (fun w => (ag25 w).2) rfl rfl rfl rfl rfl (fun w HT => ⟨nS, ?_⟩)
        refine wc_end ?_
        refine then_n ?_
        refine wp_seq ?_
        refine wc_text ?_
        refine wc_faddr HF nS rfl fl25_0 rfl rfl (fun a HF => ?_)
        refine wc_load HF rfl sc3 ((HT.boxAt 0 rfl).get 0 rfl) rfl rfl (fun a HF => ?_)
        refine wc_bin HF nS rfl rfl b_eq rfl rfl (fun a HF => ?_)
        refine wc_move HF nS rfl rfl rfl (fun a HF => ?_)
        by_cases hb2 : e1.a = 11
        · have h := (if_pos hb2).symm.trans h
          refine wc_skip HF nS (HF.wn rfl rfl rfl rfl (decide_eq_true hb2)) rfl (fun a HF => ?_)
          refine wc_skip HF nS (HF.wn rfl rfl rfl rfl (decide_eq_true hb2)) rfl (fun a HF => ?_)
          refine wc_skip HF nS (HF.wn rfl rfl rfl rfl (decide_eq_true hb2)) rfl (fun a HF => ?_)
          refine wc_pick (b := true) HF nS rfl (decide_eq_true hb2) rfl rfl rfl (fun a HF => ?_)
          refine wc_end ?_
          refine then_n ?_
          refine wp_if (b' := true) HF rfl rfl ?_
          refine wp_seq ?_
          refine wc_text ?_
          refine wc_assign HF nS rfl rfl rfl (fun a HF => ?_)
          refine wc_end ?_
          refine then_n ?_
          refine wp_ret ?_
          obtain rfl := Option.some.inj h
          have h := retL hk1
          obtain rfl := Option.some.inj h
          refine blk_r (then_r (then_r (blk_r (then_r (?_)))))
          refine bp_ret HF (res_one rfl HF rfl) ?_
          have HT : St w0 (fun _ => False) w [] := HT.take 0
          exact ⟨rfl, HT⟩
        have h := (if_neg hb2).symm.trans h
        refine wc_loadA (vs := [.int .i64 e1.a, .int .i64 e1.b, .int .i64 e1.c, .int .i64 e1.d]) HF rfl ag25 rfl ((HT.boxAt 0 rfl).part 0 4) (HF.wy rfl rfl rfl rfl (decide_eq_false hb2)) rfl (fun a HF => ?_)
        obtain ⟨y1, hx3, h⟩ := obs h
        refine wc_call HF cf100 rfl (w_impl_Touches fuel hx3) (HF.wy rfl rfl rfl rfl (decide_eq_false hb2)) rfl ?_
        rintro e w ⟨rfl, hE⟩
        have hb := hE.below
        have HT := HT.pure hE
        have HT : St w0 (fun _ => False) w [Box p1 [.int .i64 e1.a, .int .i64 e1.b, .int .i64 e1.c, .int .i64 e1.d]] := HT
        refine ⟨_, rfl, nS, fun a HF => ?_⟩
        refine wc_bin HF nS rfl rfl b_eq (HF.wy rfl rfl rfl rfl (decide_eq_false hb2)) rfl (fun a HF => ?_)
        refine wc_pick (b := false) HF nS rfl (decide_eq_false hb2) rfl rfl rfl (fun a HF => ?_)
        refine wc_end ?_
        refine then_n ?_
        by_cases hb3 : y1 = 2
        · have h := (if_pos hb3).symm.trans h
          refine wp_if (b' := true) HF rfl (decide_eq_true hb3) ?_
          refine wp_seq ?_
          refine wc_text ?_
          refine wc_assign HF nS rfl rfl rfl (fun a HF => ?_)
          refine wc_end ?_
          refine then_n ?_
          refine wp_ret ?_
          obtain rfl := Option.some.inj h
          have h := retL hk1
          obtain rfl := Option.some.inj h
          refine blk_r (then_r (then_r (blk_r (then_r (?_)))))
          refine bp_ret HF (res_one rfl HF rfl) ?_
          have HT : St w0 (fun _ => False) w [] := HT.take 0
          exact ⟨rfl, HT⟩
        have h := (if_neg hb3).symm.trans h
        refine wp_if (b' := false) HF rfl (decide_eq_false hb3) ?_
        refine wp_skip ?_
        refine blk_n ?_
        refine then_n ?_
        refine wc_text ?_
        obtain ⟨hg1, h⟩ := grd h
        refine wc_bin HF nS rfl rfl (b_add hg1) rfl rfl (fun a HF => ?_)
        refine wc_move HF nS rfl rfl rfl (fun a HF => ?_)
        refine wc_end ?_
        have HT : St w0 (fun _ => False) w [] := HT.take 0
        exact then_n ⟨k1, Nat.lt_succ_self k1, z1 + 1, h, (HF.keep (HF.keep (HF.keep (HF.keep HF.nil rfl) rfl) rfl) rfl), HT⟩
      have h := (if_neg hb1).symm.trans h
      refine wp_if (b' := false) HF rfl (decide_eq_false hb1) ?_
      refine wp_exit ?_
      refine then_x (then_x (?_))
      refine blk_x ?_
      exact then_n ⟨(Option.some.inj h).symm, (HF.keep HF.nil rfl), HT⟩
  rintro a w ⟨rfl, HF, HT⟩
  have h := brkL1u h
  refine ?_
  refine wp_seq ?_
  refine wc_text ?_
  refine wc_move HF nS rfl rfl rfl (fun a HF => ?_)
  obtain ⟨y2, hx4, h⟩ := obs h
  refine wc_call HF cf53 rfl (w_impl_CodeOk fuel hx4 (HT.ro hr_x0).any) rfl rfl ?_
  rintro e w ⟨rfl, hE⟩
  have hb := hE.below
  have HT := HT.pure hE
  have HT : St w0 (fun _ => False) w [] := HT
  refine ⟨_, rfl, nS, fun a HF => ?_⟩
  refine wc_assign HF nS rfl rfl rfl (fun a HF => ?_)
  refine wc_end ?_
  refine then_n ?_
  refine wp_ret ?_
  obtain rfl := Option.some.inj h
  refine bp_ret HF (res_one rfl HF rfl) ?_
  exact ⟨rfl, HT⟩

def m_impl_ProgOk_L0 (fuel : Nat) (x0_1 : List KidD) : Nat → Int → Option (Lp Unit Bool)
  | 0, _ => none
  | k1 + 1, z1 =>
    if z1 < (x0_1.length : Int) then
      (at? x0_1 z1).bind fun e1 =>
      (m_impl_KidOk fuel e1.code).bind fun y1 =>
      if y1 = true then
        if in64 (z1 + 1) then
          m_impl_ProgOk_L0 fuel x0_1 k1 (z1 + 1)
        else none
      else
      some (.ret false)
    else
    some (.brk ())

def m_impl_ProgOk (fuel : Nat) (x0_0 : List I4) (x0_1 : List KidD) : Option Bool :=
  (m_impl_ProgOk_L0 fuel x0_1 fuel 0).bind <| contL <| un1 fun _ =>
  (m_impl_CodeOk fuel x0_0).bind fun y2 =>
  if y2 = true then
    if (x0_1.length : Int) ≤ 3 then
      (m_impl_HasFork fuel x0_0).bind fun y3 =>
      some (y3 == (decide (0 < (x0_1.length : Int))))
    else
    some false
  else
  some false

set_option maxRecDepth 100000 in
set_option maxHeartbeats 4000000 in
theorem w_impl_ProgOk (fuel : Nat) {x0_0 : List I4} {x0_1 : List KidD} {a_x0_0 : Option Addr} {n_x0_0 c_x0_0 : Nat} {a_x0_1 : Option Addr} {n_x0_1 c_x0_1 : Nat} {r0 : Bool} {w0 : World} (h : m_impl_ProgOk fuel x0_0 x0_1 = some r0) (hr_x0_0 : RdT (fun b => ¬ False) w0 (rowT x0_0) (.slice a_x0_0 n_x0_0 c_x0_0)) (hr_x0_1 : RdT (fun b => ¬ False) w0 (rowT x0_1) (.slice a_x0_1 n_x0_1 c_x0_1)) :
    Calls Try.prog 58 #[.agg #[.slice a_x0_0 n_x0_0 c_x0_0, .slice a_x0_1 n_x0_1 c_x0_1]] w0 fun e w => e = .returned (.bool r0) ∧ St w0 (fun _ => False) w [] := by
  obtain rfl := hr_x0_0.neq
  obtain rfl := hr_x0_1.neq
  have HT : St w0 (fun _ => False) w0 [] := St.init0
  rw [m_impl_ProgOk] at h
  refine calls_fr (n := 36) [.agg #[.slice a_x0_0 x0_0.length c_x0_0, .slice a_x0_1 x0_1.length c_x0_1]] Try.func58 rfl rfl rfl (fun a HF => ?_)
  have HT : St w0 (fun _ => False) w0 [] := HT
  refine wp_seq ?_
  refine wc_text ?_
  refine wc_box (cs := [.slice a_x0_0 x0_0.length c_x0_0, .slice a_x0_1 x0_1.length c_x0_1]) HF HT rfl rfl rfl rfl (fun p1 w HT hb => ⟨nS, fun a HF => ?_⟩)
  refine wc_assign HF nS rfl rfl rfl (fun a HF => ?_)
  refine wc_end ?_
  refine then_n ?_
  obtain ⟨q1, hx1, h⟩ := obs h
  refine wp_cut (fun a w => q1 = .brk () ∧ Fr a 36 [(1, .pointer (some ⟨p1, 0, none⟩))] ∧ St w0 (fun _ => False) w [Box p1 [.slice a_x0_0 x0_0.length c_x0_0, .slice a_x0_1 x0_1.length c_x0_1]]) ?_ ?_
  · have hk1 := h
    have h := hx1
    refine wp_seq ?_
    refine wc_text ?_
    refine wc_faddr HF nS rfl fl49_1 rfl rfl (fun a HF => ?_)
    refine wc_load HF rfl sc47 ((HT.boxAt 0 rfl).get 1 rfl) rfl rfl (fun a HF => ?_)
    refine wc_lenR HF nS Try.underlying47 rfl rfl rfl (fun a HF => ?_)
    refine wc_move HF nS rfl rfl rfl (fun a HF => ?_)
    refine wc_end ?_
    refine then_n ?_
    refine wp_block ?_
    refine wp_loopN (fun k1 a w => ∃ z1, m_impl_ProgOk_L0 fuel x0_1 k1 z1 = some q1 ∧ Fr a 36 [(1, .pointer (some ⟨p1, 0, none⟩)), (6, .slice a_x0_1 x0_1.length c_x0_1), (7, .int .i64 (x0_1.length : Int)), (8, .int .i64 z1)] ∧ St w0 (fun _ => False) w [Box p1 [.slice a_x0_0 x0_0.length c_x0_0, .slice a_x0_1 x0_1.length c_x0_1]]) fuel ⟨0, h, (HF.keep (HF.keep (HF.keep (HF.keep HF.nil rfl) rfl) rfl) rfl), HT⟩ ?_
    rintro k1 a w ⟨z1, h, HF, HT⟩
    cases k1 with
    | zero => cases h
    | succ k1 =>
      rw [m_impl_ProgOk_L0] at h
      refine ?_
      refine wp_seq ?_
      refine wc_text ?_
      refine wc_bin HF nS rfl rfl b_lt rfl rfl (fun a HF => ?_)
      refine wc_end ?_
      refine then_n ?_
      refine wp_seq ?_
      by_cases hb1 : z1 < (x0_1.length : Int)
      · have h := (if_pos hb1).symm.trans h
        refine wp_if (b' := true) HF rfl (decide_eq_true hb1) ?_
        refine wp_skip ?_
        refine then_n ?_
        refine wp_seq ?_
        refine wp_block ?_
        refine wp_seq ?_
        refine wc_text ?_
        obtain ⟨e1, hx2, h⟩ := obs h
        obtain ⟨b1, o1, ha1⟩ := (HT.ro hr_x0_1).any.addr hx2
        refine wc_ixaddr HF nS el47 rfl ha1 ((HT.ro hr_x0_1).any).neq rfl hx2 rfl rfl (fun a HF => ?_)
        obtain ⟨_, hP1, hc1, hr1⟩ := hr_x0_1.elemAt ha1 hx2
        obtain ⟨a1, c1, rfl, hr2⟩ := cells_Kid hr1
        have hc2 := HT.roLd hP1 hc1
        refine wc_loadA (vs := [.slice a1 e1.code.length c1]) HF rfl ag77 rfl (hc2.part 0 1) rfl rfl (fun a HF => ?_)
        refine wc_alloc (cs := [.slice none 0 0]) HF HT zr77 rfl rfl rfl (fun p2 w HT hb => ⟨nS, fun a HF => ?_⟩)
        refine wc_storeB (cs' := [.slice a1 e1.code.length c1]) HF HT rfl rfl (fun w => (ag77 w).2) rfl rfl rfl rfl rfl (fun w HT => ⟨nS, ?_⟩)
        refine wc_end ?_
        refine then_n ?_
        refine wp_seq ?_
        refine wc_text ?_
        refine wc_faddr HF nS rfl fl77_0 rfl rfl (fun a HF => ?_)
        refine wc_load HF rfl sc35 ((HT.boxAt 0 rfl).get 0 rfl) rfl rfl (fun a HF => ?_)
        obtain ⟨y1, hx3, h⟩ := obs h
        refine wc_call HF cf87 rfl (w_impl_KidOk fuel hx3 (HT.ro hr2).any) rfl rfl ?_
        rintro e w ⟨rfl, hE⟩
        have hb := hE.below
        have HT := HT.pure hE
        have HT : St w0 (fun _ => False) w [Box p2 [.slice a1 e1.code.length c1], Box p1 [.slice a_x0_0 x0_0.length c_x0_0, .slice a_x0_1 x0_1.length c_x0_1]] := HT
        refine ⟨_, rfl, nS, fun a HF => ?_⟩
        refine wc_not HF nS rfl rfl rfl (fun a HF => ?_)
        refine wc_end ?_
        refine then_n ?_
        by_cases hb2 : y1 = true
        · have h := (if_pos hb2).symm.trans h
          refine wp_if (b' := false) HF rfl (notT hb2) ?_
          refine wp_skip ?_
          refine blk_n ?_
          refine then_n ?_
          refine wc_text ?_
          obtain ⟨hg1, h⟩ := grd h
          refine wc_bin HF nS rfl rfl (b_add hg1) rfl rfl (fun a HF => ?_)
          refine wc_move HF nS rfl rfl rfl (fun a HF => ?_)
          refine wc_end ?_
          have HT : St w0 (fun _ => False) w [Box p1 [.slice a_x0_0 x0_0.length c_x0_0, .slice a_x0_1 x0_1.length c_x0_1]] := (HT.pick 1).take 1
          exact then_n ⟨k1, Nat.lt_succ_self k1, z1 + 1, h, (HF.keep (HF.keep (HF.keep (HF.keep HF.nil rfl) rfl) rfl) rfl), HT⟩
        have h := (if_neg hb2).symm.trans h
        refine wp_if (b' := true) HF rfl (notF (Bool.eq_false_iff.2 hb2)) ?_
        refine wp_seq ?_
        refine wc_text ?_
        refine wc_assign HF nS rfl rfl rfl (fun a HF => ?_)
        refine wc_end ?_
        refine then_n ?_
        refine wp_ret ?_
        obtain rfl := Option.some.inj h
        have h := retL hk1
        obtain rfl := Option.some.inj h
        refine blk_r (then_r (then_r (blk_r (then_r (?_)))))
        refine bp_ret HF (res_one rfl HF rfl) ?_
        have HT : St w0 (fun _ => False) w [] := HT.take 0
        exact ⟨rfl, HT⟩
      have h := (if_neg hb1).symm.trans h
      refine wp_if (b' := false) HF rfl (decide_eq_false hb1) ?_
      refine wp_exit ?_
      refine then_x (then_x (?_))
      refine blk_x ?_
      exact then_n ⟨(Option.some.inj h).symm, (HF.keep HF.nil rfl), HT⟩
  rintro a w ⟨rfl, HF, HT⟩
  have h := brkL1u h
  refine ?_
  refine wp_seq ?_
  refine wp_region_can [(0, true), (1, true), (2, false), (3, true), (4, true), (5, true), (6, true), (7, true), (8, true), (9, true), (10, true), (11, true), (13, false), (14, false), (15, false), (16, false), (12, false), (17, true), (18, true), (19, true)] (fun w' => w'.cell? ⟨p1, 1, none⟩ = some (.slice a_x0_1 x0_1.length c_x0_1) ∧ True) (by kernel_rfl) (by kernel_rfl) ?_
  have HT : St w0 (fun _ => False) w.drew [Box p1 [.slice a_x0_0 x0_0.length c_x0_0, .slice a_x0_1 x0_1.length c_x0_1]] := HT.drew
  refine wc_faddr HF nS rfl fl49_0 rfl rfl (fun a HF => ?_)
  refine wc_load HF rfl sc35 ((HT.boxAt 0 rfl).get 0 rfl) rfl rfl (fun a HF => ?_)
  obtain ⟨y2, hx4, h⟩ := obs h
  refine wc_call HF cf53 rfl (w_impl_CodeOk fuel hx4 (HT.ro hr_x0_0).any) rfl rfl ?_
  rintro e w ⟨rfl, hE⟩
  have hb := hE.below
  have HT := HT.pure hE
  have HT : St w0 (fun _ => False) w [Box p1 [.slice a_x0_0 x0_0.length c_x0_0, .slice a_x0_1 x0_1.length c_x0_1]] := HT
  refine ⟨_, rfl, (fun _ => ⟨(HT.boxAt 0 rfl).get 1 rfl, trivial⟩), fun a HF => ?_⟩
  refine wc_move HF nS rfl rfl rfl (fun a HF => ?_)
  by_cases hb3 : y2 = true
  · have h := (if_pos hb3).symm.trans h
    refine wc_faddr HF nS rfl fl49_1 (HF.wy rfl rfl rfl rfl hb3) rfl (fun a HF => ?_)
    refine wc_load HF rfl sc47 ((HT.boxAt 0 rfl).get 1 rfl) (HF.wy rfl rfl rfl rfl hb3) rfl (fun a HF => ?_)
    refine wc_lenR HF nS Try.underlying47 rfl (HF.wy rfl rfl rfl rfl hb3) rfl (fun a HF => ?_)
    refine wc_bin HF nS rfl rfl b_le (HF.wy rfl rfl rfl rfl hb3) rfl (fun a HF => ?_)
    refine wc_pick (b := true) HF nS rfl hb3 rfl rfl rfl (fun a HF => ?_)
    refine wc_move HF nS rfl rfl rfl (fun a HF => ?_)
    by_cases hb4 : (x0_1.length : Int) ≤ 3
    · have h := (if_pos hb4).symm.trans h
      refine wc_faddr HF nS rfl fl49_0 (HF.wy rfl rfl rfl rfl (decide_eq_true hb4)) rfl (fun a HF => ?_)
      refine wc_load HF rfl sc35 ((HT.boxAt 0 rfl).get 0 rfl) (HF.wy rfl rfl rfl rfl (decide_eq_true hb4)) rfl (fun a HF => ?_)
      refine wc_faddr HF (fun _ => ⟨(HT.boxAt 0 rfl).get 1 rfl, trivial⟩) rfl fl49_1 (HF.wy rfl rfl rfl rfl (decide_eq_true hb4)) rfl (fun a HF => ?_)
      refine wc_loadS HF ⟨(HT.boxAt 0 rfl).get 1 rfl, trivial⟩ rfl sc47 (fun w hS => hS.1) (HF.wy rfl rfl rfl rfl (decide_eq_true hb4)) rfl (fun a HF => ?_)
      refine wc_lenR HF (fun _ => ⟨(HT.boxAt 0 rfl).get 1 rfl, trivial⟩) Try.underlying47 rfl (HF.wy rfl rfl rfl rfl (decide_eq_true hb4)) rfl (fun a HF => ?_)
      refine wc_bin HF (fun _ => ⟨(HT.boxAt 0 rfl).get 1 rfl, trivial⟩) rfl rfl b_gt (HF.wy rfl rfl rfl rfl (decide_eq_true hb4)) rfl (fun a HF => ?_)
      obtain ⟨y3, hx5, h⟩ := obs h
      refine wc_call HF cf88 rfl (w_impl_HasFork fuel hx5 (HT.ro hr_x0_0).any) (HF.wy rfl rfl rfl rfl (decide_eq_true hb4)) rfl ?_
      rintro e w ⟨rfl, hE⟩
      have hb := hE.below
      have HT := HT.pure hE
      have HT : St w0 (fun _ => False) w [Box p1 [.slice a_x0_0 x0_0.length c_x0_0, .slice a_x0_1 x0_1.length c_x0_1]] := HT
      refine ⟨_, rfl, (fun _ => ⟨(HT.boxAt 0 rfl).get 1 rfl, trivial⟩), fun a HF => ?_⟩
      refine wc_bin HF nS rfl rfl (b_beq Try.underlying4) (HF.wy rfl rfl rfl rfl (decide_eq_true hb4)) rfl (fun a HF => ?_)
      refine wc_pick (b := true) HF nS rfl (decide_eq_true hb4) rfl rfl rfl (fun a HF => ?_)
      refine wc_assign HF nS rfl rfl rfl (fun a HF => ?_)
      refine wc_endN ?_
      refine then_n ?_
      refine wp_ret ?_
      obtain rfl := Option.some.inj h
      refine bp_ret HF (res_one rfl HF rfl) ?_
      have HT : St w0 (fun _ => False) w [] := HT.take 0
      exact ⟨rfl, HT⟩
    have h := (if_neg hb4).symm.trans h
    refine wc_skip HF nS (HF.wn rfl rfl rfl rfl (decide_eq_false hb4)) rfl (fun a HF => ?_)
    refine wc_skip HF nS (HF.wn rfl rfl rfl rfl (decide_eq_false hb4)) rfl (fun a HF => ?_)
    refine wc_skip HF (fun _ => ⟨(HT.boxAt 0 rfl).get 1 rfl, trivial⟩) (HF.wn rfl rfl rfl rfl (decide_eq_false hb4)) rfl (fun a HF => ?_)
    refine wc_skip HF (fun _ => ⟨(HT.boxAt 0 rfl).get 1 rfl, trivial⟩) (HF.wn rfl rfl rfl rfl (decide_eq_false hb4)) rfl (fun a HF => ?_)
    refine wc_skip HF (fun _ => ⟨(HT.boxAt 0 rfl).get 1 rfl, trivial⟩) (HF.wn rfl rfl rfl rfl (decide_eq_false hb4)) rfl (fun a HF => ?_)
    refine wc_skip HF (fun _ => ⟨(HT.boxAt 0 rfl).get 1 rfl, trivial⟩) (HF.wn rfl rfl rfl rfl (decide_eq_false hb4)) rfl (fun a HF => ?_)
    refine wc_skip HF (fun _ => ⟨(HT.boxAt 0 rfl).get 1 rfl, trivial⟩) (HF.wn rfl rfl rfl rfl (decide_eq_false hb4)) rfl (fun a HF => ?_)
    refine wc_skip HF nS (HF.wn rfl rfl rfl rfl (decide_eq_false hb4)) rfl (fun a HF => ?_)
    refine wc_pick (b := false) HF nS rfl (decide_eq_false hb4) rfl rfl rfl (fun a HF => ?_)
    refine wc_assign HF nS rfl rfl rfl (fun a HF => ?_)
    refine wc_endN ?_
    refine then_n ?_
    refine wp_ret ?_
    obtain rfl := Option.some.inj h
    refine bp_ret HF (res_one rfl HF rfl) ?_
    have HT : St w0 (fun _ => False) w [] := HT.take 0
    exact ⟨rfl, HT⟩
  have h := (if_neg hb3).symm.trans h
  refine wc_skip HF nS (HF.wn rfl rfl rfl rfl (Bool.eq_false_iff.2 hb3)) rfl (fun a HF => ?_)
  refine wc_skip HF nS (HF.wn rfl rfl rfl rfl (Bool.eq_false_iff.2 hb3)) rfl (fun a HF => ?_)
  refine wc_skip HF nS (HF.wn rfl rfl rfl rfl (Bool.eq_false_iff.2 hb3)) rfl (fun a HF => ?_)
  refine wc_skip HF nS (HF.wn rfl rfl rfl rfl (Bool.eq_false_iff.2 hb3)) rfl (fun a HF => ?_)
  refine wc_pick (b := false) HF nS rfl (Bool.eq_false_iff.2 hb3) rfl rfl rfl (fun a HF => ?_)
  refine wc_move HF nS rfl rfl rfl (fun a HF => ?_)
  refine wc_skip HF nS (HF.wn rfl rfl rfl rfl rfl) rfl (fun a HF => ?_)
  refine wc_skip HF nS (HF.wn rfl rfl rfl rfl rfl) rfl (fun a HF => ?_)
  refine wc_skip HF (fun _ => ⟨(HT.boxAt 0 rfl).get 1 rfl, trivial⟩) (HF.wn rfl rfl rfl rfl rfl) rfl (fun a HF => ?_)
  refine wc_skip HF (fun _ => ⟨(HT.boxAt 0 rfl).get 1 rfl, trivial⟩) (HF.wn rfl rfl rfl rfl rfl) rfl (fun a HF => ?_)
  refine wc_skip HF (fun _ => ⟨(HT.boxAt 0 rfl).get 1 rfl, trivial⟩) (HF.wn rfl rfl rfl rfl rfl) rfl (fun a HF => ?_)
  refine wc_skip HF (fun _ => ⟨(HT.boxAt 0 rfl).get 1 rfl, trivial⟩) (HF.wn rfl rfl rfl rfl rfl) rfl (fun a HF => ?_)
  refine wc_skip HF (fun _ => ⟨(HT.boxAt 0 rfl).get 1 rfl, trivial⟩) (HF.wn rfl rfl rfl rfl rfl) rfl (fun a HF => ?_)
  refine wc_skip HF nS (HF.wn rfl rfl rfl rfl rfl) rfl (fun a HF => ?_)
  refine wc_pick (b := false) HF nS rfl rfl rfl rfl rfl (fun a HF => ?_)
  refine wc_assign HF nS rfl rfl rfl (fun a HF => ?_)
  refine wc_endN ?_
  refine then_n ?_
  refine wp_ret ?_
  obtain rfl := Option.some.inj h
  refine bp_ret HF (res_one rfl HF rfl) ?_
  have HT : St w0 (fun _ => False) w [] := HT.take 0
  exact ⟨rfl, HT⟩

def m_impl_ReadProg_L0 (fuel : Nat) (y1 : List SE) : Nat → (List SE) → Int → Option (List SE)
  | 0, _, _ => none
  | k1 + 1, z2, z3 =>
    if z3 < (y1.length : Int) then
      (
        (at? y1 z3).bind fun e1 =>
        if e1.s = ([107, 105, 100]) then
          if z2.length + 1 ≤ 17179869184 then
            some (z2 ++ ([(⟨[]⟩ : SE)] : List SE))
          else none
        else
        if in64 ((z2.length : Int) - 1) then
          if in64 ((z2.length : Int) - 1) then
            (at? z2 ((z2.length : Int) - 1)).bind fun e2 =>
            if ((e2.s.length + e1.s.length : Nat) : Int) ≤ 9223372036854775807 then
              if (((e2.s ++ e1.s).length + [10].length : Nat) : Int) ≤ 9223372036854775807 then
                some (z2.set ((z2.length : Int) - 1).toNat (⟨(e2.s ++ e1.s) ++ [10]⟩ : SE))
              else none
            else none
          else none
        else none).bind fun z4 =>
      if in64 (z3 + 1) then
        m_impl_ReadProg_L0 fuel y1 k1 z4 (z3 + 1)
      else none
    else
    some z2

def m_impl_ReadProg_L1 (fuel : Nat) (z1 : List SE) : Nat → (List I4) → (List KidD) → Int → Option (Lp (List I4 × List KidD) (List I4 × List KidD × Bool))
  | 0, _, _, _ => none
  | k2 + 1, z7, z8, z9 =>
    if z9 < (z1.length : Int) then
      (
        (at? z1 z9).bind fun e3 =>
        bind2 (m_impl_ReadCode fuel e3.s) fun y3 y4 =>
        if y4 = true then
          if z9 = 0 then
            some (.brk (y3, z8))
          else
          if z8.length + 1 ≤ 17179869184 then
            some (.brk (z7, z8 ++ ([(⟨y3⟩ : KidD)] : List KidD)))
          else none
        else
        some (.ret (([] : List I4), ([] : List KidD), false))).bind <| contM <| un2 fun z10 z11 =>
      if in64 (z9 + 1) then
        m_impl_ReadProg_L1 fuel z1 k2 z10 z11 (z9 + 1)
      else none
    else
    some (.brk (z7, z8))

def m_impl_ReadProg (fuel : Nat) (x0 : Str) : Option (List I4 × List KidD × Bool) :=
  bind2 (m_impl_lines fuel x0) fun y1 y2 =>
  if y2 = true then
    (m_impl_ReadProg_L0 fuel y1 fuel ([(⟨[]⟩ : SE)] : List SE) 0).bind fun z1 =>
    (m_impl_ReadProg_L1 fuel z1 fuel ([] : List I4) ([] : List KidD) 0).bind <| contL <| un2 fun z5 z6 =>
    (m_impl_ProgOk fuel z5 z6).bind fun y5 =>
    if y5 = true then
      some (z5, z6, true)
    else
    some (([] : List I4), ([] : List KidD), false)
  else
  some (([] : List I4), ([] : List KidD), false)

set_option maxRecDepth 100000 in
set_option maxHeartbeats 4000000 in
theorem w_impl_ReadProg (fuel : Nat) {x0 : Str} {r0_0 : List I4} {r0_1 : List KidD} {r1 : Bool} {w0 : World} (h : m_impl_ReadProg fuel x0 = some (r0_0, r0_1, r1)) :
    Calls Try.prog 31 #[sv x0] w0 fun e w => ∃ a_r0_0 n_r0_0 c_r0_0, ∃ a_r0_1 n_r0_1 c_r0_1, e = .returned (.tuple #[.agg #[.slice a_r0_0 n_r0_0 c_r0_0, .slice a_r0_1 n_r0_1 c_r0_1], .bool r1]) ∧ St w0 (fun _ => False) w [Own 25 (rowT r0_0) (.slice a_r0_0 n_r0_0 c_r0_0), Own 77 (rowT r0_1) (.slice a_r0_1 n_r0_1 c_r0_1)] := by
  have HT : St w0 (fun _ => False) w0 [] := St.init0
  rw [m_impl_ReadProg] at h
  refine calls_fr (n := 82) [sv x0] Try.func31 rfl rfl rfl (fun a HF => ?_)
  have HT : St w0 (fun _ => False) w0 [] := HT
  refine wp_seq ?_
  refine wc_text ?_
  refine wc_alloc (cs := [.slice none 0 0, .slice none 0 0]) HF HT zr49 rfl rfl rfl (fun p1 w HT hb => ⟨nS, fun a HF => ?_⟩)
  refine wc_assign HF nS rfl rfl rfl (fun a HF => ?_)
  refine wc_end ?_
  refine then_n ?_
  refine wp_seq ?_
  refine wc_text ?_
  refine wc_move HF nS rfl rfl rfl (fun a HF => ?_)
  obtain ⟨y1, y2, hx1, h⟩ := obs2 h
  refine wc_call HF cf55 rfl (w_impl_lines fuel hx1) rfl rfl ?_
  rintro e w ⟨a1, n1, c1, rfl, hE⟩
  have hb := hE.below
  have HT := HT.pure hE
  obtain rfl := (HT.rdAt 0 rfl).neq
  have HT : St w0 (fun _ => False) w [Own 9 (rowT y1) (.slice a1 y1.length c1), Box p1 [.slice none 0 0, .slice none 0 0]] := HT
  refine ⟨_, rfl, nS, fun a HF => ?_⟩
  refine wc_move HF nS rfl rfl rfl (fun a HF => ?_)
  refine wc_extract (v := .slice a1 y1.length c1) HF nS rfl rfl rfl rfl (fun a HF => ?_)
  refine wc_extract (v := .bool y2) HF nS rfl rfl rfl rfl (fun a HF => ?_)
  refine wc_assign HF nS rfl rfl rfl (fun a HF => ?_)
  refine wc_assign HF nS rfl rfl rfl (fun a HF => ?_)
  refine wc_end ?_
  refine then_n ?_
  refine wp_seq ?_
  refine wp_seq ?_
  refine wc_text ?_
  refine wc_move HF nS rfl rfl rfl (fun a HF => ?_)
  refine wc_not HF nS rfl rfl rfl (fun a HF => ?_)
  refine wc_end ?_
  refine then_n ?_
  by_cases hb1 : y2 = true
  · have h := (if_pos hb1).symm.trans h
    refine wp_if (b' := false) HF rfl (notT hb1) ?_
    refine wp_skip ?_
    refine then_n ?_
    refine wp_seq ?_
    refine wc_text ?_
    refine wc_bslice (l := ([(⟨[]⟩ : SE)] : List SE)) (cs := [sv []]) (A := []) HF HT bs62_1 rfl rfl (gives_flat rfl) rfl (by decide) rfl rfl (fun p2 w HT hb => ⟨nS, fun a HF => ?_⟩)
    refine wc_assign HF nS rfl rfl rfl (fun a HF => ?_)
    refine wc_end ?_
    refine then_n ?_
    obtain ⟨z1, hx2, h⟩ := obs h
    refine wp_cut (fun a w => ∃ a2 n2 c2, Fr a 82 [(2, .pointer (some ⟨p1, 0, none⟩)), (6, .slice a2 n2 c2)] ∧ St w0 (fun _ => False) w [Box p1 [.slice none 0 0, .slice none 0 0], Own 9 (rowT z1) (.slice a2 n2 c2)]) ?_ ?_
    · have hk1 := h
      have h := hx2
      refine wp_seq ?_
      refine wc_text ?_
      refine wc_move HF nS rfl rfl rfl (fun a HF => ?_)
      refine wc_lenR HF nS Try.underlying62 rfl rfl rfl (fun a HF => ?_)
      refine wc_move HF nS rfl rfl rfl (fun a HF => ?_)
      refine wc_end ?_
      refine then_n ?_
      refine wp_block ?_
      have HT : St w0 (fun _ => False) w [Box p1 [.slice none 0 0, .slice none 0 0], Own 9 (rowT ([(⟨[]⟩ : SE)] : List SE)) (.slice (some ⟨p2, 0, none⟩) 1 1), Own 9 (rowT y1) (.slice a1 y1.length c1)] := ((HT.pick 1).pick 1).pick 2
      refine wp_loopN (fun k1 a w => ∃ z2 z3 a3 n3 c3, m_impl_ReadProg_L0 fuel y1 k1 z2 z3 = some z1 ∧ Fr a 82 [(2, .pointer (some ⟨p1, 0, none⟩)), (6, .slice a3 n3 c3), (23, .slice a1 y1.length c1), (24, .int .i64 (y1.length : Int)), (25, .int .i64 z3)] ∧ St w0 (fun _ => False) w [Box p1 [.slice none 0 0, .slice none 0 0], Own 9 (rowT z2) (.slice a3 n3 c3), Own 9 (rowT y1) (.slice a1 y1.length c1)]) fuel ⟨([(⟨[]⟩ : SE)] : List SE), 0, (some ⟨p2, 0, none⟩), 1, 1, h, (HF.keep (HF.keep (HF.keep (HF.keep (HF.keep HF.nil rfl) rfl) rfl) rfl) rfl), HT⟩ ?_
      rintro k1 a w ⟨z2, z3, a3, n3, c3, h, HF, HT⟩
      cases k1 with
      | zero => cases h
      | succ k1 =>
        rw [m_impl_ReadProg_L0] at h
        obtain rfl := (HT.rdAt 1 rfl).neq
        refine ?_
        refine wp_seq ?_
        refine wc_text ?_
        refine wc_bin HF nS rfl rfl b_lt rfl rfl (fun a HF => ?_)
        refine wc_end ?_
        refine then_n ?_
        refine wp_seq ?_
        by_cases hb2 : z3 < (y1.length : Int)
        · have h := (if_pos hb2).symm.trans h
          refine wp_if (b' := true) HF rfl (decide_eq_true hb2) ?_
          refine wp_skip ?_
          refine then_n ?_
          obtain ⟨z4, hx3, h⟩ := obs h
          refine wp_cut (fun a w => ∃ a4 n4 c4, Fr a 82 [(2, .pointer (some ⟨p1, 0, none⟩)), (6, .slice a4 n4 c4), (23, .slice a1 y1.length c1), (24, .int .i64 (y1.length : Int)), (25, .int .i64 z3)] ∧ St w0 (fun _ => False) w [Box p1 [.slice none 0 0, .slice none 0 0], Own 9 (rowT z4) (.slice a4 n4 c4), Own 9 (rowT y1) (.slice a1 y1.length c1)]) ?_ ?_
          · have hk2 := h
            have h := hx3
            refine wp_block ?_
            refine wp_seq ?_
            refine wc_text ?_
            obtain ⟨e1, hx4, h⟩ := obs h
            obtain ⟨b1, o1, ha1⟩ := (HT.rdAt 2 rfl).addr hx4
            refine wc_ixaddr HF nS el62 rfl ha1 ((HT.rdAt 2 rfl)).neq rfl hx4 rfl rfl (fun a HF => ?_)
            have hc1 := (HT.rdAt 2 rfl).flatAt ha1 hx4
            refine wc_load HF rfl sc9 (hc1.get 0 rfl) rfl rfl (fun a HF => ?_)
            refine wc_assign HF nS rfl rfl rfl (fun a HF => ?_)
            refine wc_end ?_
            refine then_n ?_
            refine wp_seq ?_
            refine wc_text ?_
            refine wc_move HF nS rfl rfl rfl (fun a HF => ?_)
            refine wc_bin HF nS rfl rfl b_seq rfl rfl (fun a HF => ?_)
            refine wc_end ?_
            refine then_n ?_
            by_cases hb3 : e1.s = ([107, 105, 100])
            · have h := (if_pos hb3).symm.trans h
              refine wp_if (b' := true) HF rfl (decide_eq_true hb3) ?_
              refine wc_text ?_
              refine wc_move HF nS rfl rfl rfl (fun a HF => ?_)
              refine wc_bslice (l := ([(⟨[]⟩ : SE)] : List SE)) (cs := [sv []]) (A := []) HF HT bs62_1 rfl rfl (gives_flat rfl) rfl (by decide) rfl rfl (fun p3 w HT hb => ⟨nS, fun a HF => ?_⟩)
              obtain ⟨hg1, h⟩ := grd h
              have HT : St w0 (fun _ => False) w [Own 9 (rowT z2) (.slice a3 z2.length c3), Own 9 (rowT ([(⟨[]⟩ : SE)] : List SE)) (.slice (some ⟨p3, 0, none⟩) 1 1), Box p1 [.slice none 0 0, .slice none 0 0], Own 9 (rowT y1) (.slice a1 y1.length c1)] := HT.pick 2
              refine wc_append HF HT el62 rfl rfl (Nat.zero_lt_succ _) hg1 rfl rfl rfl (fun a5 c5 w HT => ⟨nS, fun a HF => ?_⟩)
              refine wc_assign HF nS rfl rfl rfl (fun a HF => ?_)
              refine wc_end ?_
              refine blk_n ?_
              have HT : St w0 (fun _ => False) w [Box p1 [.slice none 0 0, .slice none 0 0], Own 9 (rowT (z2 ++ ([(⟨[]⟩ : SE)] : List SE))) (.slice a5 ((z2 ++ ([(⟨[]⟩ : SE)] : List SE)).length) c5), Own 9 (rowT y1) (.slice a1 y1.length c1)] := ((HT.pick 2).pick 1).pick 2
              obtain rfl := Option.some.inj h
              exact then_n ⟨a5, (z2 ++ ([(⟨[]⟩ : SE)] : List SE)).length, c5, (HF.keep (HF.keep (HF.keep (HF.keep (HF.keep HF.nil rfl) rfl) rfl) rfl) rfl), HT⟩
            have h := (if_neg hb3).symm.trans h
            refine wp_if (b' := false) HF rfl (decide_eq_false hb3) ?_
            refine wc_text ?_
            refine wc_move HF nS rfl rfl rfl (fun a HF => ?_)
            refine wc_move HF nS rfl rfl rfl (fun a HF => ?_)
            refine wc_lenR HF nS Try.underlying62 rfl rfl rfl (fun a HF => ?_)
            obtain ⟨hg2, h⟩ := grd h
            refine wc_bin HF nS rfl rfl (b_sub hg2) rfl rfl (fun a HF => ?_)
            refine wc_move HF nS rfl rfl rfl (fun a HF => ?_)
            refine wc_move HF nS rfl rfl rfl (fun a HF => ?_)
            refine wc_lenR HF nS Try.underlying62 rfl rfl rfl (fun a HF => ?_)
            obtain ⟨hg3, h⟩ := grd h
            refine wc_bin HF nS rfl rfl (b_sub hg3) rfl rfl (fun a HF => ?_)
            obtain ⟨e2, hx5, h⟩ := obs h
            obtain ⟨b2, o2, ha2⟩ := (HT.rdAt 1 rfl).addr hx5
            refine wc_ixaddr HF nS el62 rfl ha2 ((HT.rdAt 1 rfl)).neq rfl hx5 rfl rfl (fun a HF => ?_)
            have hc2 := (HT.rdAt 1 rfl).flatAt ha2 hx5
            refine wc_load HF rfl sc9 (hc2.get 0 rfl) rfl rfl (fun a HF => ?_)
            refine wc_move HF nS rfl rfl rfl (fun a HF => ?_)
            obtain ⟨hg4, h⟩ := grd h
            refine wc_bin HF nS rfl rfl (b_cat hg4) rfl rfl (fun a HF => ?_)
            obtain ⟨hg5, h⟩ := grd h
            refine wc_bin HF nS rfl rfl (b_cat hg5) rfl rfl (fun a HF => ?_)
            refine wc_ixaddr HF nS el62 rfl ha2 ((HT.rdAt 1 rfl)).neq rfl hx5 rfl rfl (fun a HF => ?_)
            have HT : St w0 (fun _ => False) w [Own 9 (rowT z2) (.slice a3 z2.length c3), Box p1 [.slice none 0 0, .slice none 0 0], Own 9 (rowT y1) (.slice a1 y1.length c1)] := HT.pick 1
            refine wc_storeR (i := (z2.length : Int) - 1) (j := 0) (x' := (⟨(e2.s ++ e1.s) ++ [10]⟩ : SE)) HF HT ha2 rfl rfl (fun w => (sc9 w).2) rfl rfl hx5 rfl rfl rfl rfl (fun w HT => ⟨nS, ?_⟩)
            refine wc_end ?_
            refine blk_n ?_
            have HT : St w0 (fun _ => False) w [Box p1 [.slice none 0 0, .slice none 0 0], Own 9 (rowT (z2.set ((z2.length : Int) - 1).toNat (⟨(e2.s ++ e1.s) ++ [10]⟩ : SE))) (.slice a3 z2.length c3), Own 9 (rowT y1) (.slice a1 y1.length c1)] := ((HT.pick 2).pick 1).pick 2
            obtain rfl := Option.some.inj h
            exact then_n ⟨a3, z2.length, c3, (HF.keep (HF.keep (HF.keep (HF.keep (HF.keep HF.nil rfl) rfl) rfl) rfl) rfl), HT⟩
          rintro a w ⟨a4, n4, c4, HF, HT⟩
          obtain rfl := (HT.rdAt 1 rfl).neq
          refine ?_
          refine wc_text ?_
          obtain ⟨hg6, h⟩ := grd h
          refine wc_bin HF nS rfl rfl (b_add hg6) rfl rfl (fun a HF => ?_)
          refine wc_move HF nS rfl rfl rfl (fun a HF => ?_)
          refine wc_end ?_
          exact then_n ⟨k1, Nat.lt_succ_self k1, z4, z3 + 1, a4, z4.length, c4, h, (HF.keep (HF.keep (HF.keep (HF.keep (HF.keep HF.nil rfl) rfl) rfl) rfl) rfl), HT⟩
        have h := (if_neg hb2).symm.trans h
        refine wp_if (b' := false) HF rfl (decide_eq_false hb2) ?_
        refine wp_exit ?_
        refine then_x (then_x (?_))
        refine blk_x ?_
        have HT : St w0 (fun _ => False) w [Box p1 [.slice none 0 0, .slice none 0 0], Own 9 (rowT z2) (.slice a3 z2.length c3)] := HT.take 2
        obtain rfl := Option.some.inj h
        exact then_n ⟨a3, z2.length, c3, (HF.keep (HF.keep HF.nil rfl) rfl), HT⟩
    rintro a w ⟨a2, n2, c2, HF, HT⟩
    obtain rfl := (HT.rdAt 1 rfl).neq
    refine ?_
    refine wp_seq ?_
    refine wc_text ?_
    refine wc_build (cs := #[.slice none 0 0, .slice none 0 0]) HF nS bd49 rfl rfl rfl rfl (fun a HF => ?_)
    refine wc_alloc (cs := [.slice none 0 0, .slice none 0 0]) HF HT zr49 rfl rfl rfl (fun p4 w HT hb => ⟨nS, fun a HF => ?_⟩)
    refine wc_storeB (cs' := [.slice none 0 0, .slice none 0 0]) HF HT rfl rfl (fun w => (ag49 w).2) rfl rfl rfl rfl rfl (fun w HT => ⟨nS, ?_⟩)
    refine wc_end ?_
    refine then_n ?_
    obtain ⟨q3, hx6, h⟩ := obs h
    refine wp_cut (fun a w => ∃ z5 z6 a6 n5 c6 a7 n6 c7, q3 = .brk (z5, z6) ∧ Fr a 82 [(2, .pointer (some ⟨p1, 0, none⟩)), (9, .pointer (some ⟨p4, 0, none⟩))] ∧ St w0 (fun _ => False) w [Box p1 [.slice none 0 0, .slice none 0 0], Own 25 (rowT z5) (.slice a6 n5 c6), Own 77 (rowT z6) (.slice a7 n6 c7), Box p4 [.slice a6 n5 c6, .slice a7 n6 c7]]) ?_ ?_
    · have hk1 := h
      have h := hx6
      refine wp_seq ?_
      refine wc_text ?_
      refine wc_move HF nS rfl rfl rfl (fun a HF => ?_)
      refine wc_lenR HF nS Try.underlying62 rfl rfl rfl (fun a HF => ?_)
      refine wc_move HF nS rfl rfl rfl (fun a HF => ?_)
      refine wc_end ?_
      refine then_n ?_
      refine wp_block ?_
      have HT : St w0 (fun _ => False) w [Own 25 (rowT ([] : List I4)) (.slice none 0 0), Box p4 [.slice none 0 0, .slice none 0 0], Box p1 [.slice none 0 0, .slice none 0 0], Own 9 (rowT z1) (.slice a2 z1.length c2)] := HT.nilrow 25
      have HT : St w0 (fun _ => False) w [Own 77 (rowT ([] : List KidD)) (.slice none 0 0), Own 25 (rowT ([] : List I4)) (.slice none 0 0), Box p4 [.slice none 0 0, .slice none 0 0], Box p1 [.slice none 0 0, .slice none 0 0], Own 9 (rowT z1) (.slice a2 z1.length c2)] := HT.nilrow 77
      have HT : St w0 (fun _ => False) w [Box p1 [.slice none 0 0, .slice none 0 0], Own 25 (rowT ([] : List I4)) (.slice none 0 0), Own 77 (rowT ([] : List KidD)) (.slice none 0 0), Box p4 [.slice none 0 0, .slice none 0 0], Own 9 (rowT z1) (.slice a2 z1.length c2)] := ((((HT.pick 4).pick 3).pick 2).pick 3).pick 4
      refine wp_loopN (fun k2 a w => ∃ z7 z8 z9 a8 n7 c8 a9 n8 c9, m_impl_ReadProg_L1 fuel z1 k2 z7 z8 z9 = some q3 ∧ Fr a 82 [(2, .pointer (some ⟨p1, 0, none⟩)), (9, .pointer (some ⟨p4, 0, none⟩)), (50, .slice a2 z1.length c2), (51, .int .i64 (z1.length : Int)), (52, .int .i64 z9)] ∧ St w0 (fun _ => False) w [Box p1 [.slice none 0 0, .slice none 0 0], Own 25 (rowT z7) (.slice a8 n7 c8), Own 77 (rowT z8) (.slice a9 n8 c9), Box p4 [.slice a8 n7 c8, .slice a9 n8 c9], Own 9 (rowT z1) (.slice a2 z1.length c2)]) fuel ⟨([] : List I4), ([] : List KidD), 0, none, 0, 0, none, 0, 0, h, (HF.keep (HF.keep (HF.keep (HF.keep (HF.keep HF.nil rfl) rfl) rfl) rfl) rfl), HT⟩ ?_
      rintro k2 a w ⟨z7, z8, z9, a8, n7, c8, a9, n8, c9, h, HF, HT⟩
      cases k2 with
      | zero => cases h
      | succ k2 =>
        rw [m_impl_ReadProg_L1] at h
        obtain rfl := (HT.rdAt 1 rfl).neq
        obtain rfl := (HT.rdAt 2 rfl).neq
        refine ?_
        refine wp_seq ?_
        refine wc_text ?_
        refine wc_bin HF nS rfl rfl b_lt rfl rfl (fun a HF => ?_)
        refine wc_end ?_
        refine then_n ?_
        refine wp_seq ?_
        by_cases hb4 : z9 < (z1.length : Int)
        · have h := (if_pos hb4).symm.trans h
          refine wp_if (b' := true) HF rfl (decide_eq_true hb4) ?_
          refine wp_skip ?_
          refine then_n ?_
          obtain ⟨q4, hx7, h⟩ := obs h
          refine wp_cut (fun a w => ∃ z10 z11 a10 n9 c10 a11 n10 c11, q4 = .brk (z10, z11) ∧ Fr a 82 [(2, .pointer (some ⟨p1, 0, none⟩)), (9, .pointer (some ⟨p4, 0, none⟩)), (50, .slice a2 z1.length c2), (51, .int .i64 (z1.length : Int)), (52, .int .i64 z9)] ∧ St w0 (fun _ => False) w [Box p1 [.slice none 0 0, .slice none 0 0], Own 25 (rowT z10) (.slice a10 n9 c10), Own 77 (rowT z11) (.slice a11 n10 c11), Box p4 [.slice a10 n9 c10, .slice a11 n10 c11], Own 9 (rowT z1) (.slice a2 z1.length c2)]) ?_ ?_
          · have hk2 := h
            have h := hx7
            refine wp_block ?_
            refine wp_seq ?_
            refine wc_text ?_
            refine wc_move HF nS rfl rfl rfl (fun a HF => ?_)
            obtain ⟨e3, hx8, h⟩ := obs h
            obtain ⟨b3, o3, ha3⟩ := (HT.rdAt 4 rfl).addr hx8
            refine wc_ixaddr HF nS el62 rfl ha3 ((HT.rdAt 4 rfl)).neq rfl hx8 rfl rfl (fun a HF => ?_)
            have hc3 := (HT.rdAt 4 rfl).flatAt ha3 hx8
            refine wc_load HF rfl sc9 (hc3.get 0 rfl) rfl rfl (fun a HF => ?_)
            refine wc_assign HF nS rfl rfl rfl (fun a HF => ?_)
            refine wc_assign HF nS rfl rfl rfl (fun a HF => ?_)
            refine wc_end ?_
            refine then_n ?_
            refine wp_seq ?_
            refine wc_text ?_
            refine wc_move HF nS rfl rfl rfl (fun a HF => ?_)
            obtain ⟨y3, y4, hx9, h⟩ := obs2 h
            refine wc_call HF cf22 rfl (w_impl_ReadCode fuel hx9) rfl rfl ?_
            rintro e w ⟨a12, n11, c12, rfl, hE⟩
            have hb := hE.below
            have HT := HT.pure hE
            obtain rfl := (HT.rdAt 0 rfl).neq
            have HT : St w0 (fun _ => False) w [Own 25 (rowT y3) (.slice a12 y3.length c12), Box p1 [.slice none 0 0, .slice none 0 0], Own 25 (rowT z7) (.slice a8 z7.length c8), Own 77 (rowT z8) (.slice a9 z8.length c9), Box p4 [.slice a8 z7.length c8, .slice a9 z8.length c9], Own 9 (rowT z1) (.slice a2 z1.length c2)] := HT
            refine ⟨_, rfl, nS, fun a HF => ?_⟩
            refine wc_move HF nS rfl rfl rfl (fun a HF => ?_)
            refine wc_extract (v := .slice a12 y3.length c12) HF nS rfl rfl rfl rfl (fun a HF => ?_)
            refine wc_extract (v := .bool y4) HF nS rfl rfl rfl rfl (fun a HF => ?_)
            refine wc_assign HF nS rfl rfl rfl (fun a HF => ?_)
            refine wc_assign HF nS rfl rfl rfl (fun a HF => ?_)
            refine wc_end ?_
            refine then_n ?_
            refine wp_seq ?_
            refine wp_seq ?_
            refine wc_text ?_
            refine wc_move HF nS rfl rfl rfl (fun a HF => ?_)
            refine wc_not HF nS rfl rfl rfl (fun a HF => ?_)
            refine wc_end ?_
            refine then_n ?_
            by_cases hb5 : y4 = true
            · have h := (if_pos hb5).symm.trans h
              refine wp_if (b' := false) HF rfl (notT hb5) ?_
              refine wp_skip ?_
              refine then_n ?_
              refine wp_seq ?_
              refine wc_text ?_
              refine wc_move HF nS rfl rfl rfl (fun a HF => ?_)
              refine wc_bin HF nS rfl rfl b_eq rfl rfl (fun a HF => ?_)
              refine wc_end ?_
              refine then_n ?_
              by_cases hb6 : z9 = 0
              · have h := (if_pos hb6).symm.trans h
                refine wp_if (b' := true) HF rfl (decide_eq_true hb6) ?_
                refine wc_text ?_
                refine wc_move HF nS rfl rfl rfl (fun a HF => ?_)
                refine wc_faddr HF nS rfl fl49_0 rfl rfl (fun a HF => ?_)
                have HT : St w0 (fun _ => False) w [Box p4 [.slice a8 z7.length c8, .slice a9 z8.length c9], Own 25 (rowT y3) (.slice a12 y3.length c12), Box p1 [.slice none 0 0, .slice none 0 0], Own 25 (rowT z7) (.slice a8 z7.length c8), Own 77 (rowT z8) (.slice a9 z8.length c9), Own 9 (rowT z1) (.slice a2 z1.length c2)] := HT.pick 4
                refine wc_storeB (cs' := [.slice a12 y3.length c12, .slice a9 z8.length c9]) HF HT rfl rfl (fun w => (sc35 w).2) rfl rfl rfl rfl rfl (fun w HT => ⟨nS, ?_⟩)
                refine wc_end ?_
                refine blk_n ?_
                have HT : St w0 (fun _ => False) w [Box p1 [.slice none 0 0, .slice none 0 0], Own 25 (rowT y3) (.slice a12 y3.length c12), Own 77 (rowT z8) (.slice a9 z8.length c9), Box p4 [.slice a12 y3.length c12, .slice a9 z8.length c9], Own 9 (rowT z1) (.slice a2 z1.length c2)] := (((((HT.pick 5).pick 1).pick 5).pick 3).pick 4).take 5
                exact then_n ⟨y3, z8, a12, y3.length, c12, a9, z8.length, c9, (Option.some.inj h).symm, (HF.keep (HF.keep (HF.keep (HF.keep (HF.keep HF.nil rfl) rfl) rfl) rfl) rfl), HT⟩
              have h := (if_neg hb6).symm.trans h
              refine wp_if (b' := false) HF rfl (decide_eq_false hb6) ?_
              refine wc_text ?_
              refine wc_faddr HF nS rfl fl49_1 rfl rfl (fun a HF => ?_)
              refine wc_load HF rfl sc47 ((HT.boxAt 4 rfl).get 1 rfl) rfl rfl (fun a HF => ?_)
              refine wc_move HF nS rfl rfl rfl (fun a HF => ?_)
              refine wc_build (cs := #[.slice a12 y3.length c12]) HF nS bd77 rfl rfl rfl rfl (fun a HF => ?_)
              refine wc_bslice (l := ([(⟨y3⟩ : KidD)] : List KidD)) (cs := [.slice a12 y3.length c12]) (A := [Own 25 (rowT y3) (.slice a12 y3.length c12)]) HF HT bs47_1 rfl rfl (gives_own gives_nil) rfl (by decide) rfl rfl (fun p5 w HT hb => ⟨nS, fun a HF => ?_⟩)
              obtain ⟨hg7, h⟩ := grd h
              have HT : St w0 (fun _ => False) w [Own 77 (rowT z8) (.slice a9 z8.length c9), Own 77 (rowT ([(⟨y3⟩ : KidD)] : List KidD)) (.slice (some ⟨p5, 0, none⟩) 1 1), Box p1 [.slice none 0 0, .slice none 0 0], Own 25 (rowT z7) (.slice a8 z7.length c8), Box p4 [.slice a8 z7.length c8, .slice a9 z8.length c9], Own 9 (rowT z1) (.slice a2 z1.length c2)] := HT.pick 3
              refine wc_append HF HT el47 rfl rfl (Nat.zero_lt_succ _) hg7 rfl rfl rfl (fun a13 c13 w HT => ⟨nS, fun a HF => ?_⟩)
              refine wc_faddr HF nS rfl fl49_1 rfl rfl (fun a HF => ?_)
              have HT : St w0 (fun _ => False) w [Box p4 [.slice a8 z7.length c8, .slice a9 z8.length c9], Own 77 (rowT (z8 ++ ([(⟨y3⟩ : KidD)] : List KidD))) (.slice a13 ((z8 ++ ([(⟨y3⟩ : KidD)] : List KidD)).length) c13), Box p1 [.slice none 0 0, .slice none 0 0], Own 25 (rowT z7) (.slice a8 z7.length c8), Own 9 (rowT z1) (.slice a2 z1.length c2)] := HT.pick 3
              refine wc_storeB (cs' := [.slice a8 z7.length c8, .slice a13 ((z8 ++ ([(⟨y3⟩ : KidD)] : List KidD)).length) c13]) HF HT rfl rfl (fun w => (sc47 w).2) rfl rfl rfl rfl rfl (fun w HT => ⟨nS, ?_⟩)
              refine wc_end ?_
              refine blk_n ?_
              have HT : St w0 (fun _ => False) w [Box p1 [.slice none 0 0, .slice none 0 0], Own 25 (rowT z7) (.slice a8 z7.length c8), Own 77 (rowT (z8 ++ ([(⟨y3⟩ : KidD)] : List KidD))) (.slice a13 ((z8 ++ ([(⟨y3⟩ : KidD)] : List KidD)).length) c13), Box p4 [.slice a8 z7.length c8, .slice a13 ((z8 ++ ([(⟨y3⟩ : KidD)] : List KidD)).length) c13], Own 9 (rowT z1) (.slice a2 z1.length c2)] := ((((HT.pick 4).pick 1).pick 2).pick 4).pick 4
              exact then_n ⟨z7, z8 ++ ([(⟨y3⟩ : KidD)] : List KidD), a8, z7.length, c8, a13, (z8 ++ ([(⟨y3⟩ : KidD)] : List KidD)).length, c13, (Option.some.inj h).symm, (HF.keep (HF.keep (HF.keep (HF.keep (HF.keep HF.nil rfl) rfl) rfl) rfl) rfl), HT⟩
            have h := (if_neg hb5).symm.trans h
            refine wp_if (b' := true) HF rfl (notF (Bool.eq_false_iff.2 hb5)) ?_
            refine wp_seq ?_
            refine wc_text ?_
            refine wc_build (cs := #[.slice none 0 0, .slice none 0 0]) HF nS bd49 rfl rfl rfl rfl (fun a HF => ?_)
            have HT : St w0 (fun _ => False) w [Box p1 [.slice none 0 0, .slice none 0 0], Own 25 (rowT y3) (.slice a12 y3.length c12), Own 25 (rowT z7) (.slice a8 z7.length c8), Own 77 (rowT z8) (.slice a9 z8.length c9), Box p4 [.slice a8 z7.length c8, .slice a9 z8.length c9], Own 9 (rowT z1) (.slice a2 z1.length c2)] := HT.pick 1
            refine wc_storeB (cs' := [.slice none 0 0, .slice none 0 0]) HF HT rfl rfl (fun w => (ag49 w).2) rfl rfl rfl rfl rfl (fun w HT => ⟨nS, ?_⟩)
            refine wc_assign HF nS rfl rfl rfl (fun a HF => ?_)
            refine wc_end ?_
            refine then_n ?_
            refine wp_ret ?_
            have HT : St w0 (fun _ => False) w [Own 25 (rowT ([] : List I4)) (.slice none 0 0), Box p1 [.slice none 0 0, .slice none 0 0], Own 25 (rowT y3) (.slice a12 y3.length c12), Own 25 (rowT z7) (.slice a8 z7.length c8), Own 77 (rowT z8) (.slice a9 z8.length c9), Box p4 [.slice a8 z7.length c8, .slice a9 z8.length c9], Own 9 (rowT z1) (.slice a2 z1.length c2)] := HT.nilrow 25
            have HT : St w0 (fun _ => False) w [Own 77 (rowT ([] : List KidD)) (.slice none 0 0), Own 25 (rowT ([] : List I4)) (.slice none 0 0), Box p1 [.slice none 0 0, .slice none 0 0], Own 25 (rowT y3) (.slice a12 y3.length c12), Own 25 (rowT z7) (.slice a8 z7.length c8), Own 77 (rowT z8) (.slice a9 z8.length c9), Box p4 [.slice a8 z7.length c8, .slice a9 z8.length c9], Own 9 (rowT z1) (.slice a2 z1.length c2)] := HT.nilrow 77
            obtain rfl := Option.some.inj h
            have h := retM hk2
            obtain rfl := Option.some.inj h
            have h := retL hk1
            have hj1 := Option.some.inj h
            obtain ⟨hi1, hj2⟩ := Prod.mk.inj hj1
            subst hi1
            obtain ⟨hi2, hj3⟩ := Prod.mk.inj hj2
            subst hi2
            subst hj3
            refine then_r (blk_r (then_r (then_r (blk_r (then_r (?_))))))
            refine bp_ret HF (res_cell_tmp (vs := [.slice none 0 0, .slice none 0 0]) rfl HF rfl ag49 rfl (HT.boxAt 2 rfl) rfl) ?_
            have HT : St w0 (fun _ => False) w [Own 25 (rowT ([] : List I4)) (.slice none 0 0), Own 77 (rowT ([] : List KidD)) (.slice none 0 0)] := (HT.pick 1).take 2
            exact ⟨none, 0, 0, none, 0, 0, rfl, HT⟩
          rintro a w ⟨z10, z11, a10, n9, c10, a11, n10, c11, rfl, HF, HT⟩
          have h := brkM2 h
          obtain rfl := (HT.rdAt 1 rfl).neq
          obtain rfl := (HT.rdAt 2 rfl).neq
          refine ?_
          refine wc_text ?_
          obtain ⟨hg8, h⟩ := grd h
          refine wc_bin HF nS rfl rfl (b_add hg8) rfl rfl (fun a HF => ?_)
          refine wc_move HF nS rfl rfl rfl (fun a HF => ?_)
          refine wc_end ?_
          exact then_n ⟨k2, Nat.lt_succ_self k2, z10, z11, z9 + 1, a10, z10.length, c10, a11, z11.length, c11, h, (HF.keep (HF.keep (HF.keep (HF.keep (HF.keep HF.nil rfl) rfl) rfl) rfl) rfl), HT⟩
        have h := (if_neg hb4).symm.trans h
        refine wp_if (b' := false) HF rfl (decide_eq_false hb4) ?_
        refine wp_exit ?_
        refine then_x (then_x (?_))
        refine blk_x ?_
        have HT : St w0 (fun _ => False) w [Box p1 [.slice none 0 0, .slice none 0 0], Own 25 (rowT z7) (.slice a8 z7.length c8), Own 77 (rowT z8) (.slice a9 z8.length c9), Box p4 [.slice a8 z7.length c8, .slice a9 z8.length c9]] := HT.take 4
        exact then_n ⟨z7, z8, a8, z7.length, c8, a9, z8.length, c9, (Option.some.inj h).symm, (HF.keep (HF.keep HF.nil rfl) rfl), HT⟩
    rintro a w ⟨z5, z6, a6, n5, c6, a7, n6, c7, rfl, HF, HT⟩
    have h := brkL2 h
    obtain rfl := (HT.rdAt 1 rfl).neq
    obtain rfl := (HT.rdAt 2 rfl).neq
    refine ?_
    refine wp_seq ?_
    refine wp_seq ?_
    refine wc_text ?_
    refine wc_loadA (vs := [.slice a6 z5.length c6, .slice a7 z6.length c7]) HF rfl ag49 rfl ((HT.boxAt 3 rfl).part 0 2) rfl rfl (fun a HF => ?_)
    obtain ⟨y5, hx10, h⟩ := obs h
    refine wc_call HF cf58 rfl (w_impl_ProgOk fuel hx10 (HT.rdAt 1 rfl) (HT.rdAt 2 rfl)) rfl rfl ?_
    rintro e w ⟨rfl, hE⟩
    have hb := hE.below
    have HT := HT.pure hE
    have HT : St w0 (fun _ => False) w [Box p1 [.slice none 0 0, .slice none 0 0], Own 25 (rowT z5) (.slice a6 z5.length c6), Own 77 (rowT z6) (.slice a7 z6.length c7), Box p4 [.slice a6 z5.length c6, .slice a7 z6.length c7]] := HT
    refine ⟨_, rfl, nS, fun a HF => ?_⟩
    refine wc_not HF nS rfl rfl rfl (fun a HF => ?_)
    refine wc_end ?_
    refine then_n ?_
    by_cases hb7 : y5 = true
    · have h := (if_pos hb7).symm.trans h
      refine wp_if (b' := false) HF rfl (notT hb7) ?_
      refine wp_skip ?_
      refine then_n ?_
      refine wp_seq ?_
      refine wc_text ?_
      refine wc_loadA (vs := [.slice a6 z5.length c6, .slice a7 z6.length c7]) HF rfl ag49 rfl ((HT.boxAt 3 rfl).part 0 2) rfl rfl (fun a HF => ?_)
      refine wc_storeB (cs' := [.slice a6 z5.length c6, .slice a7 z6.length c7]) HF HT rfl rfl (fun w => (ag49 w).2) rfl rfl rfl rfl rfl (fun w HT => ⟨nS, ?_⟩)
      refine wc_assign HF nS rfl rfl rfl (fun a HF => ?_)
      refine wc_end ?_
      refine then_n ?_
      refine wp_ret ?_
      have hj4 := Option.some.inj h
      obtain ⟨hi4, hj5⟩ := Prod.mk.inj hj4
      subst hi4
      obtain ⟨hi5, hj6⟩ := Prod.mk.inj hj5
      subst hi5
      subst hj6
      refine bp_ret HF (res_cell_tmp (vs := [.slice a6 z5.length c6, .slice a7 z6.length c7]) rfl HF rfl ag49 rfl (HT.boxAt 0 rfl) rfl) ?_
      have HT : St w0 (fun _ => False) w [Own 25 (rowT z5) (.slice a6 z5.length c6), Own 77 (rowT z6) (.slice a7 z6.length c7)] := ((HT.pick 2).pick 2).take 2
      exact ⟨a6, z5.length, c6, a7, z6.length, c7, rfl, HT⟩
    have h := (if_neg hb7).symm.trans h
    refine wp_if (b' := true) HF rfl (notF (Bool.eq_false_iff.2 hb7)) ?_
    refine wp_seq ?_
    refine wc_text ?_
    refine wc_build (cs := #[.slice none 0 0, .slice none 0 0]) HF nS bd49 rfl rfl rfl rfl (fun a HF => ?_)
    refine wc_storeB (cs' := [.slice none 0 0, .slice none 0 0]) HF HT rfl rfl (fun w => (ag49 w).2) rfl rfl rfl rfl rfl (fun w HT => ⟨nS, ?_⟩)
    refine wc_assign HF nS rfl rfl rfl (fun a HF => ?_)
    refine wc_end ?_
    refine then_n ?_
    refine wp_ret ?_
    have HT : St w0 (fun _ => False) w [Own 25 (rowT ([] : List I4)) (.slice none 0 0), Box p1 [.slice none 0 0, .slice none 0 0], Own 25 (rowT z5) (.slice a6 z5.length c6), Own 77 (rowT z6) (.slice a7 z6.length c7), Box p4 [.slice a6 z5.length c6, .slice a7 z6.length c7]] := HT.nilrow 25
    have HT : St w0 (fun _ => False) w [Own 77 (rowT ([] : List KidD)) (.slice none 0 0), Own 25 (rowT ([] : List I4)) (.slice none 0 0), Box p1 [.slice none 0 0, .slice none 0 0], Own 25 (rowT z5) (.slice a6 z5.length c6), Own 77 (rowT z6) (.slice a7 z6.length c7), Box p4 [.slice a6 z5.length c6, .slice a7 z6.length c7]] := HT.nilrow 77
    have hj7 := Option.some.inj h
    obtain ⟨hi7, hj8⟩ := Prod.mk.inj hj7
    subst hi7
    obtain ⟨hi8, hj9⟩ := Prod.mk.inj hj8
    subst hi8
    subst hj9
    refine then_r (?_)
    refine bp_ret HF (res_cell_tmp (vs := [.slice none 0 0, .slice none 0 0]) rfl HF rfl ag49 rfl (HT.boxAt 2 rfl) rfl) ?_
    have HT : St w0 (fun _ => False) w [Own 25 (rowT ([] : List I4)) (.slice none 0 0), Own 77 (rowT ([] : List KidD)) (.slice none 0 0)] := (HT.pick 1).take 2
    exact ⟨none, 0, 0, none, 0, 0, rfl, HT⟩
  have h := (if_neg hb1).symm.trans h
  refine wp_if (b' := true) HF rfl (notF (Bool.eq_false_iff.2 hb1)) ?_
  refine wp_seq ?_
  refine wc_text ?_
  refine wc_build (cs := #[.slice none 0 0, .slice none 0 0]) HF nS bd49 rfl rfl rfl rfl (fun a HF => ?_)
  have HT : St w0 (fun _ => False) w [Box p1 [.slice none 0 0, .slice none 0 0], Own 9 (rowT y1) (.slice a1 y1.length c1)] := HT.pick 1
  refine wc_storeB (cs' := [.slice none 0 0, .slice none 0 0]) HF HT rfl rfl (fun w => (ag49 w).2) rfl rfl rfl rfl rfl (fun w HT => ⟨nS, ?_⟩)
  refine wc_assign HF nS rfl rfl rfl (fun a HF => ?_)
  refine wc_end ?_
  refine then_n ?_
  refine wp_ret ?_
  have HT : St w0 (fun _ => False) w [Own 25 (rowT ([] : List I4)) (.slice none 0 0), Box p1 [.slice none 0 0, .slice none 0 0], Own 9 (rowT y1) (.slice a1 y1.length c1)] := HT.nilrow 25
  have HT : St w0 (fun _ => False) w [Own 77 (rowT ([] : List KidD)) (.slice none 0 0), Own 25 (rowT ([] : List I4)) (.slice none 0 0), Box p1 [.slice none 0 0, .slice none 0 0], Own 9 (rowT y1) (.slice a1 y1.length c1)] := HT.nilrow 77
  have hj10 := Option.some.inj h
  obtain ⟨hi10, hj11⟩ := Prod.mk.inj hj10
  subst hi10
  obtain ⟨hi11, hj12⟩ := Prod.mk.inj hj11
  subst hi11
  subst hj12
  refine then_r (?_)
  refine bp_ret HF (res_cell_tmp (vs := [.slice none 0 0, .slice none 0 0]) rfl HF rfl ag49 rfl (HT.boxAt 2 rfl) rfl) ?_
  have HT : St w0 (fun _ => False) w [Own 25 (rowT ([] : List I4)) (.slice none 0 0), Own 77 (rowT ([] : List KidD)) (.slice none 0 0)] := (HT.pick 1).take 2
  exact ⟨none, 0, 0, none, 0, 0, rfl, HT⟩

def m_laws_eqKid (fuel : Nat) (x0_0 : List I4) (x1_0 : List I4) : Option Bool :=
  (m_laws_eqOpS fuel x0_0 x1_0).bind fun y1 =>
  if y1 = true then
    some true
  else
  some false

set_option maxRecDepth 100000 in
set_option maxHeartbeats 4000000 in
theorem w_laws_eqKid (fuel : Nat) {x0_0 : List I4} {x1_0 : List I4} {a_x0_0 : Option Addr} {n_x0_0 c_x0_0 : Nat} {a_x1_0 : Option Addr} {n_x1_0 c_x1_0 : Nat} {r0 : Bool} {w0 : World} (h : m_laws_eqKid fuel x0_0 x1_0 = some r0) (hr_x0_0 : RdT (fun b => ¬ False) w0 (rowT x0_0) (.slice a_x0_0 n_x0_0 c_x0_0)) (hr_x1_0 : RdT (fun b => ¬ False) w0 (rowT x1_0) (.slice a_x1_0 n_x1_0 c_x1_0)) :
    Calls Try.prog 89 #[.agg #[.slice a_x0_0 n_x0_0 c_x0_0], .agg #[.slice a_x1_0 n_x1_0 c_x1_0]] w0 fun e w => e = .returned (.bool r0) ∧ St w0 (fun _ => False) w [] := by
  obtain rfl := hr_x0_0.neq
  obtain rfl := hr_x1_0.neq
  have HT : St w0 (fun _ => False) w0 [] := St.init0
  rw [m_laws_eqKid] at h
  refine calls_fr (n := 11) [.agg #[.slice a_x0_0 x0_0.length c_x0_0], .agg #[.slice a_x1_0 x1_0.length c_x1_0]] Try.func89 rfl rfl rfl (fun a HF => ?_)
  have HT : St w0 (fun _ => False) w0 [] := HT
  refine wp_seq ?_
  refine wc_text ?_
  refine wc_box (cs := [.slice a_x0_0 x0_0.length c_x0_0]) HF HT rfl rfl rfl rfl (fun p1 w HT hb => ⟨nS, fun a HF => ?_⟩)
  refine wc_box (cs := [.slice a_x1_0 x1_0.length c_x1_0]) HF HT rfl rfl rfl rfl (fun p2 w HT hb => ⟨nS, fun a HF => ?_⟩)
  refine wc_assign HF nS rfl rfl rfl (fun a HF => ?_)
  refine wc_end ?_
  refine then_n ?_
  refine wp_seq ?_
  refine wp_seq ?_
  refine wc_text ?_
  refine wc_faddr HF nS rfl fl77_0 rfl rfl (fun a HF => ?_)
  refine wc_load HF rfl sc35 ((HT.boxAt 1 rfl).get 0 rfl) rfl rfl (fun a HF => ?_)
  refine wc_faddr HF nS rfl fl77_0 rfl rfl (fun a HF => ?_)
  refine wc_load HF rfl sc35 ((HT.boxAt 0 rfl).get 0 rfl) rfl rfl (fun a HF => ?_)
  obtain ⟨y1, hx1, h⟩ := obs h
  refine wc_call HF cf20 rfl (w_laws_eqOpS fuel hx1 (HT.ro hr_x0_0).any (HT.ro hr_x1_0).any) rfl rfl ?_
  rintro e w ⟨rfl, hE⟩
  have hb := hE.below
  have HT := HT.pure hE
  have HT : St w0 (fun _ => False) w [Box p2 [.slice a_x1_0 x1_0.length c_x1_0], Box p1 [.slice a_x0_0 x0_0.length c_x0_0]] := HT
  refine ⟨_, rfl, nS, fun a HF => ?_⟩
  refine wc_not HF nS rfl rfl rfl (fun a HF => ?_)
  refine wc_end ?_
  refine then_n ?_
  by_cases hb1 : y1 = true
  · have h := (if_pos hb1).symm.trans h
    refine wp_if (b' := false) HF rfl (notT hb1) ?_
    refine wp_skip ?_
    refine then_n ?_
    refine wp_seq ?_
    refine wc_text ?_
    refine wc_assign HF nS rfl rfl rfl (fun a HF => ?_)
    refine wc_end ?_
    refine then_n ?_
    refine wp_ret ?_
    obtain rfl := Option.some.inj h
    refine bp_ret HF (res_one rfl HF rfl) ?_
    have HT : St w0 (fun _ => False) w [] := HT.take 0
    exact ⟨rfl, HT⟩
  have h := (if_neg hb1).symm.trans h
  refine wp_if (b' := true) HF rfl (notF (Bool.eq_false_iff.2 hb1)) ?_
  refine wp_seq ?_
  refine wc_text ?_
  refine wc_assign HF nS rfl rfl rfl (fun a HF => ?_)
  refine wc_end ?_
  refine then_n ?_
  refine wp_ret ?_
  obtain rfl := Option.some.inj h
  refine then_r (?_)
  refine bp_ret HF (res_one rfl HF rfl) ?_
  have HT : St w0 (fun _ => False) w [] := HT.take 0
  exact ⟨rfl, HT⟩

def m_laws_eqKidS_L0 (fuel : Nat) (x0 : List KidD) (x1 : List KidD) : Nat → Int → Option (Lp Unit Bool)
  | 0, _ => none
  | k1 + 1, z1 =>
    if z1 < (x0.length : Int) then
      (at? x0 z1).bind fun e1 =>
      (at? x1 z1).bind fun e2 =>
      (m_laws_eqKid fuel e1.code e2.code).bind fun y1 =>
      if y1 = true then
        if in64 (z1 + 1) then
          m_laws_eqKidS_L0 fuel x0 x1 k1 (z1 + 1)
        else none
      else
      some (.ret false)
    else
    some (.brk ())

def m_laws_eqKidS (fuel : Nat) (x0 : List KidD) (x1 : List KidD) : Option Bool :=
  if (x0.length : Int) = (x1.length : Int) then
    (m_laws_eqKidS_L0 fuel x0 x1 fuel 0).bind <| contL <| un1 fun _ =>
    some true
  else
  some false

set_option maxRecDepth 100000 in
set_option maxHeartbeats 4000000 in
theorem w_laws_eqKidS (fuel : Nat) {x0 : List KidD} {x1 : List KidD} {a_x0 : Option Addr} {n_x0 c_x0 : Nat} {a_x1 : Option Addr} {n_x1 c_x1 : Nat} {r0 : Bool} {w0 : World} (h : m_laws_eqKidS fuel x0 x1 = some r0) (hr_x0 : RdT (fun b => ¬ False) w0 (rowT x0) (.slice a_x0 n_x0 c_x0)) (hr_x1 : RdT (fun b => ¬ False) w0 (rowT x1) (.slice a_x1 n_x1 c_x1)) :
    Calls Try.prog 59 #[.slice a_x0 n_x0 c_x0, .slice a_x1 n_x1 c_x1] w0 fun e w => e = .returned (.bool r0) ∧ St w0 (fun _ => False) w [] := by
  obtain rfl := hr_x0.neq
  obtain rfl := hr_x1.neq
  have HT : St w0 (fun _ => False) w0 [] := St.init0
  rw [m_laws_eqKidS] at h
  refine calls_fr (n := 27) [.slice a_x0 x0.length c_x0, .slice a_x1 x1.length c_x1] Try.func59 rfl rfl rfl (fun a HF => ?_)
  have HT : St w0 (fun _ => False) w0 [] := HT
  refine wp_seq ?_
  refine wc_text ?_
  refine wc_assign HF nS rfl rfl rfl (fun a HF => ?_)
  refine wc_end ?_
  refine then_n ?_
  refine wp_seq ?_
  refine wp_seq ?_
  refine wc_text ?_
  refine wc_move HF nS rfl rfl rfl (fun a HF => ?_)
  refine wc_lenR HF nS Try.underlying47 rfl rfl rfl (fun a HF => ?_)
  refine wc_move HF nS rfl rfl rfl (fun a HF => ?_)
  refine wc_lenR HF nS Try.underlying47 rfl rfl rfl (fun a HF => ?_)
  refine wc_bin HF nS rfl rfl b_ne rfl rfl (fun a HF => ?_)
  refine wc_end ?_
  refine then_n ?_
  by_cases hb1 : (x0.length : Int) = (x1.length : Int)
  · have h := (if_pos hb1).symm.trans h
    refine wp_if (b' := false) HF rfl (notT (decide_eq_true hb1)) ?_
    refine wp_skip ?_
    refine then_n ?_
    obtain ⟨q1, hx1, h⟩ := obs h
    refine wp_cut (fun a w => q1 = .brk () ∧ Fr a 27 [] ∧ St w0 (fun _ => False) w []) ?_ ?_
    · have hk1 := h
      have h := hx1
      refine wp_seq ?_
      refine wc_text ?_
      refine wc_assign HF nS rfl rfl rfl (fun a HF => ?_)
      refine wc_end ?_
      refine then_n ?_
      refine wp_block ?_
      refine wp_loopN (fun k1 a w => ∃ z1, m_laws_eqKidS_L0 fuel x0 x1 k1 z1 = some q1 ∧ Fr a 27 [(0, .slice a_x0 x0.length c_x0), (1, .slice a_x1 x1.length c_x1), (5, .int .i64 z1)] ∧ St w0 (fun _ => False) w []) fuel ⟨0, h, (HF.keep (HF.keep (HF.keep HF.nil rfl) rfl) rfl), HT⟩ ?_
      rintro k1 a w ⟨z1, h, HF, HT⟩
      cases k1 with
      | zero => cases h
      | succ k1 =>
        rw [m_laws_eqKidS_L0] at h
        refine ?_
        refine wp_seq ?_
        refine wp_seq ?_
        refine wc_text ?_
        refine wc_move HF nS rfl rfl rfl (fun a HF => ?_)
        refine wc_move HF nS rfl rfl rfl (fun a HF => ?_)
        refine wc_lenR HF nS Try.underlying47 rfl rfl rfl (fun a HF => ?_)
        refine wc_bin HF nS rfl rfl b_lt rfl rfl (fun a HF => ?_)
        refine wc_end ?_
        refine then_n ?_
        by_cases hb2 : z1 < (x0.length : Int)
        · have h := (if_pos hb2).symm.trans h
          refine wp_if (b' := true) HF rfl (decide_eq_true hb2) ?_
          refine wp_skip ?_
          refine then_n ?_
          refine wp_seq ?_
          refine wp_block ?_
          refine wp_seq ?_
          refine wp_region_can [(0, true), (1, true), (2, true), (3, true), (4, true), (5, true), (6, true), (7, true), (8, true), (9, true)] (fun w' => True) (by kernel_rfl) (by kernel_rfl) ?_
          have HT : St w0 (fun _ => False) w.drew [] := HT.drew
          refine wc_move HF nS rfl rfl rfl (fun a HF => ?_)
          refine wc_move HF nS rfl rfl rfl (fun a HF => ?_)
          obtain ⟨e1, hx2, h⟩ := obs h
          obtain ⟨b1, o1, ha1⟩ := (HT.ro hr_x0).any.addr hx2
          refine wc_ixaddr HF nS el47 rfl ha1 ((HT.ro hr_x0).any).neq rfl hx2 rfl rfl (fun a HF => ?_)
          obtain ⟨_, hP1, hc1, hr1⟩ := hr_x0.elemAt ha1 hx2
          obtain ⟨a1, c1, rfl, hr2⟩ := cells_Kid hr1
          have hc2 := HT.roLd hP1 hc1
          refine wc_loadA (vs := [.slice a1 e1.code.length c1]) HF rfl ag77 rfl (hc2.part 0 1) rfl rfl (fun a HF => ?_)
          refine wc_move HF nS rfl rfl rfl (fun a HF => ?_)
          refine wc_move HF nS rfl rfl rfl (fun a HF => ?_)
          obtain ⟨e2, hx3, h⟩ := obs h
          obtain ⟨b2, o2, ha2⟩ := (HT.ro hr_x1).any.addr hx3
          refine wc_ixaddr HF nS el47 rfl ha2 ((HT.ro hr_x1).any).neq rfl hx3 rfl rfl (fun a HF => ?_)
          obtain ⟨_, hP2, hc3, hr3⟩ := hr_x1.elemAt ha2 hx3
          obtain ⟨a2, c2, rfl, hr4⟩ := cells_Kid hr3
          have hc4 := HT.roLd hP2 hc3
          refine wc_loadA (vs := [.slice a2 e2.code.length c2]) HF rfl ag77 rfl (hc4.part 0 1) rfl rfl (fun a HF => ?_)
          obtain ⟨y1, hx4, h⟩ := obs h
          refine wc_call HF cf89 rfl (w_laws_eqKid fuel hx4 (HT.ro hr2).any (HT.ro hr4).any) rfl rfl ?_
          rintro e w ⟨rfl, hE⟩
          have hb := hE.below
          have HT := HT.pure hE
          have HT : St w0 (fun _ => False) w [] := HT
          refine ⟨_, rfl, nS, fun a HF => ?_⟩
          refine wc_not HF nS rfl rfl rfl (fun a HF => ?_)
          refine wc_endN ?_
          refine then_n ?_
          by_cases hb3 : y1 = true
          · have h := (if_pos hb3).symm.trans h
            refine wp_if (b' := false) HF rfl (notT hb3) ?_
            refine wp_skip ?_
            refine blk_n ?_
            refine then_n ?_
            refine wc_text ?_
            refine wc_move HF nS rfl rfl rfl (fun a HF => ?_)
            obtain ⟨hg1, h⟩ := grd h
            refine wc_bin HF nS rfl rfl (b_add hg1) rfl rfl (fun a HF => ?_)
            refine wc_assign HF nS rfl rfl rfl (fun a HF => ?_)
            refine wc_end ?_
            exact then_n ⟨k1, Nat.lt_succ_self k1, z1 + 1, h, (HF.keep (HF.keep (HF.keep HF.nil rfl) rfl) rfl), HT⟩
          have h := (if_neg hb3).symm.trans h
          refine wp_if (b' := true) HF rfl (notF (Bool.eq_false_iff.2 hb3)) ?_
          refine wp_seq ?_
          refine wc_text ?_
          refine wc_assign HF nS rfl rfl rfl (fun a HF => ?_)
          refine wc_end ?_
          refine then_n ?_
          refine wp_ret ?_
          obtain rfl := Option.some.inj h
          have h := retL hk1
          obtain rfl := Option.some.inj h
          refine blk_r (then_r (then_r (blk_r (then_r (?_)))))
          refine bp_ret HF (res_one rfl HF rfl) ?_
          exact ⟨rfl, HT⟩
        have h := (if_neg hb2).symm.trans h
        refine wp_if (b' := false) HF rfl (decide_eq_false hb2) ?_
        refine wp_exit ?_
        refine then_x (then_x (?_))
        refine blk_x ?_
        exact then_n ⟨(Option.some.inj h).symm, HF.nil, HT⟩
    rintro a w ⟨rfl, HF, HT⟩
    have h := brkL1u h
    refine ?_
    refine wp_seq ?_
    refine wc_text ?_
    refine wc_assign HF nS rfl rfl rfl (fun a HF => ?_)
    refine wc_end ?_
    refine then_n ?_
    refine wp_ret ?_
    obtain rfl := Option.some.inj h
    refine bp_ret HF (res_one rfl HF rfl) ?_
    exact ⟨rfl, HT⟩
  have h := (if_neg hb1).symm.trans h
  refine wp_if (b' := true) HF rfl (notF (decide_eq_false hb1)) ?_
  refine wp_seq ?_
  refine wc_text ?_
  refine wc_assign HF nS rfl rfl rfl (fun a HF => ?_)
  refine wc_end ?_
  refine then_n ?_
  refine wp_ret ?_
  obtain rfl := Option.some.inj h
  refine then_r (?_)
  refine bp_ret HF (res_one rfl HF rfl) ?_
  exact ⟨rfl, HT⟩

def m_laws_eqProg (fuel : Nat) (x0_0 : List I4) (x0_1 : List KidD) (x1_0 : List I4) (x1_1 : List KidD) : Option Bool :=
  (m_laws_eqOpS fuel x0_0 x1_0).bind fun y1 =>
  if y1 = true then
    (m_laws_eqKidS fuel x0_1 x1_1).bind fun y2 =>
    if y2 = true then
      some true
    else
    some false
  else
  some false

set_option maxRecDepth 100000 in
set_option maxHeartbeats 4000000 in
theorem w_laws_eqProg (fuel : Nat) {x0_0 : List I4} {x0_1 : List KidD} {x1_0 : List I4} {x1_1 : List KidD} {a_x0_0 : Option Addr} {n_x0_0 c_x0_0 : Nat} {a_x0_1 : Option Addr} {n_x0_1 c_x0_1 : Nat} {a_x1_0 : Option Addr} {n_x1_0 c_x1_0 : Nat} {a_x1_1 : Option Addr} {n_x1_1 c_x1_1 : Nat} {r0 : Bool} {w0 : World} (h : m_laws_eqProg fuel x0_0 x0_1 x1_0 x1_1 = some r0) (hr_x0_0 : RdT (fun b => ¬ False) w0 (rowT x0_0) (.slice a_x0_0 n_x0_0 c_x0_0)) (hr_x0_1 : RdT (fun b => ¬ False) w0 (rowT x0_1) (.slice a_x0_1 n_x0_1 c_x0_1)) (hr_x1_0 : RdT (fun b => ¬ False) w0 (rowT x1_0) (.slice a_x1_0 n_x1_0 c_x1_0)) (hr_x1_1 : RdT (fun b => ¬ False) w0 (rowT x1_1) (.slice a_x1_1 n_x1_1 c_x1_1)) :
    Calls Try.prog 29 #[.agg #[.slice a_x0_0 n_x0_0 c_x0_0, .slice a_x0_1 n_x0_1 c_x0_1], .agg #[.slice a_x1_0 n_x1_0 c_x1_0, .slice a_x1_1 n_x1_1 c_x1_1]] w0 fun e w => e = .returned (.bool r0) ∧ St w0 (fun _ => False) w [] := by
  obtain rfl := hr_x0_0.neq
  obtain rfl := hr_x0_1.neq
  obtain rfl := hr_x1_0.neq
  obtain rfl := hr_x1_1.neq
  have HT : St w0 (fun _ => False) w0 [] := St.init0
  rw [m_laws_eqProg] at h
  refine calls_fr (n := 17) [.agg #[.slice a_x0_0 x0_0.length c_x0_0, .slice a_x0_1 x0_1.length c_x0_1], .agg #[.slice a_x1_0 x1_0.length c_x1_0, .slice a_x1_1 x1_1.length c_x1_1]] Try.func29 rfl rfl rfl (fun a HF => ?_)
  have HT : St w0 (fun _ => False) w0 [] := HT
  refine wp_seq ?_
  refine wc_text ?_
  refine wc_box (cs := [.slice a_x0_0 x0_0.length c_x0_0, .slice a_x0_1 x0_1.length c_x0_1]) HF HT rfl rfl rfl rfl (fun p1 w HT hb => ⟨nS, fun a HF => ?_⟩)
  refine wc_box (cs := [.slice a_x1_0 x1_0.length c_x1_0, .slice a_x1_1 x1_1.length c_x1_1]) HF HT rfl rfl rfl rfl (fun p2 w HT hb => ⟨nS, fun a HF => ?_⟩)
  refine wc_assign HF nS rfl rfl rfl (fun a HF => ?_)
  refine wc_end ?_
  refine then_n ?_
  refine wp_seq ?_
  refine wp_seq ?_
  refine wc_text ?_
  refine wc_faddr HF nS rfl fl49_0 rfl rfl (fun a HF => ?_)
  refine wc_load HF rfl sc35 ((HT.boxAt 1 rfl).get 0 rfl) rfl rfl (fun a HF => ?_)
  refine wc_faddr HF nS rfl fl49_0 rfl rfl (fun a HF => ?_)
  refine wc_load HF rfl sc35 ((HT.boxAt 0 rfl).get 0 rfl) rfl rfl (fun a HF => ?_)
  obtain ⟨y1, hx1, h⟩ := obs h
  refine wc_call HF cf20 rfl (w_laws_eqOpS fuel hx1 (HT.ro hr_x0_0).any (HT.ro hr_x1_0).any) rfl rfl ?_
  rintro e w ⟨rfl, hE⟩
  have hb := hE.below
  have HT := HT.pure hE
  have HT : St w0 (fun _ => False) w [Box p2 [.slice a_x1_0 x1_0.length c_x1_0, .slice a_x1_1 x1_1.length c_x1_1], Box p1 [.slice a_x0_0 x0_0.length c_x0_0, .slice a_x0_1 x0_1.length c_x0_1]] := HT
  refine ⟨_, rfl, nS, fun a HF => ?_⟩
  refine wc_not HF nS rfl rfl rfl (fun a HF => ?_)
  refine wc_end ?_
  refine then_n ?_
  by_cases hb1 : y1 = true
  · have h := (if_pos hb1).symm.trans h
    refine wp_if (b' := false) HF rfl (notT hb1) ?_
    refine wp_skip ?_
    refine then_n ?_
    refine wp_seq ?_
    refine wp_seq ?_
    refine wc_text ?_
    refine wc_faddr HF nS rfl fl49_1 rfl rfl (fun a HF => ?_)
    refine wc_load HF rfl sc47 ((HT.boxAt 1 rfl).get 1 rfl) rfl rfl (fun a HF => ?_)
    refine wc_faddr HF nS rfl fl49_1 rfl rfl (fun a HF => ?_)
    refine wc_load HF rfl sc47 ((HT.boxAt 0 rfl).get 1 rfl) rfl rfl (fun a HF => ?_)
    obtain ⟨y2, hx2, h⟩ := obs h
    refine wc_call HF cf59 rfl (w_laws_eqKidS fuel hx2 (HT.ro hr_x0_1).any (HT.ro hr_x1_1).any) rfl rfl ?_
    rintro e w ⟨rfl, hE⟩
    have hb := hE.below
    have HT := HT.pure hE
    have HT : St w0 (fun _ => False) w [Box p2 [.slice a_x1_0 x1_0.length c_x1_0, .slice a_x1_1 x1_1.length c_x1_1], Box p1 [.slice a_x0_0 x0_0.length c_x0_0, .slice a_x0_1 x0_1.length c_x0_1]] := HT
    refine ⟨_, rfl, nS, fun a HF => ?_⟩
    refine wc_not HF nS rfl rfl rfl (fun a HF => ?_)
    refine wc_end ?_
    refine then_n ?_
    by_cases hb2 : y2 = true
    · have h := (if_pos hb2).symm.trans h
      refine wp_if (b' := false) HF rfl (notT hb2) ?_
      refine wp_skip ?_
      refine then_n ?_
      refine wp_seq ?_
      refine wc_text ?_
      refine wc_assign HF nS rfl rfl rfl (fun a HF => ?_)
      refine wc_end ?_
      refine then_n ?_
      refine wp_ret ?_
      obtain rfl := Option.some.inj h
      refine bp_ret HF (res_one rfl HF rfl) ?_
      have HT : St w0 (fun _ => False) w [] := HT.take 0
      exact ⟨rfl, HT⟩
    have h := (if_neg hb2).symm.trans h
    refine wp_if (b' := true) HF rfl (notF (Bool.eq_false_iff.2 hb2)) ?_
    refine wp_seq ?_
    refine wc_text ?_
    refine wc_assign HF nS rfl rfl rfl (fun a HF => ?_)
    refine wc_end ?_
    refine then_n ?_
    refine wp_ret ?_
    obtain rfl := Option.some.inj h
    refine then_r (?_)
    refine bp_ret HF (res_one rfl HF rfl) ?_
    have HT : St w0 (fun _ => False) w [] := HT.take 0
    exact ⟨rfl, HT⟩
  have h := (if_neg hb1).symm.trans h
  refine wp_if (b' := true) HF rfl (notF (Bool.eq_false_iff.2 hb1)) ?_
  refine wp_seq ?_
  refine wc_text ?_
  refine wc_assign HF nS rfl rfl rfl (fun a HF => ?_)
  refine wc_end ?_
  refine then_n ?_
  refine wp_ret ?_
  obtain rfl := Option.some.inj h
  refine then_r (?_)
  refine bp_ret HF (res_one rfl HF rfl) ?_
  have HT : St w0 (fun _ => False) w [] := HT.take 0
  exact ⟨rfl, HT⟩

def m_laws_heldKidS_L0 (fuel : Nat) (x0 : List KidD) : Nat → Int → Int → Option (Lp Int Int)
  | 0, _, _ => none
  | k1 + 1, z2, z3 =>
    if z3 < (x0.length : Int) then
      (at? x0 z3).bind fun e1 =>
      (m_laws_heldOpS fuel e1.code z2).bind fun y1 =>
      if y1 < 0 then
        some (.ret (-1))
      else
      if in64 (z3 + 1) then
        m_laws_heldKidS_L0 fuel x0 k1 y1 (z3 + 1)
      else none
    else
    some (.brk z2)

def m_laws_heldKidS (fuel : Nat) (x0 : List KidD) (x1 : Int) : Option Int :=
  (m_laws_heldKidS_L0 fuel x0 fuel x1 0).bind <| contL <| un1 fun z1 =>
  some z1

set_option maxRecDepth 100000 in
set_option maxHeartbeats 4000000 in
theorem w_laws_heldKidS (fuel : Nat) {x0 : List KidD} {x1 : Int} {a_x0 : Option Addr} {n_x0 c_x0 : Nat} {r0 : Int} {w0 : World} (h : m_laws_heldKidS fuel x0 x1 = some r0) (hr_x0 : RdT (fun b => ¬ False) w0 (rowT x0) (.slice a_x0 n_x0 c_x0)) :
    Calls Try.prog 61 #[.slice a_x0 n_x0 c_x0, .int .i64 x1] w0 fun e w => e = .returned (.int .i64 r0) ∧ St w0 (fun _ => False) w [] := by
  obtain rfl := hr_x0.neq
  have HT : St w0 (fun _ => False) w0 [] := St.init0
  rw [m_laws_heldKidS] at h
  refine calls_fr (n := 22) [.slice a_x0 x0.length c_x0, .int .i64 x1] Try.func61 rfl rfl rfl (fun a HF => ?_)
  have HT : St w0 (fun _ => False) w0 [] := HT
  refine wp_seq ?_
  refine wc_text ?_
  refine wc_assign HF nS rfl rfl rfl (fun a HF => ?_)
  refine wc_end ?_
  refine then_n ?_
  obtain ⟨q1, hx1, h⟩ := obs h
  refine wp_cut (fun a w => ∃ z1, q1 = .brk z1 ∧ Fr a 22 [(1, .int .i64 z1)] ∧ St w0 (fun _ => False) w []) ?_ ?_
  · have hk1 := h
    have h := hx1
    refine wp_seq ?_
    refine wc_text ?_
    refine wc_assign HF nS rfl rfl rfl (fun a HF => ?_)
    refine wc_end ?_
    refine then_n ?_
    refine wp_block ?_
    refine wp_loopN (fun k1 a w => ∃ z2 z3, m_laws_heldKidS_L0 fuel x0 k1 z2 z3 = some q1 ∧ Fr a 22 [(0, .slice a_x0 x0.length c_x0), (1, .int .i64 z2), (5, .int .i64 z3)] ∧ St w0 (fun _ => False) w []) fuel ⟨x1, 0, h, (HF.keep (HF.keep (HF.keep HF.nil rfl) rfl) rfl), HT⟩ ?_
    rintro k1 a w ⟨z2, z3, h, HF, HT⟩
    cases k1 with
    | zero => cases h
    | succ k1 =>
      rw [m_laws_heldKidS_L0] at h
      refine ?_
      refine wp_seq ?_
      refine wp_seq ?_
      refine wc_text ?_
      refine wc_move HF nS rfl rfl rfl (fun a HF => ?_)
      refine wc_move HF nS rfl rfl rfl (fun a HF => ?_)
      refine wc_lenR HF nS Try.underlying47 rfl rfl rfl (fun a HF => ?_)
      refine wc_bin HF nS rfl rfl b_lt rfl rfl (fun a HF => ?_)
      refine wc_end ?_
      refine then_n ?_
      by_cases hb1 : z3 < (x0.length : Int)
      · have h := (if_pos hb1).symm.trans h
        refine wp_if (b' := true) HF rfl (decide_eq_true hb1) ?_
        refine wp_skip ?_
        refine then_n ?_
        refine wp_seq ?_
        refine wp_block ?_
        refine wp_seq ?_
        refine wc_text ?_
        refine wc_move HF nS rfl rfl rfl (fun a HF => ?_)
        refine wc_move HF nS rfl rfl rfl (fun a HF => ?_)
        obtain ⟨e1, hx2, h⟩ := obs h
        obtain ⟨b1, o1, ha1⟩ := (HT.ro hr_x0).any.addr hx2
        refine wc_ixaddr HF nS el47 rfl ha1 ((HT.ro hr_x0).any).neq rfl hx2 rfl rfl (fun a HF => ?_)
        refine wc_faddr HF nS rfl fl77_0 rfl rfl (fun a HF => ?_)
        obtain ⟨_, hP1, hc1, hr1⟩ := hr_x0.elemAt ha1 hx2
        obtain ⟨a1, c1, rfl, hr2⟩ := cells_Kid hr1
        have hc2 := HT.roLd hP1 hc1
        refine wc_load HF rfl sc35 (hc2.get 0 rfl) rfl rfl (fun a HF => ?_)
        refine wc_move HF nS rfl rfl rfl (fun a HF => ?_)
        obtain ⟨y1, hx3, h⟩ := obs h
        refine wc_call HF cf24 rfl (w_laws_heldOpS fuel hx3 (HT.ro hr2).any) rfl rfl ?_
        rintro e w ⟨rfl, hE⟩
        have hb := hE.below
        have HT := HT.pure hE
        have HT : St w0 (fun _ => False) w [] := HT
        refine ⟨_, rfl, nS, fun a HF => ?_⟩
        refine wc_assign HF nS rfl rfl rfl (fun a HF => ?_)
        refine wc_end ?_
        refine then_n ?_
        refine wp_seq ?_
        refine wc_text ?_
        refine wc_move HF nS rfl rfl rfl (fun a HF => ?_)
        refine wc_bin HF nS rfl rfl b_lt rfl rfl (fun a HF => ?_)
        refine wc_end ?_
        refine then_n ?_
        by_cases hb2 : y1 < 0
        · have h := (if_pos hb2).symm.trans h
          refine wp_if (b' := true) HF rfl (decide_eq_true hb2) ?_
          refine wp_seq ?_
          refine wc_text ?_
          refine wc_assign HF nS rfl rfl rfl (fun a HF => ?_)
          refine wc_end ?_
          refine then_n ?_
          refine wp_ret ?_
          obtain rfl := Option.some.inj h
          have h := retL hk1
          obtain rfl := Option.some.inj h
          refine blk_r (then_r (then_r (blk_r (then_r (?_)))))
          refine bp_ret HF (res_one rfl HF rfl) ?_
          exact ⟨rfl, HT⟩
        have h := (if_neg hb2).symm.trans h
        refine wp_if (b' := false) HF rfl (decide_eq_false hb2) ?_
        refine wp_skip ?_
        refine blk_n ?_
        refine then_n ?_
        refine wc_text ?_
        refine wc_move HF nS rfl rfl rfl (fun a HF => ?_)
        obtain ⟨hg1, h⟩ := grd h
        refine wc_bin HF nS rfl rfl (b_add hg1) rfl rfl (fun a HF => ?_)
        refine wc_assign HF nS rfl rfl rfl (fun a HF => ?_)
        refine wc_end ?_
        exact then_n ⟨k1, Nat.lt_succ_self k1, y1, z3 + 1, h, (HF.keep (HF.keep (HF.keep HF.nil rfl) rfl) rfl), HT⟩
      have h := (if_neg hb1).symm.trans h
      refine wp_if (b' := false) HF rfl (decide_eq_false hb1) ?_
      refine wp_exit ?_
      refine then_x (then_x (?_))
      refine blk_x ?_
      exact then_n ⟨z2, (Option.some.inj h).symm, (HF.keep HF.nil rfl), HT⟩
  rintro a w ⟨z1, rfl, HF, HT⟩
  have h := brkL1u h
  refine ?_
  refine wp_seq ?_
  refine wc_text ?_
  refine wc_move HF nS rfl rfl rfl (fun a HF => ?_)
  refine wc_assign HF nS rfl rfl rfl (fun a HF => ?_)
  refine wc_end ?_
  refine then_n ?_
  refine wp_ret ?_
  obtain rfl := Option.some.inj h
  refine bp_ret HF (res_one rfl HF rfl) ?_
  exact ⟨rfl, HT⟩

def m_laws_heldProg (fuel : Nat) (x0_0 : List I4) (x0_1 : List KidD) (x1 : Int) : Option Int :=
  (m_laws_heldOpS fuel x0_0 x1).bind fun y1 =>
  if y1 < 0 then
    some (-1)
  else
  (m_laws_heldKidS fuel x0_1 y1).bind fun y2 =>
  if y2 < 0 then
    some (-1)
  else
  some y2

set_option maxRecDepth 100000 in
set_option maxHeartbeats 4000000 in
theorem w_laws_heldProg (fuel : Nat) {x0_0 : List I4} {x0_1 : List KidD} {x1 : Int} {a_x0_0 : Option Addr} {n_x0_0 c_x0_0 : Nat} {a_x0_1 : Option Addr} {n_x0_1 c_x0_1 : Nat} {r0 : Int} {w0 : World} (h : m_laws_heldProg fuel x0_0 x0_1 x1 = some r0) (hr_x0_0 : RdT (fun b => ¬ False) w0 (rowT x0_0) (.slice a_x0_0 n_x0_0 c_x0_0)) (hr_x0_1 : RdT (fun b => ¬ False) w0 (rowT x0_1) (.slice a_x0_1 n_x0_1 c_x0_1)) :
    Calls Try.prog 33 #[.agg #[.slice a_x0_0 n_x0_0 c_x0_0, .slice a_x0_1 n_x0_1 c_x0_1], .int .i64 x1] w0 fun e w => e = .returned (.int .i64 r0) ∧ St w0 (fun _ => False) w [] := by
  obtain rfl := hr_x0_0.neq
  obtain rfl := hr_x0_1.neq
  have HT : St w0 (fun _ => False) w0 [] := St.init0
  rw [m_laws_heldProg] at h
  refine calls_fr (n := 18) [.agg #[.slice a_x0_0 x0_0.length c_x0_0, .slice a_x0_1 x0_1.length c_x0_1], .int .i64 x1] Try.func33 rfl rfl rfl (fun a HF => ?_)
  have HT : St w0 (fun _ => False) w0 [] := HT
  refine wp_seq ?_
  refine wc_text ?_
  refine wc_box (cs := [.slice a_x0_0 x0_0.length c_x0_0, .slice a_x0_1 x0_1.length c_x0_1]) HF HT rfl rfl rfl rfl (fun p1 w HT hb => ⟨nS, fun a HF => ?_⟩)
  refine wc_assign HF nS rfl rfl rfl (fun a HF => ?_)
  refine wc_end ?_
  refine then_n ?_
  refine wp_seq ?_
  refine wc_text ?_
  refine wc_faddr HF nS rfl fl49_0 rfl rfl (fun a HF => ?_)
  refine wc_load HF rfl sc35 ((HT.boxAt 0 rfl).get 0 rfl) rfl rfl (fun a HF => ?_)
  refine wc_move HF nS rfl rfl rfl (fun a HF => ?_)
  obtain ⟨y1, hx1, h⟩ := obs h
  refine wc_call HF cf24 rfl (w_laws_heldOpS fuel hx1 (HT.ro hr_x0_0).any) rfl rfl ?_
  rintro e w ⟨rfl, hE⟩
  have hb := hE.below
  have HT := HT.pure hE
  have HT : St w0 (fun _ => False) w [Box p1 [.slice a_x0_0 x0_0.length c_x0_0, .slice a_x0_1 x0_1.length c_x0_1]] := HT
  refine ⟨_, rfl, nS, fun a HF => ?_⟩
  refine wc_assign HF nS rfl rfl rfl (fun a HF => ?_)
  refine wc_end ?_
  refine then_n ?_
  refine wp_seq ?_
  refine wp_seq ?_
  refine wc_text ?_
  refine wc_move HF nS rfl rfl rfl (fun a HF => ?_)
  refine wc_bin HF nS rfl rfl b_lt rfl rfl (fun a HF => ?_)
  refine wc_end ?_
  refine then_n ?_
  by_cases hb1 : y1 < 0
  · have h := (if_pos hb1).symm.trans h
    refine wp_if (b' := true) HF rfl (decide_eq_true hb1) ?_
    refine wp_seq ?_
    refine wc_text ?_
    refine wc_assign HF nS rfl rfl rfl (fun a HF => ?_)
    refine wc_end ?_
    refine then_n ?_
    refine wp_ret ?_
    obtain rfl := Option.some.inj h
    refine then_r (?_)
    refine bp_ret HF (res_one rfl HF rfl) ?_
    have HT : St w0 (fun _ => False) w [] := HT.take 0
    exact ⟨rfl, HT⟩
  have h := (if_neg hb1).symm.trans h
  refine wp_if (b' := false) HF rfl (decide_eq_false hb1) ?_
  refine wp_skip ?_
  refine then_n ?_
  refine wp_seq ?_
  refine wc_text ?_
  refine wc_faddr HF nS rfl fl49_1 rfl rfl (fun a HF => ?_)
  refine wc_load HF rfl sc47 ((HT.boxAt 0 rfl).get 1 rfl) rfl rfl (fun a HF => ?_)
  refine wc_move HF nS rfl rfl rfl (fun a HF => ?_)
  obtain ⟨y2, hx2, h⟩ := obs h
  refine wc_call HF cf61 rfl (w_laws_heldKidS fuel hx2 (HT.ro hr_x0_1).any) rfl rfl ?_
  rintro e w ⟨rfl, hE⟩
  have hb := hE.below
  have HT := HT.pure hE
  have HT : St w0 (fun _ => False) w [Box p1 [.slice a_x0_0 x0_0.length c_x0_0, .slice a_x0_1 x0_1.length c_x0_1]] := HT
  refine ⟨_, rfl, nS, fun a HF => ?_⟩
  refine wc_assign HF nS rfl rfl rfl (fun a HF => ?_)
  refine wc_end ?_
  refine then_n ?_
  refine wp_seq ?_
  refine wp_seq ?_
  refine wc_text ?_
  refine wc_move HF nS rfl rfl rfl (fun a HF => ?_)
  refine wc_bin HF nS rfl rfl b_lt rfl rfl (fun a HF => ?_)
  refine wc_end ?_
  refine then_n ?_
  by_cases hb2 : y2 < 0
  · have h := (if_pos hb2).symm.trans h
    refine wp_if (b' := true) HF rfl (decide_eq_true hb2) ?_
    refine wp_seq ?_
    refine wc_text ?_
    refine wc_assign HF nS rfl rfl rfl (fun a HF => ?_)
    refine wc_end ?_
    refine then_n ?_
    refine wp_ret ?_
    obtain rfl := Option.some.inj h
    refine then_r (?_)
    refine bp_ret HF (res_one rfl HF rfl) ?_
    have HT : St w0 (fun _ => False) w [] := HT.take 0
    exact ⟨rfl, HT⟩
  have h := (if_neg hb2).symm.trans h
  refine wp_if (b' := false) HF rfl (decide_eq_false hb2) ?_
  refine wp_skip ?_
  refine then_n ?_
  refine wp_seq ?_
  refine wc_text ?_
  refine wc_move HF nS rfl rfl rfl (fun a HF => ?_)
  refine wc_assign HF nS rfl rfl rfl (fun a HF => ?_)
  refine wc_end ?_
  refine then_n ?_
  refine wp_ret ?_
  obtain rfl := Option.some.inj h
  refine bp_ret HF (res_one rfl HF rfl) ?_
  have HT : St w0 (fun _ => False) w [] := HT.take 0
  exact ⟨rfl, HT⟩

def m_laws_markKidS_L0 (fuel : Nat) (x0 : List KidD) : Nat → (List KidD) → Int → Int → Option (Int × List KidD)
  | 0, _, _, _ => none
  | k1 + 1, z3, z4, z5 =>
    if z5 < (x0.length : Int) then
      (at? z3 z5).bind fun e1 =>
      bind2 (m_laws_markOpS fuel e1.code z4) fun y1 y2 =>
      if in64 (z5 + 1) then
        m_laws_markKidS_L0 fuel x0 k1 (z3.set (z5 : Int).toNat (⟨y2⟩ : KidD)) y1 (z5 + 1)
      else none
    else
    some (z4, z3)

def m_laws_markKidS (fuel : Nat) (x0 : List KidD) (x1 : Int) : Option (Int × List KidD) :=
  bind2 (m_laws_markKidS_L0 fuel x0 fuel x0 x1 0) fun z1 z2 =>
  some (z1, z2)

set_option maxRecDepth 100000 in
set_option maxHeartbeats 4000000 in
theorem w_laws_markKidS (fuel : Nat) {x0 : List KidD} {x1 : Int} {a_x0 : Option Addr} {n_x0 c_x0 : Nat} {r0 : Int} {x0' : List KidD} {F : Foot} {w0 : World} (h : m_laws_markKidS fuel x0 x1 = some (r0, x0')) (hA : StF w0 F [OwnA (rowT x0) (.slice a_x0 n_x0 c_x0)]) :
    Calls Try.prog 60 #[.slice a_x0 n_x0 c_x0, .int .i64 x1] w0 fun e w => e = .returned (.int .i64 r0) ∧ St w0 F w [OwnA (rowT x0') (.slice a_x0 n_x0 c_x0)] := by
  have HT0 := St.init hA
  obtain rfl := (HT0.rdAAt 0 rfl).neq
  have HT : St w0 F w0 [OwnA (rowT x0) (.slice a_x0 x0.length c_x0)] := St.init hA
  rw [m_laws_markKidS] at h
  refine calls_fr (n := 20) [.slice a_x0 x0.length c_x0, .int .i64 x1] Try.func60 rfl rfl rfl (fun a HF => ?_)
  have HT : St w0 F w0 [OwnA (rowT x0) (.slice a_x0 x0.length c_x0)] := HT
  refine wp_seq ?_
  refine wc_text ?_
  refine wc_assign HF nS rfl rfl rfl (fun a HF => ?_)
  refine wc_end ?_
  refine then_n ?_
  obtain ⟨z1, z2, hx1, h⟩ := obs2 h
  refine wp_cut (fun a w => Fr a 20 [(1, .int .i64 z1)] ∧ St w0 F w [OwnA (rowT z2) (.slice a_x0 x0.length c_x0)]) ?_ ?_
  · have hk1 := h
    have h := hx1
    refine wp_seq ?_
    refine wc_text ?_
    refine wc_assign HF nS rfl rfl rfl (fun a HF => ?_)
    refine wc_end ?_
    refine then_n ?_
    refine wp_block ?_
    refine wp_loopN (fun k1 a w => ∃ z3 z4 z5, m_laws_markKidS_L0 fuel x0 k1 z3 z4 z5 = some (z1, z2) ∧ Fr a 20 [(0, .slice a_x0 x0.length c_x0), (1, .int .i64 z4), (5, .int .i64 z5)] ∧ St w0 F w [OwnA (rowT z3) (.slice a_x0 x0.length c_x0)]) fuel ⟨x0, x1, 0, h, (HF.keep (HF.keep (HF.keep HF.nil rfl) rfl) rfl), HT⟩ ?_
    rintro k1 a w ⟨z3, z4, z5, h, HF, HT⟩
    cases k1 with
    | zero => cases h
    | succ k1 =>
      rw [m_laws_markKidS_L0] at h
      refine ?_
      refine wp_seq ?_
      refine wp_seq ?_
      refine wc_text ?_
      refine wc_move HF nS rfl rfl rfl (fun a HF => ?_)
      refine wc_move HF nS rfl rfl rfl (fun a HF => ?_)
      refine wc_lenR HF nS Try.underlying47 rfl rfl rfl (fun a HF => ?_)
      refine wc_bin HF nS rfl rfl b_lt rfl rfl (fun a HF => ?_)
      refine wc_end ?_
      refine then_n ?_
      by_cases hb1 : z5 < (x0.length : Int)
      · have h := (if_pos hb1).symm.trans h
        refine wp_if (b' := true) HF rfl (decide_eq_true hb1) ?_
        refine wp_skip ?_
        refine then_n ?_
        refine wp_seq ?_
        refine wp_block ?_
        refine wc_text ?_
        refine wc_move HF nS rfl rfl rfl (fun a HF => ?_)
        refine wc_move HF nS rfl rfl rfl (fun a HF => ?_)
        obtain ⟨e1, hx2, h⟩ := obs h
        obtain ⟨b1, o1, ha1⟩ := (HT.rdAAt 0 rfl).addr hx2
        refine wc_ixaddr HF nS el47 rfl ha1 ((HT.rdAAt 0 rfl)).neq rfl hx2 rfl rfl (fun a HF => ?_)
        refine wc_faddr HF nS rfl fl77_0 rfl rfl (fun a HF => ?_)
        have hq1 := ((HT.rdAAt 0 rfl)).neq
        obtain ⟨us1, HT⟩ := HT.focusA hx2
        obtain ⟨a1, c1, rfl, HT⟩ := HT.pieces_Kid
        have HT : St w0 F w [OwnA (rowT e1.code) (.slice a1 e1.code.length c1), HoleR none z3 (z5 : Int).toNat (.slice a_x0 x0.length c_x0) [.slice a1 e1.code.length c1]] := HT
        have hc1 := HT.holeAt 1 rfl ha1
        refine wc_load HF rfl sc35 (hc1.get 0 rfl) rfl rfl (fun a HF => ?_)
        refine wc_move HF nS rfl rfl rfl (fun a HF => ?_)
        obtain ⟨y1, y2, hx3, h⟩ := obs2 h
        obtain ⟨F1, hAF1, hFF1, hbackF1, hroF1, hownF1, hownAF1⟩ := St.handR2 (A := [OwnA (rowT e1.code) (.slice a1 e1.code.length c1)]) HT
        refine wc_call HF cf23 rfl (w_laws_markOpS fuel hx3 hAF1) rfl rfl ?_
        rintro e w ⟨rfl, hE⟩
        have HT := hbackF1 _ _ hE
        have HT : St w0 F w [OwnA (rowT y2) (.slice a1 e1.code.length c1), HoleR none z3 (z5 : Int).toNat (.slice a_x0 x0.length c_x0) [.slice a1 e1.code.length c1]] := HT
        refine ⟨_, rfl, nS, fun a HF => ?_⟩
        refine wc_assign HF nS rfl rfl rfl (fun a HF => ?_)
        refine wc_end ?_
        refine blk_n ?_
        refine then_n ?_
        refine wc_text ?_
        refine wc_move HF nS rfl rfl rfl (fun a HF => ?_)
        obtain ⟨hg1, h⟩ := grd h
        refine wc_bin HF nS rfl rfl (b_add hg1) rfl rfl (fun a HF => ?_)
        refine wc_assign HF nS rfl rfl rfl (fun a HF => ?_)
        refine wc_end ?_
        have HT : St w0 F w [HoleR none z3 (z5 : Int).toNat (.slice a_x0 x0.length c_x0) [.slice a1 e1.code.length c1], OwnA (rowT y2) (.slice a1 e1.code.length c1)] := HT.pick 1
        have HT := St.unfocusA (x' := (⟨y2⟩ : KidD)) (A := [OwnA (rowT y2) (.slice a1 e1.code.length c1)]) HT (gives_ownA gives_nil)
        have HT : St w0 F w [OwnA (rowT (z3.set (z5 : Int).toNat (⟨y2⟩ : KidD))) (.slice a_x0 x0.length c_x0)] := HT
        exact then_n ⟨k1, Nat.lt_succ_self k1, z3.set (z5 : Int).toNat (⟨y2⟩ : KidD), y1, z5 + 1, h, (HF.keep (HF.keep (HF.keep HF.nil rfl) rfl) rfl), HT⟩
      have h := (if_neg hb1).symm.trans h
      refine wp_if (b' := false) HF rfl (decide_eq_false hb1) ?_
      refine wp_exit ?_
      refine then_x (then_x (?_))
      refine blk_x ?_
      have hj1 := Option.some.inj h
      obtain ⟨hi1, hj2⟩ := Prod.mk.inj hj1
      subst hi1
      subst hj2
      exact then_n ⟨(HF.keep HF.nil rfl), HT⟩
  rintro a w ⟨HF, HT⟩
  refine ?_
  refine wp_seq ?_
  refine wc_text ?_
  refine wc_move HF nS rfl rfl rfl (fun a HF => ?_)
  refine wc_assign HF nS rfl rfl rfl (fun a HF => ?_)
  refine wc_end ?_
  refine then_n ?_
  refine wp_ret ?_
  have hj3 := Option.some.inj h
  obtain ⟨hi3, hj4⟩ := Prod.mk.inj hj3
  subst hi3
  subst hj4
  refine bp_ret HF (res_one rfl HF rfl) ?_
  exact ⟨rfl, HT⟩

def m_laws_markProg (fuel : Nat) (x0_0 : List I4) (x0_1 : List KidD) (x1 : Int) : Option (Int × List I4 × List KidD) :=
  bind2 (m_laws_markOpS fuel x0_0 x1) fun y1 y2 =>
  bind2 (m_laws_markKidS fuel x0_1 y1) fun y3 y4 =>
  some (y3, y2, y4)

set_option maxRecDepth 100000 in
set_option maxHeartbeats 4000000 in
theorem w_laws_markProg (fuel : Nat) {x0_0 : List I4} {x0_1 : List KidD} {x1 : Int} {a_x0_0 : Option Addr} {n_x0_0 c_x0_0 : Nat} {a_x0_1 : Option Addr} {n_x0_1 c_x0_1 : Nat} {r0 : Int} {x0_0' : List I4} {x0_1' : List KidD} {F : Foot} {w0 : World} (h : m_laws_markProg fuel x0_0 x0_1 x1 = some (r0, x0_0', x0_1')) (hA : StF w0 F [OwnA (rowT x0_0) (.slice a_x0_0 n_x0_0 c_x0_0), OwnA (rowT x0_1) (.slice a_x0_1 n_x0_1 c_x0_1)]) :
    Calls Try.prog 32 #[.agg #[.slice a_x0_0 n_x0_0 c_x0_0, .slice a_x0_1 n_x0_1 c_x0_1], .int .i64 x1] w0 fun e w => e = .returned (.int .i64 r0) ∧ St w0 F w [OwnA (rowT x0_0') (.slice a_x0_0 n_x0_0 c_x0_0), OwnA (rowT x0_1') (.slice a_x0_1 n_x0_1 c_x0_1)] := by
  have HT0 := St.init hA
  obtain rfl := (HT0.rdAAt 0 rfl).neq
  obtain rfl := (HT0.rdAAt 1 rfl).neq
  have HT : St w0 F w0 [OwnA (rowT x0_0) (.slice a_x0_0 x0_0.length c_x0_0), OwnA (rowT x0_1) (.slice a_x0_1 x0_1.length c_x0_1)] := St.init hA
  rw [m_laws_markProg] at h
  refine calls_fr (n := 14) [.agg #[.slice a_x0_0 x0_0.length c_x0_0, .slice a_x0_1 x0_1.length c_x0_1], .int .i64 x1] Try.func32 rfl rfl rfl (fun a HF => ?_)
  have HT : St w0 F w0 [OwnA (rowT x0_0) (.slice a_x0_0 x0_0.length c_x0_0), OwnA (rowT x0_1) (.slice a_x0_1 x0_1.length c_x0_1)] := HT
  refine wp_seq ?_
  refine wc_text ?_
  refine wc_box (cs := [.slice a_x0_0 x0_0.length c_x0_0, .slice a_x0_1 x0_1.length c_x0_1]) HF HT rfl rfl rfl rfl (fun p1 w HT hb => ⟨nS, fun a HF => ?_⟩)
  refine wc_assign HF nS rfl rfl rfl (fun a HF => ?_)
  refine wc_end ?_
  refine then_n ?_
  refine wp_seq ?_
  refine wc_text ?_
  refine wc_faddr HF nS rfl fl49_0 rfl rfl (fun a HF => ?_)
  refine wc_load HF rfl sc35 ((HT.boxAt 0 rfl).get 0 rfl) rfl rfl (fun a HF => ?_)
  refine wc_move HF nS rfl rfl rfl (fun a HF => ?_)
  obtain ⟨y1, y2, hx1, h⟩ := obs2 h
  have HT : St w0 F w [OwnA (rowT x0_0) (.slice a_x0_0 x0_0.length c_x0_0), Box p1 [.slice a_x0_0 x0_0.length c_x0_0, .slice a_x0_1 x0_1.length c_x0_1], OwnA (rowT x0_1) (.slice a_x0_1 x0_1.length c_x0_1)] := HT.pick 1
  obtain ⟨F1, hAF1, hFF1, hbackF1, hroF1, hownF1, hownAF1⟩ := St.handR2 (A := [OwnA (rowT x0_0) (.slice a_x0_0 x0_0.length c_x0_0)]) HT
  refine wc_call HF cf23 rfl (w_laws_markOpS fuel hx1 hAF1) rfl rfl ?_
  rintro e w ⟨rfl, hE⟩
  have HT := hbackF1 _ _ hE
  have HT : St w0 F w [OwnA (rowT y2) (.slice a_x0_0 x0_0.length c_x0_0), Box p1 [.slice a_x0_0 x0_0.length c_x0_0, .slice a_x0_1 x0_1.length c_x0_1], OwnA (rowT x0_1) (.slice a_x0_1 x0_1.length c_x0_1)] := HT
  refine ⟨_, rfl, nS, fun a HF => ?_⟩
  refine wc_assign HF nS rfl rfl rfl (fun a HF => ?_)
  refine wc_end ?_
  refine then_n ?_
  refine wp_seq ?_
  refine wc_text ?_
  refine wc_faddr HF nS rfl fl49_1 rfl rfl (fun a HF => ?_)
  refine wc_load HF rfl sc47 ((HT.boxAt 1 rfl).get 1 rfl) rfl rfl (fun a HF => ?_)
  refine wc_move HF nS rfl rfl rfl (fun a HF => ?_)
  obtain ⟨y3, y4, hx2, h⟩ := obs2 h
  have HT : St w0 F w [OwnA (rowT x0_1) (.slice a_x0_1 x0_1.length c_x0_1), OwnA (rowT y2) (.slice a_x0_0 x0_0.length c_x0_0), Box p1 [.slice a_x0_0 x0_0.length c_x0_0, .slice a_x0_1 x0_1.length c_x0_1]] := HT.pick 2
  obtain ⟨F2, hAF2, hFF2, hbackF2, hroF2, hownF2, hownAF2⟩ := St.handR2 (A := [OwnA (rowT x0_1) (.slice a_x0_1 x0_1.length c_x0_1)]) HT
  refine wc_call HF cf60 rfl (w_laws_markKidS fuel hx2 hAF2) rfl rfl ?_
  rintro e w ⟨rfl, hE⟩
  have HT := hbackF2 _ _ hE
  have HT : St w0 F w [OwnA (rowT y4) (.slice a_x0_1 x0_1.length c_x0_1), OwnA (rowT y2) (.slice a_x0_0 x0_0.length c_x0_0), Box p1 [.slice a_x0_0 x0_0.length c_x0_0, .slice a_x0_1 x0_1.length c_x0_1]] := HT
  refine ⟨_, rfl, nS, fun a HF => ?_⟩
  refine wc_assign HF nS rfl rfl rfl (fun a HF => ?_)
  refine wc_end ?_
  refine then_n ?_
  refine wp_seq ?_
  refine wc_text ?_
  refine wc_move HF nS rfl rfl rfl (fun a HF => ?_)
  refine wc_assign HF nS rfl rfl rfl (fun a HF => ?_)
  refine wc_end ?_
  refine then_n ?_
  refine wp_ret ?_
  have hj1 := Option.some.inj h
  obtain ⟨hi1, hj2⟩ := Prod.mk.inj hj1
  subst hi1
  obtain ⟨hi2, hj3⟩ := Prod.mk.inj hj2
  subst hi2
  subst hj3
  refine bp_ret HF (res_one rfl HF rfl) ?_
  have HT : St w0 F w [OwnA (rowT y2) (.slice a_x0_0 x0_0.length c_x0_0), OwnA (rowT y4) (.slice a_x0_1 x0_1.length c_x0_1)] := (HT.pick 1).take 2
  exact ⟨rfl, HT⟩

def m_spec_HasFork_L0 (fuel : Nat) (x0 : List I4) : Nat → Int → Option (Lp Unit Bool)
  | 0, _ => none
  | k1 + 1, z1 =>
    if z1 < (x0.length : Int) then
      (at? x0 z1).bind fun e1 =>
      if e1.a = 11 then
        some (.ret true)
      else
      if in64 (z1 + 1) then
        m_spec_HasFork_L0 fuel x0 k1 (z1 + 1)
      else none
    else
    some (.brk ())

def m_spec_HasFork (fuel : Nat) (x0 : List I4) : Option Bool :=
  (m_spec_HasFork_L0 fuel x0 fuel 0).bind <| contL <| un1 fun _ =>
  some false

set_option maxRecDepth 100000 in
set_option maxHeartbeats 4000000 in
theorem w_spec_HasFork (fuel : Nat) {x0 : List I4} {a_x0 : Option Addr} {n_x0 c_x0 : Nat} {r0 : Bool} {w0 : World} (h : m_spec_HasFork fuel x0 = some r0) (hr_x0 : RdT (fun b => ¬ False) w0 (rowT x0) (.slice a_x0 n_x0 c_x0)) :
    Calls Try.prog 64 #[.slice a_x0 n_x0 c_x0] w0 fun e w => e = .returned (.bool r0) ∧ St w0 (fun _ => False) w [] := by
  obtain rfl := hr_x0.neq
  have HT : St w0 (fun _ => False) w0 [] := St.init0
  rw [m_spec_HasFork] at h
  refine calls_fr (n := 16) [.slice a_x0 x0.length c_x0] Try.func64 rfl rfl rfl (fun a HF => ?_)
  have HT : St w0 (fun _ => False) w0 [] := HT
  refine wp_seq ?_
  refine wc_text ?_
  refine wc_assign HF nS rfl rfl rfl (fun a HF => ?_)
  refine wc_end ?_
  refine then_n ?_
  obtain ⟨q1, hx1, h⟩ := obs h
  refine wp_cut (fun a w => q1 = .brk () ∧ Fr a 16 [] ∧ St w0 (fun _ => False) w []) ?_ ?_
  · have hk1 := h
    have h := hx1
    refine wp_seq ?_
    refine wc_text ?_
    refine wc_assign HF nS rfl rfl rfl (fun a HF => ?_)
    refine wc_end ?_
    refine then_n ?_
    refine wp_block ?_
    refine wp_loopN (fun k1 a w => ∃ z1, m_spec_HasFork_L0 fuel x0 k1 z1 = some q1 ∧ Fr a 16 [(0, .slice a_x0 x0.length c_x0), (3, .int .i64 z1)] ∧ St w0 (fun _ => False) w []) fuel ⟨0, h, (HF.keep (HF.keep HF.nil rfl) rfl), HT⟩ ?_
    rintro k1 a w ⟨z1, h, HF, HT⟩
    cases k1 with
    | zero => cases h
    | succ k1 =>
      rw [m_spec_HasFork_L0] at h
      refine ?_
      refine wp_seq ?_
      refine wp_seq ?_
      refine wc_text ?_
      refine wc_move HF nS rfl rfl rfl (fun a HF => ?_)
      refine wc_move HF nS rfl rfl rfl (fun a HF => ?_)
      refine wc_lenR HF nS Try.underlying35 rfl rfl rfl (fun a HF => ?_)
      refine wc_bin HF nS rfl rfl b_lt rfl rfl (fun a HF => ?_)
      refine wc_end ?_
      refine then_n ?_
      by_cases hb1 : z1 < (x0.length : Int)
      · have h := (if_pos hb1).symm.trans h
        refine wp_if (b' := true) HF rfl (decide_eq_true hb1) ?_
        refine wp_skip ?_
        refine then_n ?_
        refine wp_seq ?_
        refine wp_block ?_
        refine wp_seq ?_
        refine wc_text ?_
        refine wc_move HF nS rfl rfl rfl (fun a HF => ?_)
        refine wc_move HF nS rfl rfl rfl (fun a HF => ?_)
        obtain ⟨e1, hx2, h⟩ := obs h
        obtain ⟨b1, o1, ha1⟩ := (HT.ro hr_x0).any.addr hx2
        refine wc_ixaddr HF nS el35 rfl ha1 ((HT.ro hr_x0).any).neq rfl hx2 rfl rfl (fun a HF => ?_)
        refine wc_faddr HF nS rfl fl25_0 rfl rfl (fun a HF => ?_)
        have hc1 := (HT.ro hr_x0).any.flatAt ha1 hx2
        refine wc_load HF rfl sc3 (hc1.get 0 rfl) rfl rfl (fun a HF => ?_)
        refine wc_bin HF nS rfl rfl b_eq rfl rfl (fun a HF => ?_)
        refine wc_end ?_
        refine then_n ?_
        by_cases hb2 : e1.a = 11
        · have h := (if_pos hb2).symm.trans h
          refine wp_if (b' := true) HF rfl (decide_eq_true hb2) ?_
          refine wp_seq ?_
          refine wc_text ?_
          refine wc_assign HF nS rfl rfl rfl (fun a HF => ?_)
          refine wc_end ?_
          refine then_n ?_
          refine wp_ret ?_
          obtain rfl := Option.some.inj h
          have h := retL hk1
          obtain rfl := Option.some.inj h
          refine blk_r (then_r (then_r (blk_r (then_r (?_)))))
          refine bp_ret HF (res_one rfl HF rfl) ?_
          exact ⟨rfl, HT⟩
        have h := (if_neg hb2).symm.trans h
        refine wp_if (b' := false) HF rfl (decide_eq_false hb2) ?_
        refine wp_skip ?_
        refine blk_n ?_
        refine then_n ?_
        refine wc_text ?_
        refine wc_move HF nS rfl rfl rfl (fun a HF => ?_)
        obtain ⟨hg1, h⟩ := grd h
        refine wc_bin HF nS rfl rfl (b_add hg1) rfl rfl (fun a HF => ?_)
        refine wc_assign HF nS rfl rfl rfl (fun a HF => ?_)
        refine wc_end ?_
        exact then_n ⟨k1, Nat.lt_succ_self k1, z1 + 1, h, (HF.keep (HF.keep HF.nil rfl) rfl), HT⟩
      have h := (if_neg hb1).symm.trans h
      refine wp_if (b' := false) HF rfl (decide_eq_false hb1) ?_
      refine wp_exit ?_
      refine then_x (then_x (?_))
      refine blk_x ?_
      exact then_n ⟨(Option.some.inj h).symm, HF.nil, HT⟩
  rintro a w ⟨rfl, HF, HT⟩
  have h := brkL1u h
  refine ?_
  refine wp_seq ?_
  refine wc_text ?_
  refine wc_assign HF nS rfl rfl rfl (fun a HF => ?_)
  refine wc_end ?_
  refine then_n ?_
  refine wp_ret ?_
  obtain rfl := Option.some.inj h
  refine bp_ret HF (res_one rfl HF rfl) ?_
  exact ⟨rfl, HT⟩

def m_spec_Touches (fuel : Nat) (x0_0 : Int) (x0_1 : Int) (x0_2 : Int) (x0_3 : Int) : Option Int :=
  (m_spec_OpOk fuel x0_0 x0_1 x0_2 x0_3).bind fun y1 =>
  if y1 = true then
    (
      (
        if x0_0 = 5 then
          some (decide (x0_0 = 5))
        else
        some (decide (x0_0 = 6))).bind fun z1 =>
      if z1 = true then
        some (.ret 1)
      else
      (
        if x0_0 = 12 then
          some (decide (x0_0 = 12))
        else
        if x0_0 = 13 then
          some (decide (x0_0 = 13))
        else
        if x0_0 = 14 then
          some (decide (x0_0 = 14))
        else
        if x0_0 = 15 then
          some (decide (x0_0 = 15))
        else
        some (decide (x0_0 = 16))).bind fun z2 =>
      if z2 = true then
        some (.ret 2)
      else
      some (.brk ())).bind <| contL <| un1 fun _ =>
    some 0
  else
  some 0

set_option maxRecDepth 100000 in
set_option maxHeartbeats 4000000 in
theorem w_spec_Touches (fuel : Nat) {x0_0 : Int} {x0_1 : Int} {x0_2 : Int} {x0_3 : Int} {r0 : Int} {w0 : World} (h : m_spec_Touches fuel x0_0 x0_1 x0_2 x0_3 = some r0) :
    Calls Try.prog 91 #[.agg #[.int .i64 x0_0, .int .i64 x0_1, .int .i64 x0_2, .int .i64 x0_3]] w0 fun e w => e = .returned (.int .i64 r0) ∧ St w0 (fun _ => False) w [] := by
  have HT : St w0 (fun _ => False) w0 [] := St.init0
  rw [m_spec_Touches] at h
  refine calls_fr (n := 17) [.agg #[.int .i64 x0_0, .int .i64 x0_1, .int .i64 x0_2, .int .i64 x0_3]] Try.func91 rfl rfl rfl (fun a HF => ?_)
  have HT : St w0 (fun _ => False) w0 [] := HT
  refine wp_seq ?_
  refine wc_text ?_
  refine wc_box (cs := [.int .i64 x0_0, .int .i64 x0_1, .int .i64 x0_2, .int .i64 x0_3]) HF HT rfl rfl rfl rfl (fun p1 w HT hb => ⟨nS, fun a HF => ?_⟩)
  refine wc_assign HF nS rfl rfl rfl (fun a HF => ?_)
  refine wc_end ?_
  refine then_n ?_
  refine wp_seq ?_
  refine wp_seq ?_
  refine wc_text ?_
  refine wc_loadA (vs := [.int .i64 x0_0, .int .i64 x0_1, .int .i64 x0_2, .int .i64 x0_3]) HF rfl ag25 rfl ((HT.boxAt 0 rfl).part 0 4) rfl rfl (fun a HF => ?_)
  obtain ⟨y1, hx1, h⟩ := obs h
  refine wc_call HF cf40 rfl (w_spec_OpOk fuel hx1) rfl rfl ?_
  rintro e w ⟨rfl, hE⟩
  have hb := hE.below
  have HT := HT.pure hE
  have HT : St w0 (fun _ => False) w [Box p1 [.int .i64 x0_0, .int .i64 x0_1, .int .i64 x0_2, .int .i64 x0_3]] := HT
  refine ⟨_, rfl, nS, fun a HF => ?_⟩
  refine wc_not HF nS rfl rfl rfl (fun a HF => ?_)
  refine wc_end ?_
  refine then_n ?_
  by_cases hb1 : y1 = true
  · have h := (if_pos hb1).symm.trans h
    refine wp_if (b' := false) HF rfl (notT hb1) ?_
    refine wp_skip ?_
    refine then_n ?_
    obtain ⟨q1, hx2, h⟩ := obs h
    refine wp_cut (fun a w => q1 = .brk () ∧ Fr a 17 [] ∧ St w0 (fun _ => False) w []) ?_ ?_
    · have hk1 := h
      have h := hx2
      refine wp_seq ?_
      refine wc_text ?_
      refine wc_faddr HF nS rfl fl25_0 rfl rfl (fun a HF => ?_)
      refine wc_load HF rfl sc3 ((HT.boxAt 0 rfl).get 0 rfl) rfl rfl (fun a HF => ?_)
      refine wc_end ?_
      refine then_n ?_
      refine wp_block ?_
      obtain ⟨z1, hx3, h⟩ := obs h
      refine wp_cut (fun a w => Fr a 17 [(7, .int .i64 x0_0), (8, .bool z1)] ∧ St w0 (fun _ => False) w []) ?_ ?_
      · have hk2 := h
        have h := hx3
        refine wp_seq ?_
        refine wc_text ?_
        refine wc_bin HF nS rfl rfl b_eq rfl rfl (fun a HF => ?_)
        refine wc_assign HF nS rfl rfl rfl (fun a HF => ?_)
        refine wc_end ?_
        refine then_n ?_
        by_cases hb2 : x0_0 = 5
        · have h := (if_pos hb2).symm.trans h
          refine wp_if (b' := true) HF rfl (decide_eq_true hb2) ?_
          refine wp_skip ?_
          have HT : St w0 (fun _ => False) w [] := HT.take 0
          obtain rfl := Option.some.inj h
          exact then_n ⟨(HF.keep (HF.keep HF.nil rfl) rfl), HT⟩
        have h := (if_neg hb2).symm.trans h
        refine wp_if (b' := false) HF rfl (decide_eq_false hb2) ?_
        refine wc_text ?_
        refine wc_bin HF nS rfl rfl b_eq rfl rfl (fun a HF => ?_)
        refine wc_assign HF nS rfl rfl rfl (fun a HF => ?_)
        refine wc_end ?_
        have HT : St w0 (fun _ => False) w [] := HT.take 0
        obtain rfl := Option.some.inj h
        exact then_n ⟨(HF.keep (HF.keep HF.nil rfl) rfl), HT⟩
      rintro a w ⟨HF, HT⟩
      refine ?_
      by_cases hb3 : z1 = true
      · have h := (if_pos hb3).symm.trans h
        refine wp_if (b' := true) HF rfl hb3 ?_
        refine wp_seq ?_
        refine wc_text ?_
        refine wc_assign HF nS rfl rfl rfl (fun a HF => ?_)
        refine wc_end ?_
        refine then_n ?_
        refine wp_ret ?_
        obtain rfl := Option.some.inj h
        have h := retL hk1
        obtain rfl := Option.some.inj h
        refine blk_r (then_r (?_))
        refine bp_ret HF (res_one rfl HF rfl) ?_
        exact ⟨rfl, HT⟩
      have h := (if_neg hb3).symm.trans h
      refine wp_if (b' := false) HF rfl (Bool.eq_false_iff.2 hb3) ?_
      obtain ⟨z2, hx4, h⟩ := obs h
      refine wp_cut (fun a w => Fr a 17 [(11, .bool z2)] ∧ St w0 (fun _ => False) w []) ?_ ?_
      · have hk2 := h
        have h := hx4
        refine wp_seq ?_
        refine wc_text ?_
        refine wc_bin HF nS rfl rfl b_eq rfl rfl (fun a HF => ?_)
        refine wc_assign HF nS rfl rfl rfl (fun a HF => ?_)
        refine wc_end ?_
        refine then_n ?_
        by_cases hb4 : x0_0 = 12
        · have h := (if_pos hb4).symm.trans h
          refine wp_if (b' := true) HF rfl (decide_eq_true hb4) ?_
          refine wp_skip ?_
          obtain rfl := Option.some.inj h
          exact then_n ⟨(HF.keep HF.nil rfl), HT⟩
        have h := (if_neg hb4).symm.trans h
        refine wp_if (b' := false) HF rfl (decide_eq_false hb4) ?_
        refine wp_seq ?_
        refine wc_text ?_
        refine wc_bin HF nS rfl rfl b_eq rfl rfl (fun a HF => ?_)
        refine wc_assign HF nS rfl rfl rfl (fun a HF => ?_)
        refine wc_end ?_
        refine then_n ?_
        by_cases hb5 : x0_0 = 13
        · have h := (if_pos hb5).symm.trans h
          refine wp_if (b' := true) HF rfl (decide_eq_true hb5) ?_
          refine wp_skip ?_
          obtain rfl := Option.some.inj h
          exact then_n ⟨(HF.keep HF.nil rfl), HT⟩
        have h := (if_neg hb5).symm.trans h
        refine wp_if (b' := false) HF rfl (decide_eq_false hb5) ?_
        refine wp_seq ?_
        refine wc_text ?_
        refine wc_bin HF nS rfl rfl b_eq rfl rfl (fun a HF => ?_)
        refine wc_assign HF nS rfl rfl rfl (fun a HF => ?_)
        refine wc_end ?_
        refine then_n ?_
        by_cases hb6 : x0_0 = 14
        · have h := (if_pos hb6).symm.trans h
          refine wp_if (b' := true) HF rfl (decide_eq_true hb6) ?_
          refine wp_skip ?_
          obtain rfl := Option.some.inj h
          exact then_n ⟨(HF.keep HF.nil rfl), HT⟩
        have h := (if_neg hb6).symm.trans h
        refine wp_if (b' := false) HF rfl (decide_eq_false hb6) ?_
        refine wp_seq ?_
        refine wc_text ?_
        refine wc_bin HF nS rfl rfl b_eq rfl rfl (fun a HF => ?_)
        refine wc_assign HF nS rfl rfl rfl (fun a HF => ?_)
        refine wc_end ?_
        refine then_n ?_
        by_cases hb7 : x0_0 = 15
        · have h := (if_pos hb7).symm.trans h
          refine wp_if (b' := true) HF rfl (decide_eq_true hb7) ?_
          refine wp_skip ?_
          obtain rfl := Option.some.inj h
          exact then_n ⟨(HF.keep HF.nil rfl), HT⟩
        have h := (if_neg hb7).symm.trans h
        refine wp_if (b' := false) HF rfl (decide_eq_false hb7) ?_
        refine wc_text ?_
        refine wc_bin HF nS rfl rfl b_eq rfl rfl (fun a HF => ?_)
        refine wc_assign HF nS rfl rfl rfl (fun a HF => ?_)
        refine wc_end ?_
        obtain rfl := Option.some.inj h
        exact then_n ⟨(HF.keep HF.nil rfl), HT⟩
      rintro a w ⟨HF, HT⟩
      refine ?_
      by_cases hb8 : z2 = true
      · have h := (if_pos hb8).symm.trans h
        refine wp_if (b' := true) HF rfl hb8 ?_
        refine wp_seq ?_
        refine wc_text ?_
        refine wc_assign HF nS rfl rfl rfl (fun a HF => ?_)
        refine wc_end ?_
        refine then_n ?_
        refine wp_ret ?_
        obtain rfl := Option.some.inj h
        have h := retL hk1
        obtain rfl := Option.some.inj h
        refine blk_r (then_r (?_))
        refine bp_ret HF (res_one rfl HF rfl) ?_
        exact ⟨rfl, HT⟩
      have h := (if_neg hb8).symm.trans h
      refine wp_if (b' := false) HF rfl (Bool.eq_false_iff.2 hb8) ?_
      refine wp_skip ?_
      refine blk_n ?_
      exact then_n ⟨(Option.some.inj h).symm, HF.nil, HT⟩
    rintro a w ⟨rfl, HF, HT⟩
    have h := brkL1u h
    refine ?_
    refine wp_seq ?_
    refine wc_text ?_
    refine wc_assign HF nS rfl rfl rfl (fun a HF => ?_)
    refine wc_end ?_
    refine then_n ?_
    refine wp_ret ?_
    obtain rfl := Option.some.inj h
    refine bp_ret HF (res_one rfl HF rfl) ?_
    exact ⟨rfl, HT⟩
  have h := (if_neg hb1).symm.trans h
  refine wp_if (b' := true) HF rfl (notF (Bool.eq_false_iff.2 hb1)) ?_
  refine wp_seq ?_
  refine wc_text ?_
  refine wc_assign HF nS rfl rfl rfl (fun a HF => ?_)
  refine wc_end ?_
  refine then_n ?_
  refine wp_ret ?_
  obtain rfl := Option.some.inj h
  refine then_r (?_)
  refine bp_ret HF (res_one rfl HF rfl) ?_
  have HT : St w0 (fun _ => False) w [] := HT.take 0
  exact ⟨rfl, HT⟩

def m_spec_KidOk_L0 (fuel : Nat) (x0 : List I4) : Nat → Int → Option (Lp Unit Bool)
  | 0, _ => none
  | k1 + 1, z1 =>
    if z1 < (x0.length : Int) then
      (at? x0 z1).bind fun e1 =>
      (m_spec_Touches fuel e1.a e1.b e1.c e1.d).bind fun y3 =>
      if y3 = 2 then
        some (.ret false)
      else
      if in64 (z1 + 1) then
        m_spec_KidOk_L0 fuel x0 k1 (z1 + 1)
      else none
    else
    some (.brk ())

def m_spec_KidOk (fuel : Nat) (x0 : List I4) : Option Bool :=
  (m_spec_CodeOk fuel x0).bind fun y1 =>
  if y1 = true then
    (m_spec_HasFork fuel x0).bind fun y2 =>
    if y2 = true then
      some false
    else
    (m_spec_KidOk_L0 fuel x0 fuel 0).bind <| contL <| un1 fun _ =>
    some true
  else
  some false

set_option maxRecDepth 100000 in
set_option maxHeartbeats 4000000 in
theorem w_spec_KidOk (fuel : Nat) {x0 : List I4} {a_x0 : Option Addr} {n_x0 c_x0 : Nat} {r0 : Bool} {w0 : World} (h : m_spec_KidOk fuel x0 = some r0) (hr_x0 : RdT (fun b => ¬ False) w0 (rowT x0) (.slice a_x0 n_x0 c_x0)) :
    Calls Try.prog 65 #[.slice a_x0 n_x0 c_x0] w0 fun e w => e = .returned (.bool r0) ∧ St w0 (fun _ => False) w [] := by
  obtain rfl := hr_x0.neq
  have HT : St w0 (fun _ => False) w0 [] := St.init0
  rw [m_spec_KidOk] at h
  refine calls_fr (n := 23) [.slice a_x0 x0.length c_x0] Try.func65 rfl rfl rfl (fun a HF => ?_)
  have HT : St w0 (fun _ => False) w0 [] := HT
  refine wp_seq ?_
  refine wc_text ?_
  refine wc_assign HF nS rfl rfl rfl (fun a HF => ?_)
  refine wc_end ?_
  refine then_n ?_
  refine wp_seq ?_
  refine wp_seq ?_
  refine wc_text ?_
  refine wc_move HF nS rfl rfl rfl (fun a HF => ?_)
  obtain ⟨y1, hx1, h⟩ := obs h
  refine wc_call HF cf52 rfl (w_spec_CodeOk fuel hx1 (HT.ro hr_x0).any) rfl rfl ?_
  rintro e w ⟨rfl, hE⟩
  have hb := hE.below
  have HT := HT.pure hE
  have HT : St w0 (fun _ => False) w [] := HT
  refine ⟨_, rfl, nS, fun a HF => ?_⟩
  refine wc_not HF nS rfl rfl rfl (fun a HF => ?_)
  refine wc_move HF nS rfl rfl rfl (fun a HF => ?_)
  by_cases hb1 : y1 = true
  · have h := (if_pos hb1).symm.trans h
    refine wc_move HF nS rfl (HF.wy rfl rfl rfl rfl (notT hb1)) rfl (fun a HF => ?_)
    obtain ⟨y2, hx2, h⟩ := obs h
    refine wc_call HF cf64 rfl (w_spec_HasFork fuel hx2 (HT.ro hr_x0).any) (HF.wy rfl rfl rfl rfl (notT hb1)) rfl ?_
    rintro e w ⟨rfl, hE⟩
    have hb := hE.below
    have HT := HT.pure hE
    have HT : St w0 (fun _ => False) w [] := HT
    refine ⟨_, rfl, nS, fun a HF => ?_⟩
    refine wc_pick (b := false) HF nS rfl (notT hb1) rfl rfl rfl (fun a HF => ?_)
    refine wc_end ?_
    refine then_n ?_
    by_cases hb2 : y2 = true
    · have h := (if_pos hb2).symm.trans h
      refine wp_if (b' := true) HF rfl hb2 ?_
      refine wp_seq ?_
      refine wc_text ?_
      refine wc_assign HF nS rfl rfl rfl (fun a HF => ?_)
      refine wc_end ?_
      refine then_n ?_
      refine wp_ret ?_
      obtain rfl := Option.some.inj h
      refine then_r (?_)
      refine bp_ret HF (res_one rfl HF rfl) ?_
      exact ⟨rfl, HT⟩
    have h := (if_neg hb2).symm.trans h
    refine wp_if (b' := false) HF rfl (Bool.eq_false_iff.2 hb2) ?_
    refine wp_skip ?_
    refine then_n ?_
    obtain ⟨q1, hx3, h⟩ := obs h
    refine wp_cut (fun a w => q1 = .brk () ∧ Fr a 23 [] ∧ St w0 (fun _ => False) w []) ?_ ?_
    · have hk1 := h
      have h := hx3
      refine wp_seq ?_
      refine wc_text ?_
      refine wc_assign HF nS rfl rfl rfl (fun a HF => ?_)
      refine wc_end ?_
      refine then_n ?_
      refine wp_block ?_
      refine wp_loopN (fun k1 a w => ∃ z1, m_spec_KidOk_L0 fuel x0 k1 z1 = some q1 ∧ Fr a 23 [(0, .slice a_x0 x0.length c_x0), (3, .int .i64 z1)] ∧ St w0 (fun _ => False) w []) fuel ⟨0, h, (HF.keep (HF.keep HF.nil rfl) rfl), HT⟩ ?_
      rintro k1 a w ⟨z1, h, HF, HT⟩
      cases k1 with
      | zero => cases h
      | succ k1 =>
        rw [m_spec_KidOk_L0] at h
        refine ?_
        refine wp_seq ?_
        refine wp_seq ?_
        refine wc_text ?_
        refine wc_move HF nS rfl rfl rfl (fun a HF => ?_)
        refine wc_move HF nS rfl rfl rfl (fun a HF => ?_)
        refine wc_lenR HF nS Try.underlying35 rfl rfl rfl (fun a HF => ?_)
        refine wc_bin HF nS rfl rfl b_lt rfl rfl (fun a HF => ?_)
        refine wc_end ?_
        refine then_n ?_
        by_cases hb3 : z1 < (x0.length : Int)
        · have h := (if_pos hb3).symm.trans h
          refine wp_if (b' := true) HF rfl (decide_eq_true hb3) ?_
          refine wp_skip ?_
          refine then_n ?_
          refine wp_seq ?_
          refine wp_block ?_
          refine wp_seq ?_
          refine wc_text ?_
          refine wc_move HF nS rfl rfl rfl (fun a HF => ?_)
          refine wc_move HF nS rfl rfl rfl (fun a HF => ?_)
          obtain ⟨e1, hx4, h⟩ := obs h
          obtain ⟨b1, o1, ha1⟩ := (HT.ro hr_x0).any.addr hx4
          refine wc_ixaddr HF nS el35 rfl ha1 ((HT.ro hr_x0).any).neq rfl hx4 rfl rfl (fun a HF => ?_)
          have hc1 := (HT.ro hr_x0).any.flatAt ha1 hx4
          refine wc_loadA (vs := [.int .i64 e1.a, .int .i64 e1.b, .int .i64 e1.c, .int .i64 e1.d]) HF rfl ag25 rfl (hc1.part 0 4) rfl rfl (fun a HF => ?_)
          obtain ⟨y3, hx5, h⟩ := obs h
          refine wc_call HF cf91 rfl (w_spec_Touches fuel hx5) rfl rfl ?_
          rintro e w ⟨rfl, hE⟩
          have hb := hE.below
          have HT := HT.pure hE
          have HT : St w0 (fun _ => False) w [] := HT
          refine ⟨_, rfl, nS, fun a HF => ?_⟩
          refine wc_bin HF nS rfl rfl b_eq rfl rfl (fun a HF => ?_)
          refine wc_end ?_
          refine then_n ?_
          by_cases hb4 : y3 = 2
          · have h := (if_pos hb4).symm.trans h
            refine wp_if (b' := true) HF rfl (decide_eq_true hb4) ?_
            refine wp_seq ?_
            refine wc_text ?_
            refine wc_assign HF nS rfl rfl rfl (fun a HF => ?_)
            refine wc_end ?_
            refine then_n ?_
            refine wp_ret ?_
            obtain rfl := Option.some.inj h
            have h := retL hk1
            obtain rfl := Option.some.inj h
            refine blk_r (then_r (then_r (blk_r (then_r (?_)))))
            refine bp_ret HF (res_one rfl HF rfl) ?_
            exact ⟨rfl, HT⟩
          have h := (if_neg hb4).symm.trans h
          refine wp_if (b' := false) HF rfl (decide_eq_false hb4) ?_
          refine wp_skip ?_
          refine blk_n ?_
          refine then_n ?_
          refine wc_text ?_
          refine wc_move HF nS rfl rfl rfl (fun a HF => ?_)
          obtain ⟨hg1, h⟩ := grd h
          refine wc_bin HF nS rfl rfl (b_add hg1) rfl rfl (fun a HF => ?_)
          refine wc_assign HF nS rfl rfl rfl (fun a HF => ?_)
          refine wc_end ?_
          exact then_n ⟨k1, Nat.lt_succ_self k1, z1 + 1, h, (HF.keep (HF.keep HF.nil rfl) rfl), HT⟩
        have h := (if_neg hb3).symm.trans h
        refine wp_if (b' := false) HF rfl (decide_eq_false hb3) ?_
        refine wp_exit ?_
        refine then_x (then_x (?_))
        refine blk_x ?_
        exact then_n ⟨(Option.some.inj h).symm, HF.nil, HT⟩
    rintro a w ⟨rfl, HF, HT⟩
    have h := brkL1u h
    refine ?_
    refine wp_seq ?_
    refine wc_text ?_
    refine wc_assign HF nS rfl rfl rfl (fun a HF => ?_)
    refine wc_end ?_
    refine then_n ?_
    refine wp_ret ?_
    obtain rfl := Option.some.inj h
    refine bp_ret HF (res_one rfl HF rfl) ?_
    exact ⟨rfl, HT⟩
  have h := (if_neg hb1).symm.trans h
  refine wc_skip HF nS (HF.wn rfl rfl rfl rfl (notF (Bool.eq_false_iff.2 hb1))) rfl (fun a HF => ?_)
  refine wc_skip HF nS (HF.wn rfl rfl rfl rfl (notF (Bool.eq_false_iff.2 hb1))) rfl (fun a HF => ?_)
  refine wc_pick (b := true) HF nS rfl (notF (Bool.eq_false_iff.2 hb1)) rfl rfl rfl (fun a HF => ?_)
  refine wc_end ?_
  refine then_n ?_
  refine wp_if (b' := true) HF rfl rfl ?_
  refine wp_seq ?_
  refine wc_text ?_
  refine wc_assign HF nS rfl rfl rfl (fun a HF => ?_)
  refine wc_end ?_
  refine then_n ?_
  refine wp_ret ?_
  obtain rfl := Option.some.inj h
  refine then_r (?_)
  refine bp_ret HF (res_one rfl HF rfl) ?_
  exact ⟨rfl, HT⟩

def m_spec_ProgOk_L0 (fuel : Nat) (x0_1 : List KidD) : Nat → Int → Option (Lp Unit Bool)
  | 0, _ => none
  | k1 + 1, z1 =>
    if z1 < (x0_1.length : Int) then
      (at? x0_1 z1).bind fun e1 =>
      (m_spec_KidOk fuel e1.code).bind fun y3 =>
      if y3 = true then
        if in64 (z1 + 1) then
          m_spec_ProgOk_L0 fuel x0_1 k1 (z1 + 1)
        else none
      else
      some (.ret false)
    else
    some (.brk ())

def m_spec_ProgOk (fuel : Nat) (x0_0 : List I4) (x0_1 : List KidD) : Option Bool :=
  (m_spec_CodeOk fuel x0_0).bind fun y1 =>
  if y1 = true then
    if 3 < (x0_1.length : Int) then
      some false
    else
    (m_spec_HasFork fuel x0_0).bind fun y2 =>
    if (y2 == (decide (0 < (x0_1.length : Int)))) = true then
      (m_spec_ProgOk_L0 fuel x0_1 fuel 0).bind <| contL <| un1 fun _ =>
      some true
    else
    some false
  else
  some false

set_option maxRecDepth 100000 in
set_option maxHeartbeats 4000000 in
theorem w_spec_ProgOk (fuel : Nat) {x0_0 : List I4} {x0_1 : List KidD} {a_x0_0 : Option Addr} {n_x0_0 c_x0_0 : Nat} {a_x0_1 : Option Addr} {n_x0_1 c_x0_1 : Nat} {r0 : Bool} {w0 : World} (h : m_spec_ProgOk fuel x0_0 x0_1 = some r0) (hr_x0_0 : RdT (fun b => ¬ False) w0 (rowT x0_0) (.slice a_x0_0 n_x0_0 c_x0_0)) (hr_x0_1 : RdT (fun b => ¬ False) w0 (rowT x0_1) (.slice a_x0_1 n_x0_1 c_x0_1)) :
    Calls Try.prog 36 #[.agg #[.slice a_x0_0 n_x0_0 c_x0_0, .slice a_x0_1 n_x0_1 c_x0_1]] w0 fun e w => e = .returned (.bool r0) ∧ St w0 (fun _ => False) w [] := by
  obtain rfl := hr_x0_0.neq
  obtain rfl := hr_x0_1.neq
  have HT : St w0 (fun _ => False) w0 [] := St.init0
  rw [m_spec_ProgOk] at h
  refine calls_fr (n := 39) [.agg #[.slice a_x0_0 x0_0.length c_x0_0, .slice a_x0_1 x0_1.length c_x0_1]] Try.func36 rfl rfl rfl (fun a HF => ?_)
  have HT : St w0 (fun _ => False) w0 [] := HT
  refine wp_seq ?_
  refine wc_text ?_
  refine wc_box (cs := [.slice a_x0_0 x0_0.length c_x0_0, .slice a_x0_1 x0_1.length c_x0_1]) HF HT rfl rfl rfl rfl (fun p1 w HT hb => ⟨nS, fun a HF => ?_⟩)
  refine wc_assign HF nS rfl rfl rfl (fun a HF => ?_)
  refine wc_end ?_
  refine then_n ?_
  refine wp_seq ?_
  refine wp_seq ?_
  refine wp_region_can [(0, true), (1, true), (2, false), (3, true), (4, true), (5, true), (6, true), (7, true), (8, true), (9, true), (10, true), (11, true), (12, true), (14, false), (15, false), (16, false), (17, false), (13, false), (18, true), (19, true)] (fun w' => w'.cell? ⟨p1, 1, none⟩ = some (.slice a_x0_1 x0_1.length c_x0_1) ∧ True) (by kernel_rfl) (by kernel_rfl) ?_
  have HT : St w0 (fun _ => False) w.drew [Box p1 [.slice a_x0_0 x0_0.length c_x0_0, .slice a_x0_1 x0_1.length c_x0_1]] := HT.drew
  refine wc_faddr HF nS rfl fl49_0 rfl rfl (fun a HF => ?_)
  refine wc_load HF rfl sc35 ((HT.boxAt 0 rfl).get 0 rfl) rfl rfl (fun a HF => ?_)
  obtain ⟨y1, hx1, h⟩ := obs h
  refine wc_call HF cf52 rfl (w_spec_CodeOk fuel hx1 (HT.ro hr_x0_0).any) rfl rfl ?_
  rintro e w ⟨rfl, hE⟩
  have hb := hE.below
  have HT := HT.pure hE
  have HT : St w0 (fun _ => False) w [Box p1 [.slice a_x0_0 x0_0.length c_x0_0, .slice a_x0_1 x0_1.length c_x0_1]] := HT
  refine ⟨_, rfl, (fun _ => ⟨(HT.boxAt 0 rfl).get 1 rfl, trivial⟩), fun a HF => ?_⟩
  refine wc_not HF nS rfl rfl rfl (fun a HF => ?_)
  refine wc_move HF nS rfl rfl rfl (fun a HF => ?_)
  by_cases hb1 : y1 = true
  · have h := (if_pos hb1).symm.trans h
    refine wc_faddr HF nS rfl fl49_1 (HF.wy rfl rfl rfl rfl (notT hb1)) rfl (fun a HF => ?_)
    refine wc_load HF rfl sc47 ((HT.boxAt 0 rfl).get 1 rfl) (HF.wy rfl rfl rfl rfl (notT hb1)) rfl (fun a HF => ?_)
    refine wc_lenR HF nS Try.underlying47 rfl (HF.wy rfl rfl rfl rfl (notT hb1)) rfl (fun a HF => ?_)
    refine wc_bin HF nS rfl rfl b_gt (HF.wy rfl rfl rfl rfl (notT hb1)) rfl (fun a HF => ?_)
    refine wc_pick (b := false) HF nS rfl (notT hb1) rfl rfl rfl (fun a HF => ?_)
    refine wc_move HF nS rfl rfl rfl (fun a HF => ?_)
    by_cases hb2 : 3 < (x0_1.length : Int)
    · have h := (if_pos hb2).symm.trans h
      refine wc_skip HF nS (HF.wn rfl rfl rfl rfl (decide_eq_true hb2)) rfl (fun a HF => ?_)
      refine wc_skip HF nS (HF.wn rfl rfl rfl rfl (decide_eq_true hb2)) rfl (fun a HF => ?_)
      refine wc_skip HF (fun _ => ⟨(HT.boxAt 0 rfl).get 1 rfl, trivial⟩) (HF.wn rfl rfl rfl rfl (decide_eq_true hb2)) rfl (fun a HF => ?_)
      refine wc_skip HF (fun _ => ⟨(HT.boxAt 0 rfl).get 1 rfl, trivial⟩) (HF.wn rfl rfl rfl rfl (decide_eq_true hb2)) rfl (fun a HF => ?_)
      refine wc_skip HF (fun _ => ⟨(HT.boxAt 0 rfl).get 1 rfl, trivial⟩) (HF.wn rfl rfl rfl rfl (decide_eq_true hb2)) rfl (fun a HF => ?_)
      refine wc_skip HF (fun _ => ⟨(HT.boxAt 0 rfl).get 1 rfl, trivial⟩) (HF.wn rfl rfl rfl rfl (decide_eq_true hb2)) rfl (fun a HF => ?_)
      refine wc_skip HF (fun _ => ⟨(HT.boxAt 0 rfl).get 1 rfl, trivial⟩) (HF.wn rfl rfl rfl rfl (decide_eq_true hb2)) rfl (fun a HF => ?_)
      refine wc_skip HF nS (HF.wn rfl rfl rfl rfl (decide_eq_true hb2)) rfl (fun a HF => ?_)
      refine wc_pick (b := true) HF nS rfl (decide_eq_true hb2) rfl rfl rfl (fun a HF => ?_)
      refine wc_endN ?_
      refine then_n ?_
      refine wp_if (b' := true) HF rfl rfl ?_
      refine wp_seq ?_
      refine wc_text ?_
      refine wc_assign HF nS rfl rfl rfl (fun a HF => ?_)
      refine wc_end ?_
      refine then_n ?_
      refine wp_ret ?_
      obtain rfl := Option.some.inj h
      refine then_r (?_)
      refine bp_ret HF (res_one rfl HF rfl) ?_
      have HT : St w0 (fun _ => False) w [] := HT.take 0
      exact ⟨rfl, HT⟩
    have h := (if_neg hb2).symm.trans h
    refine wc_faddr HF nS rfl fl49_0 (HF.wy rfl rfl rfl rfl (decide_eq_false hb2)) rfl (fun a HF => ?_)
    refine wc_load HF rfl sc35 ((HT.boxAt 0 rfl).get 0 rfl) (HF.wy rfl rfl rfl rfl (decide_eq_false hb2)) rfl (fun a HF => ?_)
    refine wc_faddr HF (fun _ => ⟨(HT.boxAt 0 rfl).get 1 rfl, trivial⟩) rfl fl49_1 (HF.wy rfl rfl rfl rfl (decide_eq_false hb2)) rfl (fun a HF => ?_)
    refine wc_loadS HF ⟨(HT.boxAt 0 rfl).get 1 rfl, trivial⟩ rfl sc47 (fun w hS => hS.1) (HF.wy rfl rfl rfl rfl (decide_eq_false hb2)) rfl (fun a HF => ?_)
    refine wc_lenR HF (fun _ => ⟨(HT.boxAt 0 rfl).get 1 rfl, trivial⟩) Try.underlying47 rfl (HF.wy rfl rfl rfl rfl (decide_eq_false hb2)) rfl (fun a HF => ?_)
    refine wc_bin HF (fun _ => ⟨(HT.boxAt 0 rfl).get 1 rfl, trivial⟩) rfl rfl b_gt (HF.wy rfl rfl rfl rfl (decide_eq_false hb2)) rfl (fun a HF => ?_)
    obtain ⟨y2, hx2, h⟩ := obs h
    refine wc_call HF cf64 rfl (w_spec_HasFork fuel hx2 (HT.ro hr_x0_0).any) (HF.wy rfl rfl rfl rfl (decide_eq_false hb2)) rfl ?_
    rintro e w ⟨rfl, hE⟩
    have hb := hE.below
    have HT := HT.pure hE
    have HT : St w0 (fun _ => False) w [Box p1 [.slice a_x0_0 x0_0.length c_x0_0, .slice a_x0_1 x0_1.length c_x0_1]] := HT
    refine ⟨_, rfl, (fun _ => ⟨(HT.boxAt 0 rfl).get 1 rfl, trivial⟩), fun a HF => ?_⟩
    refine wc_bin HF nS rfl rfl (b_bne Try.underlying4) (HF.wy rfl rfl rfl rfl (decide_eq_false hb2)) rfl (fun a HF => ?_)
    refine wc_pick (b := false) HF nS rfl (decide_eq_false hb2) rfl rfl rfl (fun a HF => ?_)
    refine wc_endN ?_
    refine then_n ?_
    by_cases hb3 : (y2 == (decide (0 < (x0_1.length : Int)))) = true
    · have h := (if_pos hb3).symm.trans h
      refine wp_if (b' := false) HF rfl (notT hb3) ?_
      refine wp_skip ?_
      refine then_n ?_
      obtain ⟨q1, hx3, h⟩ := obs h
      refine wp_cut (fun a w => q1 = .brk () ∧ Fr a 39 [] ∧ St w0 (fun _ => False) w []) ?_ ?_
      · have hk1 := h
        have h := hx3
        refine wp_seq ?_
        refine wc_text ?_
        refine wc_assign HF nS rfl rfl rfl (fun a HF => ?_)
        refine wc_end ?_
        refine then_n ?_
        refine wp_block ?_
        refine wp_loopN (fun k1 a w => ∃ z1, m_spec_ProgOk_L0 fuel x0_1 k1 z1 = some q1 ∧ Fr a 39 [(1, .pointer (some ⟨p1, 0, none⟩)), (3, .int .i64 z1)] ∧ St w0 (fun _ => False) w [Box p1 [.slice a_x0_0 x0_0.length c_x0_0, .slice a_x0_1 x0_1.length c_x0_1]]) fuel ⟨0, h, (HF.keep (HF.keep HF.nil rfl) rfl), HT⟩ ?_
        rintro k1 a w ⟨z1, h, HF, HT⟩
        cases k1 with
        | zero => cases h
        | succ k1 =>
          rw [m_spec_ProgOk_L0] at h
          refine ?_
          refine wp_seq ?_
          refine wp_seq ?_
          refine wc_text ?_
          refine wc_move HF nS rfl rfl rfl (fun a HF => ?_)
          refine wc_faddr HF nS rfl fl49_1 rfl rfl (fun a HF => ?_)
          refine wc_load HF rfl sc47 ((HT.boxAt 0 rfl).get 1 rfl) rfl rfl (fun a HF => ?_)
          refine wc_lenR HF nS Try.underlying47 rfl rfl rfl (fun a HF => ?_)
          refine wc_bin HF nS rfl rfl b_lt rfl rfl (fun a HF => ?_)
          refine wc_end ?_
          refine then_n ?_
          by_cases hb4 : z1 < (x0_1.length : Int)
          · have h := (if_pos hb4).symm.trans h
            refine wp_if (b' := true) HF rfl (decide_eq_true hb4) ?_
            refine wp_skip ?_
            refine then_n ?_
            refine wp_seq ?_
            refine wp_block ?_
            refine wp_seq ?_
            refine wc_text ?_
            refine wc_faddr HF nS rfl fl49_1 rfl rfl (fun a HF => ?_)
            refine wc_load HF rfl sc47 ((HT.boxAt 0 rfl).get 1 rfl) rfl rfl (fun a HF => ?_)
            refine wc_move HF nS rfl rfl rfl (fun a HF => ?_)
            obtain ⟨e1, hx4, h⟩ := obs h
            obtain ⟨b1, o1, ha1⟩ := (HT.ro hr_x0_1).any.addr hx4
            refine wc_ixaddr HF nS el47 rfl ha1 ((HT.ro hr_x0_1).any).neq rfl hx4 rfl rfl (fun a HF => ?_)
            refine wc_faddr HF nS rfl fl77_0 rfl rfl (fun a HF => ?_)
            obtain ⟨_, hP1, hc1, hr1⟩ := hr_x0_1.elemAt ha1 hx4
            obtain ⟨a1, c1, rfl, hr2⟩ := cells_Kid hr1
            have hc2 := HT.roLd hP1 hc1
            refine wc_load HF rfl sc35 (hc2.get 0 rfl) rfl rfl (fun a HF => ?_)
            obtain ⟨y3, hx5, h⟩ := obs h
            refine wc_call HF cf65 rfl (w_spec_KidOk fuel hx5 (HT.ro hr2).any) rfl rfl ?_
            rintro e w ⟨rfl, hE⟩
            have hb := hE.below
            have HT := HT.pure hE
            have HT : St w0 (fun _ => False) w [Box p1 [.slice a_x0_0 x0_0.length c_x0_0, .slice a_x0_1 x0_1.length c_x0_1]] := HT
            refine ⟨_, rfl, nS, fun a HF => ?_⟩
            refine wc_not HF nS rfl rfl rfl (fun a HF => ?_)
            refine wc_end ?_
            refine then_n ?_
            by_cases hb5 : y3 = true
            · have h := (if_pos hb5).symm.trans h
              refine wp_if (b' := false) HF rfl (notT hb5) ?_
              refine wp_skip ?_
              refine blk_n ?_
              refine then_n ?_
              refine wc_text ?_
              refine wc_move HF nS rfl rfl rfl (fun a HF => ?_)
              obtain ⟨hg1, h⟩ := grd h
              refine wc_bin HF nS rfl rfl (b_add hg1) rfl rfl (fun a HF => ?_)
              refine wc_assign HF nS rfl rfl rfl (fun a HF => ?_)
              refine wc_end ?_
              exact then_n ⟨k1, Nat.lt_succ_self k1, z1 + 1, h, (HF.keep (HF.keep HF.nil rfl) rfl), HT⟩
            have h := (if_neg hb5).symm.trans h
            refine wp_if (b' := true) HF rfl (notF (Bool.eq_false_iff.2 hb5)) ?_
            refine wp_seq ?_
            refine wc_text ?_
            refine wc_assign HF nS rfl rfl rfl (fun a HF => ?_)
            refine wc_end ?_
            refine then_n ?_
            refine wp_ret ?_
            obtain rfl := Option.some.inj h
            have h := retL hk1
            obtain rfl := Option.some.inj h
            refine blk_r (then_r (then_r (blk_r (then_r (?_)))))
            refine bp_ret HF (res_one rfl HF rfl) ?_
            have HT : St w0 (fun _ => False) w [] := HT.take 0
            exact ⟨rfl, HT⟩
          have h := (if_neg hb4).symm.trans h
          refine wp_if (b' := false) HF rfl (decide_eq_false hb4) ?_
          refine wp_exit ?_
          refine then_x (then_x (?_))
          refine blk_x ?_
          have HT : St w0 (fun _ => False) w [] := HT.take 0
          exact then_n ⟨(Option.some.inj h).symm, HF.nil, HT⟩
      rintro a w ⟨rfl, HF, HT⟩
      have h := brkL1u h
      refine ?_
      refine wp_seq ?_
      refine wc_text ?_
      refine wc_assign HF nS rfl rfl rfl (fun a HF => ?_)
      refine wc_end ?_
      refine then_n ?_
      refine wp_ret ?_
      obtain rfl := Option.some.inj h
      refine bp_ret HF (res_one rfl HF rfl) ?_
      exact ⟨rfl, HT⟩
    have h := (if_neg hb3).symm.trans h
    refine wp_if (b' := true) HF rfl (notF (Bool.eq_false_iff.2 hb3)) ?_
    refine wp_seq ?_
    refine wc_text ?_
    refine wc_assign HF nS rfl rfl rfl (fun a HF => ?_)
    refine wc_end ?_
    refine then_n ?_
    refine wp_ret ?_
    obtain rfl := Option.some.inj h
    refine then_r (?_)
    refine bp_ret HF (res_one rfl HF rfl) ?_
    have HT : St w0 (fun _ => False) w [] := HT.take 0
    exact ⟨rfl, HT⟩
  have h := (if_neg hb1).symm.trans h
  refine wc_skip HF nS (HF.wn rfl rfl rfl rfl (notF (Bool.eq_false_iff.2 hb1))) rfl (fun a HF => ?_)
  refine wc_skip HF nS (HF.wn rfl rfl rfl rfl (notF (Bool.eq_false_iff.2 hb1))) rfl (fun a HF => ?_)
  refine wc_skip HF nS (HF.wn rfl rfl rfl rfl (notF (Bool.eq_false_iff.2 hb1))) rfl (fun a HF => ?_)
  refine wc_skip HF nS (HF.wn rfl rfl rfl rfl (notF (Bool.eq_false_iff.2 hb1))) rfl (fun a HF => ?_)
  refine wc_pick (b := true) HF nS rfl (notF (Bool.eq_false_iff.2 hb1)) rfl rfl rfl (fun a HF => ?_)
  refine wc_move HF nS rfl rfl rfl (fun a HF => ?_)
  refine wc_skip HF nS (HF.wn rfl rfl rfl rfl rfl) rfl (fun a HF => ?_)
  refine wc_skip HF nS (HF.wn rfl rfl rfl rfl rfl) rfl (fun a HF => ?_)
  refine wc_skip HF (fun _ => ⟨(HT.boxAt 0 rfl).get 1 rfl, trivial⟩) (HF.wn rfl rfl rfl rfl rfl) rfl (fun a HF => ?_)
  refine wc_skip HF (fun _ => ⟨(HT.boxAt 0 rfl).get 1 rfl, trivial⟩) (HF.wn rfl rfl rfl rfl rfl) rfl (fun a HF => ?_)
  refine wc_skip HF (fun _ => ⟨(HT.boxAt 0 rfl).get 1 rfl, trivial⟩) (HF.wn rfl rfl rfl rfl rfl) rfl (fun a HF => ?_)
  refine wc_skip HF (fun _ => ⟨(HT.boxAt 0 rfl).get 1 rfl, trivial⟩) (HF.wn rfl rfl rfl rfl rfl) rfl (fun a HF => ?_)
  refine wc_skip HF (fun _ => ⟨(HT.boxAt 0 rfl).get 1 rfl, trivial⟩) (HF.wn rfl rfl rfl rfl rfl) rfl (fun a HF => ?_)
  refine wc_skip HF nS (HF.wn rfl rfl rfl rfl rfl) rfl (fun a HF => ?_)
  refine wc_pick (b := true) HF nS rfl rfl rfl rfl rfl (fun a HF => ?_)
  refine wc_endN ?_
  refine then_n ?_
  refine wp_if (b' := true) HF rfl rfl ?_
  refine wp_seq ?_
  refine wc_text ?_
  refine wc_assign HF nS rfl rfl rfl (fun a HF => ?_)
  refine wc_end ?_
  refine then_n ?_
  refine wp_ret ?_
  obtain rfl := Option.some.inj h
  refine then_r (?_)
  refine bp_ret HF (res_one rfl HF rfl) ?_
  have HT : St w0 (fun _ => False) w [] := HT.take 0
  exact ⟨rfl, HT⟩
end Go.Proofs.Ytpbfppelmgjfpaa
