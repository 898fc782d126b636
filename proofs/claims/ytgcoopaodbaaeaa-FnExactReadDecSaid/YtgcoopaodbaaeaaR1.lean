/- Walks of functions, by program: impl.Dec, impl.within, impl.ReadDec, spec.Dec, spec.ReadDec, laws.FnExactReadDec. -/
import Derived.Test.YtgcoopaodbaaeaaTy
namespace Go.Proofs.Ytgcoopaodbaaeaa
open Go Go.RowKit
set_option linter.unusedVariables false
set_option linter.unusedSimpArgs false
def m_impl_Dec_L0 (fuel : Nat) : Nat → (List UInt8) → Int → Option (List UInt8)
  | 0, _, _ => none
  | k1 + 1, z2, z3 =>
    if z3 = 0 then
      some z2
    else
      (
        if (10 : Int) ≠ 0 then
          (
            if (z3.tmod 10) < 0 then
              if in64 (0 - (z3.tmod 10)) then
                some (0 - (z3.tmod 10))
              else none
            else
              some (z3.tmod 10)).bind fun z5 =>
          if in64 (48 + z5) then
            if z2.length + 1 ≤ 17179869184 then
              some (z2 ++ ([b8 (48 + z5)] : List UInt8))
            else none
          else none
        else none).bind fun z4 =>
      if (10 : Int) ≠ 0 ∧ in64 (z3.tdiv 10) then
        m_impl_Dec_L0 fuel k1 z4 (z3.tdiv 10)
      else none

def m_impl_Dec_L1 (fuel : Nat) : Nat → (List UInt8) → Int → Int → Option (List UInt8)
  | 0, _, _, _ => none
  | k2 + 1, z8, z9, z10 =>
    if z9 < z10 then
      (at? z8 z10).bind fun e1 =>
      (at? z8 z9).bind fun e2 =>
      (at? (z8.set z9.toNat e1) z10).bind fun e4 =>
      if in64 (z9 + 1) then
        if in64 (z10 - 1) then
          m_impl_Dec_L1 fuel k2 ((z8.set z9.toNat e1).set z10.toNat e2) (z9 + 1) (z10 - 1)
        else none
      else none
    else
      some z8

def m_impl_Dec (fuel : Nat) (x0 : Int) : Option Str :=
  if x0 = 0 then
    some [48]
  else
    (m_impl_Dec_L0 fuel fuel ([] : List UInt8) x0).bind fun z1 =>
    (
      if x0 < 0 then
        if z1.length + 1 ≤ 17179869184 then
          some (z1 ++ ([(45 : UInt8)] : List UInt8))
        else none
      else
        some z1).bind fun z6 =>
    (
      if in64 ((z6.length : Int) - 1) then
        m_impl_Dec_L1 fuel fuel z6 0 ((z6.length : Int) - 1)
      else none).bind fun z7 =>
    some z7

set_option maxRecDepth 100000 in
set_option maxHeartbeats 4000000 in
theorem w_impl_Dec (fuel : Nat) {x0 : Int} {r0 : Str} {w0 : World} (h : m_impl_Dec fuel x0 = some r0) :
    Calls Try.prog 25 #[.int .i64 x0] w0 fun e w => e = .returned (sv r0) ∧ St w0 (fun _ => False) w [] := by
  have HT : St w0 (fun _ => False) w0 [] := St.init0
  rw [m_impl_Dec] at h
  refine calls_fr (n := 59) [.int .i64 x0] Try.func25 rfl rfl rfl (fun a HF => ?_)
  have HT : St w0 (fun _ => False) w0 [] := HT
  refine wp_seq ?_
  refine wc_text ?_
  refine wc_assign HF nS rfl rfl rfl (fun a HF => ?_)
  refine wc_end ?_
  refine then_n ?_
  refine wp_seq ?_
  refine wp_seq ?_
  refine wc_text ?_
  refine wc_move HF nS rfl rfl rfl (fun a HF => ?_)
  refine wc_bin HF nS rfl rfl b_eq rfl rfl (fun a HF => ?_)
  refine wc_end ?_
  refine then_n ?_
  by_cases hb1 : x0 = 0
  · have h := (if_pos hb1).symm.trans h
    refine wp_if (b' := true) HF rfl (decide_eq_true hb1) ?_
    refine wp_seq ?_
    refine wc_text ?_
    refine wc_assign HF nS rfl rfl rfl (fun a HF => ?_)
    refine wc_end ?_
    refine then_n ?_
    refine wp_ret ?_
    obtain rfl := Option.some.inj h
    refine then_r (?_)
    refine bp_ret HF (res_one rfl HF rfl) ?_
    exact ⟨rfl, HT⟩
  · have h := (if_neg hb1).symm.trans h
    refine wp_if (b' := false) HF rfl (decide_eq_false hb1) ?_
    refine wp_skip ?_
    refine then_n ?_
    refine wp_seq ?_
    refine wc_text ?_
    refine wc_bslice (l := ([] : List UInt8)) (cs := []) (A := []) HF HT bs38_0 rfl rfl (gives_flat rfl) rfl (by decide) rfl rfl (fun p1 w HT hb => ⟨nS, fun a HF => ?_⟩)
    refine wc_assign HF nS rfl rfl rfl (fun a HF => ?_)
    refine wc_end ?_
    refine then_n ?_
    obtain ⟨z1, hx1, h⟩ := obs h
    refine wp_cut (fun a w => ∃ a1 n1 c1, Fr a 59 [(0, .int .i64 x0), (3, .slice a1 n1 c1)] ∧ St w0 (fun _ => False) w [Own 5 (rowT z1) (.slice a1 n1 c1)]) ?_ ?_
    · have hk1 := h
      have h := hx1
      refine wp_seq ?_
      refine wc_text ?_
      refine wc_move HF nS rfl rfl rfl (fun a HF => ?_)
      refine wc_assign HF nS rfl rfl rfl (fun a HF => ?_)
      refine wc_end ?_
      refine then_n ?_
      refine wp_block ?_
      refine wp_loopN (fun k1 a w => ∃ z2 z3 a2 n2 c2, m_impl_Dec_L0 fuel k1 z2 z3 = some z1 ∧ Fr a 59 [(0, .int .i64 x0), (3, .slice a2 n2 c2), (4, .int .i64 z3)] ∧ St w0 (fun _ => False) w [Own 5 (rowT z2) (.slice a2 n2 c2)]) fuel ⟨([] : List UInt8), x0, (some ⟨p1, 0, none⟩), 0, 0, h, (HF.keep (HF.keep (HF.keep HF.nil rfl) rfl) rfl), HT⟩ ?_
      rintro k1 a w ⟨z2, z3, a2, n2, c2, h, HF, HT⟩
      cases k1 with
      | zero => cases h
      | succ k1 =>
        rw [m_impl_Dec_L0] at h
        obtain rfl := (HT.rdAt 0 rfl).neq
        refine ?_
        refine wp_seq ?_
        refine wp_seq ?_
        refine wc_text ?_
        refine wc_move HF nS rfl rfl rfl (fun a HF => ?_)
        refine wc_bin HF nS rfl rfl b_ne rfl rfl (fun a HF => ?_)
        refine wc_end ?_
        refine then_n ?_
        by_cases hb2 : z3 = 0
        · have h := (if_pos hb2).symm.trans h
          refine wp_if (b' := false) HF rfl (notT (decide_eq_true hb2)) ?_
          refine wp_exit ?_
          refine then_x (then_x (?_))
          refine blk_x ?_
          obtain rfl := Option.some.inj h
          exact then_n ⟨a2, z2.length, c2, (HF.keep (HF.keep HF.nil rfl) rfl), HT⟩
        · have h := (if_neg hb2).symm.trans h
          refine wp_if (b' := true) HF rfl (notF (decide_eq_false hb2)) ?_
          refine wp_skip ?_
          refine then_n ?_
          obtain ⟨z4, hx2, h⟩ := obs h
          refine wp_cut (fun a w => ∃ a3 n3 c3, Fr a 59 [(0, .int .i64 x0), (3, .slice a3 n3 c3), (4, .int .i64 z3)] ∧ St w0 (fun _ => False) w [Own 5 (rowT z4) (.slice a3 n3 c3)]) ?_ ?_
          · have hk2 := h
            have h := hx2
            refine wp_block ?_
            refine wp_seq ?_
            refine wc_text ?_
            refine wc_move HF nS rfl rfl rfl (fun a HF => ?_)
            obtain ⟨hg1, h⟩ := grd h
            refine wc_bin HF nS rfl rfl (b_rem hg1) rfl rfl (fun a HF => ?_)
            refine wc_assign HF nS rfl rfl rfl (fun a HF => ?_)
            refine wc_end ?_
            refine then_n ?_
            obtain ⟨z5, hx3, h⟩ := obs h
            refine wp_cut (fun a w => Fr a 59 [(0, .int .i64 x0), (3, .slice a2 z2.length c2), (4, .int .i64 z3), (5, .int .i64 z5)] ∧ St w0 (fun _ => False) w [Own 5 (rowT z2) (.slice a2 z2.length c2)]) ?_ ?_
            · have hk3 := h
              have h := hx3
              refine wp_seq ?_
              refine wc_text ?_
              refine wc_move HF nS rfl rfl rfl (fun a HF => ?_)
              refine wc_bin HF nS rfl rfl b_lt rfl rfl (fun a HF => ?_)
              refine wc_end ?_
              refine then_n ?_
              by_cases hb3 : (z3.tmod 10) < 0
              · have h := (if_pos hb3).symm.trans h
                refine wp_if (b' := true) HF rfl (decide_eq_true hb3) ?_
                refine wc_text ?_
                refine wc_move HF nS rfl rfl rfl (fun a HF => ?_)
                obtain ⟨hg2, h⟩ := grd h
                refine wc_neg HF nS rfl hg2 rfl rfl (fun a HF => ?_)
                refine wc_assign HF nS rfl rfl rfl (fun a HF => ?_)
                refine wc_end ?_
                obtain rfl := Option.some.inj h
                exact then_n ⟨(HF.keep (HF.keep (HF.keep (HF.keep HF.nil rfl) rfl) rfl) rfl), HT⟩
              · have h := (if_neg hb3).symm.trans h
                refine wp_if (b' := false) HF rfl (decide_eq_false hb3) ?_
                refine wp_skip ?_
                obtain rfl := Option.some.inj h
                exact then_n ⟨(HF.keep (HF.keep (HF.keep (HF.keep HF.nil rfl) rfl) rfl) rfl), HT⟩
            · rintro a w ⟨HF, HT⟩
              refine ?_
              refine wc_text ?_
              refine wc_move HF nS rfl rfl rfl (fun a HF => ?_)
              refine wc_move HF nS rfl rfl rfl (fun a HF => ?_)
              obtain ⟨hg3, h⟩ := grd h
              refine wc_bin HF nS rfl rfl (b_add hg3) rfl rfl (fun a HF => ?_)
              refine wc_cvb HF nS Try.underlying5 Try.underlying3 rfl rfl rfl (fun a HF => ?_)
              refine wc_bslice (l := ([b8 (48 + z5)] : List UInt8)) (cs := [.int .u8 ((b8 (48 + z5)).toNat : Int)]) (A := []) HF HT bs38_1 rfl rfl (gives_flat rfl) rfl (by decide) rfl rfl (fun p2 w HT hb => ⟨nS, fun a HF => ?_⟩)
              obtain ⟨hg4, h⟩ := grd h
              have HT : St w0 (fun _ => False) w [Own 5 (rowT z2) (.slice a2 z2.length c2), Own 5 (rowT ([b8 (48 + z5)] : List UInt8)) (.slice (some ⟨p2, 0, none⟩) 1 1)] := HT.pick 1
              refine wc_append HF HT el38 rfl rfl (Nat.zero_lt_succ _) hg4 rfl rfl rfl (fun a4 c4 w HT => ⟨nS, fun a HF => ?_⟩)
              refine wc_assign HF nS rfl rfl rfl (fun a HF => ?_)
              refine wc_end ?_
              refine blk_n ?_
              obtain rfl := Option.some.inj h
              exact then_n ⟨a4, (z2 ++ ([b8 (48 + z5)] : List UInt8)).length, c4, (HF.keep (HF.keep (HF.keep HF.nil rfl) rfl) rfl), HT⟩
          · rintro a w ⟨a3, n3, c3, HF, HT⟩
            obtain rfl := (HT.rdAt 0 rfl).neq
            refine ?_
            refine wc_text ?_
            refine wc_move HF nS rfl rfl rfl (fun a HF => ?_)
            obtain ⟨hg5, h⟩ := grd h
            refine wc_bin HF nS rfl rfl (b_quo hg5) rfl rfl (fun a HF => ?_)
            refine wc_assign HF nS rfl rfl rfl (fun a HF => ?_)
            refine wc_end ?_
            exact then_n ⟨k1, Nat.lt_succ_self k1, z4, z3.tdiv 10, a3, z4.length, c3, h, (HF.keep (HF.keep (HF.keep HF.nil rfl) rfl) rfl), HT⟩
    · rintro a w ⟨a1, n1, c1, HF, HT⟩
      obtain rfl := (HT.rdAt 0 rfl).neq
      refine ?_
      obtain ⟨z6, hx4, h⟩ := obs h
      refine wp_cut (fun a w => ∃ a5 n4 c5, Fr a 59 [(3, .slice a5 n4 c5)] ∧ St w0 (fun _ => False) w [Own 5 (rowT z6) (.slice a5 n4 c5)]) ?_ ?_
      · have hk1 := h
        have h := hx4
        refine wp_seq ?_
        refine wc_text ?_
        refine wc_move HF nS rfl rfl rfl (fun a HF => ?_)
        refine wc_bin HF nS rfl rfl b_lt rfl rfl (fun a HF => ?_)
        refine wc_end ?_
        refine then_n ?_
        by_cases hb4 : x0 < 0
        · have h := (if_pos hb4).symm.trans h
          refine wp_if (b' := true) HF rfl (decide_eq_true hb4) ?_
          refine wc_text ?_
          refine wc_move HF nS rfl rfl rfl (fun a HF => ?_)
          refine wc_bslice (l := ([(45 : UInt8)] : List UInt8)) (cs := [.int .u8 45]) (A := []) HF HT bs38_1 rfl rfl (gives_flat rfl) rfl (by decide) rfl rfl (fun p3 w HT hb => ⟨nS, fun a HF => ?_⟩)
          obtain ⟨hg6, h⟩ := grd h
          have HT : St w0 (fun _ => False) w [Own 5 (rowT z1) (.slice a1 z1.length c1), Own 5 (rowT ([(45 : UInt8)] : List UInt8)) (.slice (some ⟨p3, 0, none⟩) 1 1)] := HT.pick 1
          refine wc_append HF HT el38 rfl rfl (Nat.zero_lt_succ _) hg6 rfl rfl rfl (fun a6 c6 w HT => ⟨nS, fun a HF => ?_⟩)
          refine wc_assign HF nS rfl rfl rfl (fun a HF => ?_)
          refine wc_end ?_
          obtain rfl := Option.some.inj h
          exact then_n ⟨a6, (z1 ++ ([(45 : UInt8)] : List UInt8)).length, c6, (HF.keep HF.nil rfl), HT⟩
        · have h := (if_neg hb4).symm.trans h
          refine wp_if (b' := false) HF rfl (decide_eq_false hb4) ?_
          refine wp_skip ?_
          obtain rfl := Option.some.inj h
          exact then_n ⟨a1, z1.length, c1, (HF.keep HF.nil rfl), HT⟩
      · rintro a w ⟨a5, n4, c5, HF, HT⟩
        obtain rfl := (HT.rdAt 0 rfl).neq
        refine ?_
        obtain ⟨z7, hx5, h⟩ := obs h
        refine wp_cut (fun a w => Fr a 59 [(3, .slice a5 z6.length c5)] ∧ St w0 (fun _ => False) w [Own 5 (rowT z7) (.slice a5 z6.length c5)]) ?_ ?_
        · have hk1 := h
          have h := hx5
          refine wp_seq ?_
          refine wc_text ?_
          refine wc_move HF nS rfl rfl rfl (fun a HF => ?_)
          refine wc_lenR HF nS Try.underlying38 rfl rfl rfl (fun a HF => ?_)
          obtain ⟨hg7, h⟩ := grd h
          refine wc_bin HF nS rfl rfl (b_sub hg7) rfl rfl (fun a HF => ?_)
          refine wc_assign HF nS rfl rfl rfl (fun a HF => ?_)
          refine wc_assign HF nS rfl rfl rfl (fun a HF => ?_)
          refine wc_end ?_
          refine then_n ?_
          refine wp_block ?_
          refine wp_loopN (fun k2 a w => ∃ z8 z9 z10, m_impl_Dec_L1 fuel k2 z8 z9 z10 = some z7 ∧ Fr a 59 [(3, .slice a5 z6.length c5), (6, .int .i64 z9), (7, .int .i64 z10)] ∧ St w0 (fun _ => False) w [Own 5 (rowT z8) (.slice a5 z6.length c5)]) fuel ⟨z6, 0, (z6.length : Int) - 1, h, (HF.keep (HF.keep (HF.keep HF.nil rfl) rfl) rfl), HT⟩ ?_
          rintro k2 a w ⟨z8, z9, z10, h, HF, HT⟩
          cases k2 with
          | zero => cases h
          | succ k2 =>
            rw [m_impl_Dec_L1] at h
            refine ?_
            refine wp_seq ?_
            refine wp_seq ?_
            refine wc_text ?_
            refine wc_move HF nS rfl rfl rfl (fun a HF => ?_)
            refine wc_move HF nS rfl rfl rfl (fun a HF => ?_)
            refine wc_bin HF nS rfl rfl b_lt rfl rfl (fun a HF => ?_)
            refine wc_end ?_
            refine then_n ?_
            by_cases hb5 : z9 < z10
            · have h := (if_pos hb5).symm.trans h
              refine wp_if (b' := true) HF rfl (decide_eq_true hb5) ?_
              refine wp_skip ?_
              refine then_n ?_
              refine wp_seq ?_
              refine wp_block ?_
              refine wp_region_can [(0, true), (1, true), (2, false), (3, false), (4, true), (5, true), (6, true), (7, true), (8, true), (9, true), (10, true), (11, true), (12, true), (13, false), (14, true), (15, true)] (fun w' => True) (by kernel_rfl) (by kernel_rfl) ?_
              have HT : St w0 (fun _ => False) w.drew [Own 5 (rowT z8) (.slice a5 z6.length c5)] := HT.drew
              refine wc_move HF nS rfl rfl rfl (fun a HF => ?_)
              refine wc_move HF nS rfl rfl rfl (fun a HF => ?_)
              refine wc_move HF (fun _ => trivial) rfl rfl rfl (fun a HF => ?_)
              refine wc_move HF (fun _ => trivial) rfl rfl rfl (fun a HF => ?_)
              refine wc_move HF nS rfl rfl rfl (fun a HF => ?_)
              refine wc_move HF nS rfl rfl rfl (fun a HF => ?_)
              obtain ⟨e1, hx6, h⟩ := obs h
              obtain ⟨b1, o1, ha1⟩ := (HT.rdAt 0 rfl).addr hx6
              refine wc_ixaddr HF nS el38 rfl ha1 ((HT.rdAt 0 rfl)).neq rfl hx6 rfl rfl (fun a HF => ?_)
              have hc1 := (HT.rdAt 0 rfl).flatAt ha1 hx6
              refine wc_load HF rfl sc5 (hc1.get 0 rfl) rfl rfl (fun a HF => ?_)
              refine wc_move HF nS rfl rfl rfl (fun a HF => ?_)
              refine wc_move HF nS rfl rfl rfl (fun a HF => ?_)
              obtain ⟨e2, hx7, h⟩ := obs h
              refine wc_ixaddr HF nS el38 rfl ha1 ((HT.rdAt 0 rfl)).neq rfl hx7 rfl rfl (fun a HF => ?_)
              have hc2 := (HT.rdAt 0 rfl).flatAt ha1 hx7
              refine wc_load HF rfl sc5 (hc2.get 0 rfl) rfl rfl (fun a HF => ?_)
              refine wc_ixaddr HF nS el38 rfl ha1 ((HT.rdAt 0 rfl)).neq rfl hx7 rfl rfl (fun a HF => ?_)
              refine wc_storeR (i := z9) (j := 0) (x' := e1) HF HT ha1 rfl rfl (fun w => (sc5 w).2) rfl rfl hx7 rfl rfl rfl rfl (fun w HT => ⟨(fun _ => trivial), ?_⟩)
              obtain ⟨e4, hx8, h⟩ := obs h
              refine wc_ixaddr HF nS el38 rfl ha1 ((HT.rdAt 0 rfl)).neq rfl hx8 rfl rfl (fun a HF => ?_)
              refine wc_storeR (i := z10) (j := 0) (x' := e2) HF HT ha1 rfl rfl (fun w => (sc5 w).2) rfl rfl hx8 rfl rfl rfl rfl (fun w HT => ⟨nS, ?_⟩)
              refine wc_endN ?_
              refine blk_n ?_
              refine then_n ?_
              refine wc_text ?_
              refine wc_move HF nS rfl rfl rfl (fun a HF => ?_)
              obtain ⟨hg8, h⟩ := grd h
              refine wc_bin HF nS rfl rfl (b_add hg8) rfl rfl (fun a HF => ?_)
              refine wc_move HF nS rfl rfl rfl (fun a HF => ?_)
              obtain ⟨hg9, h⟩ := grd h
              refine wc_bin HF nS rfl rfl (b_sub hg9) rfl rfl (fun a HF => ?_)
              refine wc_assign HF nS rfl rfl rfl (fun a HF => ?_)
              refine wc_assign HF nS rfl rfl rfl (fun a HF => ?_)
              refine wc_end ?_
              exact then_n ⟨k2, Nat.lt_succ_self k2, (z8.set z9.toNat e1).set z10.toNat e2, z9 + 1, z10 - 1, h, (HF.keep (HF.keep (HF.keep HF.nil rfl) rfl) rfl), HT⟩
            · have h := (if_neg hb5).symm.trans h
              refine wp_if (b' := false) HF rfl (decide_eq_false hb5) ?_
              refine wp_exit ?_
              refine then_x (then_x (?_))
              refine blk_x ?_
              obtain rfl := Option.some.inj h
              exact then_n ⟨(HF.keep HF.nil rfl), HT⟩
        · rintro a w ⟨HF, HT⟩
          refine ?_
          refine wp_seq ?_
          refine wc_text ?_
          refine wc_move HF nS rfl rfl rfl (fun a HF => ?_)
          refine wc_cvs HF nS Try.underlying38 Try.underlying5 Try.underlying9 rfl (HT.rdAt 0 rfl) rfl rfl (fun a HF => ?_)
          refine wc_assign HF nS rfl rfl rfl (fun a HF => ?_)
          refine wc_end ?_
          refine then_n ?_
          refine wp_ret ?_
          obtain rfl := Option.some.inj h
          refine bp_ret HF (res_one rfl HF rfl) ?_
          have HT : St w0 (fun _ => False) w [] := HT.take 0
          exact ⟨rfl, HT⟩

def m_impl_within (fuel : Nat) (x0 : Int) (x1 : Int) (x2 : Int) : Option Bool :=
  if x1 ≤ x0 then
    some (decide (x0 ≤ x2))
  else
    some false

set_option maxRecDepth 100000 in
set_option maxHeartbeats 4000000 in
theorem w_impl_within (fuel : Nat) {x0 : Int} {x1 : Int} {x2 : Int} {r0 : Bool} {w0 : World} (h : m_impl_within fuel x0 x1 x2 = some r0) :
    Calls Try.prog 38 #[.int .i64 x0, .int .i64 x1, .int .i64 x2] w0 fun e w => e = .returned (.bool r0) ∧ St w0 (fun _ => False) w [] := by
  have HT : St w0 (fun _ => False) w0 [] := St.init0
  rw [m_impl_within] at h
  refine calls_fr (n := 15) [.int .i64 x0, .int .i64 x1, .int .i64 x2] Try.func38 rfl rfl rfl (fun a HF => ?_)
  have HT : St w0 (fun _ => False) w0 [] := HT
  refine wp_seq ?_
  refine wc_text ?_
  refine wc_assign HF nS rfl rfl rfl (fun a HF => ?_)
  refine wc_end ?_
  refine then_n ?_
  refine wp_seq ?_
  refine wc_text ?_
  refine wc_move HF nS rfl rfl rfl (fun a HF => ?_)
  refine wc_move HF nS rfl rfl rfl (fun a HF => ?_)
  refine wc_bin HF nS rfl rfl b_ge rfl rfl (fun a HF => ?_)
  refine wc_move HF nS rfl rfl rfl (fun a HF => ?_)
  by_cases hb1 : x1 ≤ x0
  · have h := (if_pos hb1).symm.trans h
    refine wc_move HF nS rfl (HF.wy rfl rfl rfl rfl (decide_eq_true hb1)) rfl (fun a HF => ?_)
    refine wc_move HF nS rfl (HF.wy rfl rfl rfl rfl (decide_eq_true hb1)) rfl (fun a HF => ?_)
    refine wc_bin HF nS rfl rfl b_le (HF.wy rfl rfl rfl rfl (decide_eq_true hb1)) rfl (fun a HF => ?_)
    refine wc_pick (b := true) HF nS rfl (decide_eq_true hb1) rfl rfl rfl (fun a HF => ?_)
    refine wc_assign HF nS rfl rfl rfl (fun a HF => ?_)
    refine wc_end ?_
    refine then_n ?_
    refine wp_ret ?_
    obtain rfl := Option.some.inj h
    refine bp_ret HF (res_one rfl HF rfl) ?_
    exact ⟨rfl, HT⟩
  · have h := (if_neg hb1).symm.trans h
    refine wc_skip HF nS (HF.wn rfl rfl rfl rfl (decide_eq_false hb1)) rfl (fun a HF => ?_)
    refine wc_skip HF nS (HF.wn rfl rfl rfl rfl (decide_eq_false hb1)) rfl (fun a HF => ?_)
    refine wc_skip HF nS (HF.wn rfl rfl rfl rfl (decide_eq_false hb1)) rfl (fun a HF => ?_)
    refine wc_pick (b := false) HF nS rfl (decide_eq_false hb1) rfl rfl rfl (fun a HF => ?_)
    refine wc_assign HF nS rfl rfl rfl (fun a HF => ?_)
    refine wc_end ?_
    refine then_n ?_
    refine wp_ret ?_
    obtain rfl := Option.some.inj h
    refine bp_ret HF (res_one rfl HF rfl) ?_
    exact ⟨rfl, HT⟩

def m_impl_ReadDec_L0 (fuel : Nat) (x0 : Str) : Nat → Int → Int → Option (Lp Int (Int × Bool))
  | 0, _, _ => none
  | k1 + 1, z3, z4 =>
    if z4 < (x0.length : Int) then
      (at? x0 z4).bind fun c2 =>
      if (c2.toNat : Int) < 48 then
        some (.ret (0, false))
      else
        (at? x0 z4).bind fun c3 =>
        if 57 < (c3.toNat : Int) then
          some (.ret (0, false))
        else
          if in64 (10 * z3) then
            (at? x0 z4).bind fun c4 =>
            if in64 ((10 * z3) + ((b8 ((c4.toNat : Int) - 48)).toNat : Int)) then
              if in64 (z4 + 1) then
                m_impl_ReadDec_L0 fuel x0 k1 ((10 * z3) + ((b8 ((c4.toNat : Int) - 48)).toNat : Int)) (z4 + 1)
              else none
            else none
          else none
    else
      some (.brk z3)

def m_impl_ReadDec (fuel : Nat) (x0 : Str) : Option (Int × Bool) :=
  (
    if 0 < (x0.length : Int) then
      (at? x0 0).bind fun c1 =>
      if (c1.toNat : Int) = 45 then
        some 1
      else
        some 0
    else
      some 0).bind fun z1 =>
  if in64 ((x0.length : Int) - z1) then
    (m_impl_within fuel ((x0.length : Int) - z1) 1 9).bind fun y1 =>
    if y1 = true then
      (m_impl_ReadDec_L0 fuel x0 fuel 0 z1).bind <| contL <| un1 fun z2 =>
      (
        if z1 = 1 then
          if in64 (0 - z2) then
            some (0 - z2)
          else none
        else
          some z2).bind fun z5 =>
      (m_impl_Dec fuel z5).bind fun y2 =>
      if y2 = x0 then
        some (z5, true)
      else
        some (0, false)
    else
      some (0, false)
  else none

set_option maxRecDepth 100000 in
set_option maxHeartbeats 4000000 in
theorem w_impl_ReadDec (fuel : Nat) {x0 : Str} {r0 : Int} {r1 : Bool} {w0 : World} (h : m_impl_ReadDec fuel x0 = some (r0, r1)) :
    Calls Try.prog 31 #[sv x0] w0 fun e w => e = .returned (.tuple #[.int .i64 r0, .bool r1]) ∧ St w0 (fun _ => False) w [] := by
  have HT : St w0 (fun _ => False) w0 [] := St.init0
  rw [m_impl_ReadDec] at h
  refine calls_fr (n := 55) [sv x0] Try.func31 rfl rfl rfl (fun a HF => ?_)
  have HT : St w0 (fun _ => False) w0 [] := HT
  refine wp_seq ?_
  refine wc_text ?_
  refine wc_assign HF nS rfl rfl rfl (fun a HF => ?_)
  refine wc_assign HF nS rfl rfl rfl (fun a HF => ?_)
  refine wc_end ?_
  refine then_n ?_
  refine wp_seq ?_
  refine wc_text ?_
  refine wc_assign HF nS rfl rfl rfl (fun a HF => ?_)
  refine wc_end ?_
  refine then_n ?_
  obtain ⟨z1, hx1, h⟩ := obs h
  refine wp_cut (fun a w => Fr a 55 [(0, sv x0), (4, .int .i64 z1)] ∧ St w0 (fun _ => False) w []) ?_ ?_
  · have hk1 := h
    have h := hx1
    refine wp_seq ?_
    refine wc_text ?_
    refine wc_move HF nS rfl rfl rfl (fun a HF => ?_)
    refine wc_lenS (ats := #[]) HF nS Try.underlying9 rfl rfl rfl (fun a HF => ?_)
    refine wc_bin HF nS rfl rfl b_gt rfl rfl (fun a HF => ?_)
    refine wc_move HF nS rfl rfl rfl (fun a HF => ?_)
    by_cases hb1 : 0 < (x0.length : Int)
    · have h := (if_pos hb1).symm.trans h
      refine wc_move HF nS rfl (HF.wy rfl rfl rfl rfl (decide_eq_true hb1)) rfl (fun a HF => ?_)
      obtain ⟨c1, hx2, h⟩ := obs h
      refine wc_index HF nS Try.underlying9 rfl rfl hx2 (HF.wy rfl rfl rfl rfl (decide_eq_true hb1)) rfl (fun a HF => ?_)
      refine wc_bin HF nS rfl rfl b_eq (HF.wy rfl rfl rfl rfl (decide_eq_true hb1)) rfl (fun a HF => ?_)
      refine wc_pick (b := true) HF nS rfl (decide_eq_true hb1) rfl rfl rfl (fun a HF => ?_)
      refine wc_end ?_
      refine then_n ?_
      by_cases hb2 : (c1.toNat : Int) = 45
      · have h := (if_pos hb2).symm.trans h
        refine wp_if (b' := true) HF rfl (decide_eq_true hb2) ?_
        refine wc_text ?_
        refine wc_assign HF nS rfl rfl rfl (fun a HF => ?_)
        refine wc_end ?_
        obtain rfl := Option.some.inj h
        exact then_n ⟨(HF.keep (HF.keep HF.nil rfl) rfl), HT⟩
      · have h := (if_neg hb2).symm.trans h
        refine wp_if (b' := false) HF rfl (decide_eq_false hb2) ?_
        refine wp_skip ?_
        obtain rfl := Option.some.inj h
        exact then_n ⟨(HF.keep (HF.keep HF.nil rfl) rfl), HT⟩
    · have h := (if_neg hb1).symm.trans h
      refine wc_skip HF nS (HF.wn rfl rfl rfl rfl (decide_eq_false hb1)) rfl (fun a HF => ?_)
      refine wc_skip HF nS (HF.wn rfl rfl rfl rfl (decide_eq_false hb1)) rfl (fun a HF => ?_)
      refine wc_skip HF nS (HF.wn rfl rfl rfl rfl (decide_eq_false hb1)) rfl (fun a HF => ?_)
      refine wc_pick (b := false) HF nS rfl (decide_eq_false hb1) rfl rfl rfl (fun a HF => ?_)
      refine wc_end ?_
      refine then_n ?_
      refine wp_if (b' := false) HF rfl rfl ?_
      refine wp_skip ?_
      obtain rfl := Option.some.inj h
      exact then_n ⟨(HF.keep (HF.keep HF.nil rfl) rfl), HT⟩
  · rintro a w ⟨HF, HT⟩
    refine ?_
    refine wp_seq ?_
    refine wp_seq ?_
    refine wc_text ?_
    refine wc_move HF nS rfl rfl rfl (fun a HF => ?_)
    refine wc_lenS (ats := #[]) HF nS Try.underlying9 rfl rfl rfl (fun a HF => ?_)
    refine wc_move HF nS rfl rfl rfl (fun a HF => ?_)
    obtain ⟨hg1, h⟩ := grd h
    refine wc_bin HF nS rfl rfl (b_sub hg1) rfl rfl (fun a HF => ?_)
    obtain ⟨y1, hx3, h⟩ := obs h
    refine wc_call HF cf38 rfl (w_impl_within fuel hx3) rfl rfl ?_
    rintro e w ⟨rfl, hE⟩
    have hb := hE.below
    have HT := HT.pure hE
    have HT : St w0 (fun _ => False) w [] := HT
    refine ⟨_, rfl, nS, fun a HF => ?_⟩
    refine wc_not HF nS rfl rfl rfl (fun a HF => ?_)
    refine wc_end ?_
    refine then_n ?_
    by_cases hb3 : y1 = true
    · have h := (if_pos hb3).symm.trans h
      refine wp_if (b' := false) HF rfl (notT hb3) ?_
      refine wp_skip ?_
      refine then_n ?_
      refine wp_seq ?_
      refine wc_text ?_
      refine wc_assign HF nS rfl rfl rfl (fun a HF => ?_)
      refine wc_end ?_
      refine then_n ?_
      obtain ⟨q2, hx4, h⟩ := obs h
      refine wp_cut (fun a w => ∃ z2, q2 = .brk z2 ∧ Fr a 55 [(0, sv x0), (4, .int .i64 z1), (5, .int .i64 z2)] ∧ St w0 (fun _ => False) w []) ?_ ?_
      · have hk1 := h
        have h := hx4
        refine wp_seq ?_
        refine wc_text ?_
        refine wc_move HF nS rfl rfl rfl (fun a HF => ?_)
        refine wc_assign HF nS rfl rfl rfl (fun a HF => ?_)
        refine wc_end ?_
        refine then_n ?_
        refine wp_block ?_
        refine wp_loopN (fun k1 a w => ∃ z3 z4, m_impl_ReadDec_L0 fuel x0 k1 z3 z4 = some q2 ∧ Fr a 55 [(0, sv x0), (4, .int .i64 z1), (5, .int .i64 z3), (6, .int .i64 z4)] ∧ St w0 (fun _ => False) w []) fuel ⟨0, z1, h, (HF.keep (HF.keep (HF.keep (HF.keep HF.nil rfl) rfl) rfl) rfl), HT⟩ ?_
        rintro k1 a w ⟨z3, z4, h, HF, HT⟩
        cases k1 with
        | zero => cases h
        | succ k1 =>
          rw [m_impl_ReadDec_L0] at h
          refine ?_
          refine wp_seq ?_
          refine wp_seq ?_
          refine wc_text ?_
          refine wc_move HF nS rfl rfl rfl (fun a HF => ?_)
          refine wc_move HF nS rfl rfl rfl (fun a HF => ?_)
          refine wc_lenS (ats := #[]) HF nS Try.underlying9 rfl rfl rfl (fun a HF => ?_)
          refine wc_bin HF nS rfl rfl b_lt rfl rfl (fun a HF => ?_)
          refine wc_end ?_
          refine then_n ?_
          by_cases hb4 : z4 < (x0.length : Int)
          · have h := (if_pos hb4).symm.trans h
            refine wp_if (b' := true) HF rfl (decide_eq_true hb4) ?_
            refine wp_skip ?_
            refine then_n ?_
            refine wp_seq ?_
            refine wp_block ?_
            refine wp_seq ?_
            refine wp_seq ?_
            refine wc_text ?_
            refine wc_move HF nS rfl rfl rfl (fun a HF => ?_)
            refine wc_move HF nS rfl rfl rfl (fun a HF => ?_)
            obtain ⟨c2, hx5, h⟩ := obs h
            refine wc_index HF nS Try.underlying9 rfl rfl hx5 rfl rfl (fun a HF => ?_)
            refine wc_bin HF nS rfl rfl b_lt rfl rfl (fun a HF => ?_)
            refine wc_move HF nS rfl rfl rfl (fun a HF => ?_)
            by_cases hb5 : (c2.toNat : Int) < 48
            · have h := (if_pos hb5).symm.trans h
              refine wc_skip HF nS (HF.wn rfl rfl rfl rfl (decide_eq_true hb5)) rfl (fun a HF => ?_)
              refine wc_skip HF nS (HF.wn rfl rfl rfl rfl (decide_eq_true hb5)) rfl (fun a HF => ?_)
              refine wc_skip HF nS (HF.wn rfl rfl rfl rfl (decide_eq_true hb5)) rfl (fun a HF => ?_)
              refine wc_skip HF nS (HF.wn rfl rfl rfl rfl (decide_eq_true hb5)) rfl (fun a HF => ?_)
              refine wc_pick (b := true) HF nS rfl (decide_eq_true hb5) rfl rfl rfl (fun a HF => ?_)
              refine wc_end ?_
              refine then_n ?_
              refine wp_if (b' := true) HF rfl rfl ?_
              refine wp_seq ?_
              refine wc_text ?_
              refine wc_assign HF nS rfl rfl rfl (fun a HF => ?_)
              refine wc_assign HF nS rfl rfl rfl (fun a HF => ?_)
              refine wc_end ?_
              refine then_n ?_
              refine wp_ret ?_
              obtain rfl := Option.some.inj h
              have h := retL hk1
              have hj1 := Option.some.inj h
              obtain ⟨hi1, hj2⟩ := Prod.mk.inj hj1
              subst hi1
              subst hj2
              refine then_r (blk_r (then_r (then_r (blk_r (then_r (?_))))))
              refine bp_ret HF (res_two rfl HF rfl rfl) ?_
              exact ⟨rfl, HT⟩
            · have h := (if_neg hb5).symm.trans h
              refine wc_move HF nS rfl (HF.wy rfl rfl rfl rfl (decide_eq_false hb5)) rfl (fun a HF => ?_)
              refine wc_move HF nS rfl (HF.wy rfl rfl rfl rfl (decide_eq_false hb5)) rfl (fun a HF => ?_)
              obtain ⟨c3, hx6, h⟩ := obs h
              refine wc_index HF nS Try.underlying9 rfl rfl hx6 (HF.wy rfl rfl rfl rfl (decide_eq_false hb5)) rfl (fun a HF => ?_)
              refine wc_bin HF nS rfl rfl b_gt (HF.wy rfl rfl rfl rfl (decide_eq_false hb5)) rfl (fun a HF => ?_)
              refine wc_pick (b := false) HF nS rfl (decide_eq_false hb5) rfl rfl rfl (fun a HF => ?_)
              refine wc_end ?_
              refine then_n ?_
              by_cases hb6 : 57 < (c3.toNat : Int)
              · have h := (if_pos hb6).symm.trans h
                refine wp_if (b' := true) HF rfl (decide_eq_true hb6) ?_
                refine wp_seq ?_
                refine wc_text ?_
                refine wc_assign HF nS rfl rfl rfl (fun a HF => ?_)
                refine wc_assign HF nS rfl rfl rfl (fun a HF => ?_)
                refine wc_end ?_
                refine then_n ?_
                refine wp_ret ?_
                obtain rfl := Option.some.inj h
                have h := retL hk1
                have hj3 := Option.some.inj h
                obtain ⟨hi3, hj4⟩ := Prod.mk.inj hj3
                subst hi3
                subst hj4
                refine then_r (blk_r (then_r (then_r (blk_r (then_r (?_))))))
                refine bp_ret HF (res_two rfl HF rfl rfl) ?_
                exact ⟨rfl, HT⟩
              · have h := (if_neg hb6).symm.trans h
                refine wp_if (b' := false) HF rfl (decide_eq_false hb6) ?_
                refine wp_skip ?_
                refine then_n ?_
                refine wc_text ?_
                refine wc_move HF nS rfl rfl rfl (fun a HF => ?_)
                obtain ⟨hg2, h⟩ := grd h
                refine wc_bin HF nS rfl rfl (b_mul hg2) rfl rfl (fun a HF => ?_)
                refine wc_move HF nS rfl rfl rfl (fun a HF => ?_)
                refine wc_move HF nS rfl rfl rfl (fun a HF => ?_)
                obtain ⟨c4, hx7, h⟩ := obs h
                refine wc_index HF nS Try.underlying9 rfl rfl hx7 rfl rfl (fun a HF => ?_)
                refine wc_bin HF nS rfl rfl b_subu rfl rfl (fun a HF => ?_)
                refine wc_cvu HF nS Try.underlying3 Try.underlying5 rfl rfl rfl (fun a HF => ?_)
                obtain ⟨hg3, h⟩ := grd h
                refine wc_bin HF nS rfl rfl (b_add hg3) rfl rfl (fun a HF => ?_)
                refine wc_assign HF nS rfl rfl rfl (fun a HF => ?_)
                refine wc_end ?_
                refine blk_n ?_
                refine then_n ?_
                refine wc_text ?_
                refine wc_move HF nS rfl rfl rfl (fun a HF => ?_)
                obtain ⟨hg4, h⟩ := grd h
                refine wc_bin HF nS rfl rfl (b_add hg4) rfl rfl (fun a HF => ?_)
                refine wc_assign HF nS rfl rfl rfl (fun a HF => ?_)
                refine wc_end ?_
                exact then_n ⟨k1, Nat.lt_succ_self k1, (10 * z3) + ((b8 ((c4.toNat : Int) - 48)).toNat : Int), z4 + 1, h, (HF.keep (HF.keep (HF.keep (HF.keep HF.nil rfl) rfl) rfl) rfl), HT⟩
          · have h := (if_neg hb4).symm.trans h
            refine wp_if (b' := false) HF rfl (decide_eq_false hb4) ?_
            refine wp_exit ?_
            refine then_x (then_x (?_))
            refine blk_x ?_
            exact then_n ⟨z3, (Option.some.inj h).symm, (HF.keep (HF.keep (HF.keep HF.nil rfl) rfl) rfl), HT⟩
      · rintro a w ⟨z2, rfl, HF, HT⟩
        have h := brkL1u h
        refine ?_
        obtain ⟨z5, hx8, h⟩ := obs h
        refine wp_cut (fun a w => Fr a 55 [(0, sv x0), (5, .int .i64 z5)] ∧ St w0 (fun _ => False) w []) ?_ ?_
        · have hk1 := h
          have h := hx8
          refine wp_seq ?_
          refine wc_text ?_
          refine wc_move HF nS rfl rfl rfl (fun a HF => ?_)
          refine wc_bin HF nS rfl rfl b_eq rfl rfl (fun a HF => ?_)
          refine wc_end ?_
          refine then_n ?_
          by_cases hb7 : z1 = 1
          · have h := (if_pos hb7).symm.trans h
            refine wp_if (b' := true) HF rfl (decide_eq_true hb7) ?_
            refine wc_text ?_
            refine wc_move HF nS rfl rfl rfl (fun a HF => ?_)
            obtain ⟨hg5, h⟩ := grd h
            refine wc_neg HF nS rfl hg5 rfl rfl (fun a HF => ?_)
            refine wc_assign HF nS rfl rfl rfl (fun a HF => ?_)
            refine wc_end ?_
            obtain rfl := Option.some.inj h
            exact then_n ⟨(HF.keep (HF.keep HF.nil rfl) rfl), HT⟩
          · have h := (if_neg hb7).symm.trans h
            refine wp_if (b' := false) HF rfl (decide_eq_false hb7) ?_
            refine wp_skip ?_
            obtain rfl := Option.some.inj h
            exact then_n ⟨(HF.keep (HF.keep HF.nil rfl) rfl), HT⟩
        · rintro a w ⟨HF, HT⟩
          refine ?_
          refine wp_seq ?_
          refine wp_seq ?_
          refine wc_text ?_
          refine wc_move HF nS rfl rfl rfl (fun a HF => ?_)
          obtain ⟨y2, hx9, h⟩ := obs h
          refine wc_call HF cf25 rfl (w_impl_Dec fuel hx9) rfl rfl ?_
          rintro e w ⟨rfl, hE⟩
          have hb := hE.below
          have HT := HT.pure hE
          have HT : St w0 (fun _ => False) w [] := HT
          refine ⟨_, rfl, nS, fun a HF => ?_⟩
          refine wc_move HF nS rfl rfl rfl (fun a HF => ?_)
          refine wc_bin HF nS rfl rfl b_sne rfl rfl (fun a HF => ?_)
          refine wc_end ?_
          refine then_n ?_
          by_cases hb8 : y2 = x0
          · have h := (if_pos hb8).symm.trans h
            refine wp_if (b' := false) HF rfl (notT (decide_eq_true hb8)) ?_
            refine wp_skip ?_
            refine then_n ?_
            refine wp_seq ?_
            refine wc_text ?_
            refine wc_move HF nS rfl rfl rfl (fun a HF => ?_)
            refine wc_assign HF nS rfl rfl rfl (fun a HF => ?_)
            refine wc_assign HF nS rfl rfl rfl (fun a HF => ?_)
            refine wc_end ?_
            refine then_n ?_
            refine wp_ret ?_
            have hj5 := Option.some.inj h
            obtain ⟨hi5, hj6⟩ := Prod.mk.inj hj5
            subst hi5
            subst hj6
            refine bp_ret HF (res_two rfl HF rfl rfl) ?_
            exact ⟨rfl, HT⟩
          · have h := (if_neg hb8).symm.trans h
            refine wp_if (b' := true) HF rfl (notF (decide_eq_false hb8)) ?_
            refine wp_seq ?_
            refine wc_text ?_
            refine wc_assign HF nS rfl rfl rfl (fun a HF => ?_)
            refine wc_assign HF nS rfl rfl rfl (fun a HF => ?_)
            refine wc_end ?_
            refine then_n ?_
            refine wp_ret ?_
            have hj7 := Option.some.inj h
            obtain ⟨hi7, hj8⟩ := Prod.mk.inj hj7
            subst hi7
            subst hj8
            refine then_r (?_)
            refine bp_ret HF (res_two rfl HF rfl rfl) ?_
            exact ⟨rfl, HT⟩
    · have h := (if_neg hb3).symm.trans h
      refine wp_if (b' := true) HF rfl (notF (Bool.eq_false_iff.2 hb3)) ?_
      refine wp_seq ?_
      refine wc_text ?_
      refine wc_assign HF nS rfl rfl rfl (fun a HF => ?_)
      refine wc_assign HF nS rfl rfl rfl (fun a HF => ?_)
      refine wc_end ?_
      refine then_n ?_
      refine wp_ret ?_
      have hj9 := Option.some.inj h
      obtain ⟨hi9, hj10⟩ := Prod.mk.inj hj9
      subst hi9
      subst hj10
      refine then_r (?_)
      refine bp_ret HF (res_two rfl HF rfl rfl) ?_
      exact ⟨rfl, HT⟩

def m_spec_Dec_L0 (fuel : Nat) : Nat → Int → Str → Option Str
  | 0, _, _ => none
  | k1 + 1, z2, z3 =>
    if z2 = 0 then
      some z3
    else
      if (10 : Int) ≠ 0 then
        (
          if (z2.tmod 10) < 0 then
            if in64 (0 - (z2.tmod 10)) then
              some (0 - (z2.tmod 10))
            else none
          else
            some (z2.tmod 10)).bind fun z4 =>
        if in64 (48 + z4) then
          if ((([b8 (48 + z4)] : List UInt8).length + z3.length : Nat) : Int) ≤ 9223372036854775807 then
            if (10 : Int) ≠ 0 ∧ in64 (z2.tdiv 10) then
              m_spec_Dec_L0 fuel k1 (z2.tdiv 10) (([b8 (48 + z4)] : List UInt8) ++ z3)
            else none
          else none
        else none
      else none

def m_spec_Dec (fuel : Nat) (x0 : Int) : Option Str :=
  if x0 = 0 then
    some [48]
  else
    (m_spec_Dec_L0 fuel fuel x0 []).bind fun z1 =>
    if x0 < 0 then
      if (([45].length + z1.length : Nat) : Int) ≤ 9223372036854775807 then
        some ([45] ++ z1)
      else none
    else
      some z1

set_option maxRecDepth 100000 in
set_option maxHeartbeats 4000000 in
theorem w_spec_Dec (fuel : Nat) {x0 : Int} {r0 : Str} {w0 : World} (h : m_spec_Dec fuel x0 = some r0) :
    Calls Try.prog 24 #[.int .i64 x0] w0 fun e w => e = .returned (sv r0) ∧ St w0 (fun _ => False) w [] := by
  have HT : St w0 (fun _ => False) w0 [] := St.init0
  rw [m_spec_Dec] at h
  refine calls_fr (n := 31) [.int .i64 x0] Try.func24 rfl rfl rfl (fun a HF => ?_)
  have HT : St w0 (fun _ => False) w0 [] := HT
  refine wp_seq ?_
  refine wc_text ?_
  refine wc_assign HF nS rfl rfl rfl (fun a HF => ?_)
  refine wc_end ?_
  refine then_n ?_
  refine wp_seq ?_
  refine wp_seq ?_
  refine wc_text ?_
  refine wc_move HF nS rfl rfl rfl (fun a HF => ?_)
  refine wc_bin HF nS rfl rfl b_eq rfl rfl (fun a HF => ?_)
  refine wc_end ?_
  refine then_n ?_
  by_cases hb1 : x0 = 0
  · have h := (if_pos hb1).symm.trans h
    refine wp_if (b' := true) HF rfl (decide_eq_true hb1) ?_
    refine wp_seq ?_
    refine wc_text ?_
    refine wc_assign HF nS rfl rfl rfl (fun a HF => ?_)
    refine wc_end ?_
    refine then_n ?_
    refine wp_ret ?_
    obtain rfl := Option.some.inj h
    refine then_r (?_)
    refine bp_ret HF (res_one rfl HF rfl) ?_
    exact ⟨rfl, HT⟩
  · have h := (if_neg hb1).symm.trans h
    refine wp_if (b' := false) HF rfl (decide_eq_false hb1) ?_
    refine wp_skip ?_
    refine then_n ?_
    refine wp_seq ?_
    refine wc_text ?_
    refine wc_assign HF nS rfl rfl rfl (fun a HF => ?_)
    refine wc_end ?_
    refine then_n ?_
    refine wp_seq ?_
    refine wc_text ?_
    refine wc_move HF nS rfl rfl rfl (fun a HF => ?_)
    refine wc_bin HF nS rfl rfl b_lt rfl rfl (fun a HF => ?_)
    refine wc_assign HF nS rfl rfl rfl (fun a HF => ?_)
    refine wc_end ?_
    refine then_n ?_
    obtain ⟨z1, hx1, h⟩ := obs h
    refine wp_cut (fun a w => Fr a 31 [(3, sv z1), (4, .bool (decide (x0 < 0)))] ∧ St w0 (fun _ => False) w []) ?_ ?_
    · have hk1 := h
      have h := hx1
      refine wp_block ?_
      refine wp_loopN (fun k1 a w => ∃ z2 z3, m_spec_Dec_L0 fuel k1 z2 z3 = some z1 ∧ Fr a 31 [(0, .int .i64 z2), (3, sv z3), (4, .bool (decide (x0 < 0)))] ∧ St w0 (fun _ => False) w []) fuel ⟨x0, [], h, (HF.keep (HF.keep (HF.keep HF.nil rfl) rfl) rfl), HT⟩ ?_
      rintro k1 a w ⟨z2, z3, h, HF, HT⟩
      cases k1 with
      | zero => cases h
      | succ k1 =>
        rw [m_spec_Dec_L0] at h
        refine ?_
        refine wp_seq ?_
        refine wp_seq ?_
        refine wc_text ?_
        refine wc_move HF nS rfl rfl rfl (fun a HF => ?_)
        refine wc_bin HF nS rfl rfl b_ne rfl rfl (fun a HF => ?_)
        refine wc_end ?_
        refine then_n ?_
        by_cases hb2 : z2 = 0
        · have h := (if_pos hb2).symm.trans h
          refine wp_if (b' := false) HF rfl (notT (decide_eq_true hb2)) ?_
          refine wp_exit ?_
          refine then_x (then_x (?_))
          refine blk_x ?_
          obtain rfl := Option.some.inj h
          exact then_n ⟨(HF.keep (HF.keep HF.nil rfl) rfl), HT⟩
        · have h := (if_neg hb2).symm.trans h
          refine wp_if (b' := true) HF rfl (notF (decide_eq_false hb2)) ?_
          refine wp_skip ?_
          refine then_n ?_
          refine wp_block ?_
          refine wp_seq ?_
          refine wc_text ?_
          refine wc_move HF nS rfl rfl rfl (fun a HF => ?_)
          obtain ⟨hg1, h⟩ := grd h
          refine wc_bin HF nS rfl rfl (b_rem hg1) rfl rfl (fun a HF => ?_)
          refine wc_assign HF nS rfl rfl rfl (fun a HF => ?_)
          refine wc_end ?_
          refine then_n ?_
          obtain ⟨z4, hx2, h⟩ := obs h
          refine wp_cut (fun a w => Fr a 31 [(0, .int .i64 z2), (3, sv z3), (4, .bool (decide (x0 < 0))), (5, .int .i64 z4)] ∧ St w0 (fun _ => False) w []) ?_ ?_
          · have hk2 := h
            have h := hx2
            refine wp_seq ?_
            refine wc_text ?_
            refine wc_move HF nS rfl rfl rfl (fun a HF => ?_)
            refine wc_bin HF nS rfl rfl b_lt rfl rfl (fun a HF => ?_)
            refine wc_end ?_
            refine then_n ?_
            by_cases hb3 : (z2.tmod 10) < 0
            · have h := (if_pos hb3).symm.trans h
              refine wp_if (b' := true) HF rfl (decide_eq_true hb3) ?_
              refine wc_text ?_
              refine wc_move HF nS rfl rfl rfl (fun a HF => ?_)
              obtain ⟨hg2, h⟩ := grd h
              refine wc_neg HF nS rfl hg2 rfl rfl (fun a HF => ?_)
              refine wc_assign HF nS rfl rfl rfl (fun a HF => ?_)
              refine wc_end ?_
              obtain rfl := Option.some.inj h
              exact then_n ⟨(HF.keep (HF.keep (HF.keep (HF.keep HF.nil rfl) rfl) rfl) rfl), HT⟩
            · have h := (if_neg hb3).symm.trans h
              refine wp_if (b' := false) HF rfl (decide_eq_false hb3) ?_
              refine wp_skip ?_
              obtain rfl := Option.some.inj h
              exact then_n ⟨(HF.keep (HF.keep (HF.keep (HF.keep HF.nil rfl) rfl) rfl) rfl), HT⟩
          · rintro a w ⟨HF, HT⟩
            refine ?_
            refine wp_seq ?_
            refine wc_text ?_
            refine wc_move HF nS rfl rfl rfl (fun a HF => ?_)
            obtain ⟨hg3, h⟩ := grd h
            refine wc_bin HF nS rfl rfl (b_add hg3) rfl rfl (fun a HF => ?_)
            refine wc_cvb HF nS Try.underlying5 Try.underlying3 rfl rfl rfl (fun a HF => ?_)
            refine wc_bslice (l := ([b8 (48 + z4)] : List UInt8)) (cs := [.int .u8 ((b8 (48 + z4)).toNat : Int)]) (A := []) HF HT bs38_1 rfl rfl (gives_flat rfl) rfl (by decide) rfl rfl (fun p1 w HT hb => ⟨nS, fun a HF => ?_⟩)
            refine wc_cvs HF nS Try.underlying38 Try.underlying5 Try.underlying9 rfl (HT.rdAt 0 rfl) rfl rfl (fun a HF => ?_)
            refine wc_move HF nS rfl rfl rfl (fun a HF => ?_)
            obtain ⟨hg4, h⟩ := grd h
            refine wc_bin HF nS rfl rfl (b_cat hg4) rfl rfl (fun a HF => ?_)
            refine wc_assign HF nS rfl rfl rfl (fun a HF => ?_)
            refine wc_end ?_
            refine then_n ?_
            refine wc_text ?_
            refine wc_move HF nS rfl rfl rfl (fun a HF => ?_)
            obtain ⟨hg5, h⟩ := grd h
            refine wc_bin HF nS rfl rfl (b_quo hg5) rfl rfl (fun a HF => ?_)
            refine wc_assign HF nS rfl rfl rfl (fun a HF => ?_)
            refine wc_end ?_
            refine blk_n ?_
            have HT : St w0 (fun _ => False) w [] := HT.take 0
            exact then_n ⟨k1, Nat.lt_succ_self k1, z2.tdiv 10, ([b8 (48 + z4)] : List UInt8) ++ z3, h, (HF.keep (HF.keep (HF.keep HF.nil rfl) rfl) rfl), HT⟩
    · rintro a w ⟨HF, HT⟩
      refine ?_
      refine wp_seq ?_
      refine wp_seq ?_
      refine wc_text ?_
      refine wc_move HF nS rfl rfl rfl (fun a HF => ?_)
      refine wc_end ?_
      refine then_n ?_
      by_cases hb4 : x0 < 0
      · have h := (if_pos hb4).symm.trans h
        refine wp_if (b' := true) HF rfl (decide_eq_true hb4) ?_
        refine wp_seq ?_
        refine wc_text ?_
        refine wc_move HF nS rfl rfl rfl (fun a HF => ?_)
        obtain ⟨hg6, h⟩ := grd h
        refine wc_bin HF nS rfl rfl (b_cat hg6) rfl rfl (fun a HF => ?_)
        refine wc_assign HF nS rfl rfl rfl (fun a HF => ?_)
        refine wc_end ?_
        refine then_n ?_
        refine wp_ret ?_
        obtain rfl := Option.some.inj h
        refine then_r (?_)
        refine bp_ret HF (res_one rfl HF rfl) ?_
        exact ⟨rfl, HT⟩
      · have h := (if_neg hb4).symm.trans h
        refine wp_if (b' := false) HF rfl (decide_eq_false hb4) ?_
        refine wp_skip ?_
        refine then_n ?_
        refine wp_seq ?_
        refine wc_text ?_
        refine wc_move HF nS rfl rfl rfl (fun a HF => ?_)
        refine wc_assign HF nS rfl rfl rfl (fun a HF => ?_)
        refine wc_end ?_
        refine then_n ?_
        refine wp_ret ?_
        obtain rfl := Option.some.inj h
        refine bp_ret HF (res_one rfl HF rfl) ?_
        exact ⟨rfl, HT⟩

def m_spec_ReadDec_L0 (fuel : Nat) (x0 : Str) : Nat → Int → Int → Int → Option (Int × Int)
  | 0, _, _, _ => none
  | k1 + 1, z3, z4, z5 =>
    if z5 < (x0.length : Int) then
      if z5 < 11 then
        bind2 (
          (at? x0 z5).bind fun c1 =>
          if 48 ≤ (c1.toNat : Int) then
            (at? x0 z5).bind fun c2 =>
            if (c2.toNat : Int) ≤ 57 then
              if in64 (z3 * 10) then
                (at? x0 z5).bind fun c3 =>
                if in64 ((z3 * 10) + ((b8 ((c3.toNat : Int) - 48)).toNat : Int)) then
                  if in64 (z4 + 1) then
                    some ((z3 * 10) + ((b8 ((c3.toNat : Int) - 48)).toNat : Int), z4 + 1)
                  else none
                else none
              else none
            else
              some (z3, z4)
          else
            some (z3, z4)) fun z6 z7 =>
        if in64 (z5 + 1) then
          m_spec_ReadDec_L0 fuel x0 k1 z6 z7 (z5 + 1)
        else none
      else
        some (z3, z4)
    else
      some (z3, z4)

def m_spec_ReadDec (fuel : Nat) (x0 : Str) : Option (Int × Bool) :=
  bind2 (m_spec_ReadDec_L0 fuel x0 fuel 0 0 0) fun z1 z2 =>
  (
    if 0 < (x0.length : Int) then
      (at? x0 0).bind fun c4 =>
      if (c4.toNat : Int) = 45 then
        if in64 (0 - z1) then
          some (0 - z1)
        else none
      else
        some z1
    else
      some z1).bind fun z8 =>
  if 9 < z2 then
    some (0, false)
  else
    if 10 < (x0.length : Int) then
      some (0, false)
    else
      (m_spec_Dec fuel z8).bind fun y1 =>
      if y1 = x0 then
        some (z8, true)
      else
        some (0, false)

set_option maxRecDepth 100000 in
set_option maxHeartbeats 4000000 in
theorem w_spec_ReadDec (fuel : Nat) {x0 : Str} {r0 : Int} {r1 : Bool} {w0 : World} (h : m_spec_ReadDec fuel x0 = some (r0, r1)) :
    Calls Try.prog 30 #[sv x0] w0 fun e w => e = .returned (.tuple #[.int .i64 r0, .bool r1]) ∧ St w0 (fun _ => False) w [] := by
  have HT : St w0 (fun _ => False) w0 [] := St.init0
  rw [m_spec_ReadDec] at h
  refine calls_fr (n := 61) [sv x0] Try.func30 rfl rfl rfl (fun a HF => ?_)
  have HT : St w0 (fun _ => False) w0 [] := HT
  refine wp_seq ?_
  refine wc_text ?_
  refine wc_assign HF nS rfl rfl rfl (fun a HF => ?_)
  refine wc_assign HF nS rfl rfl rfl (fun a HF => ?_)
  refine wc_end ?_
  refine then_n ?_
  refine wp_seq ?_
  refine wc_text ?_
  refine wc_assign HF nS rfl rfl rfl (fun a HF => ?_)
  refine wc_end ?_
  refine then_n ?_
  refine wp_seq ?_
  refine wc_text ?_
  refine wc_assign HF nS rfl rfl rfl (fun a HF => ?_)
  refine wc_end ?_
  refine then_n ?_
  obtain ⟨z1, z2, hx1, h⟩ := obs2 h
  refine wp_cut (fun a w => Fr a 61 [(0, sv x0), (4, .int .i64 z1), (5, .int .i64 z2)] ∧ St w0 (fun _ => False) w []) ?_ ?_
  · have hk1 := h
    have h := hx1
    refine wp_seq ?_
    refine wc_text ?_
    refine wc_assign HF nS rfl rfl rfl (fun a HF => ?_)
    refine wc_end ?_
    refine then_n ?_
    refine wp_block ?_
    refine wp_loopN (fun k1 a w => ∃ z3 z4 z5, m_spec_ReadDec_L0 fuel x0 k1 z3 z4 z5 = some (z1, z2) ∧ Fr a 61 [(0, sv x0), (4, .int .i64 z3), (5, .int .i64 z4), (6, .int .i64 z5)] ∧ St w0 (fun _ => False) w []) fuel ⟨0, 0, 0, h, (HF.keep (HF.keep (HF.keep (HF.keep HF.nil rfl) rfl) rfl) rfl), HT⟩ ?_
    rintro k1 a w ⟨z3, z4, z5, h, HF, HT⟩
    cases k1 with
    | zero => cases h
    | succ k1 =>
      rw [m_spec_ReadDec_L0] at h
      refine ?_
      refine wp_seq ?_
      refine wp_seq ?_
      refine wc_text ?_
      refine wc_move HF nS rfl rfl rfl (fun a HF => ?_)
      refine wc_move HF nS rfl rfl rfl (fun a HF => ?_)
      refine wc_lenS (ats := #[]) HF nS Try.underlying9 rfl rfl rfl (fun a HF => ?_)
      refine wc_bin HF nS rfl rfl b_lt rfl rfl (fun a HF => ?_)
      refine wc_move HF nS rfl rfl rfl (fun a HF => ?_)
      by_cases hb1 : z5 < (x0.length : Int)
      · have h := (if_pos hb1).symm.trans h
        refine wc_move HF nS rfl (HF.wy rfl rfl rfl rfl (decide_eq_true hb1)) rfl (fun a HF => ?_)
        refine wc_bin HF nS rfl rfl b_lt (HF.wy rfl rfl rfl rfl (decide_eq_true hb1)) rfl (fun a HF => ?_)
        refine wc_pick (b := true) HF nS rfl (decide_eq_true hb1) rfl rfl rfl (fun a HF => ?_)
        refine wc_end ?_
        refine then_n ?_
        by_cases hb2 : z5 < 11
        · have h := (if_pos hb2).symm.trans h
          refine wp_if (b' := true) HF rfl (decide_eq_true hb2) ?_
          refine wp_skip ?_
          refine then_n ?_
          obtain ⟨z6, z7, hx2, h⟩ := obs2 h
          refine wp_cut (fun a w => Fr a 61 [(0, sv x0), (4, .int .i64 z6), (5, .int .i64 z7), (6, .int .i64 z5)] ∧ St w0 (fun _ => False) w []) ?_ ?_
          · have hk2 := h
            have h := hx2
            refine wp_block ?_
            refine wp_seq ?_
            refine wc_text ?_
            refine wc_move HF nS rfl rfl rfl (fun a HF => ?_)
            refine wc_move HF nS rfl rfl rfl (fun a HF => ?_)
            obtain ⟨c1, hx3, h⟩ := obs h
            refine wc_index HF nS Try.underlying9 rfl rfl hx3 rfl rfl (fun a HF => ?_)
            refine wc_bin HF nS rfl rfl b_ge rfl rfl (fun a HF => ?_)
            refine wc_move HF nS rfl rfl rfl (fun a HF => ?_)
            by_cases hb3 : 48 ≤ (c1.toNat : Int)
            · have h := (if_pos hb3).symm.trans h
              refine wc_move HF nS rfl (HF.wy rfl rfl rfl rfl (decide_eq_true hb3)) rfl (fun a HF => ?_)
              refine wc_move HF nS rfl (HF.wy rfl rfl rfl rfl (decide_eq_true hb3)) rfl (fun a HF => ?_)
              obtain ⟨c2, hx4, h⟩ := obs h
              refine wc_index HF nS Try.underlying9 rfl rfl hx4 (HF.wy rfl rfl rfl rfl (decide_eq_true hb3)) rfl (fun a HF => ?_)
              refine wc_bin HF nS rfl rfl b_le (HF.wy rfl rfl rfl rfl (decide_eq_true hb3)) rfl (fun a HF => ?_)
              refine wc_pick (b := true) HF nS rfl (decide_eq_true hb3) rfl rfl rfl (fun a HF => ?_)
              refine wc_end ?_
              refine then_n ?_
              by_cases hb4 : (c2.toNat : Int) ≤ 57
              · have h := (if_pos hb4).symm.trans h
                refine wp_if (b' := true) HF rfl (decide_eq_true hb4) ?_
                refine wp_seq ?_
                refine wc_text ?_
                refine wc_move HF nS rfl rfl rfl (fun a HF => ?_)
                obtain ⟨hg1, h⟩ := grd h
                refine wc_bin HF nS rfl rfl (b_mul hg1) rfl rfl (fun a HF => ?_)
                refine wc_move HF nS rfl rfl rfl (fun a HF => ?_)
                refine wc_move HF nS rfl rfl rfl (fun a HF => ?_)
                obtain ⟨c3, hx5, h⟩ := obs h
                refine wc_index HF nS Try.underlying9 rfl rfl hx5 rfl rfl (fun a HF => ?_)
                refine wc_bin HF nS rfl rfl b_subu rfl rfl (fun a HF => ?_)
                refine wc_cvu HF nS Try.underlying3 Try.underlying5 rfl rfl rfl (fun a HF => ?_)
                obtain ⟨hg2, h⟩ := grd h
                refine wc_bin HF nS rfl rfl (b_add hg2) rfl rfl (fun a HF => ?_)
                refine wc_assign HF nS rfl rfl rfl (fun a HF => ?_)
                refine wc_end ?_
                refine then_n ?_
                refine wc_text ?_
                refine wc_move HF nS rfl rfl rfl (fun a HF => ?_)
                obtain ⟨hg3, h⟩ := grd h
                refine wc_bin HF nS rfl rfl (b_add hg3) rfl rfl (fun a HF => ?_)
                refine wc_assign HF nS rfl rfl rfl (fun a HF => ?_)
                refine wc_end ?_
                refine blk_n ?_
                have hj1 := Option.some.inj h
                obtain ⟨hi1, hj2⟩ := Prod.mk.inj hj1
                subst hi1
                subst hj2
                exact then_n ⟨(HF.keep (HF.keep (HF.keep (HF.keep HF.nil rfl) rfl) rfl) rfl), HT⟩
              · have h := (if_neg hb4).symm.trans h
                refine wp_if (b' := false) HF rfl (decide_eq_false hb4) ?_
                refine wp_skip ?_
                refine blk_n ?_
                have hj3 := Option.some.inj h
                obtain ⟨hi3, hj4⟩ := Prod.mk.inj hj3
                subst hi3
                subst hj4
                exact then_n ⟨(HF.keep (HF.keep (HF.keep (HF.keep HF.nil rfl) rfl) rfl) rfl), HT⟩
            · have h := (if_neg hb3).symm.trans h
              refine wc_skip HF nS (HF.wn rfl rfl rfl rfl (decide_eq_false hb3)) rfl (fun a HF => ?_)
              refine wc_skip HF nS (HF.wn rfl rfl rfl rfl (decide_eq_false hb3)) rfl (fun a HF => ?_)
              refine wc_skip HF nS (HF.wn rfl rfl rfl rfl (decide_eq_false hb3)) rfl (fun a HF => ?_)
              refine wc_skip HF nS (HF.wn rfl rfl rfl rfl (decide_eq_false hb3)) rfl (fun a HF => ?_)
              refine wc_pick (b := false) HF nS rfl (decide_eq_false hb3) rfl rfl rfl (fun a HF => ?_)
              refine wc_end ?_
              refine then_n ?_
              refine wp_if (b' := false) HF rfl rfl ?_
              refine wp_skip ?_
              refine blk_n ?_
              have hj5 := Option.some.inj h
              obtain ⟨hi5, hj6⟩ := Prod.mk.inj hj5
              subst hi5
              subst hj6
              exact then_n ⟨(HF.keep (HF.keep (HF.keep (HF.keep HF.nil rfl) rfl) rfl) rfl), HT⟩
          · rintro a w ⟨HF, HT⟩
            refine ?_
            refine wc_text ?_
            refine wc_move HF nS rfl rfl rfl (fun a HF => ?_)
            obtain ⟨hg4, h⟩ := grd h
            refine wc_bin HF nS rfl rfl (b_add hg4) rfl rfl (fun a HF => ?_)
            refine wc_assign HF nS rfl rfl rfl (fun a HF => ?_)
            refine wc_end ?_
            exact then_n ⟨k1, Nat.lt_succ_self k1, z6, z7, z5 + 1, h, (HF.keep (HF.keep (HF.keep (HF.keep HF.nil rfl) rfl) rfl) rfl), HT⟩
        · have h := (if_neg hb2).symm.trans h
          refine wp_if (b' := false) HF rfl (decide_eq_false hb2) ?_
          refine wp_exit ?_
          refine then_x (then_x (?_))
          refine blk_x ?_
          have hj7 := Option.some.inj h
          obtain ⟨hi7, hj8⟩ := Prod.mk.inj hj7
          subst hi7
          subst hj8
          exact then_n ⟨(HF.keep (HF.keep (HF.keep HF.nil rfl) rfl) rfl), HT⟩
      · have h := (if_neg hb1).symm.trans h
        refine wc_skip HF nS (HF.wn rfl rfl rfl rfl (decide_eq_false hb1)) rfl (fun a HF => ?_)
        refine wc_skip HF nS (HF.wn rfl rfl rfl rfl (decide_eq_false hb1)) rfl (fun a HF => ?_)
        refine wc_pick (b := false) HF nS rfl (decide_eq_false hb1) rfl rfl rfl (fun a HF => ?_)
        refine wc_end ?_
        refine then_n ?_
        refine wp_if (b' := false) HF rfl rfl ?_
        refine wp_exit ?_
        refine then_x (then_x (?_))
        refine blk_x ?_
        have hj9 := Option.some.inj h
        obtain ⟨hi9, hj10⟩ := Prod.mk.inj hj9
        subst hi9
        subst hj10
        exact then_n ⟨(HF.keep (HF.keep (HF.keep HF.nil rfl) rfl) rfl), HT⟩
  · rintro a w ⟨HF, HT⟩
    refine ?_
    obtain ⟨z8, hx6, h⟩ := obs h
    refine wp_cut (fun a w => Fr a 61 [(0, sv x0), (4, .int .i64 z8), (5, .int .i64 z2)] ∧ St w0 (fun _ => False) w []) ?_ ?_
    · have hk1 := h
      have h := hx6
      refine wp_seq ?_
      refine wc_text ?_
      refine wc_move HF nS rfl rfl rfl (fun a HF => ?_)
      refine wc_lenS (ats := #[]) HF nS Try.underlying9 rfl rfl rfl (fun a HF => ?_)
      refine wc_bin HF nS rfl rfl b_gt rfl rfl (fun a HF => ?_)
      refine wc_move HF nS rfl rfl rfl (fun a HF => ?_)
      by_cases hb5 : 0 < (x0.length : Int)
      · have h := (if_pos hb5).symm.trans h
        refine wc_move HF nS rfl (HF.wy rfl rfl rfl rfl (decide_eq_true hb5)) rfl (fun a HF => ?_)
        obtain ⟨c4, hx7, h⟩ := obs h
        refine wc_index HF nS Try.underlying9 rfl rfl hx7 (HF.wy rfl rfl rfl rfl (decide_eq_true hb5)) rfl (fun a HF => ?_)
        refine wc_bin HF nS rfl rfl b_eq (HF.wy rfl rfl rfl rfl (decide_eq_true hb5)) rfl (fun a HF => ?_)
        refine wc_pick (b := true) HF nS rfl (decide_eq_true hb5) rfl rfl rfl (fun a HF => ?_)
        refine wc_end ?_
        refine then_n ?_
        by_cases hb6 : (c4.toNat : Int) = 45
        · have h := (if_pos hb6).symm.trans h
          refine wp_if (b' := true) HF rfl (decide_eq_true hb6) ?_
          refine wc_text ?_
          refine wc_move HF nS rfl rfl rfl (fun a HF => ?_)
          obtain ⟨hg5, h⟩ := grd h
          refine wc_neg HF nS rfl hg5 rfl rfl (fun a HF => ?_)
          refine wc_assign HF nS rfl rfl rfl (fun a HF => ?_)
          refine wc_end ?_
          obtain rfl := Option.some.inj h
          exact then_n ⟨(HF.keep (HF.keep (HF.keep HF.nil rfl) rfl) rfl), HT⟩
        · have h := (if_neg hb6).symm.trans h
          refine wp_if (b' := false) HF rfl (decide_eq_false hb6) ?_
          refine wp_skip ?_
          obtain rfl := Option.some.inj h
          exact then_n ⟨(HF.keep (HF.keep (HF.keep HF.nil rfl) rfl) rfl), HT⟩
      · have h := (if_neg hb5).symm.trans h
        refine wc_skip HF nS (HF.wn rfl rfl rfl rfl (decide_eq_false hb5)) rfl (fun a HF => ?_)
        refine wc_skip HF nS (HF.wn rfl rfl rfl rfl (decide_eq_false hb5)) rfl (fun a HF => ?_)
        refine wc_skip HF nS (HF.wn rfl rfl rfl rfl (decide_eq_false hb5)) rfl (fun a HF => ?_)
        refine wc_pick (b := false) HF nS rfl (decide_eq_false hb5) rfl rfl rfl (fun a HF => ?_)
        refine wc_end ?_
        refine then_n ?_
        refine wp_if (b' := false) HF rfl rfl ?_
        refine wp_skip ?_
        obtain rfl := Option.some.inj h
        exact then_n ⟨(HF.keep (HF.keep (HF.keep HF.nil rfl) rfl) rfl), HT⟩
    · rintro a w ⟨HF, HT⟩
      refine ?_
      refine wp_seq ?_
      refine wp_seq ?_
      refine wc_text ?_
      refine wc_move HF nS rfl rfl rfl (fun a HF => ?_)
      refine wc_bin HF nS rfl rfl b_gt rfl rfl (fun a HF => ?_)
      refine wc_move HF nS rfl rfl rfl (fun a HF => ?_)
      by_cases hb7 : 9 < z2
      · have h := (if_pos hb7).symm.trans h
        refine wc_skip HF nS (HF.wn rfl rfl rfl rfl (decide_eq_true hb7)) rfl (fun a HF => ?_)
        refine wc_skip HF nS (HF.wn rfl rfl rfl rfl (decide_eq_true hb7)) rfl (fun a HF => ?_)
        refine wc_skip HF nS (HF.wn rfl rfl rfl rfl (decide_eq_true hb7)) rfl (fun a HF => ?_)
        refine wc_pick (b := true) HF nS rfl (decide_eq_true hb7) rfl rfl rfl (fun a HF => ?_)
        refine wc_move HF nS rfl rfl rfl (fun a HF => ?_)
        refine wc_skip HF nS (HF.wn rfl rfl rfl rfl rfl) rfl (fun a HF => ?_)
        refine wc_skip HF nS (HF.wn rfl rfl rfl rfl rfl) rfl (fun a HF => ?_)
        refine wc_skip HF nS (HF.wn rfl rfl rfl rfl rfl) rfl (fun a HF => ?_)
        refine wc_skip HF nS (HF.wn rfl rfl rfl rfl rfl) rfl (fun a HF => ?_)
        refine wc_pick (b := true) HF nS rfl rfl rfl rfl rfl (fun a HF => ?_)
        refine wc_end ?_
        refine then_n ?_
        refine wp_if (b' := true) HF rfl rfl ?_
        refine wp_seq ?_
        refine wc_text ?_
        refine wc_assign HF nS rfl rfl rfl (fun a HF => ?_)
        refine wc_assign HF nS rfl rfl rfl (fun a HF => ?_)
        refine wc_end ?_
        refine then_n ?_
        refine wp_ret ?_
        have hj11 := Option.some.inj h
        obtain ⟨hi11, hj12⟩ := Prod.mk.inj hj11
        subst hi11
        subst hj12
        refine then_r (?_)
        refine bp_ret HF (res_two rfl HF rfl rfl) ?_
        exact ⟨rfl, HT⟩
      · have h := (if_neg hb7).symm.trans h
        refine wc_move HF nS rfl (HF.wy rfl rfl rfl rfl (decide_eq_false hb7)) rfl (fun a HF => ?_)
        refine wc_lenS (ats := #[]) HF nS Try.underlying9 rfl (HF.wy rfl rfl rfl rfl (decide_eq_false hb7)) rfl (fun a HF => ?_)
        refine wc_bin HF nS rfl rfl b_gt (HF.wy rfl rfl rfl rfl (decide_eq_false hb7)) rfl (fun a HF => ?_)
        refine wc_pick (b := false) HF nS rfl (decide_eq_false hb7) rfl rfl rfl (fun a HF => ?_)
        refine wc_move HF nS rfl rfl rfl (fun a HF => ?_)
        by_cases hb8 : 10 < (x0.length : Int)
        · have h := (if_pos hb8).symm.trans h
          refine wc_skip HF nS (HF.wn rfl rfl rfl rfl (decide_eq_true hb8)) rfl (fun a HF => ?_)
          refine wc_skip HF nS (HF.wn rfl rfl rfl rfl (decide_eq_true hb8)) rfl (fun a HF => ?_)
          refine wc_skip HF nS (HF.wn rfl rfl rfl rfl (decide_eq_true hb8)) rfl (fun a HF => ?_)
          refine wc_skip HF nS (HF.wn rfl rfl rfl rfl (decide_eq_true hb8)) rfl (fun a HF => ?_)
          refine wc_pick (b := true) HF nS rfl (decide_eq_true hb8) rfl rfl rfl (fun a HF => ?_)
          refine wc_end ?_
          refine then_n ?_
          refine wp_if (b' := true) HF rfl rfl ?_
          refine wp_seq ?_
          refine wc_text ?_
          refine wc_assign HF nS rfl rfl rfl (fun a HF => ?_)
          refine wc_assign HF nS rfl rfl rfl (fun a HF => ?_)
          refine wc_end ?_
          refine then_n ?_
          refine wp_ret ?_
          have hj13 := Option.some.inj h
          obtain ⟨hi13, hj14⟩ := Prod.mk.inj hj13
          subst hi13
          subst hj14
          refine then_r (?_)
          refine bp_ret HF (res_two rfl HF rfl rfl) ?_
          exact ⟨rfl, HT⟩
        · have h := (if_neg hb8).symm.trans h
          refine wc_move HF nS rfl (HF.wy rfl rfl rfl rfl (decide_eq_false hb8)) rfl (fun a HF => ?_)
          obtain ⟨y1, hx8, h⟩ := obs h
          refine wc_call HF cf24 rfl (w_spec_Dec fuel hx8) (HF.wy rfl rfl rfl rfl (decide_eq_false hb8)) rfl ?_
          rintro e w ⟨rfl, hE⟩
          have hb := hE.below
          have HT := HT.pure hE
          have HT : St w0 (fun _ => False) w [] := HT
          refine ⟨_, rfl, nS, fun a HF => ?_⟩
          refine wc_move HF nS rfl (HF.wy rfl rfl rfl rfl (decide_eq_false hb8)) rfl (fun a HF => ?_)
          refine wc_bin HF nS rfl rfl b_sne (HF.wy rfl rfl rfl rfl (decide_eq_false hb8)) rfl (fun a HF => ?_)
          refine wc_pick (b := false) HF nS rfl (decide_eq_false hb8) rfl rfl rfl (fun a HF => ?_)
          refine wc_end ?_
          refine then_n ?_
          by_cases hb9 : y1 = x0
          · have h := (if_pos hb9).symm.trans h
            refine wp_if (b' := false) HF rfl (notT (decide_eq_true hb9)) ?_
            refine wp_skip ?_
            refine then_n ?_
            refine wp_seq ?_
            refine wc_text ?_
            refine wc_move HF nS rfl rfl rfl (fun a HF => ?_)
            refine wc_assign HF nS rfl rfl rfl (fun a HF => ?_)
            refine wc_assign HF nS rfl rfl rfl (fun a HF => ?_)
            refine wc_end ?_
            refine then_n ?_
            refine wp_ret ?_
            have hj15 := Option.some.inj h
            obtain ⟨hi15, hj16⟩ := Prod.mk.inj hj15
            subst hi15
            subst hj16
            refine bp_ret HF (res_two rfl HF rfl rfl) ?_
            exact ⟨rfl, HT⟩
          · have h := (if_neg hb9).symm.trans h
            refine wp_if (b' := true) HF rfl (notF (decide_eq_false hb9)) ?_
            refine wp_seq ?_
            refine wc_text ?_
            refine wc_assign HF nS rfl rfl rfl (fun a HF => ?_)
            refine wc_assign HF nS rfl rfl rfl (fun a HF => ?_)
            refine wc_end ?_
            refine then_n ?_
            refine wp_ret ?_
            have hj17 := Option.some.inj h
            obtain ⟨hi17, hj18⟩ := Prod.mk.inj hj17
            subst hi17
            subst hj18
            refine then_r (?_)
            refine bp_ret HF (res_two rfl HF rfl rfl) ?_
            exact ⟨rfl, HT⟩

def m_laws_FnExactReadDec (fuel : Nat) (x0 : Str) : Option Bool :=
  if 1048576 < (x0.length : Int) then
    some true
  else
    bind2 (m_spec_ReadDec fuel x0) fun y1 y2 =>
    bind2 (m_impl_ReadDec fuel x0) fun y3 y4 =>
    if y3 = y1 then
      if (y4 == y2) = true then
        some true
      else
        some false
    else
      some false

set_option maxRecDepth 100000 in
set_option maxHeartbeats 4000000 in
theorem w_laws_FnExactReadDec (fuel : Nat) {x0 : Str} {r0 : Bool} {w0 : World} (h : m_laws_FnExactReadDec fuel x0 = some r0) :
    Calls Try.prog 12 #[sv x0] w0 fun e w => e = .returned (.bool r0) ∧ St w0 (fun _ => False) w [] := by
  have HT : St w0 (fun _ => False) w0 [] := St.init0
  rw [m_laws_FnExactReadDec] at h
  refine calls_fr (n := 28) [sv x0] Try.func12 rfl rfl rfl (fun a HF => ?_)
  have HT : St w0 (fun _ => False) w0 [] := HT
  refine wp_seq ?_
  refine wc_text ?_
  refine wc_assign HF nS rfl rfl rfl (fun a HF => ?_)
  refine wc_end ?_
  refine then_n ?_
  refine wp_seq ?_
  refine wp_seq ?_
  refine wc_text ?_
  refine wc_move HF nS rfl rfl rfl (fun a HF => ?_)
  refine wc_lenS (ats := #[]) HF nS Try.underlying9 rfl rfl rfl (fun a HF => ?_)
  refine wc_bin HF nS rfl rfl b_gt rfl rfl (fun a HF => ?_)
  refine wc_end ?_
  refine then_n ?_
  by_cases hb1 : 1048576 < (x0.length : Int)
  · have h := (if_pos hb1).symm.trans h
    refine wp_if (b' := true) HF rfl (decide_eq_true hb1) ?_
    refine wp_seq ?_
    refine wc_text ?_
    refine wc_assign HF nS rfl rfl rfl (fun a HF => ?_)
    refine wc_end ?_
    refine then_n ?_
    refine wp_ret ?_
    obtain rfl := Option.some.inj h
    refine then_r (?_)
    refine bp_ret HF (res_one rfl HF rfl) ?_
    exact ⟨rfl, HT⟩
  · have h := (if_neg hb1).symm.trans h
    refine wp_if (b' := false) HF rfl (decide_eq_false hb1) ?_
    refine wp_skip ?_
    refine then_n ?_
    refine wp_seq ?_
    refine wc_text ?_
    refine wc_move HF nS rfl rfl rfl (fun a HF => ?_)
    obtain ⟨y1, y2, hx1, h⟩ := obs2 h
    refine wc_call HF cf30 rfl (w_spec_ReadDec fuel hx1) rfl rfl ?_
    rintro e w ⟨rfl, hE⟩
    have hb := hE.below
    have HT := HT.pure hE
    have HT : St w0 (fun _ => False) w [] := HT
    refine ⟨_, rfl, nS, fun a HF => ?_⟩
    refine wc_move HF nS rfl rfl rfl (fun a HF => ?_)
    refine wc_extract (v := .int .i64 y1) HF nS rfl rfl rfl rfl (fun a HF => ?_)
    refine wc_extract (v := .bool y2) HF nS rfl rfl rfl rfl (fun a HF => ?_)
    refine wc_assign HF nS rfl rfl rfl (fun a HF => ?_)
    refine wc_assign HF nS rfl rfl rfl (fun a HF => ?_)
    refine wc_end ?_
    refine then_n ?_
    refine wp_seq ?_
    refine wc_text ?_
    refine wc_move HF nS rfl rfl rfl (fun a HF => ?_)
    obtain ⟨y3, y4, hx2, h⟩ := obs2 h
    refine wc_call HF cf31 rfl (w_impl_ReadDec fuel hx2) rfl rfl ?_
    rintro e w ⟨rfl, hE⟩
    have hb := hE.below
    have HT := HT.pure hE
    have HT : St w0 (fun _ => False) w [] := HT
    refine ⟨_, rfl, nS, fun a HF => ?_⟩
    refine wc_move HF nS rfl rfl rfl (fun a HF => ?_)
    refine wc_extract (v := .int .i64 y3) HF nS rfl rfl rfl rfl (fun a HF => ?_)
    refine wc_extract (v := .bool y4) HF nS rfl rfl rfl rfl (fun a HF => ?_)
    refine wc_assign HF nS rfl rfl rfl (fun a HF => ?_)
    refine wc_assign HF nS rfl rfl rfl (fun a HF => ?_)
    refine wc_end ?_
    refine then_n ?_
    refine wp_seq ?_
    refine wp_seq ?_
    refine wc_text ?_
    refine wc_move HF nS rfl rfl rfl (fun a HF => ?_)
    refine wc_move HF nS rfl rfl rfl (fun a HF => ?_)
    refine wc_bin HF nS rfl rfl b_ne rfl rfl (fun a HF => ?_)
    refine wc_move HF nS rfl rfl rfl (fun a HF => ?_)
    by_cases hb2 : y3 = y1
    · have h := (if_pos hb2).symm.trans h
      refine wc_move HF nS rfl (HF.wy rfl rfl rfl rfl (notT (decide_eq_true hb2))) rfl (fun a HF => ?_)
      refine wc_move HF nS rfl (HF.wy rfl rfl rfl rfl (notT (decide_eq_true hb2))) rfl (fun a HF => ?_)
      refine wc_bin HF nS rfl rfl (b_bne Try.underlying4) (HF.wy rfl rfl rfl rfl (notT (decide_eq_true hb2))) rfl (fun a HF => ?_)
      refine wc_pick (b := false) HF nS rfl (notT (decide_eq_true hb2)) rfl rfl rfl (fun a HF => ?_)
      refine wc_end ?_
      refine then_n ?_
      by_cases hb3 : (y4 == y2) = true
      · have h := (if_pos hb3).symm.trans h
        refine wp_if (b' := false) HF rfl (notT hb3) ?_
        refine wp_skip ?_
        refine then_n ?_
        refine wp_seq ?_
        refine wc_text ?_
        refine wc_assign HF nS rfl rfl rfl (fun a HF => ?_)
        refine wc_end ?_
        refine then_n ?_
        refine wp_ret ?_
        obtain rfl := Option.some.inj h
        refine bp_ret HF (res_one rfl HF rfl) ?_
        exact ⟨rfl, HT⟩
      · have h := (if_neg hb3).symm.trans h
        refine wp_if (b' := true) HF rfl (notF (Bool.eq_false_iff.2 hb3)) ?_
        refine wp_seq ?_
        refine wc_text ?_
        refine wc_assign HF nS rfl rfl rfl (fun a HF => ?_)
        refine wc_end ?_
        refine then_n ?_
        refine wp_ret ?_
        obtain rfl := Option.some.inj h
        refine then_r (?_)
        refine bp_ret HF (res_one rfl HF rfl) ?_
        exact ⟨rfl, HT⟩
    · have h := (if_neg hb2).symm.trans h
      refine wc_skip HF nS (HF.wn rfl rfl rfl rfl (notF (decide_eq_false hb2))) rfl (fun a HF => ?_)
      refine wc_skip HF nS (HF.wn rfl rfl rfl rfl (notF (decide_eq_false hb2))) rfl (fun a HF => ?_)
      refine wc_skip HF nS (HF.wn rfl rfl rfl rfl (notF (decide_eq_false hb2))) rfl (fun a HF => ?_)
      refine wc_pick (b := true) HF nS rfl (notF (decide_eq_false hb2)) rfl rfl rfl (fun a HF => ?_)
      refine wc_end ?_
      refine then_n ?_
      refine wp_if (b' := true) HF rfl rfl ?_
      refine wp_seq ?_
      refine wc_text ?_
      refine wc_assign HF nS rfl rfl rfl (fun a HF => ?_)
      refine wc_end ?_
      refine then_n ?_
      refine wp_ret ?_
      obtain rfl := Option.some.inj h
      refine then_r (?_)
      refine bp_ret HF (res_one rfl HF rfl) ?_
      exact ⟨rfl, HT⟩
end Go.Proofs.Ytgcoopaodbaaeaa
