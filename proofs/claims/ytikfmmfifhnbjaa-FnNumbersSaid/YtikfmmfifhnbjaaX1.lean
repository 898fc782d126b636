/- Walks of functions, by program: impl.Dec, impl.within, impl.Fixed, impl.Hex, impl.ReadDec, impl.ReadFixed, impl.Var, impl.ReadVar, impl.hexValue, impl.Unhex, laws.big, spec.l1New, spec.l1Byte, spec.l1Below, spec.l1Text, spec.DrawHex, spec.l1In, spec.Var, spec.l1PickInt, spec.l1Num, spec.l1Once, spec.l1Spoil, spec.DrawReadVar, spec.DrawVar. -/
import Derived.Test.YtikfmmfifhnbjaaTy
namespace Go.Proofs.Ytikfmmfifhnbjaa
open Go Go.RowKit
set_option linter.unusedVariables false
set_option linter.unusedSimpArgs false
def m_impl_Dec_L0 (fuel : Nat) : Nat → (List UInt8) → Int → Option (List UInt8)
  | 0, _, _ => none
  | k1 + 1, z2, z3 =>
    if z3 = 0 then
      some z2
    else
    (
      if (10 : Int) ≠ 0 then
        (
          if (z3.tmod 10) < 0 then
            if in64 (0 - (z3.tmod 10)) then
              some (0 - (z3.tmod 10))
            else none
          else
          some (z3.tmod 10)).bind fun z5 =>
        if in64 (48 + z5) then
          if z2.length + 1 ≤ 17179869184 then
            some (z2 ++ ([b8 (48 + z5)] : List UInt8))
          else none
        else none
      else none).bind fun z4 =>
    if (10 : Int) ≠ 0 ∧ in64 (z3.tdiv 10) then
      m_impl_Dec_L0 fuel k1 z4 (z3.tdiv 10)
    else none

def m_impl_Dec_L1 (fuel : Nat) : Nat → (List UInt8) → Int → Int → Option (List UInt8)
  | 0, _, _, _ => none
  | k2 + 1, z8, z9, z10 =>
    if z9 < z10 then
      (at? z8 z10).bind fun e1 =>
      (at? z8 z9).bind fun e2 =>
      (at? (z8.set z9.toNat e1) z10).bind fun e3 =>
      if in64 (z9 + 1) then
        if in64 (z10 - 1) then
          m_impl_Dec_L1 fuel k2 ((z8.set z9.toNat e1).set z10.toNat e2) (z9 + 1) (z10 - 1)
        else none
      else none
    else
    some z8

def m_impl_Dec (fuel : Nat) (x0 : Int) : Option Str :=
  if x0 = 0 then
    some [48]
  else
  (m_impl_Dec_L0 fuel fuel ([] : List UInt8) x0).bind fun z1 =>
  (
    if x0 < 0 then
      if z1.length + 1 ≤ 17179869184 then
        some (z1 ++ ([(45 : UInt8)] : List UInt8))
      else none
    else
    some z1).bind fun z6 =>
  (
    if in64 ((z6.length : Int) - 1) then
      m_impl_Dec_L1 fuel fuel z6 0 ((z6.length : Int) - 1)
    else none).bind fun z7 =>
  some z7

set_option maxRecDepth 100000 in
set_option maxHeartbeats 4000000 in
theorem w_impl_Dec (fuel : Nat) {x0 : Int} {r0 : Str} {w0 : World} (h : m_impl_Dec fuel x0 = some r0) :
    Calls Try.prog 13 #[.int .i64 x0] w0 fun e w => e = .returned (sv r0) ∧ St w0 (fun _ => False) w [] := by
  have HT : St w0 (fun _ => False) w0 [] := St.init0
  rw [m_impl_Dec] at h
  refine calls_fr (n := 59) [.int .i64 x0] Try.func13 rfl rfl rfl (fun a HF => ?_)
  have HT : St w0 (fun _ => False) w0 [] := HT
  refine wp_seq ?_
  refine wc_text ?_
  refine wc_assign HF nS rfl rfl rfl (fun a HF => ?_)
  refine wc_end ?_
  refine then_n ?_
  refine wp_seq ?_
  refine wp_seq ?_
  refine wc_text ?_
  refine wc_move HF nS rfl rfl rfl (fun a HF => ?_)
  refine wc_bin HF nS rfl rfl b_eq rfl rfl (fun a HF => ?_)
  refine wc_end ?_
  refine then_n ?_
  by_cases hb1 : x0 = 0
  · have h := (if_pos hb1).symm.trans h
    refine wp_if (b' := true) HF rfl (decide_eq_true hb1) ?_
    refine wp_seq ?_
    refine wc_text ?_
    refine wc_assign HF nS rfl rfl rfl (fun a HF => ?_)
    refine wc_end ?_
    refine then_n ?_
    refine wp_ret ?_
    obtain rfl := Option.some.inj h
    refine then_r (?_)
    refine bp_ret HF (res_one rfl HF rfl) ?_
    exact ⟨rfl, HT⟩
  have h := (if_neg hb1).symm.trans h
  refine wp_if (b' := false) HF rfl (decide_eq_false hb1) ?_
  refine wp_skip ?_
  refine then_n ?_
  refine wp_seq ?_
  refine wc_text ?_
  refine wc_bslice (l := ([] : List UInt8)) (cs := []) (A := []) HF HT bs22_0 rfl rfl (gives_flat rfl) rfl (by decide) rfl rfl (fun p1 w HT hb => ⟨nS, fun a HF => ?_⟩)
  refine wc_assign HF nS rfl rfl rfl (fun a HF => ?_)
  refine wc_end ?_
  refine then_n ?_
  obtain ⟨z1, hx1, h⟩ := obs h
  refine wp_cut (fun a w => ∃ a1 n1 c1, Fr a 59 [(0, .int .i64 x0), (3, .slice a1 n1 c1)] ∧ St w0 (fun _ => False) w [Own 5 (rowT z1) (.slice a1 n1 c1)]) ?_ ?_
  · have hk1 := h
    have h := hx1
    refine wp_seq ?_
    refine wc_text ?_
    refine wc_move HF nS rfl rfl rfl (fun a HF => ?_)
    refine wc_assign HF nS rfl rfl rfl (fun a HF => ?_)
    refine wc_end ?_
    refine then_n ?_
    refine wp_block ?_
    refine wp_loopN (fun k1 a w => ∃ z2 z3 a2 n2 c2, m_impl_Dec_L0 fuel k1 z2 z3 = some z1 ∧ Fr a 59 [(0, .int .i64 x0), (3, .slice a2 n2 c2), (4, .int .i64 z3)] ∧ St w0 (fun _ => False) w [Own 5 (rowT z2) (.slice a2 n2 c2)]) fuel ⟨([] : List UInt8), x0, (some ⟨p1, 0, none⟩), 0, 0, h, (HF.keep (HF.keep (HF.keep HF.nil rfl) rfl) rfl), HT⟩ ?_
    rintro k1 a w ⟨z2, z3, a2, n2, c2, h, HF, HT⟩
    cases k1 with
    | zero => cases h
    | succ k1 =>
      rw [m_impl_Dec_L0] at h
      obtain rfl := (HT.rdAt 0 rfl).neq
      refine ?_
      refine wp_seq ?_
      refine wp_seq ?_
      refine wc_text ?_
      refine wc_move HF nS rfl rfl rfl (fun a HF => ?_)
      refine wc_bin HF nS rfl rfl b_ne rfl rfl (fun a HF => ?_)
      refine wc_end ?_
      refine then_n ?_
      by_cases hb2 : z3 = 0
      · have h := (if_pos hb2).symm.trans h
        refine wp_if (b' := false) HF rfl (notT (decide_eq_true hb2)) ?_
        refine wp_exit ?_
        refine then_x (then_x (?_))
        refine blk_x ?_
        obtain rfl := Option.some.inj h
        exact then_n ⟨a2, z2.length, c2, (HF.keep (HF.keep HF.nil rfl) rfl), HT⟩
      have h := (if_neg hb2).symm.trans h
      refine wp_if (b' := true) HF rfl (notF (decide_eq_false hb2)) ?_
      refine wp_skip ?_
      refine then_n ?_
      obtain ⟨z4, hx2, h⟩ := obs h
      refine wp_cut (fun a w => ∃ a3 n3 c3, Fr a 59 [(0, .int .i64 x0), (3, .slice a3 n3 c3), (4, .int .i64 z3)] ∧ St w0 (fun _ => False) w [Own 5 (rowT z4) (.slice a3 n3 c3)]) ?_ ?_
      · have hk2 := h
        have h := hx2
        refine wp_block ?_
        refine wp_seq ?_
        refine wc_text ?_
        refine wc_move HF nS rfl rfl rfl (fun a HF => ?_)
        obtain ⟨hg1, h⟩ := grd h
        refine wc_bin HF nS rfl rfl (b_rem hg1) rfl rfl (fun a HF => ?_)
        refine wc_assign HF nS rfl rfl rfl (fun a HF => ?_)
        refine wc_end ?_
        refine then_n ?_
        obtain ⟨z5, hx3, h⟩ := obs h
        refine wp_cut (fun a w => Fr a 59 [(0, .int .i64 x0), (3, .slice a2 z2.length c2), (4, .int .i64 z3), (5, .int .i64 z5)] ∧ St w0 (fun _ => False) w [Own 5 (rowT z2) (.slice a2 z2.length c2)]) ?_ ?_
        · have hk3 := h
          have h := hx3
          refine wp_seq ?_
          refine wc_text ?_
          refine wc_move HF nS rfl rfl rfl (fun a HF => ?_)
          refine wc_bin HF nS rfl rfl b_lt rfl rfl (fun a HF => ?_)
          refine wc_end ?_
          refine then_n ?_
          by_cases hb3 : (z3.tmod 10) < 0
          · have h := (if_pos hb3).symm.trans h
            refine wp_if (b' := true) HF rfl (decide_eq_true hb3) ?_
            refine wc_text ?_
            refine wc_move HF nS rfl rfl rfl (fun a HF => ?_)
            obtain ⟨hg2, h⟩ := grd h
            refine wc_neg HF nS rfl hg2 rfl rfl (fun a HF => ?_)
            refine wc_assign HF nS rfl rfl rfl (fun a HF => ?_)
            refine wc_end ?_
            obtain rfl := Option.some.inj h
            exact then_n ⟨(HF.keep (HF.keep (HF.keep (HF.keep HF.nil rfl) rfl) rfl) rfl), HT⟩
          have h := (if_neg hb3).symm.trans h
          refine wp_if (b' := false) HF rfl (decide_eq_false hb3) ?_
          refine wp_skip ?_
          obtain rfl := Option.some.inj h
          exact then_n ⟨(HF.keep (HF.keep (HF.keep (HF.keep HF.nil rfl) rfl) rfl) rfl), HT⟩
        rintro a w ⟨HF, HT⟩
        refine ?_
        refine wc_text ?_
        refine wc_move HF nS rfl rfl rfl (fun a HF => ?_)
        refine wc_move HF nS rfl rfl rfl (fun a HF => ?_)
        obtain ⟨hg3, h⟩ := grd h
        refine wc_bin HF nS rfl rfl (b_add hg3) rfl rfl (fun a HF => ?_)
        refine wc_cvb HF nS Try.underlying5 Try.underlying3 rfl rfl rfl (fun a HF => ?_)
        refine wc_bslice (l := ([b8 (48 + z5)] : List UInt8)) (cs := [.int .u8 ((b8 (48 + z5)).toNat : Int)]) (A := []) HF HT bs22_1 rfl rfl (gives_flat rfl) rfl (by decide) rfl rfl (fun p2 w HT hb => ⟨nS, fun a HF => ?_⟩)
        obtain ⟨hg4, h⟩ := grd h
        have HT : St w0 (fun _ => False) w [Own 5 (rowT z2) (.slice a2 z2.length c2), Own 5 (rowT ([b8 (48 + z5)] : List UInt8)) (.slice (some ⟨p2, 0, none⟩) 1 1)] := HT.pick 1
        refine wc_append HF HT el22 rfl rfl (Nat.zero_lt_succ _) hg4 rfl rfl rfl (fun a4 c4 w HT => ⟨nS, fun a HF => ?_⟩)
        refine wc_assign HF nS rfl rfl rfl (fun a HF => ?_)
        refine wc_end ?_
        refine blk_n ?_
        obtain rfl := Option.some.inj h
        exact then_n ⟨a4, (z2 ++ ([b8 (48 + z5)] : List UInt8)).length, c4, (HF.keep (HF.keep (HF.keep HF.nil rfl) rfl) rfl), HT⟩
      rintro a w ⟨a3, n3, c3, HF, HT⟩
      obtain rfl := (HT.rdAt 0 rfl).neq
      refine ?_
      refine wc_text ?_
      refine wc_move HF nS rfl rfl rfl (fun a HF => ?_)
      obtain ⟨hg5, h⟩ := grd h
      refine wc_bin HF nS rfl rfl (b_quo hg5) rfl rfl (fun a HF => ?_)
      refine wc_assign HF nS rfl rfl rfl (fun a HF => ?_)
      refine wc_end ?_
      exact then_n ⟨k1, Nat.lt_succ_self k1, z4, z3.tdiv 10, a3, z4.length, c3, h, (HF.keep (HF.keep (HF.keep HF.nil rfl) rfl) rfl), HT⟩
  rintro a w ⟨a1, n1, c1, HF, HT⟩
  obtain rfl := (HT.rdAt 0 rfl).neq
  refine ?_
  obtain ⟨z6, hx4, h⟩ := obs h
  refine wp_cut (fun a w => ∃ a5 n4 c5, Fr a 59 [(3, .slice a5 n4 c5)] ∧ St w0 (fun _ => False) w [Own 5 (rowT z6) (.slice a5 n4 c5)]) ?_ ?_
  · have hk1 := h
    have h := hx4
    refine wp_seq ?_
    refine wc_text ?_
    refine wc_move HF nS rfl rfl rfl (fun a HF => ?_)
    refine wc_bin HF nS rfl rfl b_lt rfl rfl (fun a HF => ?_)
    refine wc_end ?_
    refine then_n ?_
    by_cases hb4 : x0 < 0
    · have h := (if_pos hb4).symm.trans h
      refine wp_if (b' := true) HF rfl (decide_eq_true hb4) ?_
      refine wc_text ?_
      refine wc_move HF nS rfl rfl rfl (fun a HF => ?_)
      refine wc_bslice (l := ([(45 : UInt8)] : List UInt8)) (cs := [.int .u8 45]) (A := []) HF HT bs22_1 rfl rfl (gives_flat rfl) rfl (by decide) rfl rfl (fun p3 w HT hb => ⟨nS, fun a HF => ?_⟩)
      obtain ⟨hg6, h⟩ := grd h
      have HT : St w0 (fun _ => False) w [Own 5 (rowT z1) (.slice a1 z1.length c1), Own 5 (rowT ([(45 : UInt8)] : List UInt8)) (.slice (some ⟨p3, 0, none⟩) 1 1)] := HT.pick 1
      refine wc_append HF HT el22 rfl rfl (Nat.zero_lt_succ _) hg6 rfl rfl rfl (fun a6 c6 w HT => ⟨nS, fun a HF => ?_⟩)
      refine wc_assign HF nS rfl rfl rfl (fun a HF => ?_)
      refine wc_end ?_
      obtain rfl := Option.some.inj h
      exact then_n ⟨a6, (z1 ++ ([(45 : UInt8)] : List UInt8)).length, c6, (HF.keep HF.nil rfl), HT⟩
    have h := (if_neg hb4).symm.trans h
    refine wp_if (b' := false) HF rfl (decide_eq_false hb4) ?_
    refine wp_skip ?_
    obtain rfl := Option.some.inj h
    exact then_n ⟨a1, z1.length, c1, (HF.keep HF.nil rfl), HT⟩
  rintro a w ⟨a5, n4, c5, HF, HT⟩
  obtain rfl := (HT.rdAt 0 rfl).neq
  refine ?_
  obtain ⟨z7, hx5, h⟩ := obs h
  refine wp_cut (fun a w => Fr a 59 [(3, .slice a5 z6.length c5)] ∧ St w0 (fun _ => False) w [Own 5 (rowT z7) (.slice a5 z6.length c5)]) ?_ ?_
  · have hk1 := h
    have h := hx5
    refine wp_seq ?_
    refine wc_text ?_
    refine wc_move HF nS rfl rfl rfl (fun a HF => ?_)
    refine wc_lenR HF nS Try.underlying22 rfl rfl rfl (fun a HF => ?_)
    obtain ⟨hg7, h⟩ := grd h
    refine wc_bin HF nS rfl rfl (b_sub hg7) rfl rfl (fun a HF => ?_)
    refine wc_assign HF nS rfl rfl rfl (fun a HF => ?_)
    refine wc_assign HF nS rfl rfl rfl (fun a HF => ?_)
    refine wc_end ?_
    refine then_n ?_
    refine wp_block ?_
    refine wp_loopN (fun k2 a w => ∃ z8 z9 z10, m_impl_Dec_L1 fuel k2 z8 z9 z10 = some z7 ∧ Fr a 59 [(3, .slice a5 z6.length c5), (6, .int .i64 z9), (7, .int .i64 z10)] ∧ St w0 (fun _ => False) w [Own 5 (rowT z8) (.slice a5 z6.length c5)]) fuel ⟨z6, 0, (z6.length : Int) - 1, h, (HF.keep (HF.keep (HF.keep HF.nil rfl) rfl) rfl), HT⟩ ?_
    rintro k2 a w ⟨z8, z9, z10, h, HF, HT⟩
    cases k2 with
    | zero => cases h
    | succ k2 =>
      rw [m_impl_Dec_L1] at h
      refine ?_
      refine wp_seq ?_
      refine wp_seq ?_
      refine wc_text ?_
      refine wc_move HF nS rfl rfl rfl (fun a HF => ?_)
      refine wc_move HF nS rfl rfl rfl (fun a HF => ?_)
      refine wc_bin HF nS rfl rfl b_lt rfl rfl (fun a HF => ?_)
      refine wc_end ?_
      refine then_n ?_
      by_cases hb5 : z9 < z10
      · have h := (if_pos hb5).symm.trans h
        refine wp_if (b' := true) HF rfl (decide_eq_true hb5) ?_
        refine wp_skip ?_
        refine then_n ?_
        refine wp_seq ?_
        refine wp_block ?_
        refine wp_region_can [(0, true), (1, true), (2, false), (3, false), (4, true), (5, true), (6, true), (7, true), (8, true), (9, true), (10, true), (11, true), (12, true), (13, false), (14, true), (15, true)] (fun w' => True) (by kernel_rfl) (by kernel_rfl) ?_
        have HT : St w0 (fun _ => False) w.drew [Own 5 (rowT z8) (.slice a5 z6.length c5)] := HT.drew
        refine wc_move HF nS rfl rfl rfl (fun a HF => ?_)
        refine wc_move HF nS rfl rfl rfl (fun a HF => ?_)
        refine wc_move HF (fun _ => trivial) rfl rfl rfl (fun a HF => ?_)
        refine wc_move HF (fun _ => trivial) rfl rfl rfl (fun a HF => ?_)
        refine wc_move HF nS rfl rfl rfl (fun a HF => ?_)
        refine wc_move HF nS rfl rfl rfl (fun a HF => ?_)
        obtain ⟨e1, hx6, h⟩ := obs h
        obtain ⟨b1, o1, ha1⟩ := (HT.rdAt 0 rfl).addr hx6
        refine wc_ixaddr HF nS el22 rfl ha1 ((HT.rdAt 0 rfl)).neq rfl hx6 rfl rfl (fun a HF => ?_)
        have hc1 := (HT.rdAt 0 rfl).flatAt ha1 hx6
        refine wc_load HF rfl sc5 (hc1.get 0 rfl) rfl rfl (fun a HF => ?_)
        refine wc_move HF nS rfl rfl rfl (fun a HF => ?_)
        refine wc_move HF nS rfl rfl rfl (fun a HF => ?_)
        obtain ⟨e2, hx7, h⟩ := obs h
        refine wc_ixaddr HF nS el22 rfl ha1 ((HT.rdAt 0 rfl)).neq rfl hx7 rfl rfl (fun a HF => ?_)
        have hc2 := (HT.rdAt 0 rfl).flatAt ha1 hx7
        refine wc_load HF rfl sc5 (hc2.get 0 rfl) rfl rfl (fun a HF => ?_)
        refine wc_ixaddr HF nS el22 rfl ha1 ((HT.rdAt 0 rfl)).neq rfl hx7 rfl rfl (fun a HF => ?_)
        refine wc_storeR (i := z9) (j := 0) (x' := e1) HF HT ha1 rfl rfl (fun w => (sc5 w).2) rfl rfl hx7 rfl rfl rfl rfl (fun w HT => ⟨(fun _ => trivial), ?_⟩)
        obtain ⟨e3, hx8, h⟩ := obs h
        refine wc_ixaddr HF nS el22 rfl ha1 ((HT.rdAt 0 rfl)).neq rfl hx8 rfl rfl (fun a HF => ?_)
        refine wc_storeR (i := z10) (j := 0) (x' := e2) HF HT ha1 rfl rfl (fun w => (sc5 w).2) rfl rfl hx8 rfl rfl rfl rfl (fun w HT => ⟨nS, ?_⟩)
        refine wc_endN ?_
        refine blk_n ?_
        refine then_n ?_
        refine wc_text ?_
        refine wc_move HF nS rfl rfl rfl (fun a HF => ?_)
        obtain ⟨hg8, h⟩ := grd h
        refine wc_bin HF nS rfl rfl (b_add hg8) rfl rfl (fun a HF => ?_)
        refine wc_move HF nS rfl rfl rfl (fun a HF => ?_)
        obtain ⟨hg9, h⟩ := grd h
        refine wc_bin HF nS rfl rfl (b_sub hg9) rfl rfl (fun a HF => ?_)
        refine wc_assign HF nS rfl rfl rfl (fun a HF => ?_)
        refine wc_assign HF nS rfl rfl rfl (fun a HF => ?_)
        refine wc_end ?_
        exact then_n ⟨k2, Nat.lt_succ_self k2, (z8.set z9.toNat e1).set z10.toNat e2, z9 + 1, z10 - 1, h, (HF.keep (HF.keep (HF.keep HF.nil rfl) rfl) rfl), HT⟩
      have h := (if_neg hb5).symm.trans h
      refine wp_if (b' := false) HF rfl (decide_eq_false hb5) ?_
      refine wp_exit ?_
      refine then_x (then_x (?_))
      refine blk_x ?_
      obtain rfl := Option.some.inj h
      exact then_n ⟨(HF.keep HF.nil rfl), HT⟩
  rintro a w ⟨HF, HT⟩
  refine ?_
  refine wp_seq ?_
  refine wc_text ?_
  refine wc_move HF nS rfl rfl rfl (fun a HF => ?_)
  refine wc_cvs HF nS Try.underlying22 Try.underlying5 Try.underlying9 rfl (HT.rdAt 0 rfl) rfl rfl (fun a HF => ?_)
  refine wc_assign HF nS rfl rfl rfl (fun a HF => ?_)
  refine wc_end ?_
  refine then_n ?_
  refine wp_ret ?_
  obtain rfl := Option.some.inj h
  refine bp_ret HF (res_one rfl HF rfl) ?_
  have HT : St w0 (fun _ => False) w [] := HT.take 0
  exact ⟨rfl, HT⟩

def m_impl_within (fuel : Nat) (x0 : Int) (x1 : Int) (x2 : Int) : Option Bool :=
  if x1 ≤ x0 then
    some (decide (x0 ≤ x2))
  else
  some false

set_option maxRecDepth 100000 in
set_option maxHeartbeats 4000000 in
theorem w_impl_within (fuel : Nat) {x0 : Int} {x1 : Int} {x2 : Int} {r0 : Bool} {w0 : World} (h : m_impl_within fuel x0 x1 x2 = some r0) :
    Calls Try.prog 28 #[.int .i64 x0, .int .i64 x1, .int .i64 x2] w0 fun e w => e = .returned (.bool r0) ∧ St w0 (fun _ => False) w [] := by
  have HT : St w0 (fun _ => False) w0 [] := St.init0
  rw [m_impl_within] at h
  refine calls_fr (n := 15) [.int .i64 x0, .int .i64 x1, .int .i64 x2] Try.func28 rfl rfl rfl (fun a HF => ?_)
  have HT : St w0 (fun _ => False) w0 [] := HT
  refine wp_seq ?_
  refine wc_text ?_
  refine wc_assign HF nS rfl rfl rfl (fun a HF => ?_)
  refine wc_end ?_
  refine then_n ?_
  refine wp_seq ?_
  refine wc_text ?_
  refine wc_move HF nS rfl rfl rfl (fun a HF => ?_)
  refine wc_move HF nS rfl rfl rfl (fun a HF => ?_)
  refine wc_bin HF nS rfl rfl b_ge rfl rfl (fun a HF => ?_)
  refine wc_move HF nS rfl rfl rfl (fun a HF => ?_)
  by_cases hb1 : x1 ≤ x0
  · have h := (if_pos hb1).symm.trans h
    refine wc_move HF nS rfl (HF.wy rfl rfl rfl rfl (decide_eq_true hb1)) rfl (fun a HF => ?_)
    refine wc_move HF nS rfl (HF.wy rfl rfl rfl rfl (decide_eq_true hb1)) rfl (fun a HF => ?_)
    refine wc_bin HF nS rfl rfl b_le (HF.wy rfl rfl rfl rfl (decide_eq_true hb1)) rfl (fun a HF => ?_)
    refine wc_pick (b := true) HF nS rfl (decide_eq_true hb1) rfl rfl rfl (fun a HF => ?_)
    refine wc_assign HF nS rfl rfl rfl (fun a HF => ?_)
    refine wc_end ?_
    refine then_n ?_
    refine wp_ret ?_
    obtain rfl := Option.some.inj h
    refine bp_ret HF (res_one rfl HF rfl) ?_
    exact ⟨rfl, HT⟩
  have h := (if_neg hb1).symm.trans h
  refine wc_skip HF nS (HF.wn rfl rfl rfl rfl (decide_eq_false hb1)) rfl (fun a HF => ?_)
  refine wc_skip HF nS (HF.wn rfl rfl rfl rfl (decide_eq_false hb1)) rfl (fun a HF => ?_)
  refine wc_skip HF nS (HF.wn rfl rfl rfl rfl (decide_eq_false hb1)) rfl (fun a HF => ?_)
  refine wc_pick (b := false) HF nS rfl (decide_eq_false hb1) rfl rfl rfl (fun a HF => ?_)
  refine wc_assign HF nS rfl rfl rfl (fun a HF => ?_)
  refine wc_end ?_
  refine then_n ?_
  refine wp_ret ?_
  obtain rfl := Option.some.inj h
  refine bp_ret HF (res_one rfl HF rfl) ?_
  exact ⟨rfl, HT⟩

def m_impl_Fixed_L0 (fuel : Nat) : Nat → Int → (List UInt8) → Int → Option (List UInt8)
  | 0, _, _, _ => none
  | k1 + 1, z2, z3, z4 =>
    if 0 ≤ z4 then
      (at? z3 z4).bind fun e1 =>
      if in64 (z4 - 1) then
        m_impl_Fixed_L0 fuel k1 (z2 / 2 ^ 8) (z3.set z4.toNat (b8 (bits .and .i64 z2 255))) (z4 - 1)
      else none
    else
    some z3

def m_impl_Fixed (fuel : Nat) (x0 : Int) (x1 : Int) : Option Str :=
  (m_impl_within fuel x1 1 7).bind fun y1 =>
  if y1 = true then
    if x0 < 0 then
      some []
    else
    if in64 (8 * x1) then
      if (0 ≤ (8 * x1 : Int) ∧ (8 * x1 : Int) ≤ 63) ∧ in64 (1 * 2 ^ (8 * x1 : Int).toNat) then
        if (1 * 2 ^ (8 * x1 : Int).toNat) ≤ x0 then
          some []
        else
        if 0 ≤ (x1 : Int) ∧ x1 ≤ 1048576 then
          (
            if in64 (x1 - 1) then
              m_impl_Fixed_L0 fuel fuel x0 (List.replicate (x1 : Int).toNat (0 : UInt8)) (x1 - 1)
            else none).bind fun z1 =>
          some z1
        else none
      else none
    else none
  else
  some []

set_option maxRecDepth 100000 in
set_option maxHeartbeats 4000000 in
theorem w_impl_Fixed (fuel : Nat) {x0 : Int} {x1 : Int} {r0 : Str} {w0 : World} (h : m_impl_Fixed fuel x0 x1 = some r0) :
    Calls Try.prog 10 #[.int .i64 x0, .int .i64 x1] w0 fun e w => e = .returned (sv r0) ∧ St w0 (fun _ => False) w [] := by
  have HT : St w0 (fun _ => False) w0 [] := St.init0
  rw [m_impl_Fixed] at h
  refine calls_fr (n := 39) [.int .i64 x0, .int .i64 x1] Try.func10 rfl rfl rfl (fun a HF => ?_)
  have HT : St w0 (fun _ => False) w0 [] := HT
  refine wp_seq ?_
  refine wc_text ?_
  refine wc_assign HF nS rfl rfl rfl (fun a HF => ?_)
  refine wc_end ?_
  refine then_n ?_
  refine wp_seq ?_
  refine wp_seq ?_
  refine wc_text ?_
  refine wc_move HF nS rfl rfl rfl (fun a HF => ?_)
  obtain ⟨y1, hx1, h⟩ := obs h
  refine wc_call HF cf28 rfl (w_impl_within fuel hx1) rfl rfl ?_
  rintro e w ⟨rfl, hE⟩
  have hb := hE.below
  have HT := HT.pure hE
  have HT : St w0 (fun _ => False) w [] := HT
  refine ⟨_, rfl, nS, fun a HF => ?_⟩
  refine wc_not HF nS rfl rfl rfl (fun a HF => ?_)
  refine wc_move HF nS rfl rfl rfl (fun a HF => ?_)
  by_cases hb1 : y1 = true
  · have h := (if_pos hb1).symm.trans h
    refine wc_move HF nS rfl (HF.wy rfl rfl rfl rfl (notT hb1)) rfl (fun a HF => ?_)
    refine wc_bin HF nS rfl rfl b_lt (HF.wy rfl rfl rfl rfl (notT hb1)) rfl (fun a HF => ?_)
    refine wc_pick (b := false) HF nS rfl (notT hb1) rfl rfl rfl (fun a HF => ?_)
    refine wc_move HF nS rfl rfl rfl (fun a HF => ?_)
    by_cases hb2 : x0 < 0
    · have h := (if_pos hb2).symm.trans h
      refine wc_skip HF nS (HF.wn rfl rfl rfl rfl (decide_eq_true hb2)) rfl (fun a HF => ?_)
      refine wc_skip HF nS (HF.wn rfl rfl rfl rfl (decide_eq_true hb2)) rfl (fun a HF => ?_)
      refine wc_skip HF nS (HF.wn rfl rfl rfl rfl (decide_eq_true hb2)) rfl (fun a HF => ?_)
      refine wc_skip HF nS (HF.wn rfl rfl rfl rfl (decide_eq_true hb2)) rfl (fun a HF => ?_)
      refine wc_skip HF nS (HF.wn rfl rfl rfl rfl (decide_eq_true hb2)) rfl (fun a HF => ?_)
      refine wc_pick (b := true) HF nS rfl (decide_eq_true hb2) rfl rfl rfl (fun a HF => ?_)
      refine wc_end ?_
      refine then_n ?_
      refine wp_if (b' := true) HF rfl rfl ?_
      refine wp_seq ?_
      refine wc_text ?_
      refine wc_assign HF nS rfl rfl rfl (fun a HF => ?_)
      refine wc_end ?_
      refine then_n ?_
      refine wp_ret ?_
      obtain rfl := Option.some.inj h
      refine then_r (?_)
      refine bp_ret HF (res_one rfl HF rfl) ?_
      exact ⟨rfl, HT⟩
    have h := (if_neg hb2).symm.trans h
    refine wc_move HF nS rfl (HF.wy rfl rfl rfl rfl (decide_eq_false hb2)) rfl (fun a HF => ?_)
    refine wc_move HF nS rfl (HF.wy rfl rfl rfl rfl (decide_eq_false hb2)) rfl (fun a HF => ?_)
    obtain ⟨hg1, h⟩ := grd h
    refine wc_bin HF nS rfl rfl (b_mul hg1) (HF.wy rfl rfl rfl rfl (decide_eq_false hb2)) rfl (fun a HF => ?_)
    obtain ⟨hg2, h⟩ := grd h
    refine wc_bin HF nS rfl rfl (b_shl hg2) (HF.wy rfl rfl rfl rfl (decide_eq_false hb2)) rfl (fun a HF => ?_)
    refine wc_bin HF nS rfl rfl b_ge (HF.wy rfl rfl rfl rfl (decide_eq_false hb2)) rfl (fun a HF => ?_)
    refine wc_pick (b := false) HF nS rfl (decide_eq_false hb2) rfl rfl rfl (fun a HF => ?_)
    refine wc_end ?_
    refine then_n ?_
    by_cases hb3 : (1 * 2 ^ (8 * x1 : Int).toNat) ≤ x0
    · have h := (if_pos hb3).symm.trans h
      refine wp_if (b' := true) HF rfl (decide_eq_true hb3) ?_
      refine wp_seq ?_
      refine wc_text ?_
      refine wc_assign HF nS rfl rfl rfl (fun a HF => ?_)
      refine wc_end ?_
      refine then_n ?_
      refine wp_ret ?_
      obtain rfl := Option.some.inj h
      refine then_r (?_)
      refine bp_ret HF (res_one rfl HF rfl) ?_
      exact ⟨rfl, HT⟩
    have h := (if_neg hb3).symm.trans h
    refine wp_if (b' := false) HF rfl (decide_eq_false hb3) ?_
    refine wp_skip ?_
    refine then_n ?_
    refine wp_seq ?_
    refine wc_text ?_
    refine wc_move HF nS rfl rfl rfl (fun a HF => ?_)
    obtain ⟨hg3, h⟩ := grd h
    refine wc_make (x := (0 : UInt8)) HF HT el22 rfl rfl hg3 rfl rfl rfl rfl (fun p1 w HT hb => ⟨nS, fun a HF => ?_⟩)
    refine wc_assign HF nS rfl rfl rfl (fun a HF => ?_)
    refine wc_end ?_
    refine then_n ?_
    obtain ⟨z1, hx2, h⟩ := obs h
    refine wp_cut (fun a w => ∃ a1 n1 c1, Fr a 39 [(5, .slice a1 n1 c1)] ∧ St w0 (fun _ => False) w [Own 5 (rowT z1) (.slice a1 n1 c1)]) ?_ ?_
    · have hk1 := h
      have h := hx2
      refine wp_seq ?_
      refine wc_text ?_
      refine wc_move HF nS rfl rfl rfl (fun a HF => ?_)
      obtain ⟨hg4, h⟩ := grd h
      refine wc_bin HF nS rfl rfl (b_sub hg4) rfl rfl (fun a HF => ?_)
      refine wc_assign HF nS rfl rfl rfl (fun a HF => ?_)
      refine wc_end ?_
      refine then_n ?_
      refine wp_block ?_
      refine wp_loopN (fun k1 a w => ∃ z2 z3 z4 a2 n2 c2, m_impl_Fixed_L0 fuel k1 z2 z3 z4 = some z1 ∧ Fr a 39 [(0, .int .i64 z2), (5, .slice a2 n2 c2), (6, .int .i64 z4)] ∧ St w0 (fun _ => False) w [Own 5 (rowT z3) (.slice a2 n2 c2)]) fuel ⟨x0, List.replicate (x1 : Int).toNat (0 : UInt8), x1 - 1, (some ⟨p1, 0, none⟩), (List.replicate (x1 : Int).toNat (0 : UInt8)).length, (List.replicate (x1 : Int).toNat (0 : UInt8)).length, h, (HF.keep (HF.keep (HF.keep HF.nil rfl) rfl) rfl), HT⟩ ?_
      rintro k1 a w ⟨z2, z3, z4, a2, n2, c2, h, HF, HT⟩
      cases k1 with
      | zero => cases h
      | succ k1 =>
        rw [m_impl_Fixed_L0] at h
        obtain rfl := (HT.rdAt 0 rfl).neq
        refine ?_
        refine wp_seq ?_
        refine wp_seq ?_
        refine wc_text ?_
        refine wc_move HF nS rfl rfl rfl (fun a HF => ?_)
        refine wc_bin HF nS rfl rfl b_ge rfl rfl (fun a HF => ?_)
        refine wc_end ?_
        refine then_n ?_
        by_cases hb4 : 0 ≤ z4
        · have h := (if_pos hb4).symm.trans h
          refine wp_if (b' := true) HF rfl (decide_eq_true hb4) ?_
          refine wp_skip ?_
          refine then_n ?_
          refine wp_seq ?_
          refine wp_block ?_
          refine wp_seq ?_
          refine wc_text ?_
          refine wc_move HF nS rfl rfl rfl (fun a HF => ?_)
          refine wc_move HF nS rfl rfl rfl (fun a HF => ?_)
          refine wc_move HF nS rfl rfl rfl (fun a HF => ?_)
          refine wc_bin HF nS rfl rfl b_and rfl rfl (fun a HF => ?_)
          refine wc_cvb HF nS Try.underlying5 Try.underlying3 rfl rfl rfl (fun a HF => ?_)
          obtain ⟨e1, hx3, h⟩ := obs h
          obtain ⟨b1, o1, ha1⟩ := (HT.rdAt 0 rfl).addr hx3
          refine wc_ixaddr HF nS el22 rfl ha1 ((HT.rdAt 0 rfl)).neq rfl hx3 rfl rfl (fun a HF => ?_)
          refine wc_storeR (i := z4) (j := 0) (x' := b8 (bits .and .i64 z2 255)) HF HT ha1 rfl rfl (fun w => (sc5 w).2) rfl rfl hx3 rfl rfl rfl rfl (fun w HT => ⟨nS, ?_⟩)
          refine wc_end ?_
          refine then_n ?_
          refine wc_text ?_
          refine wc_move HF nS rfl rfl rfl (fun a HF => ?_)
          refine wc_bin HF nS rfl rfl (b_shrk (k := 8) (by decide)) rfl rfl (fun a HF => ?_)
          refine wc_assign HF nS rfl rfl rfl (fun a HF => ?_)
          refine wc_end ?_
          refine blk_n ?_
          refine then_n ?_
          refine wc_text ?_
          refine wc_move HF nS rfl rfl rfl (fun a HF => ?_)
          obtain ⟨hg5, h⟩ := grd h
          refine wc_bin HF nS rfl rfl (b_sub hg5) rfl rfl (fun a HF => ?_)
          refine wc_assign HF nS rfl rfl rfl (fun a HF => ?_)
          refine wc_end ?_
          exact then_n ⟨k1, Nat.lt_succ_self k1, z2 / 2 ^ 8, z3.set z4.toNat (b8 (bits .and .i64 z2 255)), z4 - 1, a2, z3.length, c2, h, (HF.keep (HF.keep (HF.keep HF.nil rfl) rfl) rfl), HT⟩
        have h := (if_neg hb4).symm.trans h
        refine wp_if (b' := false) HF rfl (decide_eq_false hb4) ?_
        refine wp_exit ?_
        refine then_x (then_x (?_))
        refine blk_x ?_
        obtain rfl := Option.some.inj h
        exact then_n ⟨a2, z3.length, c2, (HF.keep HF.nil rfl), HT⟩
    rintro a w ⟨a1, n1, c1, HF, HT⟩
    obtain rfl := (HT.rdAt 0 rfl).neq
    refine ?_
    refine wp_seq ?_
    refine wc_text ?_
    refine wc_move HF nS rfl rfl rfl (fun a HF => ?_)
    refine wc_cvs HF nS Try.underlying22 Try.underlying5 Try.underlying9 rfl (HT.rdAt 0 rfl) rfl rfl (fun a HF => ?_)
    refine wc_assign HF nS rfl rfl rfl (fun a HF => ?_)
    refine wc_end ?_
    refine then_n ?_
    refine wp_ret ?_
    obtain rfl := Option.some.inj h
    refine bp_ret HF (res_one rfl HF rfl) ?_
    have HT : St w0 (fun _ => False) w [] := HT.take 0
    exact ⟨rfl, HT⟩
  have h := (if_neg hb1).symm.trans h
  refine wc_skip HF nS (HF.wn rfl rfl rfl rfl (notF (Bool.eq_false_iff.2 hb1))) rfl (fun a HF => ?_)
  refine wc_skip HF nS (HF.wn rfl rfl rfl rfl (notF (Bool.eq_false_iff.2 hb1))) rfl (fun a HF => ?_)
  refine wc_pick (b := true) HF nS rfl (notF (Bool.eq_false_iff.2 hb1)) rfl rfl rfl (fun a HF => ?_)
  refine wc_move HF nS rfl rfl rfl (fun a HF => ?_)
  refine wc_skip HF nS (HF.wn rfl rfl rfl rfl rfl) rfl (fun a HF => ?_)
  refine wc_skip HF nS (HF.wn rfl rfl rfl rfl rfl) rfl (fun a HF => ?_)
  refine wc_skip HF nS (HF.wn rfl rfl rfl rfl rfl) rfl (fun a HF => ?_)
  refine wc_skip HF nS (HF.wn rfl rfl rfl rfl rfl) rfl (fun a HF => ?_)
  refine wc_skip HF nS (HF.wn rfl rfl rfl rfl rfl) rfl (fun a HF => ?_)
  refine wc_pick (b := true) HF nS rfl rfl rfl rfl rfl (fun a HF => ?_)
  refine wc_end ?_
  refine then_n ?_
  refine wp_if (b' := true) HF rfl rfl ?_
  refine wp_seq ?_
  refine wc_text ?_
  refine wc_assign HF nS rfl rfl rfl (fun a HF => ?_)
  refine wc_end ?_
  refine then_n ?_
  refine wp_ret ?_
  obtain rfl := Option.some.inj h
  refine then_r (?_)
  refine bp_ret HF (res_one rfl HF rfl) ?_
  exact ⟨rfl, HT⟩

def m_impl_Hex_L0 (fuel : Nat) (x0 : Str) : Nat → (List UInt8) → Int → Option (List UInt8)
  | 0, _, _ => none
  | k1 + 1, z2, z3 =>
    if z3 < (x0.length : Int) then
      (at? x0 z3).bind fun c3 =>
      (at? ([48, 49, 50, 51, 52, 53, 54, 55, 56, 57, 97, 98, 99, 100, 101, 102]) ((b8 ((c3.toNat : Int) / 2 ^ 4)).toNat : Int)).bind fun c4 =>
      (at? x0 z3).bind fun c5 =>
      (at? ([48, 49, 50, 51, 52, 53, 54, 55, 56, 57, 97, 98, 99, 100, 101, 102]) ((b8 (bits .and .u8 (c5.toNat : Int) 15)).toNat : Int)).bind fun c6 =>
      if z2.length + 2 ≤ 17179869184 then
        if in64 (z3 + 1) then
          m_impl_Hex_L0 fuel x0 k1 (z2 ++ ([c4, c6] : List UInt8)) (z3 + 1)
        else none
      else none
    else
    some z2

def m_impl_Hex (fuel : Nat) (x0 : Str) : Option Str :=
  if in64 (2 * (x0.length : Int)) then
    if 0 ≤ (2 * (x0.length : Int) : Int) ∧ (2 * (x0.length : Int) : Int) ≤ 4194304 then
      (m_impl_Hex_L0 fuel x0 fuel ([] : List UInt8) 0).bind fun z1 =>
      some z1
    else none
  else none

set_option maxRecDepth 100000 in
set_option maxHeartbeats 4000000 in
theorem w_impl_Hex (fuel : Nat) {x0 : Str} {r0 : Str} {w0 : World} (h : m_impl_Hex fuel x0 = some r0) :
    Calls Try.prog 15 #[sv x0] w0 fun e w => e = .returned (sv r0) ∧ St w0 (fun _ => False) w [] := by
  have HT : St w0 (fun _ => False) w0 [] := St.init0
  rw [m_impl_Hex] at h
  refine calls_fr (n := 30) [sv x0] Try.func15 rfl rfl rfl (fun a HF => ?_)
  have HT : St w0 (fun _ => False) w0 [] := HT
  refine wp_seq ?_
  refine wc_text ?_
  refine wc_assign HF nS rfl rfl rfl (fun a HF => ?_)
  refine wc_end ?_
  refine then_n ?_
  refine wp_seq ?_
  refine wc_text ?_
  refine wc_move HF nS rfl rfl rfl (fun a HF => ?_)
  refine wc_lenS (ats := #[]) HF nS Try.underlying9 rfl rfl rfl (fun a HF => ?_)
  obtain ⟨hg1, h⟩ := grd h
  refine wc_bin HF nS rfl rfl (b_mul hg1) rfl rfl (fun a HF => ?_)
  obtain ⟨hg2, h⟩ := grd h
  refine wc_makeC (E := UInt8) HF HT el22 rfl rfl hg2 rfl rfl rfl (fun p1 w HT hb => ⟨nS, fun a HF => ?_⟩)
  refine wc_assign HF nS rfl rfl rfl (fun a HF => ?_)
  refine wc_end ?_
  refine then_n ?_
  obtain ⟨z1, hx1, h⟩ := obs h
  refine wp_cut (fun a w => ∃ a1 n1 c1, Fr a 30 [(3, .slice a1 n1 c1)] ∧ St w0 (fun _ => False) w [Own 5 (rowT z1) (.slice a1 n1 c1)]) ?_ ?_
  · have hk1 := h
    have h := hx1
    refine wp_seq ?_
    refine wc_text ?_
    refine wc_assign HF nS rfl rfl rfl (fun a HF => ?_)
    refine wc_end ?_
    refine then_n ?_
    refine wp_block ?_
    refine wp_loopN (fun k1 a w => ∃ z2 z3 a2 n2 c2, m_impl_Hex_L0 fuel x0 k1 z2 z3 = some z1 ∧ Fr a 30 [(0, sv x0), (3, .slice a2 n2 c2), (4, .int .i64 z3)] ∧ St w0 (fun _ => False) w [Own 5 (rowT z2) (.slice a2 n2 c2)]) fuel ⟨([] : List UInt8), 0, (some ⟨p1, 0, none⟩), 0, (2 * (x0.length : Int) : Int).toNat, h, (HF.keep (HF.keep (HF.keep HF.nil rfl) rfl) rfl), HT⟩ ?_
    rintro k1 a w ⟨z2, z3, a2, n2, c2, h, HF, HT⟩
    cases k1 with
    | zero => cases h
    | succ k1 =>
      rw [m_impl_Hex_L0] at h
      obtain rfl := (HT.rdAt 0 rfl).neq
      refine ?_
      refine wp_seq ?_
      refine wp_seq ?_
      refine wc_text ?_
      refine wc_move HF nS rfl rfl rfl (fun a HF => ?_)
      refine wc_move HF nS rfl rfl rfl (fun a HF => ?_)
      refine wc_lenS (ats := #[]) HF nS Try.underlying9 rfl rfl rfl (fun a HF => ?_)
      refine wc_bin HF nS rfl rfl b_lt rfl rfl (fun a HF => ?_)
      refine wc_end ?_
      refine then_n ?_
      by_cases hb1 : z3 < (x0.length : Int)
      · have h := (if_pos hb1).symm.trans h
        refine wp_if (b' := true) HF rfl (decide_eq_true hb1) ?_
        refine wp_skip ?_
        refine then_n ?_
        refine wp_seq ?_
        refine wp_block ?_
        refine wp_region_can [(0, false), (1, true), (2, true), (3, true), (4, true), (5, true), (6, true), (7, true), (8, true), (9, true), (10, true), (11, false), (12, true), (13, true)] (fun w' => True) (by kernel_rfl) (by kernel_rfl) ?_
        have HT : St w0 (fun _ => False) w.drew [Own 5 (rowT z2) (.slice a2 z2.length c2)] := HT.drew
        refine wc_move HF (fun _ => trivial) rfl rfl rfl (fun a HF => ?_)
        refine wc_move HF nS rfl rfl rfl (fun a HF => ?_)
        refine wc_move HF nS rfl rfl rfl (fun a HF => ?_)
        obtain ⟨c3, hx2, h⟩ := obs h
        refine wc_index HF nS Try.underlying9 rfl rfl hx2 rfl rfl (fun a HF => ?_)
        refine wc_bin HF nS rfl rfl (b_shru (k := 4) (by decide)) rfl rfl (fun a HF => ?_)
        obtain ⟨c4, hx3, h⟩ := obs h
        refine wc_index HF nS Try.underlying9 rfl rfl hx3 rfl rfl (fun a HF => ?_)
        refine wc_move HF nS rfl rfl rfl (fun a HF => ?_)
        refine wc_move HF nS rfl rfl rfl (fun a HF => ?_)
        obtain ⟨c5, hx4, h⟩ := obs h
        refine wc_index HF nS Try.underlying9 rfl rfl hx4 rfl rfl (fun a HF => ?_)
        refine wc_bin HF nS rfl rfl b_andu rfl rfl (fun a HF => ?_)
        obtain ⟨c6, hx5, h⟩ := obs h
        refine wc_index HF nS Try.underlying9 rfl rfl hx5 rfl rfl (fun a HF => ?_)
        refine wc_bslice (l := ([c4, c6] : List UInt8)) (cs := [.int .u8 (c4.toNat : Int), .int .u8 (c6.toNat : Int)]) (A := []) HF HT bs22_2 rfl rfl (gives_flat rfl) rfl (by decide) rfl rfl (fun p2 w HT hb => ⟨(fun _ => trivial), fun a HF => ?_⟩)
        obtain ⟨hg3, h⟩ := grd h
        have HT : St w0 (fun _ => False) w [Own 5 (rowT z2) (.slice a2 z2.length c2), Own 5 (rowT ([c4, c6] : List UInt8)) (.slice (some ⟨p2, 0, none⟩) 2 2)] := HT.pick 1
        refine wc_append HF HT el22 rfl rfl (Nat.zero_lt_succ _) hg3 rfl rfl rfl (fun a3 c7 w HT => ⟨nS, fun a HF => ?_⟩)
        refine wc_assign HF nS rfl rfl rfl (fun a HF => ?_)
        refine wc_endN ?_
        refine blk_n ?_
        refine then_n ?_
        refine wc_text ?_
        refine wc_move HF nS rfl rfl rfl (fun a HF => ?_)
        obtain ⟨hg4, h⟩ := grd h
        refine wc_bin HF nS rfl rfl (b_add hg4) rfl rfl (fun a HF => ?_)
        refine wc_assign HF nS rfl rfl rfl (fun a HF => ?_)
        refine wc_end ?_
        exact then_n ⟨k1, Nat.lt_succ_self k1, z2 ++ ([c4, c6] : List UInt8), z3 + 1, a3, (z2 ++ ([c4, c6] : List UInt8)).length, c7, h, (HF.keep (HF.keep (HF.keep HF.nil rfl) rfl) rfl), HT⟩
      have h := (if_neg hb1).symm.trans h
      refine wp_if (b' := false) HF rfl (decide_eq_false hb1) ?_
      refine wp_exit ?_
      refine then_x (then_x (?_))
      refine blk_x ?_
      obtain rfl := Option.some.inj h
      exact then_n ⟨a2, z2.length, c2, (HF.keep HF.nil rfl), HT⟩
  rintro a w ⟨a1, n1, c1, HF, HT⟩
  obtain rfl := (HT.rdAt 0 rfl).neq
  refine ?_
  refine wp_seq ?_
  refine wc_text ?_
  refine wc_move HF nS rfl rfl rfl (fun a HF => ?_)
  refine wc_cvs HF nS Try.underlying22 Try.underlying5 Try.underlying9 rfl (HT.rdAt 0 rfl) rfl rfl (fun a HF => ?_)
  refine wc_assign HF nS rfl rfl rfl (fun a HF => ?_)
  refine wc_end ?_
  refine then_n ?_
  refine wp_ret ?_
  obtain rfl := Option.some.inj h
  refine bp_ret HF (res_one rfl HF rfl) ?_
  have HT : St w0 (fun _ => False) w [] := HT.take 0
  exact ⟨rfl, HT⟩

def m_impl_ReadDec_L0 (fuel : Nat) (x0 : Str) : Nat → Int → Int → Option (Lp Int (Int × Bool))
  | 0, _, _ => none
  | k1 + 1, z3, z4 =>
    if z4 < (x0.length : Int) then
      (at? x0 z4).bind fun c2 =>
      if (c2.toNat : Int) < 48 then
        some (.ret (0, false))
      else
      (at? x0 z4).bind fun c3 =>
      if 57 < (c3.toNat : Int) then
        some (.ret (0, false))
      else
      if in64 (10 * z3) then
        (at? x0 z4).bind fun c4 =>
        if in64 ((10 * z3) + ((b8 ((c4.toNat : Int) - 48)).toNat : Int)) then
          if in64 (z4 + 1) then
            m_impl_ReadDec_L0 fuel x0 k1 ((10 * z3) + ((b8 ((c4.toNat : Int) - 48)).toNat : Int)) (z4 + 1)
          else none
        else none
      else none
    else
    some (.brk z3)

def m_impl_ReadDec (fuel : Nat) (x0 : Str) : Option (Int × Bool) :=
  (
    if 0 < (x0.length : Int) then
      (at? x0 0).bind fun c1 =>
      if (c1.toNat : Int) = 45 then
        some 1
      else
      some 0
    else
    some 0).bind fun z1 =>
  if in64 ((x0.length : Int) - z1) then
    (m_impl_within fuel ((x0.length : Int) - z1) 1 9).bind fun y1 =>
    if y1 = true then
      (m_impl_ReadDec_L0 fuel x0 fuel 0 z1).bind <| contL <| un1 fun z2 =>
      (
        if z1 = 1 then
          if in64 (0 - z2) then
            some (0 - z2)
          else none
        else
        some z2).bind fun z5 =>
      (m_impl_Dec fuel z5).bind fun y2 =>
      if y2 = x0 then
        some (z5, true)
      else
      some (0, false)
    else
    some (0, false)
  else none

set_option maxRecDepth 100000 in
set_option maxHeartbeats 4000000 in
theorem w_impl_ReadDec (fuel : Nat) {x0 : Str} {r0 : Int} {r1 : Bool} {w0 : World} (h : m_impl_ReadDec fuel x0 = some (r0, r1)) :
    Calls Try.prog 12 #[sv x0] w0 fun e w => e = .returned (.tuple #[.int .i64 r0, .bool r1]) ∧ St w0 (fun _ => False) w [] := by
  have HT : St w0 (fun _ => False) w0 [] := St.init0
  rw [m_impl_ReadDec] at h
  refine calls_fr (n := 55) [sv x0] Try.func12 rfl rfl rfl (fun a HF => ?_)
  have HT : St w0 (fun _ => False) w0 [] := HT
  refine wp_seq ?_
  refine wc_text ?_
  refine wc_assign HF nS rfl rfl rfl (fun a HF => ?_)
  refine wc_assign HF nS rfl rfl rfl (fun a HF => ?_)
  refine wc_end ?_
  refine then_n ?_
  refine wp_seq ?_
  refine wc_text ?_
  refine wc_assign HF nS rfl rfl rfl (fun a HF => ?_)
  refine wc_end ?_
  refine then_n ?_
  obtain ⟨z1, hx1, h⟩ := obs h
  refine wp_cut (fun a w => Fr a 55 [(0, sv x0), (4, .int .i64 z1)] ∧ St w0 (fun _ => False) w []) ?_ ?_
  · have hk1 := h
    have h := hx1
    refine wp_seq ?_
    refine wc_text ?_
    refine wc_move HF nS rfl rfl rfl (fun a HF => ?_)
    refine wc_lenS (ats := #[]) HF nS Try.underlying9 rfl rfl rfl (fun a HF => ?_)
    refine wc_bin HF nS rfl rfl b_gt rfl rfl (fun a HF => ?_)
    refine wc_move HF nS rfl rfl rfl (fun a HF => ?_)
    by_cases hb1 : 0 < (x0.length : Int)
    · have h := (if_pos hb1).symm.trans h
      refine wc_move HF nS rfl (HF.wy rfl rfl rfl rfl (decide_eq_true hb1)) rfl (fun a HF => ?_)
      obtain ⟨c1, hx2, h⟩ := obs h
      refine wc_index HF nS Try.underlying9 rfl rfl hx2 (HF.wy rfl rfl rfl rfl (decide_eq_true hb1)) rfl (fun a HF => ?_)
      refine wc_bin HF nS rfl rfl b_eq (HF.wy rfl rfl rfl rfl (decide_eq_true hb1)) rfl (fun a HF => ?_)
      refine wc_pick (b := true) HF nS rfl (decide_eq_true hb1) rfl rfl rfl (fun a HF => ?_)
      refine wc_end ?_
      refine then_n ?_
      by_cases hb2 : (c1.toNat : Int) = 45
      · have h := (if_pos hb2).symm.trans h
        refine wp_if (b' := true) HF rfl (decide_eq_true hb2) ?_
        refine wc_text ?_
        refine wc_assign HF nS rfl rfl rfl (fun a HF => ?_)
        refine wc_end ?_
        obtain rfl := Option.some.inj h
        exact then_n ⟨(HF.keep (HF.keep HF.nil rfl) rfl), HT⟩
      have h := (if_neg hb2).symm.trans h
      refine wp_if (b' := false) HF rfl (decide_eq_false hb2) ?_
      refine wp_skip ?_
      obtain rfl := Option.some.inj h
      exact then_n ⟨(HF.keep (HF.keep HF.nil rfl) rfl), HT⟩
    have h := (if_neg hb1).symm.trans h
    refine wc_skip HF nS (HF.wn rfl rfl rfl rfl (decide_eq_false hb1)) rfl (fun a HF => ?_)
    refine wc_skip HF nS (HF.wn rfl rfl rfl rfl (decide_eq_false hb1)) rfl (fun a HF => ?_)
    refine wc_skip HF nS (HF.wn rfl rfl rfl rfl (decide_eq_false hb1)) rfl (fun a HF => ?_)
    refine wc_pick (b := false) HF nS rfl (decide_eq_false hb1) rfl rfl rfl (fun a HF => ?_)
    refine wc_end ?_
    refine then_n ?_
    refine wp_if (b' := false) HF rfl rfl ?_
    refine wp_skip ?_
    obtain rfl := Option.some.inj h
    exact then_n ⟨(HF.keep (HF.keep HF.nil rfl) rfl), HT⟩
  rintro a w ⟨HF, HT⟩
  refine ?_
  refine wp_seq ?_
  refine wp_seq ?_
  refine wc_text ?_
  refine wc_move HF nS rfl rfl rfl (fun a HF => ?_)
  refine wc_lenS (ats := #[]) HF nS Try.underlying9 rfl rfl rfl (fun a HF => ?_)
  refine wc_move HF nS rfl rfl rfl (fun a HF => ?_)
  obtain ⟨hg1, h⟩ := grd h
  refine wc_bin HF nS rfl rfl (b_sub hg1) rfl rfl (fun a HF => ?_)
  obtain ⟨y1, hx3, h⟩ := obs h
  refine wc_call HF cf28 rfl (w_impl_within fuel hx3) rfl rfl ?_
  rintro e w ⟨rfl, hE⟩
  have hb := hE.below
  have HT := HT.pure hE
  have HT : St w0 (fun _ => False) w [] := HT
  refine ⟨_, rfl, nS, fun a HF => ?_⟩
  refine wc_not HF nS rfl rfl rfl (fun a HF => ?_)
  refine wc_end ?_
  refine then_n ?_
  by_cases hb3 : y1 = true
  · have h := (if_pos hb3).symm.trans h
    refine wp_if (b' := false) HF rfl (notT hb3) ?_
    refine wp_skip ?_
    refine then_n ?_
    refine wp_seq ?_
    refine wc_text ?_
    refine wc_assign HF nS rfl rfl rfl (fun a HF => ?_)
    refine wc_end ?_
    refine then_n ?_
    obtain ⟨q2, hx4, h⟩ := obs h
    refine wp_cut (fun a w => ∃ z2, q2 = .brk z2 ∧ Fr a 55 [(0, sv x0), (4, .int .i64 z1), (5, .int .i64 z2)] ∧ St w0 (fun _ => False) w []) ?_ ?_
    · have hk1 := h
      have h := hx4
      refine wp_seq ?_
      refine wc_text ?_
      refine wc_move HF nS rfl rfl rfl (fun a HF => ?_)
      refine wc_assign HF nS rfl rfl rfl (fun a HF => ?_)
      refine wc_end ?_
      refine then_n ?_
      refine wp_block ?_
      refine wp_loopN (fun k1 a w => ∃ z3 z4, m_impl_ReadDec_L0 fuel x0 k1 z3 z4 = some q2 ∧ Fr a 55 [(0, sv x0), (4, .int .i64 z1), (5, .int .i64 z3), (6, .int .i64 z4)] ∧ St w0 (fun _ => False) w []) fuel ⟨0, z1, h, (HF.keep (HF.keep (HF.keep (HF.keep HF.nil rfl) rfl) rfl) rfl), HT⟩ ?_
      rintro k1 a w ⟨z3, z4, h, HF, HT⟩
      cases k1 with
      | zero => cases h
      | succ k1 =>
        rw [m_impl_ReadDec_L0] at h
        refine ?_
        refine wp_seq ?_
        refine wp_seq ?_
        refine wc_text ?_
        refine wc_move HF nS rfl rfl rfl (fun a HF => ?_)
        refine wc_move HF nS rfl rfl rfl (fun a HF => ?_)
        refine wc_lenS (ats := #[]) HF nS Try.underlying9 rfl rfl rfl (fun a HF => ?_)
        refine wc_bin HF nS rfl rfl b_lt rfl rfl (fun a HF => ?_)
        refine wc_end ?_
        refine then_n ?_
        by_cases hb4 : z4 < (x0.length : Int)
        · have h := (if_pos hb4).symm.trans h
          refine wp_if (b' := true) HF rfl (decide_eq_true hb4) ?_
          refine wp_skip ?_
          refine then_n ?_
          refine wp_seq ?_
          refine wp_block ?_
          refine wp_seq ?_
          refine wp_seq ?_
          refine wc_text ?_
          refine wc_move HF nS rfl rfl rfl (fun a HF => ?_)
          refine wc_move HF nS rfl rfl rfl (fun a HF => ?_)
          obtain ⟨c2, hx5, h⟩ := obs h
          refine wc_index HF nS Try.underlying9 rfl rfl hx5 rfl rfl (fun a HF => ?_)
          refine wc_bin HF nS rfl rfl b_lt rfl rfl (fun a HF => ?_)
          refine wc_move HF nS rfl rfl rfl (fun a HF => ?_)
          by_cases hb5 : (c2.toNat : Int) < 48
          · have h := (if_pos hb5).symm.trans h
            refine wc_skip HF nS (HF.wn rfl rfl rfl rfl (decide_eq_true hb5)) rfl (fun a HF => ?_)
            refine wc_skip HF nS (HF.wn rfl rfl rfl rfl (decide_eq_true hb5)) rfl (fun a HF => ?_)
            refine wc_skip HF nS (HF.wn rfl rfl rfl rfl (decide_eq_true hb5)) rfl (fun a HF => ?_)
            refine wc_skip HF nS (HF.wn rfl rfl rfl rfl (decide_eq_true hb5)) rfl (fun a HF => ?_)
            refine wc_pick (b := true) HF nS rfl (decide_eq_true hb5) rfl rfl rfl (fun a HF => ?_)
            refine wc_end ?_
            refine then_n ?_
            refine wp_if (b' := true) HF rfl rfl ?_
            refine wp_seq ?_
            refine wc_text ?_
            refine wc_assign HF nS rfl rfl rfl (fun a HF => ?_)
            refine wc_assign HF nS rfl rfl rfl (fun a HF => ?_)
            refine wc_end ?_
            refine then_n ?_
            refine wp_ret ?_
            obtain rfl := Option.some.inj h
            have h := retL hk1
            have hj1 := Option.some.inj h
            obtain ⟨hi1, hj2⟩ := Prod.mk.inj hj1
            subst hi1
            subst hj2
            refine then_r (blk_r (then_r (then_r (blk_r (then_r (?_))))))
            refine bp_ret HF (res_two rfl HF rfl rfl) ?_
            exact ⟨rfl, HT⟩
          have h := (if_neg hb5).symm.trans h
          refine wc_move HF nS rfl (HF.wy rfl rfl rfl rfl (decide_eq_false hb5)) rfl (fun a HF => ?_)
          refine wc_move HF nS rfl (HF.wy rfl rfl rfl rfl (decide_eq_false hb5)) rfl (fun a HF => ?_)
          obtain ⟨c3, hx6, h⟩ := obs h
          refine wc_index HF nS Try.underlying9 rfl rfl hx6 (HF.wy rfl rfl rfl rfl (decide_eq_false hb5)) rfl (fun a HF => ?_)
          refine wc_bin HF nS rfl rfl b_gt (HF.wy rfl rfl rfl rfl (decide_eq_false hb5)) rfl (fun a HF => ?_)
          refine wc_pick (b := false) HF nS rfl (decide_eq_false hb5) rfl rfl rfl (fun a HF => ?_)
          refine wc_end ?_
          refine then_n ?_
          by_cases hb6 : 57 < (c3.toNat : Int)
          · have h := (if_pos hb6).symm.trans h
            refine wp_if (b' := true) HF rfl (decide_eq_true hb6) ?_
            refine wp_seq ?_
            refine wc_text ?_
            refine wc_assign HF nS rfl rfl rfl (fun a HF => ?_)
            refine wc_assign HF nS rfl rfl rfl (fun a HF => ?_)
            refine wc_end ?_
            refine then_n ?_
            refine wp_ret ?_
            obtain rfl := Option.some.inj h
            have h := retL hk1
            have hj3 := Option.some.inj h
            obtain ⟨hi3, hj4⟩ := Prod.mk.inj hj3
            subst hi3
            subst hj4
            refine then_r (blk_r (then_r (then_r (blk_r (then_r (?_))))))
            refine bp_ret HF (res_two rfl HF rfl rfl) ?_
            exact ⟨rfl, HT⟩
          have h := (if_neg hb6).symm.trans h
          refine wp_if (b' := false) HF rfl (decide_eq_false hb6) ?_
          refine wp_skip ?_
          refine then_n ?_
          refine wc_text ?_
          refine wc_move HF nS rfl rfl rfl (fun a HF => ?_)
          obtain ⟨hg2, h⟩ := grd h
          refine wc_bin HF nS rfl rfl (b_mul hg2) rfl rfl (fun a HF => ?_)
          refine wc_move HF nS rfl rfl rfl (fun a HF => ?_)
          refine wc_move HF nS rfl rfl rfl (fun a HF => ?_)
          obtain ⟨c4, hx7, h⟩ := obs h
          refine wc_index HF nS Try.underlying9 rfl rfl hx7 rfl rfl (fun a HF => ?_)
          refine wc_bin HF nS rfl rfl b_subu rfl rfl (fun a HF => ?_)
          refine wc_cvu HF nS Try.underlying3 Try.underlying5 rfl rfl rfl (fun a HF => ?_)
          obtain ⟨hg3, h⟩ := grd h
          refine wc_bin HF nS rfl rfl (b_add hg3) rfl rfl (fun a HF => ?_)
          refine wc_assign HF nS rfl rfl rfl (fun a HF => ?_)
          refine wc_end ?_
          refine blk_n ?_
          refine then_n ?_
          refine wc_text ?_
          refine wc_move HF nS rfl rfl rfl (fun a HF => ?_)
          obtain ⟨hg4, h⟩ := grd h
          refine wc_bin HF nS rfl rfl (b_add hg4) rfl rfl (fun a HF => ?_)
          refine wc_assign HF nS rfl rfl rfl (fun a HF => ?_)
          refine wc_end ?_
          exact then_n ⟨k1, Nat.lt_succ_self k1, (10 * z3) + ((b8 ((c4.toNat : Int) - 48)).toNat : Int), z4 + 1, h, (HF.keep (HF.keep (HF.keep (HF.keep HF.nil rfl) rfl) rfl) rfl), HT⟩
        have h := (if_neg hb4).symm.trans h
        refine wp_if (b' := false) HF rfl (decide_eq_false hb4) ?_
        refine wp_exit ?_
        refine then_x (then_x (?_))
        refine blk_x ?_
        exact then_n ⟨z3, (Option.some.inj h).symm, (HF.keep (HF.keep (HF.keep HF.nil rfl) rfl) rfl), HT⟩
    rintro a w ⟨z2, rfl, HF, HT⟩
    have h := brkL1u h
    refine ?_
    obtain ⟨z5, hx8, h⟩ := obs h
    refine wp_cut (fun a w => Fr a 55 [(0, sv x0), (5, .int .i64 z5)] ∧ St w0 (fun _ => False) w []) ?_ ?_
    · have hk1 := h
      have h := hx8
      refine wp_seq ?_
      refine wc_text ?_
      refine wc_move HF nS rfl rfl rfl (fun a HF => ?_)
      refine wc_bin HF nS rfl rfl b_eq rfl rfl (fun a HF => ?_)
      refine wc_end ?_
      refine then_n ?_
      by_cases hb7 : z1 = 1
      · have h := (if_pos hb7).symm.trans h
        refine wp_if (b' := true) HF rfl (decide_eq_true hb7) ?_
        refine wc_text ?_
        refine wc_move HF nS rfl rfl rfl (fun a HF => ?_)
        obtain ⟨hg5, h⟩ := grd h
        refine wc_neg HF nS rfl hg5 rfl rfl (fun a HF => ?_)
        refine wc_assign HF nS rfl rfl rfl (fun a HF => ?_)
        refine wc_end ?_
        obtain rfl := Option.some.inj h
        exact then_n ⟨(HF.keep (HF.keep HF.nil rfl) rfl), HT⟩
      have h := (if_neg hb7).symm.trans h
      refine wp_if (b' := false) HF rfl (decide_eq_false hb7) ?_
      refine wp_skip ?_
      obtain rfl := Option.some.inj h
      exact then_n ⟨(HF.keep (HF.keep HF.nil rfl) rfl), HT⟩
    rintro a w ⟨HF, HT⟩
    refine ?_
    refine wp_seq ?_
    refine wp_seq ?_
    refine wc_text ?_
    refine wc_move HF nS rfl rfl rfl (fun a HF => ?_)
    obtain ⟨y2, hx9, h⟩ := obs h
    refine wc_call HF cf13 rfl (w_impl_Dec fuel hx9) rfl rfl ?_
    rintro e w ⟨rfl, hE⟩
    have hb := hE.below
    have HT := HT.pure hE
    have HT : St w0 (fun _ => False) w [] := HT
    refine ⟨_, rfl, nS, fun a HF => ?_⟩
    refine wc_move HF nS rfl rfl rfl (fun a HF => ?_)
    refine wc_bin HF nS rfl rfl b_sne rfl rfl (fun a HF => ?_)
    refine wc_end ?_
    refine then_n ?_
    by_cases hb8 : y2 = x0
    · have h := (if_pos hb8).symm.trans h
      refine wp_if (b' := false) HF rfl (notT (decide_eq_true hb8)) ?_
      refine wp_skip ?_
      refine then_n ?_
      refine wp_seq ?_
      refine wc_text ?_
      refine wc_move HF nS rfl rfl rfl (fun a HF => ?_)
      refine wc_assign HF nS rfl rfl rfl (fun a HF => ?_)
      refine wc_assign HF nS rfl rfl rfl (fun a HF => ?_)
      refine wc_end ?_
      refine then_n ?_
      refine wp_ret ?_
      have hj5 := Option.some.inj h
      obtain ⟨hi5, hj6⟩ := Prod.mk.inj hj5
      subst hi5
      subst hj6
      refine bp_ret HF (res_two rfl HF rfl rfl) ?_
      exact ⟨rfl, HT⟩
    have h := (if_neg hb8).symm.trans h
    refine wp_if (b' := true) HF rfl (notF (decide_eq_false hb8)) ?_
    refine wp_seq ?_
    refine wc_text ?_
    refine wc_assign HF nS rfl rfl rfl (fun a HF => ?_)
    refine wc_assign HF nS rfl rfl rfl (fun a HF => ?_)
    refine wc_end ?_
    refine then_n ?_
    refine wp_ret ?_
    have hj7 := Option.some.inj h
    obtain ⟨hi7, hj8⟩ := Prod.mk.inj hj7
    subst hi7
    subst hj8
    refine then_r (?_)
    refine bp_ret HF (res_two rfl HF rfl rfl) ?_
    exact ⟨rfl, HT⟩
  have h := (if_neg hb3).symm.trans h
  refine wp_if (b' := true) HF rfl (notF (Bool.eq_false_iff.2 hb3)) ?_
  refine wp_seq ?_
  refine wc_text ?_
  refine wc_assign HF nS rfl rfl rfl (fun a HF => ?_)
  refine wc_assign HF nS rfl rfl rfl (fun a HF => ?_)
  refine wc_end ?_
  refine then_n ?_
  refine wp_ret ?_
  have hj9 := Option.some.inj h
  obtain ⟨hi9, hj10⟩ := Prod.mk.inj hj9
  subst hi9
  subst hj10
  refine then_r (?_)
  refine bp_ret HF (res_two rfl HF rfl rfl) ?_
  exact ⟨rfl, HT⟩

def m_impl_ReadFixed_L0 (fuel : Nat) (x0 : Str) (x1 : Int) : Nat → Int → Int → Option Int
  | 0, _, _ => none
  | k1 + 1, z2, z3 =>
    if z3 < x1 then
      if (0 ≤ (8 : Int) ∧ (8 : Int) ≤ 63) ∧ in64 (z2 * 2 ^ (8 : Int).toNat) then
        (at? x0 z3).bind fun c1 =>
        if in64 (z3 + 1) then
          m_impl_ReadFixed_L0 fuel x0 x1 k1 (bits .or .i64 (z2 * 2 ^ (8 : Int).toNat) (c1.toNat : Int)) (z3 + 1)
        else none
      else none
    else
    some z2

def m_impl_ReadFixed (fuel : Nat) (x0 : Str) (x1 : Int) : Option (Int × Bool) :=
  (m_impl_within fuel x1 1 7).bind fun y1 =>
  if y1 = true then
    if (x0.length : Int) < x1 then
      some (0, false)
    else
    (m_impl_ReadFixed_L0 fuel x0 x1 fuel 0 0).bind fun z1 =>
    some (z1, true)
  else
  some (0, false)

set_option maxRecDepth 100000 in
set_option maxHeartbeats 4000000 in
theorem w_impl_ReadFixed (fuel : Nat) {x0 : Str} {x1 : Int} {r0 : Int} {r1 : Bool} {w0 : World} (h : m_impl_ReadFixed fuel x0 x1 = some (r0, r1)) :
    Calls Try.prog 11 #[sv x0, .int .i64 x1] w0 fun e w => e = .returned (.tuple #[.int .i64 r0, .bool r1]) ∧ St w0 (fun _ => False) w [] := by
  have HT : St w0 (fun _ => False) w0 [] := St.init0
  rw [m_impl_ReadFixed] at h
  refine calls_fr (n := 30) [sv x0, .int .i64 x1] Try.func11 rfl rfl rfl (fun a HF => ?_)
  have HT : St w0 (fun _ => False) w0 [] := HT
  refine wp_seq ?_
  refine wc_text ?_
  refine wc_assign HF nS rfl rfl rfl (fun a HF => ?_)
  refine wc_assign HF nS rfl rfl rfl (fun a HF => ?_)
  refine wc_end ?_
  refine then_n ?_
  refine wp_seq ?_
  refine wp_seq ?_
  refine wc_text ?_
  refine wc_move HF nS rfl rfl rfl (fun a HF => ?_)
  obtain ⟨y1, hx1, h⟩ := obs h
  refine wc_call HF cf28 rfl (w_impl_within fuel hx1) rfl rfl ?_
  rintro e w ⟨rfl, hE⟩
  have hb := hE.below
  have HT := HT.pure hE
  have HT : St w0 (fun _ => False) w [] := HT
  refine ⟨_, rfl, nS, fun a HF => ?_⟩
  refine wc_not HF nS rfl rfl rfl (fun a HF => ?_)
  refine wc_move HF nS rfl rfl rfl (fun a HF => ?_)
  by_cases hb1 : y1 = true
  · have h := (if_pos hb1).symm.trans h
    refine wc_move HF nS rfl (HF.wy rfl rfl rfl rfl (notT hb1)) rfl (fun a HF => ?_)
    refine wc_lenS (ats := #[]) HF nS Try.underlying9 rfl (HF.wy rfl rfl rfl rfl (notT hb1)) rfl (fun a HF => ?_)
    refine wc_move HF nS rfl (HF.wy rfl rfl rfl rfl (notT hb1)) rfl (fun a HF => ?_)
    refine wc_bin HF nS rfl rfl b_lt (HF.wy rfl rfl rfl rfl (notT hb1)) rfl (fun a HF => ?_)
    refine wc_pick (b := false) HF nS rfl (notT hb1) rfl rfl rfl (fun a HF => ?_)
    refine wc_end ?_
    refine then_n ?_
    by_cases hb2 : (x0.length : Int) < x1
    · have h := (if_pos hb2).symm.trans h
      refine wp_if (b' := true) HF rfl (decide_eq_true hb2) ?_
      refine wp_seq ?_
      refine wc_text ?_
      refine wc_assign HF nS rfl rfl rfl (fun a HF => ?_)
      refine wc_assign HF nS rfl rfl rfl (fun a HF => ?_)
      refine wc_end ?_
      refine then_n ?_
      refine wp_ret ?_
      have hj1 := Option.some.inj h
      obtain ⟨hi1, hj2⟩ := Prod.mk.inj hj1
      subst hi1
      subst hj2
      refine then_r (?_)
      refine bp_ret HF (res_two rfl HF rfl rfl) ?_
      exact ⟨rfl, HT⟩
    have h := (if_neg hb2).symm.trans h
    refine wp_if (b' := false) HF rfl (decide_eq_false hb2) ?_
    refine wp_skip ?_
    refine then_n ?_
    refine wp_seq ?_
    refine wc_text ?_
    refine wc_assign HF nS rfl rfl rfl (fun a HF => ?_)
    refine wc_end ?_
    refine then_n ?_
    obtain ⟨z1, hx2, h⟩ := obs h
    refine wp_cut (fun a w => Fr a 30 [(6, .int .i64 z1)] ∧ St w0 (fun _ => False) w []) ?_ ?_
    · have hk1 := h
      have h := hx2
      refine wp_seq ?_
      refine wc_text ?_
      refine wc_assign HF nS rfl rfl rfl (fun a HF => ?_)
      refine wc_end ?_
      refine then_n ?_
      refine wp_block ?_
      refine wp_loopN (fun k1 a w => ∃ z2 z3, m_impl_ReadFixed_L0 fuel x0 x1 k1 z2 z3 = some z1 ∧ Fr a 30 [(0, sv x0), (1, .int .i64 x1), (6, .int .i64 z2), (7, .int .i64 z3)] ∧ St w0 (fun _ => False) w []) fuel ⟨0, 0, h, (HF.keep (HF.keep (HF.keep (HF.keep HF.nil rfl) rfl) rfl) rfl), HT⟩ ?_
      rintro k1 a w ⟨z2, z3, h, HF, HT⟩
      cases k1 with
      | zero => cases h
      | succ k1 =>
        rw [m_impl_ReadFixed_L0] at h
        refine ?_
        refine wp_seq ?_
        refine wp_seq ?_
        refine wc_text ?_
        refine wc_move HF nS rfl rfl rfl (fun a HF => ?_)
        refine wc_move HF nS rfl rfl rfl (fun a HF => ?_)
        refine wc_bin HF nS rfl rfl b_lt rfl rfl (fun a HF => ?_)
        refine wc_end ?_
        refine then_n ?_
        by_cases hb3 : z3 < x1
        · have h := (if_pos hb3).symm.trans h
          refine wp_if (b' := true) HF rfl (decide_eq_true hb3) ?_
          refine wp_skip ?_
          refine then_n ?_
          refine wp_seq ?_
          refine wp_block ?_
          refine wc_text ?_
          refine wc_move HF nS rfl rfl rfl (fun a HF => ?_)
          obtain ⟨hg1, h⟩ := grd h
          refine wc_bin HF nS rfl rfl (b_shl hg1) rfl rfl (fun a HF => ?_)
          refine wc_move HF nS rfl rfl rfl (fun a HF => ?_)
          refine wc_move HF nS rfl rfl rfl (fun a HF => ?_)
          obtain ⟨c1, hx3, h⟩ := obs h
          refine wc_index HF nS Try.underlying9 rfl rfl hx3 rfl rfl (fun a HF => ?_)
          refine wc_cvu HF nS Try.underlying3 Try.underlying5 rfl rfl rfl (fun a HF => ?_)
          refine wc_bin HF nS rfl rfl b_or rfl rfl (fun a HF => ?_)
          refine wc_assign HF nS rfl rfl rfl (fun a HF => ?_)
          refine wc_end ?_
          refine blk_n ?_
          refine then_n ?_
          refine wc_text ?_
          refine wc_move HF nS rfl rfl rfl (fun a HF => ?_)
          obtain ⟨hg2, h⟩ := grd h
          refine wc_bin HF nS rfl rfl (b_add hg2) rfl rfl (fun a HF => ?_)
          refine wc_assign HF nS rfl rfl rfl (fun a HF => ?_)
          refine wc_end ?_
          exact then_n ⟨k1, Nat.lt_succ_self k1, bits .or .i64 (z2 * 2 ^ (8 : Int).toNat) (c1.toNat : Int), z3 + 1, h, (HF.keep (HF.keep (HF.keep (HF.keep HF.nil rfl) rfl) rfl) rfl), HT⟩
        have h := (if_neg hb3).symm.trans h
        refine wp_if (b' := false) HF rfl (decide_eq_false hb3) ?_
        refine wp_exit ?_
        refine then_x (then_x (?_))
        refine blk_x ?_
        obtain rfl := Option.some.inj h
        exact then_n ⟨(HF.keep HF.nil rfl), HT⟩
    rintro a w ⟨HF, HT⟩
    refine ?_
    refine wp_seq ?_
    refine wc_text ?_
    refine wc_move HF nS rfl rfl rfl (fun a HF => ?_)
    refine wc_assign HF nS rfl rfl rfl (fun a HF => ?_)
    refine wc_assign HF nS rfl rfl rfl (fun a HF => ?_)
    refine wc_end ?_
    refine then_n ?_
    refine wp_ret ?_
    have hj3 := Option.some.inj h
    obtain ⟨hi3, hj4⟩ := Prod.mk.inj hj3
    subst hi3
    subst hj4
    refine bp_ret HF (res_two rfl HF rfl rfl) ?_
    exact ⟨rfl, HT⟩
  have h := (if_neg hb1).symm.trans h
  refine wc_skip HF nS (HF.wn rfl rfl rfl rfl (notF (Bool.eq_false_iff.2 hb1))) rfl (fun a HF => ?_)
  refine wc_skip HF nS (HF.wn rfl rfl rfl rfl (notF (Bool.eq_false_iff.2 hb1))) rfl (fun a HF => ?_)
  refine wc_skip HF nS (HF.wn rfl rfl rfl rfl (notF (Bool.eq_false_iff.2 hb1))) rfl (fun a HF => ?_)
  refine wc_skip HF nS (HF.wn rfl rfl rfl rfl (notF (Bool.eq_false_iff.2 hb1))) rfl (fun a HF => ?_)
  refine wc_pick (b := true) HF nS rfl (notF (Bool.eq_false_iff.2 hb1)) rfl rfl rfl (fun a HF => ?_)
  refine wc_end ?_
  refine then_n ?_
  refine wp_if (b' := true) HF rfl rfl ?_
  refine wp_seq ?_
  refine wc_text ?_
  refine wc_assign HF nS rfl rfl rfl (fun a HF => ?_)
  refine wc_assign HF nS rfl rfl rfl (fun a HF => ?_)
  refine wc_end ?_
  refine then_n ?_
  refine wp_ret ?_
  have hj5 := Option.some.inj h
  obtain ⟨hi5, hj6⟩ := Prod.mk.inj hj5
  subst hi5
  subst hj6
  refine then_r (?_)
  refine bp_ret HF (res_two rfl HF rfl rfl) ?_
  exact ⟨rfl, HT⟩

def m_impl_Var_L0 (fuel : Nat) : Nat → Int → (List UInt8) → Option (Int × List UInt8)
  | 0, _, _ => none
  | k1 + 1, z3, z4 =>
    if 127 < z3 then
      if z4.length + 1 ≤ 17179869184 then
        m_impl_Var_L0 fuel k1 (z3 / 2 ^ 7) (z4 ++ ([b8 (bits .or .i64 (bits .and .i64 z3 127) 128)] : List UInt8))
      else none
    else
    some (z3, z4)

def m_impl_Var (fuel : Nat) (x0 : Int) : Option Str :=
  (m_impl_within fuel x0 0 562949953421311).bind fun y1 =>
  if y1 = true then
    bind2 (m_impl_Var_L0 fuel fuel x0 ([] : List UInt8)) fun z1 z2 =>
    if z2.length + 1 ≤ 17179869184 then
      some (z2 ++ ([b8 z1] : List UInt8))
    else none
  else
  some []

set_option maxRecDepth 100000 in
set_option maxHeartbeats 4000000 in
theorem w_impl_Var (fuel : Nat) {x0 : Int} {r0 : Str} {w0 : World} (h : m_impl_Var fuel x0 = some r0) :
    Calls Try.prog 8 #[.int .i64 x0] w0 fun e w => e = .returned (sv r0) ∧ St w0 (fun _ => False) w [] := by
  have HT : St w0 (fun _ => False) w0 [] := St.init0
  rw [m_impl_Var] at h
  refine calls_fr (n := 25) [.int .i64 x0] Try.func8 rfl rfl rfl (fun a HF => ?_)
  have HT : St w0 (fun _ => False) w0 [] := HT
  refine wp_seq ?_
  refine wc_text ?_
  refine wc_assign HF nS rfl rfl rfl (fun a HF => ?_)
  refine wc_end ?_
  refine then_n ?_
  refine wp_seq ?_
  refine wp_seq ?_
  refine wc_text ?_
  refine wc_move HF nS rfl rfl rfl (fun a HF => ?_)
  obtain ⟨y1, hx1, h⟩ := obs h
  refine wc_call HF cf28 rfl (w_impl_within fuel hx1) rfl rfl ?_
  rintro e w ⟨rfl, hE⟩
  have hb := hE.below
  have HT := HT.pure hE
  have HT : St w0 (fun _ => False) w [] := HT
  refine ⟨_, rfl, nS, fun a HF => ?_⟩
  refine wc_not HF nS rfl rfl rfl (fun a HF => ?_)
  refine wc_end ?_
  refine then_n ?_
  by_cases hb1 : y1 = true
  · have h := (if_pos hb1).symm.trans h
    refine wp_if (b' := false) HF rfl (notT hb1) ?_
    refine wp_skip ?_
    refine then_n ?_
    refine wp_seq ?_
    refine wc_text ?_
    refine wc_bslice (l := ([] : List UInt8)) (cs := []) (A := []) HF HT bs22_0 rfl rfl (gives_flat rfl) rfl (by decide) rfl rfl (fun p1 w HT hb => ⟨nS, fun a HF => ?_⟩)
    refine wc_assign HF nS rfl rfl rfl (fun a HF => ?_)
    refine wc_end ?_
    refine then_n ?_
    obtain ⟨z1, z2, hx2, h⟩ := obs2 h
    refine wp_cut (fun a w => ∃ a1 n1 c1, Fr a 25 [(0, .int .i64 z1), (3, .slice a1 n1 c1)] ∧ St w0 (fun _ => False) w [Own 5 (rowT z2) (.slice a1 n1 c1)]) ?_ ?_
    · have hk1 := h
      have h := hx2
      refine wp_block ?_
      refine wp_loopN (fun k1 a w => ∃ z3 z4 a2 n2 c2, m_impl_Var_L0 fuel k1 z3 z4 = some (z1, z2) ∧ Fr a 25 [(0, .int .i64 z3), (3, .slice a2 n2 c2)] ∧ St w0 (fun _ => False) w [Own 5 (rowT z4) (.slice a2 n2 c2)]) fuel ⟨x0, ([] : List UInt8), (some ⟨p1, 0, none⟩), 0, 0, h, (HF.keep (HF.keep HF.nil rfl) rfl), HT⟩ ?_
      rintro k1 a w ⟨z3, z4, a2, n2, c2, h, HF, HT⟩
      cases k1 with
      | zero => cases h
      | succ k1 =>
        rw [m_impl_Var_L0] at h
        obtain rfl := (HT.rdAt 0 rfl).neq
        refine ?_
        refine wp_seq ?_
        refine wp_seq ?_
        refine wc_text ?_
        refine wc_move HF nS rfl rfl rfl (fun a HF => ?_)
        refine wc_bin HF nS rfl rfl b_gt rfl rfl (fun a HF => ?_)
        refine wc_end ?_
        refine then_n ?_
        by_cases hb2 : 127 < z3
        · have h := (if_pos hb2).symm.trans h
          refine wp_if (b' := true) HF rfl (decide_eq_true hb2) ?_
          refine wp_skip ?_
          refine then_n ?_
          refine wp_block ?_
          refine wp_seq ?_
          refine wc_text ?_
          refine wc_move HF nS rfl rfl rfl (fun a HF => ?_)
          refine wc_move HF nS rfl rfl rfl (fun a HF => ?_)
          refine wc_bin HF nS rfl rfl b_and rfl rfl (fun a HF => ?_)
          refine wc_bin HF nS rfl rfl b_or rfl rfl (fun a HF => ?_)
          refine wc_cvb HF nS Try.underlying5 Try.underlying3 rfl rfl rfl (fun a HF => ?_)
          refine wc_bslice (l := ([b8 (bits .or .i64 (bits .and .i64 z3 127) 128)] : List UInt8)) (cs := [.int .u8 ((b8 (bits .or .i64 (bits .and .i64 z3 127) 128)).toNat : Int)]) (A := []) HF HT bs22_1 rfl rfl (gives_flat rfl) rfl (by decide) rfl rfl (fun p2 w HT hb => ⟨nS, fun a HF => ?_⟩)
          obtain ⟨hg1, h⟩ := grd h
          have HT : St w0 (fun _ => False) w [Own 5 (rowT z4) (.slice a2 z4.length c2), Own 5 (rowT ([b8 (bits .or .i64 (bits .and .i64 z3 127) 128)] : List UInt8)) (.slice (some ⟨p2, 0, none⟩) 1 1)] := HT.pick 1
          refine wc_append HF HT el22 rfl rfl (Nat.zero_lt_succ _) hg1 rfl rfl rfl (fun a3 c3 w HT => ⟨nS, fun a HF => ?_⟩)
          refine wc_assign HF nS rfl rfl rfl (fun a HF => ?_)
          refine wc_end ?_
          refine then_n ?_
          refine wc_text ?_
          refine wc_move HF nS rfl rfl rfl (fun a HF => ?_)
          refine wc_bin HF nS rfl rfl (b_shrk (k := 7) (by decide)) rfl rfl (fun a HF => ?_)
          refine wc_assign HF nS rfl rfl rfl (fun a HF => ?_)
          refine wc_end ?_
          refine blk_n ?_
          exact then_n ⟨k1, Nat.lt_succ_self k1, z3 / 2 ^ 7, z4 ++ ([b8 (bits .or .i64 (bits .and .i64 z3 127) 128)] : List UInt8), a3, (z4 ++ ([b8 (bits .or .i64 (bits .and .i64 z3 127) 128)] : List UInt8)).length, c3, h, (HF.keep (HF.keep HF.nil rfl) rfl), HT⟩
        have h := (if_neg hb2).symm.trans h
        refine wp_if (b' := false) HF rfl (decide_eq_false hb2) ?_
        refine wp_exit ?_
        refine then_x (then_x (?_))
        refine blk_x ?_
        have hj1 := Option.some.inj h
        obtain ⟨hi1, hj2⟩ := Prod.mk.inj hj1
        subst hi1
        subst hj2
        exact then_n ⟨a2, z4.length, c2, (HF.keep (HF.keep HF.nil rfl) rfl), HT⟩
    rintro a w ⟨a1, n1, c1, HF, HT⟩
    obtain rfl := (HT.rdAt 0 rfl).neq
    refine ?_
    refine wp_seq ?_
    refine wc_text ?_
    refine wc_move HF nS rfl rfl rfl (fun a HF => ?_)
    refine wc_move HF nS rfl rfl rfl (fun a HF => ?_)
    refine wc_cvb HF nS Try.underlying5 Try.underlying3 rfl rfl rfl (fun a HF => ?_)
    refine wc_bslice (l := ([b8 z1] : List UInt8)) (cs := [.int .u8 ((b8 z1).toNat : Int)]) (A := []) HF HT bs22_1 rfl rfl (gives_flat rfl) rfl (by decide) rfl rfl (fun p3 w HT hb => ⟨nS, fun a HF => ?_⟩)
    obtain ⟨hg2, h⟩ := grd h
    have HT : St w0 (fun _ => False) w [Own 5 (rowT z2) (.slice a1 z2.length c1), Own 5 (rowT ([b8 z1] : List UInt8)) (.slice (some ⟨p3, 0, none⟩) 1 1)] := HT.pick 1
    refine wc_append HF HT el22 rfl rfl (Nat.zero_lt_succ _) hg2 rfl rfl rfl (fun a4 c4 w HT => ⟨nS, fun a HF => ?_⟩)
    refine wc_cvs HF nS Try.underlying22 Try.underlying5 Try.underlying9 rfl (HT.rdAt 0 rfl) rfl rfl (fun a HF => ?_)
    refine wc_assign HF nS rfl rfl rfl (fun a HF => ?_)
    refine wc_end ?_
    refine then_n ?_
    refine wp_ret ?_
    obtain rfl := Option.some.inj h
    refine bp_ret HF (res_one rfl HF rfl) ?_
    have HT : St w0 (fun _ => False) w [] := HT.take 0
    exact ⟨rfl, HT⟩
  have h := (if_neg hb1).symm.trans h
  refine wp_if (b' := true) HF rfl (notF (Bool.eq_false_iff.2 hb1)) ?_
  refine wp_seq ?_
  refine wc_text ?_
  refine wc_assign HF nS rfl rfl rfl (fun a HF => ?_)
  refine wc_end ?_
  refine then_n ?_
  refine wp_ret ?_
  obtain rfl := Option.some.inj h
  refine then_r (?_)
  refine bp_ret HF (res_one rfl HF rfl) ?_
  exact ⟨rfl, HT⟩

def m_impl_ReadVar_L0 (fuel : Nat) (x0 : Str) : Nat → Int → Int → Option (Lp Unit (Int × Int))
  | 0, _, _ => none
  | k1 + 1, z1, z2 =>
    if z2 < (x0.length : Int) then
      if z2 < 7 then
        (at? x0 z2).bind fun c1 =>
        if in64 (7 * z2) then
          if (0 ≤ (7 * z2 : Int) ∧ (7 * z2 : Int) ≤ 63) ∧ in64 (((b8 (bits .and .u8 (c1.toNat : Int) 127)).toNat : Int) * 2 ^ (7 * z2 : Int).toNat) then
            (at? x0 z2).bind fun c2 =>
            if (c2.toNat : Int) < 128 then
              if in64 (z2 + 1) then
                if 0 ≤ (0 : Int) ∧ (0 : Int) ≤ (z2 + 1) ∧ (z2 + 1) ≤ (x0.length : Int) then
                  (m_impl_Var fuel (bits .or .i64 z1 (((b8 (bits .and .u8 (c1.toNat : Int) 127)).toNat : Int) * 2 ^ (7 * z2 : Int).toNat))).bind fun y1 =>
                  if y1 = (sub x0 0 (z2 + 1)) then
                    if in64 (z2 + 1) then
                      some (.ret (bits .or .i64 z1 (((b8 (bits .and .u8 (c1.toNat : Int) 127)).toNat : Int) * 2 ^ (7 * z2 : Int).toNat), z2 + 1))
                    else none
                  else
                  some (.ret (0, 0))
                else none
              else none
            else
            if in64 (z2 + 1) then
              m_impl_ReadVar_L0 fuel x0 k1 (bits .or .i64 z1 (((b8 (bits .and .u8 (c1.toNat : Int) 127)).toNat : Int) * 2 ^ (7 * z2 : Int).toNat)) (z2 + 1)
            else none
          else none
        else none
      else
      some (.brk ())
    else
    some (.brk ())

def m_impl_ReadVar (fuel : Nat) (x0 : Str) : Option (Int × Int) :=
  (m_impl_ReadVar_L0 fuel x0 fuel 0 0).bind <| contL <| un1 fun _ =>
  some (0, 0)

set_option maxRecDepth 100000 in
set_option maxHeartbeats 4000000 in
theorem w_impl_ReadVar (fuel : Nat) {x0 : Str} {r0 : Int} {r1 : Int} {w0 : World} (h : m_impl_ReadVar fuel x0 = some (r0, r1)) :
    Calls Try.prog 9 #[sv x0] w0 fun e w => e = .returned (.tuple #[.int .i64 r0, .int .i64 r1]) ∧ St w0 (fun _ => False) w [] := by
  have HT : St w0 (fun _ => False) w0 [] := St.init0
  rw [m_impl_ReadVar] at h
  refine calls_fr (n := 40) [sv x0] Try.func9 rfl rfl rfl (fun a HF => ?_)
  have HT : St w0 (fun _ => False) w0 [] := HT
  refine wp_seq ?_
  refine wc_text ?_
  refine wc_assign HF nS rfl rfl rfl (fun a HF => ?_)
  refine wc_assign HF nS rfl rfl rfl (fun a HF => ?_)
  refine wc_end ?_
  refine then_n ?_
  refine wp_seq ?_
  refine wc_text ?_
  refine wc_assign HF nS rfl rfl rfl (fun a HF => ?_)
  refine wc_end ?_
  refine then_n ?_
  obtain ⟨q1, hx1, h⟩ := obs h
  refine wp_cut (fun a w => q1 = .brk () ∧ Fr a 40 [] ∧ St w0 (fun _ => False) w []) ?_ ?_
  · have hk1 := h
    have h := hx1
    refine wp_seq ?_
    refine wc_text ?_
    refine wc_assign HF nS rfl rfl rfl (fun a HF => ?_)
    refine wc_end ?_
    refine then_n ?_
    refine wp_block ?_
    refine wp_loopN (fun k1 a w => ∃ z1 z2, m_impl_ReadVar_L0 fuel x0 k1 z1 z2 = some q1 ∧ Fr a 40 [(0, sv x0), (4, .int .i64 z1), (5, .int .i64 z2)] ∧ St w0 (fun _ => False) w []) fuel ⟨0, 0, h, (HF.keep (HF.keep (HF.keep HF.nil rfl) rfl) rfl), HT⟩ ?_
    rintro k1 a w ⟨z1, z2, h, HF, HT⟩
    cases k1 with
    | zero => cases h
    | succ k1 =>
      rw [m_impl_ReadVar_L0] at h
      refine ?_
      refine wp_seq ?_
      refine wp_seq ?_
      refine wc_text ?_
      refine wc_move HF nS rfl rfl rfl (fun a HF => ?_)
      refine wc_move HF nS rfl rfl rfl (fun a HF => ?_)
      refine wc_lenS (ats := #[]) HF nS Try.underlying9 rfl rfl rfl (fun a HF => ?_)
      refine wc_bin HF nS rfl rfl b_lt rfl rfl (fun a HF => ?_)
      refine wc_move HF nS rfl rfl rfl (fun a HF => ?_)
      by_cases hb1 : z2 < (x0.length : Int)
      · have h := (if_pos hb1).symm.trans h
        refine wc_move HF nS rfl (HF.wy rfl rfl rfl rfl (decide_eq_true hb1)) rfl (fun a HF => ?_)
        refine wc_bin HF nS rfl rfl b_lt (HF.wy rfl rfl rfl rfl (decide_eq_true hb1)) rfl (fun a HF => ?_)
        refine wc_pick (b := true) HF nS rfl (decide_eq_true hb1) rfl rfl rfl (fun a HF => ?_)
        refine wc_end ?_
        refine then_n ?_
        by_cases hb2 : z2 < 7
        · have h := (if_pos hb2).symm.trans h
          refine wp_if (b' := true) HF rfl (decide_eq_true hb2) ?_
          refine wp_skip ?_
          refine then_n ?_
          refine wp_seq ?_
          refine wp_block ?_
          refine wp_seq ?_
          refine wc_text ?_
          refine wc_move HF nS rfl rfl rfl (fun a HF => ?_)
          refine wc_move HF nS rfl rfl rfl (fun a HF => ?_)
          refine wc_move HF nS rfl rfl rfl (fun a HF => ?_)
          obtain ⟨c1, hx2, h⟩ := obs h
          refine wc_index HF nS Try.underlying9 rfl rfl hx2 rfl rfl (fun a HF => ?_)
          refine wc_bin HF nS rfl rfl b_andu rfl rfl (fun a HF => ?_)
          refine wc_cvu HF nS Try.underlying3 Try.underlying5 rfl rfl rfl (fun a HF => ?_)
          refine wc_move HF nS rfl rfl rfl (fun a HF => ?_)
          obtain ⟨hg1, h⟩ := grd h
          refine wc_bin HF nS rfl rfl (b_mul hg1) rfl rfl (fun a HF => ?_)
          obtain ⟨hg2, h⟩ := grd h
          refine wc_bin HF nS rfl rfl (b_shl hg2) rfl rfl (fun a HF => ?_)
          refine wc_bin HF nS rfl rfl b_or rfl rfl (fun a HF => ?_)
          refine wc_assign HF nS rfl rfl rfl (fun a HF => ?_)
          refine wc_end ?_
          refine then_n ?_
          refine wp_seq ?_
          refine wc_text ?_
          refine wc_move HF nS rfl rfl rfl (fun a HF => ?_)
          refine wc_move HF nS rfl rfl rfl (fun a HF => ?_)
          obtain ⟨c2, hx3, h⟩ := obs h
          refine wc_index HF nS Try.underlying9 rfl rfl hx3 rfl rfl (fun a HF => ?_)
          refine wc_bin HF nS rfl rfl b_lt rfl rfl (fun a HF => ?_)
          refine wc_end ?_
          refine then_n ?_
          by_cases hb3 : (c2.toNat : Int) < 128
          · have h := (if_pos hb3).symm.trans h
            refine wp_if (b' := true) HF rfl (decide_eq_true hb3) ?_
            refine wp_seq ?_
            refine wp_seq ?_
            refine wp_region_can [(0, true), (2, false), (3, false), (4, false), (5, false), (1, false), (6, true)] (fun w' => True) (by kernel_rfl) (by kernel_rfl) ?_
            have HT : St w0 (fun _ => False) w.drew [] := HT.drew
            refine wc_move HF nS rfl rfl rfl (fun a HF => ?_)
            refine wc_move HF (fun _ => trivial) rfl rfl rfl (fun a HF => ?_)
            refine wc_move HF (fun _ => trivial) rfl rfl rfl (fun a HF => ?_)
            obtain ⟨hg3, h⟩ := grd h
            refine wc_bin HF (fun _ => trivial) rfl rfl (b_add hg3) rfl rfl (fun a HF => ?_)
            obtain ⟨hg4, h⟩ := grd h
            refine wc_slsH HF (fun _ => trivial) Try.underlying9 rfl rfl hg4 rfl rfl (fun a HF => ?_)
            obtain ⟨y1, hx4, h⟩ := obs h
            refine wc_call HF cf8 rfl (w_impl_Var fuel hx4) rfl rfl ?_
            rintro e w ⟨rfl, hE⟩
            have hb := hE.below
            have HT := HT.pure hE
            have HT : St w0 (fun _ => False) w [] := HT
            refine ⟨_, rfl, (fun _ => trivial), fun a HF => ?_⟩
            refine wc_bin HF nS rfl rfl b_sne rfl rfl (fun a HF => ?_)
            refine wc_endN ?_
            refine then_n ?_
            by_cases hb4 : y1 = (sub x0 0 (z2 + 1))
            · have h := (if_pos hb4).symm.trans h
              refine wp_if (b' := false) HF rfl (notT (decide_eq_true hb4)) ?_
              refine wp_skip ?_
              refine then_n ?_
              refine wp_seq ?_
              refine wc_text ?_
              refine wc_move HF nS rfl rfl rfl (fun a HF => ?_)
              refine wc_move HF nS rfl rfl rfl (fun a HF => ?_)
              obtain ⟨hg5, h⟩ := grd h
              refine wc_bin HF nS rfl rfl (b_add hg5) rfl rfl (fun a HF => ?_)
              refine wc_assign HF nS rfl rfl rfl (fun a HF => ?_)
              refine wc_assign HF nS rfl rfl rfl (fun a HF => ?_)
              refine wc_end ?_
              refine then_n ?_
              refine wp_ret ?_
              obtain rfl := Option.some.inj h
              have h := retL hk1
              have hj1 := Option.some.inj h
              obtain ⟨hi1, hj2⟩ := Prod.mk.inj hj1
              subst hi1
              subst hj2
              refine blk_r (then_r (then_r (blk_r (then_r (?_)))))
              refine bp_ret HF (res_two rfl HF rfl rfl) ?_
              exact ⟨rfl, HT⟩
            have h := (if_neg hb4).symm.trans h
            refine wp_if (b' := true) HF rfl (notF (decide_eq_false hb4)) ?_
            refine wp_seq ?_
            refine wc_text ?_
            refine wc_assign HF nS rfl rfl rfl (fun a HF => ?_)
            refine wc_assign HF nS rfl rfl rfl (fun a HF => ?_)
            refine wc_end ?_
            refine then_n ?_
            refine wp_ret ?_
            obtain rfl := Option.some.inj h
            have h := retL hk1
            have hj3 := Option.some.inj h
            obtain ⟨hi3, hj4⟩ := Prod.mk.inj hj3
            subst hi3
            subst hj4
            refine then_r (blk_r (then_r (then_r (blk_r (then_r (?_))))))
            refine bp_ret HF (res_two rfl HF rfl rfl) ?_
            exact ⟨rfl, HT⟩
          have h := (if_neg hb3).symm.trans h
          refine wp_if (b' := false) HF rfl (decide_eq_false hb3) ?_
          refine wp_skip ?_
          refine blk_n ?_
          refine then_n ?_
          refine wc_text ?_
          refine wc_move HF nS rfl rfl rfl (fun a HF => ?_)
          obtain ⟨hg6, h⟩ := grd h
          refine wc_bin HF nS rfl rfl (b_add hg6) rfl rfl (fun a HF => ?_)
          refine wc_assign HF nS rfl rfl rfl (fun a HF => ?_)
          refine wc_end ?_
          exact then_n ⟨k1, Nat.lt_succ_self k1, bits .or .i64 z1 (((b8 (bits .and .u8 (c1.toNat : Int) 127)).toNat : Int) * 2 ^ (7 * z2 : Int).toNat), z2 + 1, h, (HF.keep (HF.keep (HF.keep HF.nil rfl) rfl) rfl), HT⟩
        have h := (if_neg hb2).symm.trans h
        refine wp_if (b' := false) HF rfl (decide_eq_false hb2) ?_
        refine wp_exit ?_
        refine then_x (then_x (?_))
        refine blk_x ?_
        exact then_n ⟨(Option.some.inj h).symm, HF.nil, HT⟩
      have h := (if_neg hb1).symm.trans h
      refine wc_skip HF nS (HF.wn rfl rfl rfl rfl (decide_eq_false hb1)) rfl (fun a HF => ?_)
      refine wc_skip HF nS (HF.wn rfl rfl rfl rfl (decide_eq_false hb1)) rfl (fun a HF => ?_)
      refine wc_pick (b := false) HF nS rfl (decide_eq_false hb1) rfl rfl rfl (fun a HF => ?_)
      refine wc_end ?_
      refine then_n ?_
      refine wp_if (b' := false) HF rfl rfl ?_
      refine wp_exit ?_
      refine then_x (then_x (?_))
      refine blk_x ?_
      exact then_n ⟨(Option.some.inj h).symm, HF.nil, HT⟩
  rintro a w ⟨rfl, HF, HT⟩
  have h := brkL1u h
  refine ?_
  refine wp_seq ?_
  refine wc_text ?_
  refine wc_assign HF nS rfl rfl rfl (fun a HF => ?_)
  refine wc_assign HF nS rfl rfl rfl (fun a HF => ?_)
  refine wc_end ?_
  refine then_n ?_
  refine wp_ret ?_
  have hj5 := Option.some.inj h
  obtain ⟨hi5, hj6⟩ := Prod.mk.inj hj5
  subst hi5
  subst hj6
  refine bp_ret HF (res_two rfl HF rfl rfl) ?_
  exact ⟨rfl, HT⟩

def m_impl_hexValue (fuel : Nat) (x0 : UInt8) : Option Int :=
  if 48 ≤ (x0.toNat : Int) then
    if (x0.toNat : Int) ≤ 57 then
      some ((b8 ((x0.toNat : Int) - 48)).toNat : Int)
    else
    if 97 ≤ (x0.toNat : Int) then
      if (x0.toNat : Int) ≤ 102 then
        if in64 (((b8 ((x0.toNat : Int) - 97)).toNat : Int) + 10) then
          some (((b8 ((x0.toNat : Int) - 97)).toNat : Int) + 10)
        else none
      else
      some (-1)
    else
    some (-1)
  else
  if 97 ≤ (x0.toNat : Int) then
    if (x0.toNat : Int) ≤ 102 then
      if in64 (((b8 ((x0.toNat : Int) - 97)).toNat : Int) + 10) then
        some (((b8 ((x0.toNat : Int) - 97)).toNat : Int) + 10)
      else none
    else
    some (-1)
  else
  some (-1)

set_option maxRecDepth 100000 in
set_option maxHeartbeats 4000000 in
theorem w_impl_hexValue (fuel : Nat) {x0 : UInt8} {r0 : Int} {w0 : World} (h : m_impl_hexValue fuel x0 = some r0) :
    Calls Try.prog 29 #[.int .u8 (x0.toNat : Int)] w0 fun e w => e = .returned (.int .i64 r0) ∧ St w0 (fun _ => False) w [] := by
  have HT : St w0 (fun _ => False) w0 [] := St.init0
  rw [m_impl_hexValue] at h
  refine calls_fr (n := 24) [.int .u8 (x0.toNat : Int)] Try.func29 rfl rfl rfl (fun a HF => ?_)
  have HT : St w0 (fun _ => False) w0 [] := HT
  refine wp_seq ?_
  refine wc_text ?_
  refine wc_assign HF nS rfl rfl rfl (fun a HF => ?_)
  refine wc_end ?_
  refine then_n ?_
  refine wp_seq ?_
  refine wp_block ?_
  refine wp_seq ?_
  refine wc_text ?_
  refine wc_move HF nS rfl rfl rfl (fun a HF => ?_)
  refine wc_bin HF nS rfl rfl b_ge rfl rfl (fun a HF => ?_)
  refine wc_move HF nS rfl rfl rfl (fun a HF => ?_)
  by_cases hb1 : 48 ≤ (x0.toNat : Int)
  · have h := (if_pos hb1).symm.trans h
    refine wc_move HF nS rfl (HF.wy rfl rfl rfl rfl (decide_eq_true hb1)) rfl (fun a HF => ?_)
    refine wc_bin HF nS rfl rfl b_le (HF.wy rfl rfl rfl rfl (decide_eq_true hb1)) rfl (fun a HF => ?_)
    refine wc_pick (b := true) HF nS rfl (decide_eq_true hb1) rfl rfl rfl (fun a HF => ?_)
    refine wc_assign HF nS rfl rfl rfl (fun a HF => ?_)
    refine wc_end ?_
    refine then_n ?_
    by_cases hb2 : (x0.toNat : Int) ≤ 57
    · have h := (if_pos hb2).symm.trans h
      refine wp_if (b' := true) HF rfl (decide_eq_true hb2) ?_
      refine wp_seq ?_
      refine wc_text ?_
      refine wc_move HF nS rfl rfl rfl (fun a HF => ?_)
      refine wc_bin HF nS rfl rfl b_subu rfl rfl (fun a HF => ?_)
      refine wc_cvu HF nS Try.underlying3 Try.underlying5 rfl rfl rfl (fun a HF => ?_)
      refine wc_assign HF nS rfl rfl rfl (fun a HF => ?_)
      refine wc_end ?_
      refine then_n ?_
      refine wp_ret ?_
      obtain rfl := Option.some.inj h
      refine blk_r (then_r (?_))
      refine bp_ret HF (res_one rfl HF rfl) ?_
      exact ⟨rfl, HT⟩
    have h := (if_neg hb2).symm.trans h
    refine wp_if (b' := false) HF rfl (decide_eq_false hb2) ?_
    refine wp_seq ?_
    refine wc_text ?_
    refine wc_move HF nS rfl rfl rfl (fun a HF => ?_)
    refine wc_bin HF nS rfl rfl b_ge rfl rfl (fun a HF => ?_)
    refine wc_move HF nS rfl rfl rfl (fun a HF => ?_)
    by_cases hb3 : 97 ≤ (x0.toNat : Int)
    · have h := (if_pos hb3).symm.trans h
      refine wc_move HF nS rfl (HF.wy rfl rfl rfl rfl (decide_eq_true hb3)) rfl (fun a HF => ?_)
      refine wc_bin HF nS rfl rfl b_le (HF.wy rfl rfl rfl rfl (decide_eq_true hb3)) rfl (fun a HF => ?_)
      refine wc_pick (b := true) HF nS rfl (decide_eq_true hb3) rfl rfl rfl (fun a HF => ?_)
      refine wc_assign HF nS rfl rfl rfl (fun a HF => ?_)
      refine wc_end ?_
      refine then_n ?_
      by_cases hb4 : (x0.toNat : Int) ≤ 102
      · have h := (if_pos hb4).symm.trans h
        refine wp_if (b' := true) HF rfl (decide_eq_true hb4) ?_
        refine wp_seq ?_
        refine wc_text ?_
        refine wc_move HF nS rfl rfl rfl (fun a HF => ?_)
        refine wc_bin HF nS rfl rfl b_subu rfl rfl (fun a HF => ?_)
        refine wc_cvu HF nS Try.underlying3 Try.underlying5 rfl rfl rfl (fun a HF => ?_)
        obtain ⟨hg1, h⟩ := grd h
        refine wc_bin HF nS rfl rfl (b_add hg1) rfl rfl (fun a HF => ?_)
        refine wc_assign HF nS rfl rfl rfl (fun a HF => ?_)
        refine wc_end ?_
        refine then_n ?_
        refine wp_ret ?_
        obtain rfl := Option.some.inj h
        refine blk_r (then_r (?_))
        refine bp_ret HF (res_one rfl HF rfl) ?_
        exact ⟨rfl, HT⟩
      have h := (if_neg hb4).symm.trans h
      refine wp_if (b' := false) HF rfl (decide_eq_false hb4) ?_
      refine wp_skip ?_
      refine blk_n ?_
      refine then_n ?_
      refine wp_seq ?_
      refine wc_text ?_
      refine wc_assign HF nS rfl rfl rfl (fun a HF => ?_)
      refine wc_end ?_
      refine then_n ?_
      refine wp_ret ?_
      obtain rfl := Option.some.inj h
      refine bp_ret HF (res_one rfl HF rfl) ?_
      exact ⟨rfl, HT⟩
    have h := (if_neg hb3).symm.trans h
    refine wc_skip HF nS (HF.wn rfl rfl rfl rfl (decide_eq_false hb3)) rfl (fun a HF => ?_)
    refine wc_skip HF nS (HF.wn rfl rfl rfl rfl (decide_eq_false hb3)) rfl (fun a HF => ?_)
    refine wc_pick (b := false) HF nS rfl (decide_eq_false hb3) rfl rfl rfl (fun a HF => ?_)
    refine wc_assign HF nS rfl rfl rfl (fun a HF => ?_)
    refine wc_end ?_
    refine then_n ?_
    refine wp_if (b' := false) HF rfl rfl ?_
    refine wp_skip ?_
    refine blk_n ?_
    refine then_n ?_
    refine wp_seq ?_
    refine wc_text ?_
    refine wc_assign HF nS rfl rfl rfl (fun a HF => ?_)
    refine wc_end ?_
    refine then_n ?_
    refine wp_ret ?_
    obtain rfl := Option.some.inj h
    refine bp_ret HF (res_one rfl HF rfl) ?_
    exact ⟨rfl, HT⟩
  have h := (if_neg hb1).symm.trans h
  refine wc_skip HF nS (HF.wn rfl rfl rfl rfl (decide_eq_false hb1)) rfl (fun a HF => ?_)
  refine wc_skip HF nS (HF.wn rfl rfl rfl rfl (decide_eq_false hb1)) rfl (fun a HF => ?_)
  refine wc_pick (b := false) HF nS rfl (decide_eq_false hb1) rfl rfl rfl (fun a HF => ?_)
  refine wc_assign HF nS rfl rfl rfl (fun a HF => ?_)
  refine wc_end ?_
  refine then_n ?_
  refine wp_if (b' := false) HF rfl rfl ?_
  refine wp_seq ?_
  refine wc_text ?_
  refine wc_move HF nS rfl rfl rfl (fun a HF => ?_)
  refine wc_bin HF nS rfl rfl b_ge rfl rfl (fun a HF => ?_)
  refine wc_move HF nS rfl rfl rfl (fun a HF => ?_)
  by_cases hb5 : 97 ≤ (x0.toNat : Int)
  · have h := (if_pos hb5).symm.trans h
    refine wc_move HF nS rfl (HF.wy rfl rfl rfl rfl (decide_eq_true hb5)) rfl (fun a HF => ?_)
    refine wc_bin HF nS rfl rfl b_le (HF.wy rfl rfl rfl rfl (decide_eq_true hb5)) rfl (fun a HF => ?_)
    refine wc_pick (b := true) HF nS rfl (decide_eq_true hb5) rfl rfl rfl (fun a HF => ?_)
    refine wc_assign HF nS rfl rfl rfl (fun a HF => ?_)
    refine wc_end ?_
    refine then_n ?_
    by_cases hb6 : (x0.toNat : Int) ≤ 102
    · have h := (if_pos hb6).symm.trans h
      refine wp_if (b' := true) HF rfl (decide_eq_true hb6) ?_
      refine wp_seq ?_
      refine wc_text ?_
      refine wc_move HF nS rfl rfl rfl (fun a HF => ?_)
      refine wc_bin HF nS rfl rfl b_subu rfl rfl (fun a HF => ?_)
      refine wc_cvu HF nS Try.underlying3 Try.underlying5 rfl rfl rfl (fun a HF => ?_)
      obtain ⟨hg2, h⟩ := grd h
      refine wc_bin HF nS rfl rfl (b_add hg2) rfl rfl (fun a HF => ?_)
      refine wc_assign HF nS rfl rfl rfl (fun a HF => ?_)
      refine wc_end ?_
      refine then_n ?_
      refine wp_ret ?_
      obtain rfl := Option.some.inj h
      refine blk_r (then_r (?_))
      refine bp_ret HF (res_one rfl HF rfl) ?_
      exact ⟨rfl, HT⟩
    have h := (if_neg hb6).symm.trans h
    refine wp_if (b' := false) HF rfl (decide_eq_false hb6) ?_
    refine wp_skip ?_
    refine blk_n ?_
    refine then_n ?_
    refine wp_seq ?_
    refine wc_text ?_
    refine wc_assign HF nS rfl rfl rfl (fun a HF => ?_)
    refine wc_end ?_
    refine then_n ?_
    refine wp_ret ?_
    obtain rfl := Option.some.inj h
    refine bp_ret HF (res_one rfl HF rfl) ?_
    exact ⟨rfl, HT⟩
  have h := (if_neg hb5).symm.trans h
  refine wc_skip HF nS (HF.wn rfl rfl rfl rfl (decide_eq_false hb5)) rfl (fun a HF => ?_)
  refine wc_skip HF nS (HF.wn rfl rfl rfl rfl (decide_eq_false hb5)) rfl (fun a HF => ?_)
  refine wc_pick (b := false) HF nS rfl (decide_eq_false hb5) rfl rfl rfl (fun a HF => ?_)
  refine wc_assign HF nS rfl rfl rfl (fun a HF => ?_)
  refine wc_end ?_
  refine then_n ?_
  refine wp_if (b' := false) HF rfl rfl ?_
  refine wp_skip ?_
  refine blk_n ?_
  refine then_n ?_
  refine wp_seq ?_
  refine wc_text ?_
  refine wc_assign HF nS rfl rfl rfl (fun a HF => ?_)
  refine wc_end ?_
  refine then_n ?_
  refine wp_ret ?_
  obtain rfl := Option.some.inj h
  refine bp_ret HF (res_one rfl HF rfl) ?_
  exact ⟨rfl, HT⟩

def m_impl_Unhex_L0 (fuel : Nat) (x0 : Str) : Nat → (List UInt8) → Int → Option (Lp (List UInt8) (Str × Bool))
  | 0, _, _ => none
  | k1 + 1, z2, z3 =>
    if z3 < (x0.length : Int) then
      (at? x0 z3).bind fun c3 =>
      if in64 (z3 + 1) then
        (at? x0 (z3 + 1)).bind fun c4 =>
        (m_impl_hexValue fuel c3).bind fun y1 =>
        (m_impl_hexValue fuel c4).bind fun y2 =>
        if y1 < 0 then
          some (.ret ([], false))
        else
        if y2 < 0 then
          some (.ret ([], false))
        else
        if (0 ≤ (4 : Int) ∧ (4 : Int) ≤ 63) ∧ in64 (y1 * 2 ^ (4 : Int).toNat) then
          if z2.length + 1 ≤ 17179869184 then
            if in64 (z3 + 2) then
              m_impl_Unhex_L0 fuel x0 k1 (z2 ++ ([b8 (bits .or .i64 (y1 * 2 ^ (4 : Int).toNat) y2)] : List UInt8)) (z3 + 2)
            else none
          else none
        else none
      else none
    else
    some (.brk z2)

def m_impl_Unhex (fuel : Nat) (x0 : Str) : Option (Str × Bool) :=
  if (2 : Int) ≠ 0 then
    if ((x0.length : Int).tmod 2) = 0 then
      if (2 : Int) ≠ 0 ∧ in64 ((x0.length : Int).tdiv 2) then
        if 0 ≤ ((x0.length : Int).tdiv 2 : Int) ∧ ((x0.length : Int).tdiv 2 : Int) ≤ 4194304 then
          (m_impl_Unhex_L0 fuel x0 fuel ([] : List UInt8) 0).bind <| contL <| un1 fun z1 =>
          some (z1, true)
        else none
      else none
    else
    some ([], false)
  else none

set_option maxRecDepth 100000 in
set_option maxHeartbeats 4000000 in
theorem w_impl_Unhex (fuel : Nat) {x0 : Str} {r0 : Str} {r1 : Bool} {w0 : World} (h : m_impl_Unhex fuel x0 = some (r0, r1)) :
    Calls Try.prog 14 #[sv x0] w0 fun e w => e = .returned (.tuple #[sv r0, .bool r1]) ∧ St w0 (fun _ => False) w [] := by
  have HT : St w0 (fun _ => False) w0 [] := St.init0
  rw [m_impl_Unhex] at h
  refine calls_fr (n := 47) [sv x0] Try.func14 rfl rfl rfl (fun a HF => ?_)
  have HT : St w0 (fun _ => False) w0 [] := HT
  refine wp_seq ?_
  refine wc_text ?_
  refine wc_assign HF nS rfl rfl rfl (fun a HF => ?_)
  refine wc_assign HF nS rfl rfl rfl (fun a HF => ?_)
  refine wc_end ?_
  refine then_n ?_
  refine wp_seq ?_
  refine wp_seq ?_
  refine wc_text ?_
  refine wc_move HF nS rfl rfl rfl (fun a HF => ?_)
  refine wc_lenS (ats := #[]) HF nS Try.underlying9 rfl rfl rfl (fun a HF => ?_)
  obtain ⟨hg1, h⟩ := grd h
  refine wc_bin HF nS rfl rfl (b_rem hg1) rfl rfl (fun a HF => ?_)
  refine wc_bin HF nS rfl rfl b_ne rfl rfl (fun a HF => ?_)
  refine wc_end ?_
  refine then_n ?_
  by_cases hb1 : ((x0.length : Int).tmod 2) = 0
  · have h := (if_pos hb1).symm.trans h
    refine wp_if (b' := false) HF rfl (notT (decide_eq_true hb1)) ?_
    refine wp_skip ?_
    refine then_n ?_
    refine wp_seq ?_
    refine wc_text ?_
    refine wc_move HF nS rfl rfl rfl (fun a HF => ?_)
    refine wc_lenS (ats := #[]) HF nS Try.underlying9 rfl rfl rfl (fun a HF => ?_)
    obtain ⟨hg2, h⟩ := grd h
    refine wc_bin HF nS rfl rfl (b_quo hg2) rfl rfl (fun a HF => ?_)
    obtain ⟨hg3, h⟩ := grd h
    refine wc_makeC (E := UInt8) HF HT el22 rfl rfl hg3 rfl rfl rfl (fun p1 w HT hb => ⟨nS, fun a HF => ?_⟩)
    refine wc_assign HF nS rfl rfl rfl (fun a HF => ?_)
    refine wc_end ?_
    refine then_n ?_
    obtain ⟨q1, hx1, h⟩ := obs h
    refine wp_cut (fun a w => ∃ z1 a1 n1 c1, q1 = .brk z1 ∧ Fr a 47 [(4, .slice a1 n1 c1)] ∧ St w0 (fun _ => False) w [Own 5 (rowT z1) (.slice a1 n1 c1)]) ?_ ?_
    · have hk1 := h
      have h := hx1
      refine wp_seq ?_
      refine wc_text ?_
      refine wc_assign HF nS rfl rfl rfl (fun a HF => ?_)
      refine wc_end ?_
      refine then_n ?_
      refine wp_block ?_
      refine wp_loopN (fun k1 a w => ∃ z2 z3 a2 n2 c2, m_impl_Unhex_L0 fuel x0 k1 z2 z3 = some q1 ∧ Fr a 47 [(0, sv x0), (4, .slice a2 n2 c2), (5, .int .i64 z3)] ∧ St w0 (fun _ => False) w [Own 5 (rowT z2) (.slice a2 n2 c2)]) fuel ⟨([] : List UInt8), 0, (some ⟨p1, 0, none⟩), 0, ((x0.length : Int).tdiv 2 : Int).toNat, h, (HF.keep (HF.keep (HF.keep HF.nil rfl) rfl) rfl), HT⟩ ?_
      rintro k1 a w ⟨z2, z3, a2, n2, c2, h, HF, HT⟩
      cases k1 with
      | zero => cases h
      | succ k1 =>
        rw [m_impl_Unhex_L0] at h
        obtain rfl := (HT.rdAt 0 rfl).neq
        refine ?_
        refine wp_seq ?_
        refine wp_seq ?_
        refine wc_text ?_
        refine wc_move HF nS rfl rfl rfl (fun a HF => ?_)
        refine wc_move HF nS rfl rfl rfl (fun a HF => ?_)
        refine wc_lenS (ats := #[]) HF nS Try.underlying9 rfl rfl rfl (fun a HF => ?_)
        refine wc_bin HF nS rfl rfl b_lt rfl rfl (fun a HF => ?_)
        refine wc_end ?_
        refine then_n ?_
        by_cases hb2 : z3 < (x0.length : Int)
        · have h := (if_pos hb2).symm.trans h
          refine wp_if (b' := true) HF rfl (decide_eq_true hb2) ?_
          refine wp_skip ?_
          refine then_n ?_
          refine wp_seq ?_
          refine wp_block ?_
          refine wp_seq ?_
          refine wp_region_can [(0, true), (1, true), (2, true), (4, false), (5, false), (6, false), (7, false), (3, false), (8, true), (9, true), (10, true)] (fun w' => True) (by kernel_rfl) (by kernel_rfl) ?_
          have HT : St w0 (fun _ => False) w.drew [Own 5 (rowT z2) (.slice a2 z2.length c2)] := HT.drew
          refine wc_move HF nS rfl rfl rfl (fun a HF => ?_)
          refine wc_move HF nS rfl rfl rfl (fun a HF => ?_)
          obtain ⟨c3, hx2, h⟩ := obs h
          refine wc_index HF nS Try.underlying9 rfl rfl hx2 rfl rfl (fun a HF => ?_)
          refine wc_move HF (fun _ => trivial) rfl rfl rfl (fun a HF => ?_)
          refine wc_move HF (fun _ => trivial) rfl rfl rfl (fun a HF => ?_)
          obtain ⟨hg4, h⟩ := grd h
          refine wc_bin HF (fun _ => trivial) rfl rfl (b_add hg4) rfl rfl (fun a HF => ?_)
          obtain ⟨c4, hx3, h⟩ := obs h
          refine wc_index HF (fun _ => trivial) Try.underlying9 rfl rfl hx3 rfl rfl (fun a HF => ?_)
          obtain ⟨y1, hx4, h⟩ := obs h
          refine wc_call HF cf29 rfl (w_impl_hexValue fuel hx4) rfl rfl ?_
          rintro e w ⟨rfl, hE⟩
          have hb := hE.below
          have HT := HT.pure hE
          have HT : St w0 (fun _ => False) w [Own 5 (rowT z2) (.slice a2 z2.length c2)] := HT
          refine ⟨_, rfl, (fun _ => trivial), fun a HF => ?_⟩
          obtain ⟨y2, hx5, h⟩ := obs h
          refine wc_call HF cf29 rfl (w_impl_hexValue fuel hx5) rfl rfl ?_
          rintro e w ⟨rfl, hE⟩
          have hb := hE.below
          have HT := HT.pure hE
          have HT : St w0 (fun _ => False) w [Own 5 (rowT z2) (.slice a2 z2.length c2)] := HT
          refine ⟨_, rfl, nS, fun a HF => ?_⟩
          refine wc_assign HF nS rfl rfl rfl (fun a HF => ?_)
          refine wc_assign HF nS rfl rfl rfl (fun a HF => ?_)
          refine wc_endN ?_
          refine then_n ?_
          refine wp_seq ?_
          refine wp_seq ?_
          refine wc_text ?_
          refine wc_move HF nS rfl rfl rfl (fun a HF => ?_)
          refine wc_bin HF nS rfl rfl b_lt rfl rfl (fun a HF => ?_)
          refine wc_move HF nS rfl rfl rfl (fun a HF => ?_)
          by_cases hb3 : y1 < 0
          · have h := (if_pos hb3).symm.trans h
            refine wc_skip HF nS (HF.wn rfl rfl rfl rfl (decide_eq_true hb3)) rfl (fun a HF => ?_)
            refine wc_skip HF nS (HF.wn rfl rfl rfl rfl (decide_eq_true hb3)) rfl (fun a HF => ?_)
            refine wc_pick (b := true) HF nS rfl (decide_eq_true hb3) rfl rfl rfl (fun a HF => ?_)
            refine wc_end ?_
            refine then_n ?_
            refine wp_if (b' := true) HF rfl rfl ?_
            refine wp_seq ?_
            refine wc_text ?_
            refine wc_assign HF nS rfl rfl rfl (fun a HF => ?_)
            refine wc_assign HF nS rfl rfl rfl (fun a HF => ?_)
            refine wc_end ?_
            refine then_n ?_
            refine wp_ret ?_
            obtain rfl := Option.some.inj h
            have h := retL hk1
            have hj1 := Option.some.inj h
            obtain ⟨hi1, hj2⟩ := Prod.mk.inj hj1
            subst hi1
            subst hj2
            refine then_r (blk_r (then_r (then_r (blk_r (then_r (?_))))))
            refine bp_ret HF (res_two rfl HF rfl rfl) ?_
            have HT : St w0 (fun _ => False) w [] := HT.take 0
            exact ⟨rfl, HT⟩
          have h := (if_neg hb3).symm.trans h
          refine wc_move HF nS rfl (HF.wy rfl rfl rfl rfl (decide_eq_false hb3)) rfl (fun a HF => ?_)
          refine wc_bin HF nS rfl rfl b_lt (HF.wy rfl rfl rfl rfl (decide_eq_false hb3)) rfl (fun a HF => ?_)
          refine wc_pick (b := false) HF nS rfl (decide_eq_false hb3) rfl rfl rfl (fun a HF => ?_)
          refine wc_end ?_
          refine then_n ?_
          by_cases hb4 : y2 < 0
          · have h := (if_pos hb4).symm.trans h
            refine wp_if (b' := true) HF rfl (decide_eq_true hb4) ?_
            refine wp_seq ?_
            refine wc_text ?_
            refine wc_assign HF nS rfl rfl rfl (fun a HF => ?_)
            refine wc_assign HF nS rfl rfl rfl (fun a HF => ?_)
            refine wc_end ?_
            refine then_n ?_
            refine wp_ret ?_
            obtain rfl := Option.some.inj h
            have h := retL hk1
            have hj3 := Option.some.inj h
            obtain ⟨hi3, hj4⟩ := Prod.mk.inj hj3
            subst hi3
            subst hj4
            refine then_r (blk_r (then_r (then_r (blk_r (then_r (?_))))))
            refine bp_ret HF (res_two rfl HF rfl rfl) ?_
            have HT : St w0 (fun _ => False) w [] := HT.take 0
            exact ⟨rfl, HT⟩
          have h := (if_neg hb4).symm.trans h
          refine wp_if (b' := false) HF rfl (decide_eq_false hb4) ?_
          refine wp_skip ?_
          refine then_n ?_
          refine wc_text ?_
          refine wc_move HF nS rfl rfl rfl (fun a HF => ?_)
          refine wc_move HF nS rfl rfl rfl (fun a HF => ?_)
          obtain ⟨hg5, h⟩ := grd h
          refine wc_bin HF nS rfl rfl (b_shl hg5) rfl rfl (fun a HF => ?_)
          refine wc_move HF nS rfl rfl rfl (fun a HF => ?_)
          refine wc_bin HF nS rfl rfl b_or rfl rfl (fun a HF => ?_)
          refine wc_cvb HF nS Try.underlying5 Try.underlying3 rfl rfl rfl (fun a HF => ?_)
          refine wc_bslice (l := ([b8 (bits .or .i64 (y1 * 2 ^ (4 : Int).toNat) y2)] : List UInt8)) (cs := [.int .u8 ((b8 (bits .or .i64 (y1 * 2 ^ (4 : Int).toNat) y2)).toNat : Int)]) (A := []) HF HT bs22_1 rfl rfl (gives_flat rfl) rfl (by decide) rfl rfl (fun p2 w HT hb => ⟨nS, fun a HF => ?_⟩)
          obtain ⟨hg6, h⟩ := grd h
          have HT : St w0 (fun _ => False) w [Own 5 (rowT z2) (.slice a2 z2.length c2), Own 5 (rowT ([b8 (bits .or .i64 (y1 * 2 ^ (4 : Int).toNat) y2)] : List UInt8)) (.slice (some ⟨p2, 0, none⟩) 1 1)] := HT.pick 1
          refine wc_append HF HT el22 rfl rfl (Nat.zero_lt_succ _) hg6 rfl rfl rfl (fun a3 c5 w HT => ⟨nS, fun a HF => ?_⟩)
          refine wc_assign HF nS rfl rfl rfl (fun a HF => ?_)
          refine wc_end ?_
          refine blk_n ?_
          refine then_n ?_
          refine wc_text ?_
          refine wc_move HF nS rfl rfl rfl (fun a HF => ?_)
          obtain ⟨hg7, h⟩ := grd h
          refine wc_bin HF nS rfl rfl (b_add hg7) rfl rfl (fun a HF => ?_)
          refine wc_assign HF nS rfl rfl rfl (fun a HF => ?_)
          refine wc_end ?_
          exact then_n ⟨k1, Nat.lt_succ_self k1, z2 ++ ([b8 (bits .or .i64 (y1 * 2 ^ (4 : Int).toNat) y2)] : List UInt8), z3 + 2, a3, (z2 ++ ([b8 (bits .or .i64 (y1 * 2 ^ (4 : Int).toNat) y2)] : List UInt8)).length, c5, h, (HF.keep (HF.keep (HF.keep HF.nil rfl) rfl) rfl), HT⟩
        have h := (if_neg hb2).symm.trans h
        refine wp_if (b' := false) HF rfl (decide_eq_false hb2) ?_
        refine wp_exit ?_
        refine then_x (then_x (?_))
        refine blk_x ?_
        exact then_n ⟨z2, a2, z2.length, c2, (Option.some.inj h).symm, (HF.keep HF.nil rfl), HT⟩
    rintro a w ⟨z1, a1, n1, c1, rfl, HF, HT⟩
    have h := brkL1u h
    obtain rfl := (HT.rdAt 0 rfl).neq
    refine ?_
    refine wp_seq ?_
    refine wc_text ?_
    refine wc_move HF nS rfl rfl rfl (fun a HF => ?_)
    refine wc_cvs HF nS Try.underlying22 Try.underlying5 Try.underlying9 rfl (HT.rdAt 0 rfl) rfl rfl (fun a HF => ?_)
    refine wc_assign HF nS rfl rfl rfl (fun a HF => ?_)
    refine wc_assign HF nS rfl rfl rfl (fun a HF => ?_)
    refine wc_end ?_
    refine then_n ?_
    refine wp_ret ?_
    have hj5 := Option.some.inj h
    obtain ⟨hi5, hj6⟩ := Prod.mk.inj hj5
    subst hi5
    subst hj6
    refine bp_ret HF (res_two rfl HF rfl rfl) ?_
    have HT : St w0 (fun _ => False) w [] := HT.take 0
    exact ⟨rfl, HT⟩
  have h := (if_neg hb1).symm.trans h
  refine wp_if (b' := true) HF rfl (notF (decide_eq_false hb1)) ?_
  refine wp_seq ?_
  refine wc_text ?_
  refine wc_assign HF nS rfl rfl rfl (fun a HF => ?_)
  refine wc_assign HF nS rfl rfl rfl (fun a HF => ?_)
  refine wc_end ?_
  refine then_n ?_
  refine wp_ret ?_
  have hj7 := Option.some.inj h
  obtain ⟨hi7, hj8⟩ := Prod.mk.inj hj7
  subst hi7
  subst hj8
  refine then_r (?_)
  refine bp_ret HF (res_two rfl HF rfl rfl) ?_
  exact ⟨rfl, HT⟩

def m_laws_big (fuel : Nat) (x0 : List UInt8) : Option Bool :=
  some (decide (1048576 < (x0.length : Int)))

set_option maxRecDepth 100000 in
set_option maxHeartbeats 4000000 in
theorem w_laws_big (fuel : Nat) {x0 : List UInt8} {a_x0 : Option Addr} {n_x0 c_x0 : Nat} {r0 : Bool} {w0 : World} (h : m_laws_big fuel x0 = some r0) (hr_x0 : RdT (fun b => ¬ False) w0 (rowT x0) (.slice a_x0 n_x0 c_x0)) :
    Calls Try.prog 5 #[.slice a_x0 n_x0 c_x0] w0 fun e w => e = .returned (.bool r0) ∧ St w0 (fun _ => False) w [] := by
  obtain rfl := hr_x0.neq
  have HT : St w0 (fun _ => False) w0 [] := St.init0
  rw [m_laws_big] at h
  refine calls_fr (n := 6) [.slice a_x0 x0.length c_x0] Try.func5 rfl rfl rfl (fun a HF => ?_)
  have HT : St w0 (fun _ => False) w0 [] := HT
  refine wp_seq ?_
  refine wc_text ?_
  refine wc_assign HF nS rfl rfl rfl (fun a HF => ?_)
  refine wc_end ?_
  refine then_n ?_
  refine wp_seq ?_
  refine wc_text ?_
  refine wc_move HF nS rfl rfl rfl (fun a HF => ?_)
  refine wc_lenR HF nS Try.underlying22 rfl rfl rfl (fun a HF => ?_)
  refine wc_bin HF nS rfl rfl b_gt rfl rfl (fun a HF => ?_)
  refine wc_assign HF nS rfl rfl rfl (fun a HF => ?_)
  refine wc_end ?_
  refine then_n ?_
  refine wp_ret ?_
  obtain rfl := Option.some.inj h
  refine bp_ret HF (res_one rfl HF rfl) ?_
  exact ⟨rfl, HT⟩

def m_spec_l1New_L0 (fuel : Nat) (x0 : List UInt8) : Nat → Int → Int → Option Int
  | 0, _, _ => none
  | k1 + 1, z2, z3 =>
    if z3 < (x0.length : Int) then
      if z3 < 4000 then
        if in64 (z2 * 131) then
          (at? x0 z3).bind fun e1 =>
          if in64 ((z2 * 131) + (e1.toNat : Int)) then
            if in64 (((z2 * 131) + (e1.toNat : Int)) + 7) then
              if in64 (z3 + 1) then
                m_spec_l1New_L0 fuel x0 k1 (bits .and .i64 (((z2 * 131) + (e1.toNat : Int)) + 7) 1073741823) (z3 + 1)
              else none
            else none
          else none
        else none
      else
      some z2
    else
    some z2

def m_spec_l1New (fuel : Nat) (x0 : List UInt8) : Option (Int × Int) :=
  if in64 (10101 + (x0.length : Int)) then
    (m_spec_l1New_L0 fuel x0 fuel (10101 + (x0.length : Int)) 0).bind fun z1 =>
    some (0, z1)
  else none

set_option maxRecDepth 100000 in
set_option maxHeartbeats 4000000 in
theorem w_spec_l1New (fuel : Nat) {x0 : List UInt8} {a_x0 : Option Addr} {n_x0 c_x0 : Nat} {r0_1 : Int} {r0_2 : Int} {w0 : World} (h : m_spec_l1New fuel x0 = some (r0_1, r0_2)) (hr_x0 : RdT (fun b => ¬ False) w0 (rowT x0) (.slice a_x0 n_x0 c_x0)) :
    Calls Try.prog 25 #[.slice a_x0 n_x0 c_x0] w0 fun e w => ∃ q_r0, e = .returned (.pointer (some ⟨q_r0, 0, none⟩)) ∧ St w0 (fun _ => False) w [Box q_r0 [.slice a_x0 n_x0 c_x0, .int .i64 r0_1, .int .i64 r0_2]] := by
  obtain rfl := hr_x0.neq
  have HT : St w0 (fun _ => False) w0 [] := St.init0
  rw [m_spec_l1New] at h
  refine calls_fr (n := 32) [.slice a_x0 x0.length c_x0] Try.func25 rfl rfl rfl (fun a HF => ?_)
  have HT : St w0 (fun _ => False) w0 [] := HT
  refine wp_seq ?_
  refine wc_text ?_
  refine wc_assign HF nS rfl rfl rfl (fun a HF => ?_)
  refine wc_end ?_
  refine then_n ?_
  refine wp_seq ?_
  refine wc_text ?_
  refine wc_move HF nS rfl rfl rfl (fun a HF => ?_)
  refine wc_lenR HF nS Try.underlying22 rfl rfl rfl (fun a HF => ?_)
  obtain ⟨hg1, h⟩ := grd h
  refine wc_bin HF nS rfl rfl (b_add hg1) rfl rfl (fun a HF => ?_)
  refine wc_assign HF nS rfl rfl rfl (fun a HF => ?_)
  refine wc_end ?_
  refine then_n ?_
  obtain ⟨z1, hx1, h⟩ := obs h
  refine wp_cut (fun a w => Fr a 32 [(0, .slice a_x0 x0.length c_x0), (3, .int .i64 z1)] ∧ St w0 (fun _ => False) w []) ?_ ?_
  · have hk1 := h
    have h := hx1
    refine wp_seq ?_
    refine wc_text ?_
    refine wc_assign HF nS rfl rfl rfl (fun a HF => ?_)
    refine wc_end ?_
    refine then_n ?_
    refine wp_block ?_
    refine wp_loopN (fun k1 a w => ∃ z2 z3, m_spec_l1New_L0 fuel x0 k1 z2 z3 = some z1 ∧ Fr a 32 [(0, .slice a_x0 x0.length c_x0), (3, .int .i64 z2), (4, .int .i64 z3)] ∧ St w0 (fun _ => False) w []) fuel ⟨10101 + (x0.length : Int), 0, h, (HF.keep (HF.keep (HF.keep HF.nil rfl) rfl) rfl), HT⟩ ?_
    rintro k1 a w ⟨z2, z3, h, HF, HT⟩
    cases k1 with
    | zero => cases h
    | succ k1 =>
      rw [m_spec_l1New_L0] at h
      refine ?_
      refine wp_seq ?_
      refine wp_seq ?_
      refine wc_text ?_
      refine wc_move HF nS rfl rfl rfl (fun a HF => ?_)
      refine wc_move HF nS rfl rfl rfl (fun a HF => ?_)
      refine wc_lenR HF nS Try.underlying22 rfl rfl rfl (fun a HF => ?_)
      refine wc_bin HF nS rfl rfl b_lt rfl rfl (fun a HF => ?_)
      refine wc_move HF nS rfl rfl rfl (fun a HF => ?_)
      by_cases hb1 : z3 < (x0.length : Int)
      · have h := (if_pos hb1).symm.trans h
        refine wc_move HF nS rfl (HF.wy rfl rfl rfl rfl (decide_eq_true hb1)) rfl (fun a HF => ?_)
        refine wc_bin HF nS rfl rfl b_lt (HF.wy rfl rfl rfl rfl (decide_eq_true hb1)) rfl (fun a HF => ?_)
        refine wc_pick (b := true) HF nS rfl (decide_eq_true hb1) rfl rfl rfl (fun a HF => ?_)
        refine wc_end ?_
        refine then_n ?_
        by_cases hb2 : z3 < 4000
        · have h := (if_pos hb2).symm.trans h
          refine wp_if (b' := true) HF rfl (decide_eq_true hb2) ?_
          refine wp_skip ?_
          refine then_n ?_
          refine wp_seq ?_
          refine wp_block ?_
          refine wc_text ?_
          refine wc_move HF nS rfl rfl rfl (fun a HF => ?_)
          obtain ⟨hg2, h⟩ := grd h
          refine wc_bin HF nS rfl rfl (b_mul hg2) rfl rfl (fun a HF => ?_)
          refine wc_move HF nS rfl rfl rfl (fun a HF => ?_)
          refine wc_move HF nS rfl rfl rfl (fun a HF => ?_)
          obtain ⟨e1, hx2, h⟩ := obs h
          obtain ⟨b1, o1, ha1⟩ := (HT.ro hr_x0).any.addr hx2
          refine wc_ixaddr HF nS el22 rfl ha1 ((HT.ro hr_x0).any).neq rfl hx2 rfl rfl (fun a HF => ?_)
          have hc1 := (HT.ro hr_x0).any.flatAt ha1 hx2
          refine wc_load HF rfl sc5 (hc1.get 0 rfl) rfl rfl (fun a HF => ?_)
          refine wc_cvu HF nS Try.underlying3 Try.underlying5 rfl rfl rfl (fun a HF => ?_)
          obtain ⟨hg3, h⟩ := grd h
          refine wc_bin HF nS rfl rfl (b_add hg3) rfl rfl (fun a HF => ?_)
          obtain ⟨hg4, h⟩ := grd h
          refine wc_bin HF nS rfl rfl (b_add hg4) rfl rfl (fun a HF => ?_)
          refine wc_bin HF nS rfl rfl b_and rfl rfl (fun a HF => ?_)
          refine wc_assign HF nS rfl rfl rfl (fun a HF => ?_)
          refine wc_end ?_
          refine blk_n ?_
          refine then_n ?_
          refine wc_text ?_
          refine wc_move HF nS rfl rfl rfl (fun a HF => ?_)
          obtain ⟨hg5, h⟩ := grd h
          refine wc_bin HF nS rfl rfl (b_add hg5) rfl rfl (fun a HF => ?_)
          refine wc_assign HF nS rfl rfl rfl (fun a HF => ?_)
          refine wc_end ?_
          exact then_n ⟨k1, Nat.lt_succ_self k1, bits .and .i64 (((z2 * 131) + (e1.toNat : Int)) + 7) 1073741823, z3 + 1, h, (HF.keep (HF.keep (HF.keep HF.nil rfl) rfl) rfl), HT⟩
        have h := (if_neg hb2).symm.trans h
        refine wp_if (b' := false) HF rfl (decide_eq_false hb2) ?_
        refine wp_exit ?_
        refine then_x (then_x (?_))
        refine blk_x ?_
        obtain rfl := Option.some.inj h
        exact then_n ⟨(HF.keep (HF.keep HF.nil rfl) rfl), HT⟩
      have h := (if_neg hb1).symm.trans h
      refine wc_skip HF nS (HF.wn rfl rfl rfl rfl (decide_eq_false hb1)) rfl (fun a HF => ?_)
      refine wc_skip HF nS (HF.wn rfl rfl rfl rfl (decide_eq_false hb1)) rfl (fun a HF => ?_)
      refine wc_pick (b := false) HF nS rfl (decide_eq_false hb1) rfl rfl rfl (fun a HF => ?_)
      refine wc_end ?_
      refine then_n ?_
      refine wp_if (b' := false) HF rfl rfl ?_
      refine wp_exit ?_
      refine then_x (then_x (?_))
      refine blk_x ?_
      obtain rfl := Option.some.inj h
      exact then_n ⟨(HF.keep (HF.keep HF.nil rfl) rfl), HT⟩
  rintro a w ⟨HF, HT⟩
  refine ?_
  refine wp_seq ?_
  refine wc_text ?_
  refine wc_move HF nS rfl rfl rfl (fun a HF => ?_)
  refine wc_move HF nS rfl rfl rfl (fun a HF => ?_)
  refine wc_build (cs := #[.slice a_x0 x0.length c_x0, .int .i64 0, .int .i64 z1]) HF nS bd66 rfl rfl rfl rfl (fun a HF => ?_)
  refine wc_box (cs := [.slice a_x0 x0.length c_x0, .int .i64 0, .int .i64 z1]) HF HT rfl rfl rfl rfl (fun p1 w HT hb => ⟨nS, fun a HF => ?_⟩)
  refine wc_assign HF nS rfl rfl rfl (fun a HF => ?_)
  refine wc_end ?_
  refine then_n ?_
  refine wp_ret ?_
  have hj1 := Option.some.inj h
  obtain ⟨hi1, hj2⟩ := Prod.mk.inj hj1
  subst hi1
  subst hj2
  refine bp_ret HF (res_one rfl HF rfl) ?_
  exact ⟨p1, rfl, HT⟩

def m_spec_l1Byte (fuel : Nat) (x0_0 : List UInt8) (x0_1 : Int) (x0_2 : Int) : Option (Int × Int × Int) :=
  bind3 (
    if x0_1 < (x0_0.length : Int) then
      (at? x0_0 x0_1).bind fun e1 =>
      some (bits .and .i64 (IntKind.i64.wrap ((bits .and .i64 (bits .xor .i64 ((IntKind.i64.wrap ((IntKind.i64.wrap (x0_2 * 6364136223846793005)) + 1442695040888963407)) / 2 ^ 33) ((IntKind.i64.wrap ((IntKind.i64.wrap (x0_2 * 6364136223846793005)) + 1442695040888963407)) / 2 ^ 45)) 255) + (e1.toNat : Int))) 255, IntKind.i64.wrap (x0_1 + 1), IntKind.i64.wrap ((IntKind.i64.wrap (x0_2 * 6364136223846793005)) + 1442695040888963407))
    else
    some (bits .and .i64 (bits .xor .i64 ((IntKind.i64.wrap ((IntKind.i64.wrap (x0_2 * 6364136223846793005)) + 1442695040888963407)) / 2 ^ 33) ((IntKind.i64.wrap ((IntKind.i64.wrap (x0_2 * 6364136223846793005)) + 1442695040888963407)) / 2 ^ 45)) 255, x0_1, IntKind.i64.wrap ((IntKind.i64.wrap (x0_2 * 6364136223846793005)) + 1442695040888963407))) fun z1 z2 z3 =>
  some (z1, z2, z3)

set_option maxRecDepth 100000 in
set_option maxHeartbeats 4000000 in
theorem w_spec_l1Byte (fuel : Nat) {x0_0 : List UInt8} {x0_1 : Int} {x0_2 : Int} {a_x0_0 : Option Addr} {n_x0_0 c_x0_0 : Nat} {p_0 : Nat} {r0 : Int} {x0_1' : Int} {x0_2' : Int} {F : Foot} {w0 : World} (h : m_spec_l1Byte fuel x0_0 x0_1 x0_2 = some (r0, x0_1', x0_2')) (hA : StF w0 F [Box p_0 [.slice a_x0_0 n_x0_0 c_x0_0, .int .i64 x0_1, .int .i64 x0_2]]) (hr_x0_0 : RdT (fun b => ¬ F b) w0 (rowT x0_0) (.slice a_x0_0 n_x0_0 c_x0_0)) :
    Calls Try.prog 46 #[.pointer (some ⟨p_0, 0, none⟩)] w0 fun e w => e = .returned (.int .i64 r0) ∧ St w0 F w [Box p_0 [.slice a_x0_0 n_x0_0 c_x0_0, .int .i64 x0_1', .int .i64 x0_2']] := by
  have HT0 := St.init hA
  obtain rfl := hr_x0_0.neq
  have HT : St w0 F w0 [Box p_0 [.slice a_x0_0 x0_0.length c_x0_0, .int .i64 x0_1, .int .i64 x0_2]] := St.init hA
  rw [m_spec_l1Byte] at h
  refine calls_fr (n := 58) [.pointer (some ⟨p_0, 0, none⟩)] Try.func46 rfl rfl rfl (fun a HF => ?_)
  have HT : St w0 F w0 [Box p_0 [.slice a_x0_0 x0_0.length c_x0_0, .int .i64 x0_1, .int .i64 x0_2]] := HT
  refine wp_seq ?_
  refine wc_text ?_
  refine wc_assign HF nS rfl rfl rfl (fun a HF => ?_)
  refine wc_end ?_
  refine then_n ?_
  refine wp_seq ?_
  refine wc_text ?_
  refine wc_move HF nS rfl rfl rfl (fun a HF => ?_)
  refine wc_move HF nS rfl rfl rfl (fun a HF => ?_)
  refine wc_nilCheck HF nS rfl rfl rfl (fun a HF => ?_)
  refine wc_faddr HF nS rfl fl66_2 rfl rfl (fun a HF => ?_)
  refine wc_load HF rfl sc3 ((HT.boxAt 0 rfl).get 2 rfl) rfl rfl (fun a HF => ?_)
  refine wc_bin HF nS rfl rfl b_mulw rfl rfl (fun a HF => ?_)
  refine wc_bin HF nS rfl rfl b_addw rfl rfl (fun a HF => ?_)
  refine wc_nilCheck HF nS rfl rfl rfl (fun a HF => ?_)
  refine wc_faddr HF nS rfl fl66_2 rfl rfl (fun a HF => ?_)
  refine wc_storeB (cs' := [.slice a_x0_0 x0_0.length c_x0_0, .int .i64 x0_1, .int .i64 (IntKind.i64.wrap ((IntKind.i64.wrap (x0_2 * 6364136223846793005)) + 1442695040888963407))]) HF HT rfl rfl (fun w => (sc3 w).2) rfl rfl rfl rfl rfl (fun w HT => ⟨nS, ?_⟩)
  refine wc_end ?_
  refine then_n ?_
  refine wp_seq ?_
  refine wp_region_can [(0, true), (1, true), (2, true), (3, true), (4, true), (5, true), (6, true), (7, true), (8, true), (9, true), (10, true), (11, true), (12, true)] (fun w' => True) (by kernel_rfl) (by kernel_rfl) ?_
  have HT : St w0 F w.drew [Box p_0 [.slice a_x0_0 x0_0.length c_x0_0, .int .i64 x0_1, .int .i64 (IntKind.i64.wrap ((IntKind.i64.wrap (x0_2 * 6364136223846793005)) + 1442695040888963407))]] := HT.drew
  refine wc_move HF nS rfl rfl rfl (fun a HF => ?_)
  refine wc_nilCheck HF nS rfl rfl rfl (fun a HF => ?_)
  refine wc_faddr HF nS rfl fl66_2 rfl rfl (fun a HF => ?_)
  refine wc_load HF rfl sc3 ((HT.boxAt 0 rfl).get 2 rfl) rfl rfl (fun a HF => ?_)
  refine wc_bin HF nS rfl rfl (b_shrk (k := 33) (by decide)) rfl rfl (fun a HF => ?_)
  refine wc_move HF nS rfl rfl rfl (fun a HF => ?_)
  refine wc_nilCheck HF nS rfl rfl rfl (fun a HF => ?_)
  refine wc_faddr HF nS rfl fl66_2 rfl rfl (fun a HF => ?_)
  refine wc_load HF rfl sc3 ((HT.boxAt 0 rfl).get 2 rfl) rfl rfl (fun a HF => ?_)
  refine wc_bin HF nS rfl rfl (b_shrk (k := 45) (by decide)) rfl rfl (fun a HF => ?_)
  refine wc_bin HF nS rfl rfl b_xor rfl rfl (fun a HF => ?_)
  refine wc_bin HF nS rfl rfl b_and rfl rfl (fun a HF => ?_)
  refine wc_assign HF nS rfl rfl rfl (fun a HF => ?_)
  refine wc_endN ?_
  refine then_n ?_
  obtain ⟨z1, z2, z3, hx1, h⟩ := obs3 h
  refine wp_cut (fun a w => Fr a 58 [(3, .int .i64 z1)] ∧ St w0 F w [Box p_0 [.slice a_x0_0 x0_0.length c_x0_0, .int .i64 z2, .int .i64 z3]]) ?_ ?_
  · have hk1 := h
    have h := hx1
    refine wp_seq ?_
    refine wp_region_can [(0, true), (1, true), (2, true), (3, true), (4, true), (5, true), (6, true), (7, true), (8, true), (9, true)] (fun w' => True) (by kernel_rfl) (by kernel_rfl) ?_
    have HT : St w0 F w.drew.drew [Box p_0 [.slice a_x0_0 x0_0.length c_x0_0, .int .i64 x0_1, .int .i64 (IntKind.i64.wrap ((IntKind.i64.wrap (x0_2 * 6364136223846793005)) + 1442695040888963407))]] := HT.drew
    refine wc_move HF nS rfl rfl rfl (fun a HF => ?_)
    refine wc_nilCheck HF nS rfl rfl rfl (fun a HF => ?_)
    refine wc_faddr HF nS rfl fl66_1 rfl rfl (fun a HF => ?_)
    refine wc_load HF rfl sc3 ((HT.boxAt 0 rfl).get 1 rfl) rfl rfl (fun a HF => ?_)
    refine wc_move HF nS rfl rfl rfl (fun a HF => ?_)
    refine wc_nilCheck HF nS rfl rfl rfl (fun a HF => ?_)
    refine wc_faddr HF nS rfl fl66_0 rfl rfl (fun a HF => ?_)
    refine wc_load HF rfl sc22 ((HT.boxAt 0 rfl).get 0 rfl) rfl rfl (fun a HF => ?_)
    refine wc_lenR HF nS Try.underlying22 rfl rfl rfl (fun a HF => ?_)
    refine wc_bin HF nS rfl rfl b_lt rfl rfl (fun a HF => ?_)
    refine wc_endN ?_
    refine then_n ?_
    by_cases hb1 : x0_1 < (x0_0.length : Int)
    · have h := (if_pos hb1).symm.trans h
      refine wp_if (b' := true) HF rfl (decide_eq_true hb1) ?_
      refine wp_seq ?_
      refine wp_region_can [(0, true), (1, true), (2, true), (3, true), (4, true), (5, true), (6, true), (7, true), (8, true), (9, true), (10, true), (11, true), (12, true), (13, true), (14, true)] (fun w' => True) (by kernel_rfl) (by kernel_rfl) ?_
      have HT : St w0 F w.drew.drew.drew [Box p_0 [.slice a_x0_0 x0_0.length c_x0_0, .int .i64 x0_1, .int .i64 (IntKind.i64.wrap ((IntKind.i64.wrap (x0_2 * 6364136223846793005)) + 1442695040888963407))]] := HT.drew
      refine wc_move HF nS rfl rfl rfl (fun a HF => ?_)
      refine wc_move HF nS rfl rfl rfl (fun a HF => ?_)
      refine wc_nilCheck HF nS rfl rfl rfl (fun a HF => ?_)
      refine wc_faddr HF nS rfl fl66_0 rfl rfl (fun a HF => ?_)
      refine wc_load HF rfl sc22 ((HT.boxAt 0 rfl).get 0 rfl) rfl rfl (fun a HF => ?_)
      refine wc_move HF nS rfl rfl rfl (fun a HF => ?_)
      refine wc_nilCheck HF nS rfl rfl rfl (fun a HF => ?_)
      refine wc_faddr HF nS rfl fl66_1 rfl rfl (fun a HF => ?_)
      refine wc_load HF rfl sc3 ((HT.boxAt 0 rfl).get 1 rfl) rfl rfl (fun a HF => ?_)
      obtain ⟨e1, hx2, h⟩ := obs h
      obtain ⟨b1, o1, ha1⟩ := (HT.ro hr_x0_0).any.addr hx2
      refine wc_ixaddr HF nS el22 rfl ha1 ((HT.ro hr_x0_0).any).neq rfl hx2 rfl rfl (fun a HF => ?_)
      have hc1 := (HT.ro hr_x0_0).any.flatAt ha1 hx2
      refine wc_load HF rfl sc5 (hc1.get 0 rfl) rfl rfl (fun a HF => ?_)
      refine wc_cvu HF nS Try.underlying3 Try.underlying5 rfl rfl rfl (fun a HF => ?_)
      refine wc_bin HF nS rfl rfl b_addw rfl rfl (fun a HF => ?_)
      refine wc_bin HF nS rfl rfl b_and rfl rfl (fun a HF => ?_)
      refine wc_assign HF nS rfl rfl rfl (fun a HF => ?_)
      refine wc_endN ?_
      refine then_n ?_
      refine wc_text ?_
      refine wc_move HF nS rfl rfl rfl (fun a HF => ?_)
      refine wc_move HF nS rfl rfl rfl (fun a HF => ?_)
      refine wc_nilCheck HF nS rfl rfl rfl (fun a HF => ?_)
      refine wc_faddr HF nS rfl fl66_1 rfl rfl (fun a HF => ?_)
      refine wc_load HF rfl sc3 ((HT.boxAt 0 rfl).get 1 rfl) rfl rfl (fun a HF => ?_)
      refine wc_bin HF nS rfl rfl b_addw rfl rfl (fun a HF => ?_)
      refine wc_nilCheck HF nS rfl rfl rfl (fun a HF => ?_)
      refine wc_faddr HF nS rfl fl66_1 rfl rfl (fun a HF => ?_)
      refine wc_storeB (cs' := [.slice a_x0_0 x0_0.length c_x0_0, .int .i64 (IntKind.i64.wrap (x0_1 + 1)), .int .i64 (IntKind.i64.wrap ((IntKind.i64.wrap (x0_2 * 6364136223846793005)) + 1442695040888963407))]) HF HT rfl rfl (fun w => (sc3 w).2) rfl rfl rfl rfl rfl (fun w HT => ⟨nS, ?_⟩)
      refine wc_end ?_
      have hj1 := Option.some.inj h
      obtain ⟨hi1, hj2⟩ := Prod.mk.inj hj1
      subst hi1
      obtain ⟨hi2, hj3⟩ := Prod.mk.inj hj2
      subst hi2
      subst hj3
      exact then_n ⟨(HF.keep HF.nil rfl), HT⟩
    have h := (if_neg hb1).symm.trans h
    refine wp_if (b' := false) HF rfl (decide_eq_false hb1) ?_
    refine wp_skip ?_
    have hj4 := Option.some.inj h
    obtain ⟨hi4, hj5⟩ := Prod.mk.inj hj4
    subst hi4
    obtain ⟨hi5, hj6⟩ := Prod.mk.inj hj5
    subst hi5
    subst hj6
    exact then_n ⟨(HF.keep HF.nil rfl), HT⟩
  rintro a w ⟨HF, HT⟩
  refine ?_
  refine wp_seq ?_
  refine wc_text ?_
  refine wc_move HF nS rfl rfl rfl (fun a HF => ?_)
  refine wc_assign HF nS rfl rfl rfl (fun a HF => ?_)
  refine wc_end ?_
  refine then_n ?_
  refine wp_ret ?_
  have hj7 := Option.some.inj h
  obtain ⟨hi7, hj8⟩ := Prod.mk.inj hj7
  subst hi7
  obtain ⟨hi8, hj9⟩ := Prod.mk.inj hj8
  subst hi8
  subst hj9
  refine bp_ret HF (res_one rfl HF rfl) ?_
  exact ⟨rfl, HT⟩

def m_spec_l1Below (fuel : Nat) (x0_0 : List UInt8) (x0_1 : Int) (x0_2 : Int) (x1 : Int) : Option (Int × Int × Int) :=
  if x1 ≤ 0 then
    some (0, x0_1, x0_2)
  else
  if x1 ≤ 256 then
    bind3 (m_spec_l1Byte fuel x0_0 x0_1 x0_2) fun y1 y2 y3 =>
    if (x1 : Int) ≠ 0 then
      some (y1.tmod x1, y2, y3)
    else none
  else
  bind3 (m_spec_l1Byte fuel x0_0 x0_1 x0_2) fun y4 y5 y6 =>
  bind3 (m_spec_l1Byte fuel x0_0 y5 y6) fun y7 y8 y9 =>
  bind3 (m_spec_l1Byte fuel x0_0 y8 y9) fun y10 y11 y12 =>
  bind3 (m_spec_l1Byte fuel x0_0 y11 y12) fun y13 y14 y15 =>
  if in64 (y4 * 16777216) then
    if in64 (y7 * 65536) then
      if in64 ((y4 * 16777216) + (y7 * 65536)) then
        if in64 (y10 * 256) then
          if in64 (((y4 * 16777216) + (y7 * 65536)) + (y10 * 256)) then
            if in64 ((((y4 * 16777216) + (y7 * 65536)) + (y10 * 256)) + y13) then
              if (x1 : Int) ≠ 0 then
                some (((((y4 * 16777216) + (y7 * 65536)) + (y10 * 256)) + y13).tmod x1, y14, y15)
              else none
            else none
          else none
        else none
      else none
    else none
  else none

set_option maxRecDepth 100000 in
set_option maxHeartbeats 4000000 in
theorem w_spec_l1Below (fuel : Nat) {x0_0 : List UInt8} {x0_1 : Int} {x0_2 : Int} {x1 : Int} {a_x0_0 : Option Addr} {n_x0_0 c_x0_0 : Nat} {p_0 : Nat} {r0 : Int} {x0_1' : Int} {x0_2' : Int} {F : Foot} {w0 : World} (h : m_spec_l1Below fuel x0_0 x0_1 x0_2 x1 = some (r0, x0_1', x0_2')) (hA : StF w0 F [Box p_0 [.slice a_x0_0 n_x0_0 c_x0_0, .int .i64 x0_1, .int .i64 x0_2]]) (hr_x0_0 : RdT (fun b => ¬ F b) w0 (rowT x0_0) (.slice a_x0_0 n_x0_0 c_x0_0)) :
    Calls Try.prog 44 #[.pointer (some ⟨p_0, 0, none⟩), .int .i64 x1] w0 fun e w => e = .returned (.int .i64 r0) ∧ St w0 F w [Box p_0 [.slice a_x0_0 n_x0_0 c_x0_0, .int .i64 x0_1', .int .i64 x0_2']] := by
  have HT0 := St.init hA
  obtain rfl := hr_x0_0.neq
  have HT : St w0 F w0 [Box p_0 [.slice a_x0_0 x0_0.length c_x0_0, .int .i64 x0_1, .int .i64 x0_2]] := St.init hA
  rw [m_spec_l1Below] at h
  refine calls_fr (n := 37) [.pointer (some ⟨p_0, 0, none⟩), .int .i64 x1] Try.func44 rfl rfl rfl (fun a HF => ?_)
  have HT : St w0 F w0 [Box p_0 [.slice a_x0_0 x0_0.length c_x0_0, .int .i64 x0_1, .int .i64 x0_2]] := HT
  refine wp_seq ?_
  refine wc_text ?_
  refine wc_assign HF nS rfl rfl rfl (fun a HF => ?_)
  refine wc_end ?_
  refine then_n ?_
  refine wp_seq ?_
  refine wp_seq ?_
  refine wc_text ?_
  refine wc_move HF nS rfl rfl rfl (fun a HF => ?_)
  refine wc_bin HF nS rfl rfl b_le rfl rfl (fun a HF => ?_)
  refine wc_end ?_
  refine then_n ?_
  by_cases hb1 : x1 ≤ 0
  · have h := (if_pos hb1).symm.trans h
    refine wp_if (b' := true) HF rfl (decide_eq_true hb1) ?_
    refine wp_seq ?_
    refine wc_text ?_
    refine wc_assign HF nS rfl rfl rfl (fun a HF => ?_)
    refine wc_end ?_
    refine then_n ?_
    refine wp_ret ?_
    have hj1 := Option.some.inj h
    obtain ⟨hi1, hj2⟩ := Prod.mk.inj hj1
    subst hi1
    obtain ⟨hi2, hj3⟩ := Prod.mk.inj hj2
    subst hi2
    subst hj3
    refine then_r (?_)
    refine bp_ret HF (res_one rfl HF rfl) ?_
    exact ⟨rfl, HT⟩
  have h := (if_neg hb1).symm.trans h
  refine wp_if (b' := false) HF rfl (decide_eq_false hb1) ?_
  refine wp_skip ?_
  refine then_n ?_
  refine wp_seq ?_
  refine wp_seq ?_
  refine wc_text ?_
  refine wc_move HF nS rfl rfl rfl (fun a HF => ?_)
  refine wc_bin HF nS rfl rfl b_le rfl rfl (fun a HF => ?_)
  refine wc_end ?_
  refine then_n ?_
  by_cases hb2 : x1 ≤ 256
  · have h := (if_pos hb2).symm.trans h
    refine wp_if (b' := true) HF rfl (decide_eq_true hb2) ?_
    refine wp_seq ?_
    refine wc_text ?_
    refine wc_move HF nS rfl rfl rfl (fun a HF => ?_)
    obtain ⟨y1, y2, y3, hx1, h⟩ := obs3 h
    obtain ⟨F1, hAF1, hFF1, hbackF1, hroF1, hownF1, hownAF1⟩ := St.handR2 (A := [Box p_0 [.slice a_x0_0 x0_0.length c_x0_0, .int .i64 x0_1, .int .i64 x0_2]]) HT
    refine wc_call HF cf46 rfl (w_spec_l1Byte fuel hx1 hAF1 (hroF1 hr_x0_0)) rfl rfl ?_
    rintro e w ⟨rfl, hE⟩
    have HT := hbackF1 _ _ hE
    have HT : St w0 F w [Box p_0 [.slice a_x0_0 x0_0.length c_x0_0, .int .i64 y2, .int .i64 y3]] := HT
    refine ⟨_, rfl, nS, fun a HF => ?_⟩
    refine wc_move HF nS rfl rfl rfl (fun a HF => ?_)
    obtain ⟨hg1, h⟩ := grd h
    refine wc_bin HF nS rfl rfl (b_rem hg1) rfl rfl (fun a HF => ?_)
    refine wc_assign HF nS rfl rfl rfl (fun a HF => ?_)
    refine wc_end ?_
    refine then_n ?_
    refine wp_ret ?_
    have hj4 := Option.some.inj h
    obtain ⟨hi4, hj5⟩ := Prod.mk.inj hj4
    subst hi4
    obtain ⟨hi5, hj6⟩ := Prod.mk.inj hj5
    subst hi5
    subst hj6
    refine then_r (?_)
    refine bp_ret HF (res_one rfl HF rfl) ?_
    exact ⟨rfl, HT⟩
  have h := (if_neg hb2).symm.trans h
  refine wp_if (b' := false) HF rfl (decide_eq_false hb2) ?_
  refine wp_skip ?_
  refine then_n ?_
  refine wp_seq ?_
  refine wc_text ?_
  refine wc_move HF nS rfl rfl rfl (fun a HF => ?_)
  obtain ⟨y4, y5, y6, hx2, h⟩ := obs3 h
  obtain ⟨F2, hAF2, hFF2, hbackF2, hroF2, hownF2, hownAF2⟩ := St.handR2 (A := [Box p_0 [.slice a_x0_0 x0_0.length c_x0_0, .int .i64 x0_1, .int .i64 x0_2]]) HT
  refine wc_call HF cf46 rfl (w_spec_l1Byte fuel hx2 hAF2 (hroF2 hr_x0_0)) rfl rfl ?_
  rintro e w ⟨rfl, hE⟩
  have HT := hbackF2 _ _ hE
  have HT : St w0 F w [Box p_0 [.slice a_x0_0 x0_0.length c_x0_0, .int .i64 y5, .int .i64 y6]] := HT
  refine ⟨_, rfl, nS, fun a HF => ?_⟩
  refine wc_assign HF nS rfl rfl rfl (fun a HF => ?_)
  refine wc_end ?_
  refine then_n ?_
  refine wp_seq ?_
  refine wc_text ?_
  refine wc_move HF nS rfl rfl rfl (fun a HF => ?_)
  obtain ⟨y7, y8, y9, hx3, h⟩ := obs3 h
  obtain ⟨F3, hAF3, hFF3, hbackF3, hroF3, hownF3, hownAF3⟩ := St.handR2 (A := [Box p_0 [.slice a_x0_0 x0_0.length c_x0_0, .int .i64 y5, .int .i64 y6]]) HT
  refine wc_call HF cf46 rfl (w_spec_l1Byte fuel hx3 hAF3 (hroF3 hr_x0_0)) rfl rfl ?_
  rintro e w ⟨rfl, hE⟩
  have HT := hbackF3 _ _ hE
  have HT : St w0 F w [Box p_0 [.slice a_x0_0 x0_0.length c_x0_0, .int .i64 y8, .int .i64 y9]] := HT
  refine ⟨_, rfl, nS, fun a HF => ?_⟩
  refine wc_assign HF nS rfl rfl rfl (fun a HF => ?_)
  refine wc_end ?_
  refine then_n ?_
  refine wp_seq ?_
  refine wc_text ?_
  refine wc_move HF nS rfl rfl rfl (fun a HF => ?_)
  obtain ⟨y10, y11, y12, hx4, h⟩ := obs3 h
  obtain ⟨F4, hAF4, hFF4, hbackF4, hroF4, hownF4, hownAF4⟩ := St.handR2 (A := [Box p_0 [.slice a_x0_0 x0_0.length c_x0_0, .int .i64 y8, .int .i64 y9]]) HT
  refine wc_call HF cf46 rfl (w_spec_l1Byte fuel hx4 hAF4 (hroF4 hr_x0_0)) rfl rfl ?_
  rintro e w ⟨rfl, hE⟩
  have HT := hbackF4 _ _ hE
  have HT : St w0 F w [Box p_0 [.slice a_x0_0 x0_0.length c_x0_0, .int .i64 y11, .int .i64 y12]] := HT
  refine ⟨_, rfl, nS, fun a HF => ?_⟩
  refine wc_assign HF nS rfl rfl rfl (fun a HF => ?_)
  refine wc_end ?_
  refine then_n ?_
  refine wp_seq ?_
  refine wc_text ?_
  refine wc_move HF nS rfl rfl rfl (fun a HF => ?_)
  obtain ⟨y13, y14, y15, hx5, h⟩ := obs3 h
  obtain ⟨F5, hAF5, hFF5, hbackF5, hroF5, hownF5, hownAF5⟩ := St.handR2 (A := [Box p_0 [.slice a_x0_0 x0_0.length c_x0_0, .int .i64 y11, .int .i64 y12]]) HT
  refine wc_call HF cf46 rfl (w_spec_l1Byte fuel hx5 hAF5 (hroF5 hr_x0_0)) rfl rfl ?_
  rintro e w ⟨rfl, hE⟩
  have HT := hbackF5 _ _ hE
  have HT : St w0 F w [Box p_0 [.slice a_x0_0 x0_0.length c_x0_0, .int .i64 y14, .int .i64 y15]] := HT
  refine ⟨_, rfl, nS, fun a HF => ?_⟩
  refine wc_assign HF nS rfl rfl rfl (fun a HF => ?_)
  refine wc_end ?_
  refine then_n ?_
  refine wp_seq ?_
  refine wc_text ?_
  refine wc_move HF nS rfl rfl rfl (fun a HF => ?_)
  obtain ⟨hg2, h⟩ := grd h
  refine wc_bin HF nS rfl rfl (b_mul hg2) rfl rfl (fun a HF => ?_)
  refine wc_move HF nS rfl rfl rfl (fun a HF => ?_)
  obtain ⟨hg3, h⟩ := grd h
  refine wc_bin HF nS rfl rfl (b_mul hg3) rfl rfl (fun a HF => ?_)
  obtain ⟨hg4, h⟩ := grd h
  refine wc_bin HF nS rfl rfl (b_add hg4) rfl rfl (fun a HF => ?_)
  refine wc_move HF nS rfl rfl rfl (fun a HF => ?_)
  obtain ⟨hg5, h⟩ := grd h
  refine wc_bin HF nS rfl rfl (b_mul hg5) rfl rfl (fun a HF => ?_)
  obtain ⟨hg6, h⟩ := grd h
  refine wc_bin HF nS rfl rfl (b_add hg6) rfl rfl (fun a HF => ?_)
  refine wc_move HF nS rfl rfl rfl (fun a HF => ?_)
  obtain ⟨hg7, h⟩ := grd h
  refine wc_bin HF nS rfl rfl (b_add hg7) rfl rfl (fun a HF => ?_)
  refine wc_move HF nS rfl rfl rfl (fun a HF => ?_)
  obtain ⟨hg8, h⟩ := grd h
  refine wc_bin HF nS rfl rfl (b_rem hg8) rfl rfl (fun a HF => ?_)
  refine wc_assign HF nS rfl rfl rfl (fun a HF => ?_)
  refine wc_end ?_
  refine then_n ?_
  refine wp_ret ?_
  have hj7 := Option.some.inj h
  obtain ⟨hi7, hj8⟩ := Prod.mk.inj hj7
  subst hi7
  obtain ⟨hi8, hj9⟩ := Prod.mk.inj hj8
  subst hi8
  subst hj9
  refine bp_ret HF (res_one rfl HF rfl) ?_
  exact ⟨rfl, HT⟩

def m_spec_l1Text_L0 (fuel : Nat) (x0_0 : List UInt8) (y1 : Int) : Nat → Int → Int → (List UInt8) → Int → Option (List UInt8 × Int × Int)
  | 0, _, _, _, _ => none
  | k1 + 1, z4, z5, z6, z7 =>
    if 0 < z7 then
      bind3 (
        bind3 (m_spec_l1Byte fuel x0_0 z4 z5) fun y7 y8 y9 =>
        (
          if y1 = 1 then
            if (2 : Int) ≠ 0 then
              some (y7.tmod 2)
            else none
          else
          some y7).bind fun z11 =>
        (
          if y1 = 2 then
            if (4 : Int) ≠ 0 then
              if in64 (97 + (z11.tmod 4)) then
                some (97 + (z11.tmod 4))
              else none
            else none
          else
          some z11).bind fun z12 =>
        if z6.length + 1 ≤ 17179869184 then
          some (y8, y9, z6 ++ ([b8 z12] : List UInt8))
        else none) fun z8 z9 z10 =>
      if in64 (z7 - 1) then
        m_spec_l1Text_L0 fuel x0_0 y1 k1 z8 z9 z10 (z7 - 1)
      else none
    else
    some (z6, z4, z5)

def m_spec_l1Text (fuel : Nat) (x0_0 : List UInt8) (x0_1 : Int) (x0_2 : Int) (x1 : Int) : Option (Str × Int × Int) :=
  bind3 (m_spec_l1Below fuel x0_0 x0_1 x0_2 4) fun y1 y2 y3 =>
  bind3 (
    if in64 (x1 + 1) then
      bind3 (m_spec_l1Below fuel x0_0 y2 y3 (x1 + 1)) fun y4 y5 y6 =>
      m_spec_l1Text_L0 fuel x0_0 y1 fuel y5 y6 ([] : List UInt8) y4
    else none) fun z1 z2 z3 =>
  some (z1, z2, z3)

set_option maxRecDepth 100000 in
set_option maxHeartbeats 4000000 in
theorem w_spec_l1Text (fuel : Nat) {x0_0 : List UInt8} {x0_1 : Int} {x0_2 : Int} {x1 : Int} {a_x0_0 : Option Addr} {n_x0_0 c_x0_0 : Nat} {p_0 : Nat} {r0 : Str} {x0_1' : Int} {x0_2' : Int} {F : Foot} {w0 : World} (h : m_spec_l1Text fuel x0_0 x0_1 x0_2 x1 = some (r0, x0_1', x0_2')) (hA : StF w0 F [Box p_0 [.slice a_x0_0 n_x0_0 c_x0_0, .int .i64 x0_1, .int .i64 x0_2]]) (hr_x0_0 : RdT (fun b => ¬ F b) w0 (rowT x0_0) (.slice a_x0_0 n_x0_0 c_x0_0)) :
    Calls Try.prog 27 #[.pointer (some ⟨p_0, 0, none⟩), .int .i64 x1] w0 fun e w => e = .returned (sv r0) ∧ St w0 F w [Box p_0 [.slice a_x0_0 n_x0_0 c_x0_0, .int .i64 x0_1', .int .i64 x0_2']] := by
  have HT0 := St.init hA
  obtain rfl := hr_x0_0.neq
  have HT : St w0 F w0 [Box p_0 [.slice a_x0_0 x0_0.length c_x0_0, .int .i64 x0_1, .int .i64 x0_2]] := St.init hA
  rw [m_spec_l1Text] at h
  refine calls_fr (n := 38) [.pointer (some ⟨p_0, 0, none⟩), .int .i64 x1] Try.func27 rfl rfl rfl (fun a HF => ?_)
  have HT : St w0 F w0 [Box p_0 [.slice a_x0_0 x0_0.length c_x0_0, .int .i64 x0_1, .int .i64 x0_2]] := HT
  refine wp_seq ?_
  refine wc_text ?_
  refine wc_assign HF nS rfl rfl rfl (fun a HF => ?_)
  refine wc_end ?_
  refine then_n ?_
  refine wp_seq ?_
  refine wc_text ?_
  refine wc_bslice (l := ([] : List UInt8)) (cs := []) (A := []) HF HT bs22_0 rfl rfl (gives_flat rfl) rfl (by decide) rfl rfl (fun p1 w HT hb => ⟨nS, fun a HF => ?_⟩)
  refine wc_assign HF nS rfl rfl rfl (fun a HF => ?_)
  refine wc_end ?_
  refine then_n ?_
  refine wp_seq ?_
  refine wc_text ?_
  refine wc_move HF nS rfl rfl rfl (fun a HF => ?_)
  obtain ⟨y1, y2, y3, hx1, h⟩ := obs3 h
  have HT : St w0 F w [Box p_0 [.slice a_x0_0 x0_0.length c_x0_0, .int .i64 x0_1, .int .i64 x0_2], Own 5 (rowT ([] : List UInt8)) (.slice (some ⟨p1, 0, none⟩) 0 0)] := HT.pick 1
  obtain ⟨F1, hAF1, hFF1, hbackF1, hroF1, hownF1, hownAF1⟩ := St.handR2 (A := [Box p_0 [.slice a_x0_0 x0_0.length c_x0_0, .int .i64 x0_1, .int .i64 x0_2]]) HT
  refine wc_call HF cf44 rfl (w_spec_l1Below fuel hx1 hAF1 (hroF1 hr_x0_0)) rfl rfl ?_
  rintro e w ⟨rfl, hE⟩
  have HT := hbackF1 _ _ hE
  have HT : St w0 F w [Box p_0 [.slice a_x0_0 x0_0.length c_x0_0, .int .i64 y2, .int .i64 y3], Own 5 (rowT ([] : List UInt8)) (.slice (some ⟨p1, 0, none⟩) 0 0)] := HT
  refine ⟨_, rfl, nS, fun a HF => ?_⟩
  refine wc_assign HF nS rfl rfl rfl (fun a HF => ?_)
  refine wc_end ?_
  refine then_n ?_
  obtain ⟨z1, z2, z3, hx2, h⟩ := obs3 h
  refine wp_cut (fun a w => ∃ a1 n1 c1, Fr a 38 [(5, .slice a1 n1 c1)] ∧ St w0 F w [Own 5 (rowT z1) (.slice a1 n1 c1), Box p_0 [.slice a_x0_0 x0_0.length c_x0_0, .int .i64 z2, .int .i64 z3]]) ?_ ?_
  · have hk1 := h
    have h := hx2
    refine wp_seq ?_
    refine wc_text ?_
    refine wc_move HF nS rfl rfl rfl (fun a HF => ?_)
    refine wc_move HF nS rfl rfl rfl (fun a HF => ?_)
    obtain ⟨hg1, h⟩ := grd h
    refine wc_bin HF nS rfl rfl (b_add hg1) rfl rfl (fun a HF => ?_)
    obtain ⟨y4, y5, y6, hx3, h⟩ := obs3 h
    obtain ⟨F2, hAF2, hFF2, hbackF2, hroF2, hownF2, hownAF2⟩ := St.handR2 (A := [Box p_0 [.slice a_x0_0 x0_0.length c_x0_0, .int .i64 y2, .int .i64 y3]]) HT
    refine wc_call HF cf44 rfl (w_spec_l1Below fuel hx3 hAF2 (hroF2 hr_x0_0)) rfl rfl ?_
    rintro e w ⟨rfl, hE⟩
    have HT := hbackF2 _ _ hE
    have HT : St w0 F w [Box p_0 [.slice a_x0_0 x0_0.length c_x0_0, .int .i64 y5, .int .i64 y6], Own 5 (rowT ([] : List UInt8)) (.slice (some ⟨p1, 0, none⟩) 0 0)] := HT
    refine ⟨_, rfl, nS, fun a HF => ?_⟩
    refine wc_assign HF nS rfl rfl rfl (fun a HF => ?_)
    refine wc_end ?_
    refine then_n ?_
    refine wp_block ?_
    refine wp_loopN (fun k1 a w => ∃ z4 z5 z6 z7 a2 n2 c2, m_spec_l1Text_L0 fuel x0_0 y1 k1 z4 z5 z6 z7 = some (z1, z2, z3) ∧ Fr a 38 [(0, .pointer (some ⟨p_0, 0, none⟩)), (5, .slice a2 n2 c2), (6, .int .i64 y1), (7, .int .i64 z7)] ∧ St w0 F w [Box p_0 [.slice a_x0_0 x0_0.length c_x0_0, .int .i64 z4, .int .i64 z5], Own 5 (rowT z6) (.slice a2 n2 c2)]) fuel ⟨y5, y6, ([] : List UInt8), y4, (some ⟨p1, 0, none⟩), 0, 0, h, (HF.keep (HF.keep (HF.keep (HF.keep HF.nil rfl) rfl) rfl) rfl), HT⟩ ?_
    rintro k1 a w ⟨z4, z5, z6, z7, a2, n2, c2, h, HF, HT⟩
    cases k1 with
    | zero => cases h
    | succ k1 =>
      rw [m_spec_l1Text_L0] at h
      obtain rfl := (HT.rdAt 1 rfl).neq
      refine ?_
      refine wp_seq ?_
      refine wp_seq ?_
      refine wc_text ?_
      refine wc_move HF nS rfl rfl rfl (fun a HF => ?_)
      refine wc_bin HF nS rfl rfl b_gt rfl rfl (fun a HF => ?_)
      refine wc_end ?_
      refine then_n ?_
      by_cases hb1 : 0 < z7
      · have h := (if_pos hb1).symm.trans h
        refine wp_if (b' := true) HF rfl (decide_eq_true hb1) ?_
        refine wp_skip ?_
        refine then_n ?_
        obtain ⟨z8, z9, z10, hx4, h⟩ := obs3 h
        refine wp_cut (fun a w => ∃ a3 n3 c3, Fr a 38 [(0, .pointer (some ⟨p_0, 0, none⟩)), (5, .slice a3 n3 c3), (6, .int .i64 y1), (7, .int .i64 z7)] ∧ St w0 F w [Box p_0 [.slice a_x0_0 x0_0.length c_x0_0, .int .i64 z8, .int .i64 z9], Own 5 (rowT z10) (.slice a3 n3 c3)]) ?_ ?_
        · have hk2 := h
          have h := hx4
          refine wp_block ?_
          refine wp_seq ?_
          refine wc_text ?_
          refine wc_move HF nS rfl rfl rfl (fun a HF => ?_)
          obtain ⟨y7, y8, y9, hx5, h⟩ := obs3 h
          obtain ⟨F3, hAF3, hFF3, hbackF3, hroF3, hownF3, hownAF3⟩ := St.handR2 (A := [Box p_0 [.slice a_x0_0 x0_0.length c_x0_0, .int .i64 z4, .int .i64 z5]]) HT
          refine wc_call HF cf46 rfl (w_spec_l1Byte fuel hx5 hAF3 (hroF3 hr_x0_0)) rfl rfl ?_
          rintro e w ⟨rfl, hE⟩
          have HT := hbackF3 _ _ hE
          have HT : St w0 F w [Box p_0 [.slice a_x0_0 x0_0.length c_x0_0, .int .i64 y8, .int .i64 y9], Own 5 (rowT z6) (.slice a2 z6.length c2)] := HT
          refine ⟨_, rfl, nS, fun a HF => ?_⟩
          refine wc_assign HF nS rfl rfl rfl (fun a HF => ?_)
          refine wc_end ?_
          refine then_n ?_
          obtain ⟨z11, hx6, h⟩ := obs h
          refine wp_cut (fun a w => Fr a 38 [(0, .pointer (some ⟨p_0, 0, none⟩)), (5, .slice a2 z6.length c2), (6, .int .i64 y1), (7, .int .i64 z7), (8, .int .i64 z11)] ∧ St w0 F w [Box p_0 [.slice a_x0_0 x0_0.length c_x0_0, .int .i64 y8, .int .i64 y9], Own 5 (rowT z6) (.slice a2 z6.length c2)]) ?_ ?_
          · have hk3 := h
            have h := hx6
            refine wp_seq ?_
            refine wc_text ?_
            refine wc_move HF nS rfl rfl rfl (fun a HF => ?_)
            refine wc_bin HF nS rfl rfl b_eq rfl rfl (fun a HF => ?_)
            refine wc_end ?_
            refine then_n ?_
            by_cases hb2 : y1 = 1
            · have h := (if_pos hb2).symm.trans h
              refine wp_if (b' := true) HF rfl (decide_eq_true hb2) ?_
              refine wc_text ?_
              refine wc_move HF nS rfl rfl rfl (fun a HF => ?_)
              obtain ⟨hg2, h⟩ := grd h
              refine wc_bin HF nS rfl rfl (b_rem hg2) rfl rfl (fun a HF => ?_)
              refine wc_assign HF nS rfl rfl rfl (fun a HF => ?_)
              refine wc_end ?_
              obtain rfl := Option.some.inj h
              exact then_n ⟨(HF.keep (HF.keep (HF.keep (HF.keep (HF.keep HF.nil rfl) rfl) rfl) rfl) rfl), HT⟩
            have h := (if_neg hb2).symm.trans h
            refine wp_if (b' := false) HF rfl (decide_eq_false hb2) ?_
            refine wp_skip ?_
            obtain rfl := Option.some.inj h
            exact then_n ⟨(HF.keep (HF.keep (HF.keep (HF.keep (HF.keep HF.nil rfl) rfl) rfl) rfl) rfl), HT⟩
          rintro a w ⟨HF, HT⟩
          refine ?_
          obtain ⟨z12, hx7, h⟩ := obs h
          refine wp_cut (fun a w => Fr a 38 [(0, .pointer (some ⟨p_0, 0, none⟩)), (5, .slice a2 z6.length c2), (6, .int .i64 y1), (7, .int .i64 z7), (8, .int .i64 z12)] ∧ St w0 F w [Box p_0 [.slice a_x0_0 x0_0.length c_x0_0, .int .i64 y8, .int .i64 y9], Own 5 (rowT z6) (.slice a2 z6.length c2)]) ?_ ?_
          · have hk3 := h
            have h := hx7
            refine wp_seq ?_
            refine wc_text ?_
            refine wc_move HF nS rfl rfl rfl (fun a HF => ?_)
            refine wc_bin HF nS rfl rfl b_eq rfl rfl (fun a HF => ?_)
            refine wc_end ?_
            refine then_n ?_
            by_cases hb3 : y1 = 2
            · have h := (if_pos hb3).symm.trans h
              refine wp_if (b' := true) HF rfl (decide_eq_true hb3) ?_
              refine wc_text ?_
              refine wc_move HF nS rfl rfl rfl (fun a HF => ?_)
              obtain ⟨hg3, h⟩ := grd h
              refine wc_bin HF nS rfl rfl (b_rem hg3) rfl rfl (fun a HF => ?_)
              obtain ⟨hg4, h⟩ := grd h
              refine wc_bin HF nS rfl rfl (b_add hg4) rfl rfl (fun a HF => ?_)
              refine wc_assign HF nS rfl rfl rfl (fun a HF => ?_)
              refine wc_end ?_
              obtain rfl := Option.some.inj h
              exact then_n ⟨(HF.keep (HF.keep (HF.keep (HF.keep (HF.keep HF.nil rfl) rfl) rfl) rfl) rfl), HT⟩
            have h := (if_neg hb3).symm.trans h
            refine wp_if (b' := false) HF rfl (decide_eq_false hb3) ?_
            refine wp_skip ?_
            obtain rfl := Option.some.inj h
            exact then_n ⟨(HF.keep (HF.keep (HF.keep (HF.keep (HF.keep HF.nil rfl) rfl) rfl) rfl) rfl), HT⟩
          rintro a w ⟨HF, HT⟩
          refine ?_
          refine wc_text ?_
          refine wc_move HF nS rfl rfl rfl (fun a HF => ?_)
          refine wc_move HF nS rfl rfl rfl (fun a HF => ?_)
          refine wc_cvb HF nS Try.underlying5 Try.underlying3 rfl rfl rfl (fun a HF => ?_)
          refine wc_bslice (l := ([b8 z12] : List UInt8)) (cs := [.int .u8 ((b8 z12).toNat : Int)]) (A := []) HF HT bs22_1 rfl rfl (gives_flat rfl) rfl (by decide) rfl rfl (fun p2 w HT hb => ⟨nS, fun a HF => ?_⟩)
          obtain ⟨hg5, h⟩ := grd h
          have HT : St w0 F w [Own 5 (rowT z6) (.slice a2 z6.length c2), Own 5 (rowT ([b8 z12] : List UInt8)) (.slice (some ⟨p2, 0, none⟩) 1 1), Box p_0 [.slice a_x0_0 x0_0.length c_x0_0, .int .i64 y8, .int .i64 y9]] := HT.pick 2
          refine wc_append HF HT el22 rfl rfl (Nat.zero_lt_succ _) hg5 rfl rfl rfl (fun a4 c4 w HT => ⟨nS, fun a HF => ?_⟩)
          refine wc_assign HF nS rfl rfl rfl (fun a HF => ?_)
          refine wc_end ?_
          refine blk_n ?_
          have HT : St w0 F w [Box p_0 [.slice a_x0_0 x0_0.length c_x0_0, .int .i64 y8, .int .i64 y9], Own 5 (rowT (z6 ++ ([b8 z12] : List UInt8))) (.slice a4 ((z6 ++ ([b8 z12] : List UInt8)).length) c4)] := HT.pick 1
          have hj1 := Option.some.inj h
          obtain ⟨hi1, hj2⟩ := Prod.mk.inj hj1
          subst hi1
          obtain ⟨hi2, hj3⟩ := Prod.mk.inj hj2
          subst hi2
          subst hj3
          exact then_n ⟨a4, (z6 ++ ([b8 z12] : List UInt8)).length, c4, (HF.keep (HF.keep (HF.keep (HF.keep HF.nil rfl) rfl) rfl) rfl), HT⟩
        rintro a w ⟨a3, n3, c3, HF, HT⟩
        obtain rfl := (HT.rdAt 1 rfl).neq
        refine ?_
        refine wc_text ?_
        refine wc_move HF nS rfl rfl rfl (fun a HF => ?_)
        obtain ⟨hg6, h⟩ := grd h
        refine wc_bin HF nS rfl rfl (b_sub hg6) rfl rfl (fun a HF => ?_)
        refine wc_assign HF nS rfl rfl rfl (fun a HF => ?_)
        refine wc_end ?_
        exact then_n ⟨k1, Nat.lt_succ_self k1, z8, z9, z10, z7 - 1, a3, z10.length, c3, h, (HF.keep (HF.keep (HF.keep (HF.keep HF.nil rfl) rfl) rfl) rfl), HT⟩
      have h := (if_neg hb1).symm.trans h
      refine wp_if (b' := false) HF rfl (decide_eq_false hb1) ?_
      refine wp_exit ?_
      refine then_x (then_x (?_))
      refine blk_x ?_
      have HT : St w0 F w [Own 5 (rowT z6) (.slice a2 z6.length c2), Box p_0 [.slice a_x0_0 x0_0.length c_x0_0, .int .i64 z4, .int .i64 z5]] := HT.pick 1
      have hj4 := Option.some.inj h
      obtain ⟨hi4, hj5⟩ := Prod.mk.inj hj4
      subst hi4
      obtain ⟨hi5, hj6⟩ := Prod.mk.inj hj5
      subst hi5
      subst hj6
      exact then_n ⟨a2, z6.length, c2, (HF.keep HF.nil rfl), HT⟩
  rintro a w ⟨a1, n1, c1, HF, HT⟩
  obtain rfl := (HT.rdAt 0 rfl).neq
  refine ?_
  refine wp_seq ?_
  refine wc_text ?_
  refine wc_move HF nS rfl rfl rfl (fun a HF => ?_)
  refine wc_cvs HF nS Try.underlying22 Try.underlying5 Try.underlying9 rfl (HT.rdAt 0 rfl) rfl rfl (fun a HF => ?_)
  refine wc_assign HF nS rfl rfl rfl (fun a HF => ?_)
  refine wc_end ?_
  refine then_n ?_
  refine wp_ret ?_
  have hj7 := Option.some.inj h
  obtain ⟨hi7, hj8⟩ := Prod.mk.inj hj7
  subst hi7
  obtain ⟨hi8, hj9⟩ := Prod.mk.inj hj8
  subst hi8
  subst hj9
  refine bp_ret HF (res_one rfl HF rfl) ?_
  have HT : St w0 F w [Box p_0 [.slice a_x0_0 x0_0.length c_x0_0, .int .i64 z2, .int .i64 z3]] := (HT.pick 1).take 1
  exact ⟨rfl, HT⟩

def m_spec_DrawHex (fuel : Nat) (x0 : List UInt8) : Option Str :=
  bind2 (m_spec_l1New fuel x0) fun y1 y2 =>
  bind3 (m_spec_l1Text fuel x0 y1 y2 40) fun y3 y4 y5 =>
  some y3

set_option maxRecDepth 100000 in
set_option maxHeartbeats 4000000 in
theorem w_spec_DrawHex (fuel : Nat) {x0 : List UInt8} {a_x0 : Option Addr} {n_x0 c_x0 : Nat} {r0 : Str} {w0 : World} (h : m_spec_DrawHex fuel x0 = some r0) (hr_x0 : RdT (fun b => ¬ False) w0 (rowT x0) (.slice a_x0 n_x0 c_x0)) :
    Calls Try.prog 7 #[.slice a_x0 n_x0 c_x0] w0 fun e w => e = .returned (sv r0) ∧ St w0 (fun _ => False) w [] := by
  obtain rfl := hr_x0.neq
  have HT : St w0 (fun _ => False) w0 [] := St.init0
  rw [m_spec_DrawHex] at h
  refine calls_fr (n := 8) [.slice a_x0 x0.length c_x0] Try.func7 rfl rfl rfl (fun a HF => ?_)
  have HT : St w0 (fun _ => False) w0 [] := HT
  refine wp_seq ?_
  refine wc_text ?_
  refine wc_assign HF nS rfl rfl rfl (fun a HF => ?_)
  refine wc_end ?_
  refine then_n ?_
  refine wp_seq ?_
  refine wc_text ?_
  refine wc_move HF nS rfl rfl rfl (fun a HF => ?_)
  obtain ⟨y1, y2, hx1, h⟩ := obs2 h
  refine wc_call HF cf25 rfl (w_spec_l1New fuel hx1 (HT.ro hr_x0).any) rfl rfl ?_
  rintro e w ⟨p1, rfl, hE⟩
  have hb := hE.below
  have HT := HT.pure hE
  have HT : St w0 (fun _ => False) w [Box p1 [.slice a_x0 x0.length c_x0, .int .i64 y1, .int .i64 y2]] := HT
  refine ⟨_, rfl, nS, fun a HF => ?_⟩
  refine wc_assign HF nS rfl rfl rfl (fun a HF => ?_)
  refine wc_end ?_
  refine then_n ?_
  refine wp_seq ?_
  refine wc_text ?_
  refine wc_move HF nS rfl rfl rfl (fun a HF => ?_)
  obtain ⟨y3, y4, y5, hx2, h⟩ := obs3 h
  obtain ⟨F1, hAF1, hFF1, hbackF1, hroF1, hownF1, hownAF1⟩ := St.handR2 (A := [Box p1 [.slice a_x0 x0.length c_x0, .int .i64 y1, .int .i64 y2]]) HT
  refine wc_call HF cf27 rfl (w_spec_l1Text fuel hx2 hAF1 (hroF1 hr_x0)) rfl rfl ?_
  rintro e w ⟨rfl, hE⟩
  have HT := hbackF1 _ _ hE
  have HT : St w0 (fun _ => False) w [Box p1 [.slice a_x0 x0.length c_x0, .int .i64 y4, .int .i64 y5]] := HT
  refine ⟨_, rfl, nS, fun a HF => ?_⟩
  refine wc_assign HF nS rfl rfl rfl (fun a HF => ?_)
  refine wc_end ?_
  refine then_n ?_
  refine wp_ret ?_
  obtain rfl := Option.some.inj h
  refine bp_ret HF (res_one rfl HF rfl) ?_
  have HT : St w0 (fun _ => False) w [] := HT.take 0
  exact ⟨rfl, HT⟩

def m_spec_l1In (fuel : Nat) (x0 : Int) (x1 : Int) (x2 : Int) : Option Bool :=
  if x1 ≤ x0 then
    some (decide (x0 ≤ x2))
  else
  some false

set_option maxRecDepth 100000 in
set_option maxHeartbeats 4000000 in
theorem w_spec_l1In (fuel : Nat) {x0 : Int} {x1 : Int} {x2 : Int} {r0 : Bool} {w0 : World} (h : m_spec_l1In fuel x0 x1 x2 = some r0) :
    Calls Try.prog 47 #[.int .i64 x0, .int .i64 x1, .int .i64 x2] w0 fun e w => e = .returned (.bool r0) ∧ St w0 (fun _ => False) w [] := by
  have HT : St w0 (fun _ => False) w0 [] := St.init0
  rw [m_spec_l1In] at h
  refine calls_fr (n := 15) [.int .i64 x0, .int .i64 x1, .int .i64 x2] Try.func47 rfl rfl rfl (fun a HF => ?_)
  have HT : St w0 (fun _ => False) w0 [] := HT
  refine wp_seq ?_
  refine wc_text ?_
  refine wc_assign HF nS rfl rfl rfl (fun a HF => ?_)
  refine wc_end ?_
  refine then_n ?_
  refine wp_seq ?_
  refine wc_text ?_
  refine wc_move HF nS rfl rfl rfl (fun a HF => ?_)
  refine wc_move HF nS rfl rfl rfl (fun a HF => ?_)
  refine wc_bin HF nS rfl rfl b_ge rfl rfl (fun a HF => ?_)
  refine wc_move HF nS rfl rfl rfl (fun a HF => ?_)
  by_cases hb1 : x1 ≤ x0
  · have h := (if_pos hb1).symm.trans h
    refine wc_move HF nS rfl (HF.wy rfl rfl rfl rfl (decide_eq_true hb1)) rfl (fun a HF => ?_)
    refine wc_move HF nS rfl (HF.wy rfl rfl rfl rfl (decide_eq_true hb1)) rfl (fun a HF => ?_)
    refine wc_bin HF nS rfl rfl b_le (HF.wy rfl rfl rfl rfl (decide_eq_true hb1)) rfl (fun a HF => ?_)
    refine wc_pick (b := true) HF nS rfl (decide_eq_true hb1) rfl rfl rfl (fun a HF => ?_)
    refine wc_assign HF nS rfl rfl rfl (fun a HF => ?_)
    refine wc_end ?_
    refine then_n ?_
    refine wp_ret ?_
    obtain rfl := Option.some.inj h
    refine bp_ret HF (res_one rfl HF rfl) ?_
    exact ⟨rfl, HT⟩
  have h := (if_neg hb1).symm.trans h
  refine wc_skip HF nS (HF.wn rfl rfl rfl rfl (decide_eq_false hb1)) rfl (fun a HF => ?_)
  refine wc_skip HF nS (HF.wn rfl rfl rfl rfl (decide_eq_false hb1)) rfl (fun a HF => ?_)
  refine wc_skip HF nS (HF.wn rfl rfl rfl rfl (decide_eq_false hb1)) rfl (fun a HF => ?_)
  refine wc_pick (b := false) HF nS rfl (decide_eq_false hb1) rfl rfl rfl (fun a HF => ?_)
  refine wc_assign HF nS rfl rfl rfl (fun a HF => ?_)
  refine wc_end ?_
  refine then_n ?_
  refine wp_ret ?_
  obtain rfl := Option.some.inj h
  refine bp_ret HF (res_one rfl HF rfl) ?_
  exact ⟨rfl, HT⟩

def m_spec_Var_L0 (fuel : Nat) : Nat → Int → (List UInt8) → Option (Int × List UInt8)
  | 0, _, _ => none
  | k1 + 1, z3, z4 =>
    if 128 ≤ z3 then
      if (128 : Int) ≠ 0 then
        if in64 (128 + (z3.tmod 128)) then
          if z4.length + 1 ≤ 17179869184 then
            if (128 : Int) ≠ 0 ∧ in64 (z3.tdiv 128) then
              m_spec_Var_L0 fuel k1 (z3.tdiv 128) (z4 ++ ([b8 (128 + (z3.tmod 128))] : List UInt8))
            else none
          else none
        else none
      else none
    else
    some (z3, z4)

def m_spec_Var (fuel : Nat) (x0 : Int) : Option Str :=
  (m_spec_l1In fuel x0 0 562949953421311).bind fun y1 =>
  if y1 = true then
    bind2 (m_spec_Var_L0 fuel fuel x0 ([] : List UInt8)) fun z1 z2 =>
    if z2.length + 1 ≤ 17179869184 then
      some (z2 ++ ([b8 z1] : List UInt8))
    else none
  else
  some []

set_option maxRecDepth 100000 in
set_option maxHeartbeats 4000000 in
theorem w_spec_Var (fuel : Nat) {x0 : Int} {r0 : Str} {w0 : World} (h : m_spec_Var fuel x0 = some r0) :
    Calls Try.prog 30 #[.int .i64 x0] w0 fun e w => e = .returned (sv r0) ∧ St w0 (fun _ => False) w [] := by
  have HT : St w0 (fun _ => False) w0 [] := St.init0
  rw [m_spec_Var] at h
  refine calls_fr (n := 25) [.int .i64 x0] Try.func30 rfl rfl rfl (fun a HF => ?_)
  have HT : St w0 (fun _ => False) w0 [] := HT
  refine wp_seq ?_
  refine wc_text ?_
  refine wc_assign HF nS rfl rfl rfl (fun a HF => ?_)
  refine wc_end ?_
  refine then_n ?_
  refine wp_seq ?_
  refine wp_seq ?_
  refine wc_text ?_
  refine wc_move HF nS rfl rfl rfl (fun a HF => ?_)
  obtain ⟨y1, hx1, h⟩ := obs h
  refine wc_call HF cf47 rfl (w_spec_l1In fuel hx1) rfl rfl ?_
  rintro e w ⟨rfl, hE⟩
  have hb := hE.below
  have HT := HT.pure hE
  have HT : St w0 (fun _ => False) w [] := HT
  refine ⟨_, rfl, nS, fun a HF => ?_⟩
  refine wc_not HF nS rfl rfl rfl (fun a HF => ?_)
  refine wc_end ?_
  refine then_n ?_
  by_cases hb1 : y1 = true
  · have h := (if_pos hb1).symm.trans h
    refine wp_if (b' := false) HF rfl (notT hb1) ?_
    refine wp_skip ?_
    refine then_n ?_
    refine wp_seq ?_
    refine wc_text ?_
    refine wc_bslice (l := ([] : List UInt8)) (cs := []) (A := []) HF HT bs22_0 rfl rfl (gives_flat rfl) rfl (by decide) rfl rfl (fun p1 w HT hb => ⟨nS, fun a HF => ?_⟩)
    refine wc_assign HF nS rfl rfl rfl (fun a HF => ?_)
    refine wc_end ?_
    refine then_n ?_
    obtain ⟨z1, z2, hx2, h⟩ := obs2 h
    refine wp_cut (fun a w => ∃ a1 n1 c1, Fr a 25 [(0, .int .i64 z1), (3, .slice a1 n1 c1)] ∧ St w0 (fun _ => False) w [Own 5 (rowT z2) (.slice a1 n1 c1)]) ?_ ?_
    · have hk1 := h
      have h := hx2
      refine wp_block ?_
      refine wp_loopN (fun k1 a w => ∃ z3 z4 a2 n2 c2, m_spec_Var_L0 fuel k1 z3 z4 = some (z1, z2) ∧ Fr a 25 [(0, .int .i64 z3), (3, .slice a2 n2 c2)] ∧ St w0 (fun _ => False) w [Own 5 (rowT z4) (.slice a2 n2 c2)]) fuel ⟨x0, ([] : List UInt8), (some ⟨p1, 0, none⟩), 0, 0, h, (HF.keep (HF.keep HF.nil rfl) rfl), HT⟩ ?_
      rintro k1 a w ⟨z3, z4, a2, n2, c2, h, HF, HT⟩
      cases k1 with
      | zero => cases h
      | succ k1 =>
        rw [m_spec_Var_L0] at h
        obtain rfl := (HT.rdAt 0 rfl).neq
        refine ?_
        refine wp_seq ?_
        refine wp_seq ?_
        refine wc_text ?_
        refine wc_move HF nS rfl rfl rfl (fun a HF => ?_)
        refine wc_bin HF nS rfl rfl b_ge rfl rfl (fun a HF => ?_)
        refine wc_end ?_
        refine then_n ?_
        by_cases hb2 : 128 ≤ z3
        · have h := (if_pos hb2).symm.trans h
          refine wp_if (b' := true) HF rfl (decide_eq_true hb2) ?_
          refine wp_skip ?_
          refine then_n ?_
          refine wp_block ?_
          refine wp_seq ?_
          refine wc_text ?_
          refine wc_move HF nS rfl rfl rfl (fun a HF => ?_)
          refine wc_move HF nS rfl rfl rfl (fun a HF => ?_)
          obtain ⟨hg1, h⟩ := grd h
          refine wc_bin HF nS rfl rfl (b_rem hg1) rfl rfl (fun a HF => ?_)
          obtain ⟨hg2, h⟩ := grd h
          refine wc_bin HF nS rfl rfl (b_add hg2) rfl rfl (fun a HF => ?_)
          refine wc_cvb HF nS Try.underlying5 Try.underlying3 rfl rfl rfl (fun a HF => ?_)
          refine wc_bslice (l := ([b8 (128 + (z3.tmod 128))] : List UInt8)) (cs := [.int .u8 ((b8 (128 + (z3.tmod 128))).toNat : Int)]) (A := []) HF HT bs22_1 rfl rfl (gives_flat rfl) rfl (by decide) rfl rfl (fun p2 w HT hb => ⟨nS, fun a HF => ?_⟩)
          obtain ⟨hg3, h⟩ := grd h
          have HT : St w0 (fun _ => False) w [Own 5 (rowT z4) (.slice a2 z4.length c2), Own 5 (rowT ([b8 (128 + (z3.tmod 128))] : List UInt8)) (.slice (some ⟨p2, 0, none⟩) 1 1)] := HT.pick 1
          refine wc_append HF HT el22 rfl rfl (Nat.zero_lt_succ _) hg3 rfl rfl rfl (fun a3 c3 w HT => ⟨nS, fun a HF => ?_⟩)
          refine wc_assign HF nS rfl rfl rfl (fun a HF => ?_)
          refine wc_end ?_
          refine then_n ?_
          refine wc_text ?_
          refine wc_move HF nS rfl rfl rfl (fun a HF => ?_)
          obtain ⟨hg4, h⟩ := grd h
          refine wc_bin HF nS rfl rfl (b_quo hg4) rfl rfl (fun a HF => ?_)
          refine wc_assign HF nS rfl rfl rfl (fun a HF => ?_)
          refine wc_end ?_
          refine blk_n ?_
          exact then_n ⟨k1, Nat.lt_succ_self k1, z3.tdiv 128, z4 ++ ([b8 (128 + (z3.tmod 128))] : List UInt8), a3, (z4 ++ ([b8 (128 + (z3.tmod 128))] : List UInt8)).length, c3, h, (HF.keep (HF.keep HF.nil rfl) rfl), HT⟩
        have h := (if_neg hb2).symm.trans h
        refine wp_if (b' := false) HF rfl (decide_eq_false hb2) ?_
        refine wp_exit ?_
        refine then_x (then_x (?_))
        refine blk_x ?_
        have hj1 := Option.some.inj h
        obtain ⟨hi1, hj2⟩ := Prod.mk.inj hj1
        subst hi1
        subst hj2
        exact then_n ⟨a2, z4.length, c2, (HF.keep (HF.keep HF.nil rfl) rfl), HT⟩
    rintro a w ⟨a1, n1, c1, HF, HT⟩
    obtain rfl := (HT.rdAt 0 rfl).neq
    refine ?_
    refine wp_seq ?_
    refine wc_text ?_
    refine wc_move HF nS rfl rfl rfl (fun a HF => ?_)
    refine wc_move HF nS rfl rfl rfl (fun a HF => ?_)
    refine wc_cvb HF nS Try.underlying5 Try.underlying3 rfl rfl rfl (fun a HF => ?_)
    refine wc_bslice (l := ([b8 z1] : List UInt8)) (cs := [.int .u8 ((b8 z1).toNat : Int)]) (A := []) HF HT bs22_1 rfl rfl (gives_flat rfl) rfl (by decide) rfl rfl (fun p3 w HT hb => ⟨nS, fun a HF => ?_⟩)
    obtain ⟨hg5, h⟩ := grd h
    have HT : St w0 (fun _ => False) w [Own 5 (rowT z2) (.slice a1 z2.length c1), Own 5 (rowT ([b8 z1] : List UInt8)) (.slice (some ⟨p3, 0, none⟩) 1 1)] := HT.pick 1
    refine wc_append HF HT el22 rfl rfl (Nat.zero_lt_succ _) hg5 rfl rfl rfl (fun a4 c4 w HT => ⟨nS, fun a HF => ?_⟩)
    refine wc_cvs HF nS Try.underlying22 Try.underlying5 Try.underlying9 rfl (HT.rdAt 0 rfl) rfl rfl (fun a HF => ?_)
    refine wc_assign HF nS rfl rfl rfl (fun a HF => ?_)
    refine wc_end ?_
    refine then_n ?_
    refine wp_ret ?_
    obtain rfl := Option.some.inj h
    refine bp_ret HF (res_one rfl HF rfl) ?_
    have HT : St w0 (fun _ => False) w [] := HT.take 0
    exact ⟨rfl, HT⟩
  have h := (if_neg hb1).symm.trans h
  refine wp_if (b' := true) HF rfl (notF (Bool.eq_false_iff.2 hb1)) ?_
  refine wp_seq ?_
  refine wc_text ?_
  refine wc_assign HF nS rfl rfl rfl (fun a HF => ?_)
  refine wc_end ?_
  refine then_n ?_
  refine wp_ret ?_
  obtain rfl := Option.some.inj h
  refine then_r (?_)
  refine bp_ret HF (res_one rfl HF rfl) ?_
  exact ⟨rfl, HT⟩

def m_spec_l1PickInt (fuel : Nat) (x0_0 : List UInt8) (x0_1 : Int) (x0_2 : Int) (x1 : List Int) : Option (Int × Int × Int) :=
  bind3 (m_spec_l1Below fuel x0_0 x0_1 x0_2 (x1.length : Int)) fun y1 y2 y3 =>
  (at? x1 y1).bind fun e1 =>
  some (e1, y2, y3)

set_option maxRecDepth 100000 in
set_option maxHeartbeats 4000000 in
theorem w_spec_l1PickInt (fuel : Nat) {x0_0 : List UInt8} {x0_1 : Int} {x0_2 : Int} {x1 : List Int} {a_x0_0 : Option Addr} {n_x0_0 c_x0_0 : Nat} {a_x1 : Option Addr} {n_x1 c_x1 : Nat} {p_0 : Nat} {r0 : Int} {x0_1' : Int} {x0_2' : Int} {F : Foot} {w0 : World} (h : m_spec_l1PickInt fuel x0_0 x0_1 x0_2 x1 = some (r0, x0_1', x0_2')) (hA : StF w0 F [Box p_0 [.slice a_x0_0 n_x0_0 c_x0_0, .int .i64 x0_1, .int .i64 x0_2]]) (hr_x0_0 : RdT (fun b => ¬ F b) w0 (rowT x0_0) (.slice a_x0_0 n_x0_0 c_x0_0)) (hr_x1 : RdT (fun b => ¬ F b) w0 (rowT x1) (.slice a_x1 n_x1 c_x1)) :
    Calls Try.prog 45 #[.pointer (some ⟨p_0, 0, none⟩), .slice a_x1 n_x1 c_x1] w0 fun e w => e = .returned (.int .i64 r0) ∧ St w0 F w [Box p_0 [.slice a_x0_0 n_x0_0 c_x0_0, .int .i64 x0_1', .int .i64 x0_2']] := by
  have HT0 := St.init hA
  obtain rfl := hr_x0_0.neq
  obtain rfl := hr_x1.neq
  have HT : St w0 F w0 [Box p_0 [.slice a_x0_0 x0_0.length c_x0_0, .int .i64 x0_1, .int .i64 x0_2]] := St.init hA
  rw [m_spec_l1PickInt] at h
  refine calls_fr (n := 12) [.pointer (some ⟨p_0, 0, none⟩), .slice a_x1 x1.length c_x1] Try.func45 rfl rfl rfl (fun a HF => ?_)
  have HT : St w0 F w0 [Box p_0 [.slice a_x0_0 x0_0.length c_x0_0, .int .i64 x0_1, .int .i64 x0_2]] := HT
  refine wp_seq ?_
  refine wc_text ?_
  refine wc_assign HF nS rfl rfl rfl (fun a HF => ?_)
  refine wc_end ?_
  refine then_n ?_
  refine wp_seq ?_
  refine wc_text ?_
  refine wc_move HF nS rfl rfl rfl (fun a HF => ?_)
  refine wc_move HF nS rfl rfl rfl (fun a HF => ?_)
  refine wc_move HF nS rfl rfl rfl (fun a HF => ?_)
  refine wc_lenR HF nS Try.underlying69 rfl rfl rfl (fun a HF => ?_)
  obtain ⟨y1, y2, y3, hx1, h⟩ := obs3 h
  obtain ⟨F1, hAF1, hFF1, hbackF1, hroF1, hownF1, hownAF1⟩ := St.handR2 (A := [Box p_0 [.slice a_x0_0 x0_0.length c_x0_0, .int .i64 x0_1, .int .i64 x0_2]]) HT
  refine wc_call HF cf44 rfl (w_spec_l1Below fuel hx1 hAF1 (hroF1 hr_x0_0)) rfl rfl ?_
  rintro e w ⟨rfl, hE⟩
  have HT := hbackF1 _ _ hE
  have HT : St w0 F w [Box p_0 [.slice a_x0_0 x0_0.length c_x0_0, .int .i64 y2, .int .i64 y3]] := HT
  refine ⟨_, rfl, nS, fun a HF => ?_⟩
  obtain ⟨e1, hx2, h⟩ := obs h
  obtain ⟨b1, o1, ha1⟩ := (HT.ro hr_x1).any.addr hx2
  refine wc_ixaddr HF nS el69 rfl ha1 ((HT.ro hr_x1).any).neq rfl hx2 rfl rfl (fun a HF => ?_)
  have hc1 := (HT.ro hr_x1).any.flatAt ha1 hx2
  refine wc_load HF rfl sc3 (hc1.get 0 rfl) rfl rfl (fun a HF => ?_)
  refine wc_assign HF nS rfl rfl rfl (fun a HF => ?_)
  refine wc_end ?_
  refine then_n ?_
  refine wp_ret ?_
  have hj1 := Option.some.inj h
  obtain ⟨hi1, hj2⟩ := Prod.mk.inj hj1
  subst hi1
  obtain ⟨hi2, hj3⟩ := Prod.mk.inj hj2
  subst hi2
  subst hj3
  refine bp_ret HF (res_one rfl HF rfl) ?_
  exact ⟨rfl, HT⟩

def m_spec_l1Num (fuel : Nat) (x0_0 : List UInt8) (x0_1 : Int) (x0_2 : Int) : Option (Int × Int × Int) :=
  bind3 (m_spec_l1Below fuel x0_0 x0_1 x0_2 8) fun y1 y2 y3 =>
  if y1 = 0 then
    bind3 (m_spec_l1PickInt fuel x0_0 y2 y3 ([(-1), 0, 127, 128, 255, 256, 16383, 16384, 65535, 65536, 562949953421311, 562949953421312, 999999999, 1000000000, (-999999999), 9223372036854775807, (-9223372036854775808)] : List Int)) fun y4 y5 y6 =>
    some (y4, y5, y6)
  else
  if y1 = 1 then
    bind3 (m_spec_l1Below fuel x0_0 y2 y3 1000000000) fun y7 y8 y9 =>
    bind3 (m_spec_l1Below fuel x0_0 y8 y9 1000000000) fun y10 y11 y12 =>
    if in64 (y7 * y10) then
      some (y7 * y10, y11, y12)
    else none
  else
  if y1 = 2 then
    bind3 (m_spec_l1Below fuel x0_0 y2 y3 100000) fun y13 y14 y15 =>
    if in64 (0 - y13) then
      some (0 - y13, y14, y15)
    else none
  else
  bind3 (m_spec_l1Below fuel x0_0 y2 y3 70000) fun y16 y17 y18 =>
  some (y16, y17, y18)

set_option maxRecDepth 100000 in
set_option maxHeartbeats 4000000 in
theorem w_spec_l1Num (fuel : Nat) {x0_0 : List UInt8} {x0_1 : Int} {x0_2 : Int} {a_x0_0 : Option Addr} {n_x0_0 c_x0_0 : Nat} {p_0 : Nat} {r0 : Int} {x0_1' : Int} {x0_2' : Int} {F : Foot} {w0 : World} (h : m_spec_l1Num fuel x0_0 x0_1 x0_2 = some (r0, x0_1', x0_2')) (hA : StF w0 F [Box p_0 [.slice a_x0_0 n_x0_0 c_x0_0, .int .i64 x0_1, .int .i64 x0_2]]) (hr_x0_0 : RdT (fun b => ¬ F b) w0 (rowT x0_0) (.slice a_x0_0 n_x0_0 c_x0_0)) :
    Calls Try.prog 26 #[.pointer (some ⟨p_0, 0, none⟩)] w0 fun e w => e = .returned (.int .i64 r0) ∧ St w0 F w [Box p_0 [.slice a_x0_0 n_x0_0 c_x0_0, .int .i64 x0_1', .int .i64 x0_2']] := by
  have HT0 := St.init hA
  obtain rfl := hr_x0_0.neq
  have HT : St w0 F w0 [Box p_0 [.slice a_x0_0 x0_0.length c_x0_0, .int .i64 x0_1, .int .i64 x0_2]] := St.init hA
  rw [m_spec_l1Num] at h
  refine calls_fr (n := 24) [.pointer (some ⟨p_0, 0, none⟩)] Try.func26 rfl rfl rfl (fun a HF => ?_)
  have HT : St w0 F w0 [Box p_0 [.slice a_x0_0 x0_0.length c_x0_0, .int .i64 x0_1, .int .i64 x0_2]] := HT
  refine wp_seq ?_
  refine wc_text ?_
  refine wc_assign HF nS rfl rfl rfl (fun a HF => ?_)
  refine wc_end ?_
  refine then_n ?_
  refine wp_seq ?_
  refine wp_seq ?_
  refine wc_text ?_
  refine wc_move HF nS rfl rfl rfl (fun a HF => ?_)
  obtain ⟨y1, y2, y3, hx1, h⟩ := obs3 h
  obtain ⟨F1, hAF1, hFF1, hbackF1, hroF1, hownF1, hownAF1⟩ := St.handR2 (A := [Box p_0 [.slice a_x0_0 x0_0.length c_x0_0, .int .i64 x0_1, .int .i64 x0_2]]) HT
  refine wc_call HF cf44 rfl (w_spec_l1Below fuel hx1 hAF1 (hroF1 hr_x0_0)) rfl rfl ?_
  rintro e w ⟨rfl, hE⟩
  have HT := hbackF1 _ _ hE
  have HT : St w0 F w [Box p_0 [.slice a_x0_0 x0_0.length c_x0_0, .int .i64 y2, .int .i64 y3]] := HT
  refine ⟨_, rfl, nS, fun a HF => ?_⟩
  refine wc_end ?_
  refine then_n ?_
  refine wp_block ?_
  refine wp_seq ?_
  refine wc_text ?_
  refine wc_bin HF nS rfl rfl b_eq rfl rfl (fun a HF => ?_)
  refine wc_assign HF nS rfl rfl rfl (fun a HF => ?_)
  refine wc_end ?_
  refine then_n ?_
  by_cases hb1 : y1 = 0
  · have h := (if_pos hb1).symm.trans h
    refine wp_if (b' := true) HF rfl (decide_eq_true hb1) ?_
    refine wp_seq ?_
    refine wc_text ?_
    refine wc_move HF nS rfl rfl rfl (fun a HF => ?_)
    refine wc_bslice (l := ([(-1), 0, 127, 128, 255, 256, 16383, 16384, 65535, 65536, 562949953421311, 562949953421312, 999999999, 1000000000, (-999999999), 9223372036854775807, (-9223372036854775808)] : List Int)) (cs := [.int .i64 (-1), .int .i64 0, .int .i64 127, .int .i64 128, .int .i64 255, .int .i64 256, .int .i64 16383, .int .i64 16384, .int .i64 65535, .int .i64 65536, .int .i64 562949953421311, .int .i64 562949953421312, .int .i64 999999999, .int .i64 1000000000, .int .i64 (-999999999), .int .i64 9223372036854775807, .int .i64 (-9223372036854775808)]) (A := []) HF HT bs69_17 rfl rfl (gives_flat rfl) rfl (by decide) rfl rfl (fun p1 w HT hb => ⟨nS, fun a HF => ?_⟩)
    obtain ⟨y4, y5, y6, hx2, h⟩ := obs3 h
    have HT : St w0 F w [Box p_0 [.slice a_x0_0 x0_0.length c_x0_0, .int .i64 y2, .int .i64 y3], Own 3 (rowT ([(-1), 0, 127, 128, 255, 256, 16383, 16384, 65535, 65536, 562949953421311, 562949953421312, 999999999, 1000000000, (-999999999), 9223372036854775807, (-9223372036854775808)] : List Int)) (.slice (some ⟨p1, 0, none⟩) 17 17)] := HT.pick 1
    obtain ⟨F2, hAF2, hFF2, hbackF2, hroF2, hownF2, hownAF2⟩ := St.handR2 (A := [Box p_0 [.slice a_x0_0 x0_0.length c_x0_0, .int .i64 y2, .int .i64 y3]]) HT
    refine wc_call HF cf45 rfl (w_spec_l1PickInt fuel hx2 hAF2 (hroF2 hr_x0_0) (hownF2 _ _ _ (List.mem_of_getElem? (i := 0) rfl))) rfl rfl ?_
    rintro e w ⟨rfl, hE⟩
    have HT := hbackF2 _ _ hE
    have HT : St w0 F w [Box p_0 [.slice a_x0_0 x0_0.length c_x0_0, .int .i64 y5, .int .i64 y6], Own 3 (rowT ([(-1), 0, 127, 128, 255, 256, 16383, 16384, 65535, 65536, 562949953421311, 562949953421312, 999999999, 1000000000, (-999999999), 9223372036854775807, (-9223372036854775808)] : List Int)) (.slice (some ⟨p1, 0, none⟩) 17 17)] := HT
    refine ⟨_, rfl, nS, fun a HF => ?_⟩
    refine wc_assign HF nS rfl rfl rfl (fun a HF => ?_)
    refine wc_end ?_
    refine then_n ?_
    refine wp_ret ?_
    have hj1 := Option.some.inj h
    obtain ⟨hi1, hj2⟩ := Prod.mk.inj hj1
    subst hi1
    obtain ⟨hi2, hj3⟩ := Prod.mk.inj hj2
    subst hi2
    subst hj3
    refine blk_r (then_r (?_))
    refine bp_ret HF (res_one rfl HF rfl) ?_
    have HT : St w0 F w [Box p_0 [.slice a_x0_0 x0_0.length c_x0_0, .int .i64 y5, .int .i64 y6]] := HT.take 1
    exact ⟨rfl, HT⟩
  have h := (if_neg hb1).symm.trans h
  refine wp_if (b' := false) HF rfl (decide_eq_false hb1) ?_
  refine wp_seq ?_
  refine wc_text ?_
  refine wc_bin HF nS rfl rfl b_eq rfl rfl (fun a HF => ?_)
  refine wc_assign HF nS rfl rfl rfl (fun a HF => ?_)
  refine wc_end ?_
  refine then_n ?_
  by_cases hb2 : y1 = 1
  · have h := (if_pos hb2).symm.trans h
    refine wp_if (b' := true) HF rfl (decide_eq_true hb2) ?_
    refine wp_seq ?_
    refine wc_text ?_
    refine wc_move HF nS rfl rfl rfl (fun a HF => ?_)
    obtain ⟨y7, y8, y9, hx3, h⟩ := obs3 h
    obtain ⟨F3, hAF3, hFF3, hbackF3, hroF3, hownF3, hownAF3⟩ := St.handR2 (A := [Box p_0 [.slice a_x0_0 x0_0.length c_x0_0, .int .i64 y2, .int .i64 y3]]) HT
    refine wc_call HF cf44 rfl (w_spec_l1Below fuel hx3 hAF3 (hroF3 hr_x0_0)) rfl rfl ?_
    rintro e w ⟨rfl, hE⟩
    have HT := hbackF3 _ _ hE
    have HT : St w0 F w [Box p_0 [.slice a_x0_0 x0_0.length c_x0_0, .int .i64 y8, .int .i64 y9]] := HT
    refine ⟨_, rfl, nS, fun a HF => ?_⟩
    refine wc_move HF nS rfl rfl rfl (fun a HF => ?_)
    obtain ⟨y10, y11, y12, hx4, h⟩ := obs3 h
    obtain ⟨F4, hAF4, hFF4, hbackF4, hroF4, hownF4, hownAF4⟩ := St.handR2 (A := [Box p_0 [.slice a_x0_0 x0_0.length c_x0_0, .int .i64 y8, .int .i64 y9]]) HT
    refine wc_call HF cf44 rfl (w_spec_l1Below fuel hx4 hAF4 (hroF4 hr_x0_0)) rfl rfl ?_
    rintro e w ⟨rfl, hE⟩
    have HT := hbackF4 _ _ hE
    have HT : St w0 F w [Box p_0 [.slice a_x0_0 x0_0.length c_x0_0, .int .i64 y11, .int .i64 y12]] := HT
    refine ⟨_, rfl, nS, fun a HF => ?_⟩
    obtain ⟨hg1, h⟩ := grd h
    refine wc_bin HF nS rfl rfl (b_mul hg1) rfl rfl (fun a HF => ?_)
    refine wc_assign HF nS rfl rfl rfl (fun a HF => ?_)
    refine wc_end ?_
    refine then_n ?_
    refine wp_ret ?_
    have hj4 := Option.some.inj h
    obtain ⟨hi4, hj5⟩ := Prod.mk.inj hj4
    subst hi4
    obtain ⟨hi5, hj6⟩ := Prod.mk.inj hj5
    subst hi5
    subst hj6
    refine blk_r (then_r (?_))
    refine bp_ret HF (res_one rfl HF rfl) ?_
    exact ⟨rfl, HT⟩
  have h := (if_neg hb2).symm.trans h
  refine wp_if (b' := false) HF rfl (decide_eq_false hb2) ?_
  refine wp_seq ?_
  refine wc_text ?_
  refine wc_bin HF nS rfl rfl b_eq rfl rfl (fun a HF => ?_)
  refine wc_assign HF nS rfl rfl rfl (fun a HF => ?_)
  refine wc_end ?_
  refine then_n ?_
  by_cases hb3 : y1 = 2
  · have h := (if_pos hb3).symm.trans h
    refine wp_if (b' := true) HF rfl (decide_eq_true hb3) ?_
    refine wp_seq ?_
    refine wc_text ?_
    refine wc_move HF nS rfl rfl rfl (fun a HF => ?_)
    obtain ⟨y13, y14, y15, hx5, h⟩ := obs3 h
    obtain ⟨F5, hAF5, hFF5, hbackF5, hroF5, hownF5, hownAF5⟩ := St.handR2 (A := [Box p_0 [.slice a_x0_0 x0_0.length c_x0_0, .int .i64 y2, .int .i64 y3]]) HT
    refine wc_call HF cf44 rfl (w_spec_l1Below fuel hx5 hAF5 (hroF5 hr_x0_0)) rfl rfl ?_
    rintro e w ⟨rfl, hE⟩
    have HT := hbackF5 _ _ hE
    have HT : St w0 F w [Box p_0 [.slice a_x0_0 x0_0.length c_x0_0, .int .i64 y14, .int .i64 y15]] := HT
    refine ⟨_, rfl, nS, fun a HF => ?_⟩
    obtain ⟨hg2, h⟩ := grd h
    refine wc_neg HF nS rfl hg2 rfl rfl (fun a HF => ?_)
    refine wc_assign HF nS rfl rfl rfl (fun a HF => ?_)
    refine wc_end ?_
    refine then_n ?_
    refine wp_ret ?_
    have hj7 := Option.some.inj h
    obtain ⟨hi7, hj8⟩ := Prod.mk.inj hj7
    subst hi7
    obtain ⟨hi8, hj9⟩ := Prod.mk.inj hj8
    subst hi8
    subst hj9
    refine blk_r (then_r (?_))
    refine bp_ret HF (res_one rfl HF rfl) ?_
    exact ⟨rfl, HT⟩
  have h := (if_neg hb3).symm.trans h
  refine wp_if (b' := false) HF rfl (decide_eq_false hb3) ?_
  refine wp_skip ?_
  refine blk_n ?_
  refine then_n ?_
  refine wp_seq ?_
  refine wc_text ?_
  refine wc_move HF nS rfl rfl rfl (fun a HF => ?_)
  obtain ⟨y16, y17, y18, hx6, h⟩ := obs3 h
  obtain ⟨F6, hAF6, hFF6, hbackF6, hroF6, hownF6, hownAF6⟩ := St.handR2 (A := [Box p_0 [.slice a_x0_0 x0_0.length c_x0_0, .int .i64 y2, .int .i64 y3]]) HT
  refine wc_call HF cf44 rfl (w_spec_l1Below fuel hx6 hAF6 (hroF6 hr_x0_0)) rfl rfl ?_
  rintro e w ⟨rfl, hE⟩
  have HT := hbackF6 _ _ hE
  have HT : St w0 F w [Box p_0 [.slice a_x0_0 x0_0.length c_x0_0, .int .i64 y17, .int .i64 y18]] := HT
  refine ⟨_, rfl, nS, fun a HF => ?_⟩
  refine wc_assign HF nS rfl rfl rfl (fun a HF => ?_)
  refine wc_end ?_
  refine then_n ?_
  refine wp_ret ?_
  have hj10 := Option.some.inj h
  obtain ⟨hi10, hj11⟩ := Prod.mk.inj hj10
  subst hi10
  obtain ⟨hi11, hj12⟩ := Prod.mk.inj hj11
  subst hi11
  subst hj12
  refine bp_ret HF (res_one rfl HF rfl) ?_
  exact ⟨rfl, HT⟩

def m_spec_l1Once (fuel : Nat) (x0_0 : List UInt8) (x0_1 : Int) (x0_2 : Int) (x1 : Int) : Option (Bool × Int × Int) :=
  bind3 (m_spec_l1Below fuel x0_0 x0_1 x0_2 x1) fun y1 y2 y3 =>
  some (decide (y1 = 0), y2, y3)

set_option maxRecDepth 100000 in
set_option maxHeartbeats 4000000 in
theorem w_spec_l1Once (fuel : Nat) {x0_0 : List UInt8} {x0_1 : Int} {x0_2 : Int} {x1 : Int} {a_x0_0 : Option Addr} {n_x0_0 c_x0_0 : Nat} {p_0 : Nat} {r0 : Bool} {x0_1' : Int} {x0_2' : Int} {F : Foot} {w0 : World} (h : m_spec_l1Once fuel x0_0 x0_1 x0_2 x1 = some (r0, x0_1', x0_2')) (hA : StF w0 F [Box p_0 [.slice a_x0_0 n_x0_0 c_x0_0, .int .i64 x0_1, .int .i64 x0_2]]) (hr_x0_0 : RdT (fun b => ¬ F b) w0 (rowT x0_0) (.slice a_x0_0 n_x0_0 c_x0_0)) :
    Calls Try.prog 31 #[.pointer (some ⟨p_0, 0, none⟩), .int .i64 x1] w0 fun e w => e = .returned (.bool r0) ∧ St w0 F w [Box p_0 [.slice a_x0_0 n_x0_0 c_x0_0, .int .i64 x0_1', .int .i64 x0_2']] := by
  have HT0 := St.init hA
  obtain rfl := hr_x0_0.neq
  have HT : St w0 F w0 [Box p_0 [.slice a_x0_0 x0_0.length c_x0_0, .int .i64 x0_1, .int .i64 x0_2]] := St.init hA
  rw [m_spec_l1Once] at h
  refine calls_fr (n := 9) [.pointer (some ⟨p_0, 0, none⟩), .int .i64 x1] Try.func31 rfl rfl rfl (fun a HF => ?_)
  have HT : St w0 F w0 [Box p_0 [.slice a_x0_0 x0_0.length c_x0_0, .int .i64 x0_1, .int .i64 x0_2]] := HT
  refine wp_seq ?_
  refine wc_text ?_
  refine wc_assign HF nS rfl rfl rfl (fun a HF => ?_)
  refine wc_end ?_
  refine then_n ?_
  refine wp_seq ?_
  refine wc_text ?_
  refine wc_move HF nS rfl rfl rfl (fun a HF => ?_)
  refine wc_move HF nS rfl rfl rfl (fun a HF => ?_)
  obtain ⟨y1, y2, y3, hx1, h⟩ := obs3 h
  obtain ⟨F1, hAF1, hFF1, hbackF1, hroF1, hownF1, hownAF1⟩ := St.handR2 (A := [Box p_0 [.slice a_x0_0 x0_0.length c_x0_0, .int .i64 x0_1, .int .i64 x0_2]]) HT
  refine wc_call HF cf44 rfl (w_spec_l1Below fuel hx1 hAF1 (hroF1 hr_x0_0)) rfl rfl ?_
  rintro e w ⟨rfl, hE⟩
  have HT := hbackF1 _ _ hE
  have HT : St w0 F w [Box p_0 [.slice a_x0_0 x0_0.length c_x0_0, .int .i64 y2, .int .i64 y3]] := HT
  refine ⟨_, rfl, nS, fun a HF => ?_⟩
  refine wc_bin HF nS rfl rfl b_eq rfl rfl (fun a HF => ?_)
  refine wc_assign HF nS rfl rfl rfl (fun a HF => ?_)
  refine wc_end ?_
  refine then_n ?_
  refine wp_ret ?_
  have hj1 := Option.some.inj h
  obtain ⟨hi1, hj2⟩ := Prod.mk.inj hj1
  subst hi1
  obtain ⟨hi2, hj3⟩ := Prod.mk.inj hj2
  subst hi2
  subst hj3
  refine bp_ret HF (res_one rfl HF rfl) ?_
  exact ⟨rfl, HT⟩

def m_spec_l1Spoil (fuel : Nat) (x0_0 : List UInt8) (x0_1 : Int) (x0_2 : Int) (x1 : Str) : Option (Str × Int × Int) :=
  if (x1.length : Int) = 0 then
    bind3 (m_spec_l1Text fuel x0_0 x0_1 x0_2 3) fun y1 y2 y3 =>
    some (y1, y2, y3)
  else
  bind3 (m_spec_l1Below fuel x0_0 x0_1 x0_2 (x1.length : Int)) fun y4 y5 y6 =>
  bind3 (m_spec_l1Below fuel x0_0 y5 y6 4) fun y7 y8 y9 =>
  if y7 = 0 then
    if 0 ≤ (0 : Int) ∧ (0 : Int) ≤ y4 ∧ y4 ≤ (x1.length : Int) then
      if in64 (y4 + 1) then
        if 0 ≤ (y4 + 1 : Int) ∧ (y4 + 1 : Int) ≤ (x1.length : Int) ∧ (x1.length : Int) ≤ (x1.length : Int) then
          if (((sub x1 0 y4).length + (sub x1 (y4 + 1) (x1.length : Int)).length : Nat) : Int) ≤ 9223372036854775807 then
            some ((sub x1 0 y4) ++ (sub x1 (y4 + 1) (x1.length : Int)), y8, y9)
          else none
        else none
      else none
    else none
  else
  if y7 = 1 then
    if 0 ≤ (0 : Int) ∧ (0 : Int) ≤ y4 ∧ y4 ≤ (x1.length : Int) then
      if 0 ≤ (y4 : Int) ∧ (y4 : Int) ≤ (x1.length : Int) ∧ (x1.length : Int) ≤ (x1.length : Int) then
        bind3 (m_spec_l1Byte fuel x0_0 y8 y9) fun y10 y11 y12 =>
        if (((sub x1 0 y4).length + ([b8 y10] : List UInt8).length : Nat) : Int) ≤ 9223372036854775807 then
          if ((((sub x1 0 y4) ++ ([b8 y10] : List UInt8)).length + (sub x1 y4 (x1.length : Int)).length : Nat) : Int) ≤ 9223372036854775807 then
            some (((sub x1 0 y4) ++ ([b8 y10] : List UInt8)) ++ (sub x1 y4 (x1.length : Int)), y11, y12)
          else none
        else none
      else none
    else none
  else
  if y7 = 2 then
    if 0 ≤ (0 : Int) ∧ (0 : Int) ≤ y4 ∧ y4 ≤ (x1.length : Int) then
      some (sub x1 0 y4, y8, y9)
    else none
  else
  if 0 ≤ (0 : Int) ∧ (0 : Int) ≤ y4 ∧ y4 ≤ (x1.length : Int) then
    (at? x1 y4).bind fun c1 =>
    if in64 (y4 + 1) then
      if 0 ≤ (y4 + 1 : Int) ∧ (y4 + 1 : Int) ≤ (x1.length : Int) ∧ (x1.length : Int) ≤ (x1.length : Int) then
        bind3 (m_spec_l1Below fuel x0_0 y8 y9 255) fun y13 y14 y15 =>
        if in64 (1 + y13) then
          if (((sub x1 0 y4).length + ([b8 (bits .xor .i64 (c1.toNat : Int) (1 + y13))] : List UInt8).length : Nat) : Int) ≤ 9223372036854775807 then
            if ((((sub x1 0 y4) ++ ([b8 (bits .xor .i64 (c1.toNat : Int) (1 + y13))] : List UInt8)).length + (sub x1 (y4 + 1) (x1.length : Int)).length : Nat) : Int) ≤ 9223372036854775807 then
              some (((sub x1 0 y4) ++ ([b8 (bits .xor .i64 (c1.toNat : Int) (1 + y13))] : List UInt8)) ++ (sub x1 (y4 + 1) (x1.length : Int)), y14, y15)
            else none
          else none
        else none
      else none
    else none
  else none

set_option maxRecDepth 100000 in
set_option maxHeartbeats 4000000 in
theorem w_spec_l1Spoil (fuel : Nat) {x0_0 : List UInt8} {x0_1 : Int} {x0_2 : Int} {x1 : Str} {a_x0_0 : Option Addr} {n_x0_0 c_x0_0 : Nat} {p_0 : Nat} {r0 : Str} {x0_1' : Int} {x0_2' : Int} {F : Foot} {w0 : World} (h : m_spec_l1Spoil fuel x0_0 x0_1 x0_2 x1 = some (r0, x0_1', x0_2')) (hA : StF w0 F [Box p_0 [.slice a_x0_0 n_x0_0 c_x0_0, .int .i64 x0_1, .int .i64 x0_2]]) (hr_x0_0 : RdT (fun b => ¬ F b) w0 (rowT x0_0) (.slice a_x0_0 n_x0_0 c_x0_0)) :
    Calls Try.prog 32 #[.pointer (some ⟨p_0, 0, none⟩), sv x1] w0 fun e w => e = .returned (sv r0) ∧ St w0 F w [Box p_0 [.slice a_x0_0 n_x0_0 c_x0_0, .int .i64 x0_1', .int .i64 x0_2']] := by
  have HT0 := St.init hA
  obtain rfl := hr_x0_0.neq
  have HT : St w0 F w0 [Box p_0 [.slice a_x0_0 x0_0.length c_x0_0, .int .i64 x0_1, .int .i64 x0_2]] := St.init hA
  rw [m_spec_l1Spoil] at h
  refine calls_fr (n := 67) [.pointer (some ⟨p_0, 0, none⟩), sv x1] Try.func32 rfl rfl rfl (fun a HF => ?_)
  have HT : St w0 F w0 [Box p_0 [.slice a_x0_0 x0_0.length c_x0_0, .int .i64 x0_1, .int .i64 x0_2]] := HT
  refine wp_seq ?_
  refine wc_text ?_
  refine wc_assign HF nS rfl rfl rfl (fun a HF => ?_)
  refine wc_end ?_
  refine then_n ?_
  refine wp_seq ?_
  refine wp_seq ?_
  refine wc_text ?_
  refine wc_move HF nS rfl rfl rfl (fun a HF => ?_)
  refine wc_lenS (ats := #[]) HF nS Try.underlying9 rfl rfl rfl (fun a HF => ?_)
  refine wc_bin HF nS rfl rfl b_eq rfl rfl (fun a HF => ?_)
  refine wc_end ?_
  refine then_n ?_
  by_cases hb1 : (x1.length : Int) = 0
  · have h := (if_pos hb1).symm.trans h
    refine wp_if (b' := true) HF rfl (decide_eq_true hb1) ?_
    refine wp_seq ?_
    refine wc_text ?_
    refine wc_move HF nS rfl rfl rfl (fun a HF => ?_)
    obtain ⟨y1, y2, y3, hx1, h⟩ := obs3 h
    obtain ⟨F1, hAF1, hFF1, hbackF1, hroF1, hownF1, hownAF1⟩ := St.handR2 (A := [Box p_0 [.slice a_x0_0 x0_0.length c_x0_0, .int .i64 x0_1, .int .i64 x0_2]]) HT
    refine wc_call HF cf27 rfl (w_spec_l1Text fuel hx1 hAF1 (hroF1 hr_x0_0)) rfl rfl ?_
    rintro e w ⟨rfl, hE⟩
    have HT := hbackF1 _ _ hE
    have HT : St w0 F w [Box p_0 [.slice a_x0_0 x0_0.length c_x0_0, .int .i64 y2, .int .i64 y3]] := HT
    refine ⟨_, rfl, nS, fun a HF => ?_⟩
    refine wc_assign HF nS rfl rfl rfl (fun a HF => ?_)
    refine wc_end ?_
    refine then_n ?_
    refine wp_ret ?_
    have hj1 := Option.some.inj h
    obtain ⟨hi1, hj2⟩ := Prod.mk.inj hj1
    subst hi1
    obtain ⟨hi2, hj3⟩ := Prod.mk.inj hj2
    subst hi2
    subst hj3
    refine then_r (?_)
    refine bp_ret HF (res_one rfl HF rfl) ?_
    exact ⟨rfl, HT⟩
  have h := (if_neg hb1).symm.trans h
  refine wp_if (b' := false) HF rfl (decide_eq_false hb1) ?_
  refine wp_skip ?_
  refine then_n ?_
  refine wp_seq ?_
  refine wc_text ?_
  refine wc_move HF nS rfl rfl rfl (fun a HF => ?_)
  refine wc_move HF nS rfl rfl rfl (fun a HF => ?_)
  refine wc_lenS (ats := #[]) HF nS Try.underlying9 rfl rfl rfl (fun a HF => ?_)
  obtain ⟨y4, y5, y6, hx2, h⟩ := obs3 h
  obtain ⟨F2, hAF2, hFF2, hbackF2, hroF2, hownF2, hownAF2⟩ := St.handR2 (A := [Box p_0 [.slice a_x0_0 x0_0.length c_x0_0, .int .i64 x0_1, .int .i64 x0_2]]) HT
  refine wc_call HF cf44 rfl (w_spec_l1Below fuel hx2 hAF2 (hroF2 hr_x0_0)) rfl rfl ?_
  rintro e w ⟨rfl, hE⟩
  have HT := hbackF2 _ _ hE
  have HT : St w0 F w [Box p_0 [.slice a_x0_0 x0_0.length c_x0_0, .int .i64 y5, .int .i64 y6]] := HT
  refine ⟨_, rfl, nS, fun a HF => ?_⟩
  refine wc_assign HF nS rfl rfl rfl (fun a HF => ?_)
  refine wc_end ?_
  refine then_n ?_
  refine wp_seq ?_
  refine wp_seq ?_
  refine wc_text ?_
  refine wc_move HF nS rfl rfl rfl (fun a HF => ?_)
  obtain ⟨y7, y8, y9, hx3, h⟩ := obs3 h
  obtain ⟨F3, hAF3, hFF3, hbackF3, hroF3, hownF3, hownAF3⟩ := St.handR2 (A := [Box p_0 [.slice a_x0_0 x0_0.length c_x0_0, .int .i64 y5, .int .i64 y6]]) HT
  refine wc_call HF cf44 rfl (w_spec_l1Below fuel hx3 hAF3 (hroF3 hr_x0_0)) rfl rfl ?_
  rintro e w ⟨rfl, hE⟩
  have HT := hbackF3 _ _ hE
  have HT : St w0 F w [Box p_0 [.slice a_x0_0 x0_0.length c_x0_0, .int .i64 y8, .int .i64 y9]] := HT
  refine ⟨_, rfl, nS, fun a HF => ?_⟩
  refine wc_end ?_
  refine then_n ?_
  refine wp_block ?_
  refine wp_seq ?_
  refine wc_text ?_
  refine wc_bin HF nS rfl rfl b_eq rfl rfl (fun a HF => ?_)
  refine wc_assign HF nS rfl rfl rfl (fun a HF => ?_)
  refine wc_end ?_
  refine then_n ?_
  by_cases hb2 : y7 = 0
  · have h := (if_pos hb2).symm.trans h
    refine wp_if (b' := true) HF rfl (decide_eq_true hb2) ?_
    refine wp_seq ?_
    refine wp_region_can [(0, true), (1, true), (2, true), (3, true), (4, true), (5, true), (6, true), (7, true), (8, true)] (fun w' => True) (by kernel_rfl) (by kernel_rfl) ?_
    have HT : St w0 F w.drew [Box p_0 [.slice a_x0_0 x0_0.length c_x0_0, .int .i64 y8, .int .i64 y9]] := HT.drew
    refine wc_move HF nS rfl rfl rfl (fun a HF => ?_)
    refine wc_move HF nS rfl rfl rfl (fun a HF => ?_)
    obtain ⟨hg1, h⟩ := grd h
    refine wc_slsH HF nS Try.underlying9 rfl rfl hg1 rfl rfl (fun a HF => ?_)
    refine wc_move HF nS rfl rfl rfl (fun a HF => ?_)
    refine wc_move HF nS rfl rfl rfl (fun a HF => ?_)
    obtain ⟨hg2, h⟩ := grd h
    refine wc_bin HF nS rfl rfl (b_add hg2) rfl rfl (fun a HF => ?_)
    obtain ⟨hg3, h⟩ := grd h
    refine wc_slsL HF nS Try.underlying9 rfl rfl hg3 rfl rfl (fun a HF => ?_)
    obtain ⟨hg4, h⟩ := grd h
    refine wc_bin HF nS rfl rfl (b_cat hg4) rfl rfl (fun a HF => ?_)
    refine wc_assign HF nS rfl rfl rfl (fun a HF => ?_)
    refine wc_endN ?_
    refine then_n ?_
    refine wp_ret ?_
    have hj4 := Option.some.inj h
    obtain ⟨hi4, hj5⟩ := Prod.mk.inj hj4
    subst hi4
    obtain ⟨hi5, hj6⟩ := Prod.mk.inj hj5
    subst hi5
    subst hj6
    refine blk_r (then_r (?_))
    refine bp_ret HF (res_one rfl HF rfl) ?_
    exact ⟨rfl, HT⟩
  have h := (if_neg hb2).symm.trans h
  refine wp_if (b' := false) HF rfl (decide_eq_false hb2) ?_
  refine wp_seq ?_
  refine wc_text ?_
  refine wc_bin HF nS rfl rfl b_eq rfl rfl (fun a HF => ?_)
  refine wc_assign HF nS rfl rfl rfl (fun a HF => ?_)
  refine wc_end ?_
  refine then_n ?_
  by_cases hb3 : y7 = 1
  · have h := (if_pos hb3).symm.trans h
    refine wp_if (b' := true) HF rfl (decide_eq_true hb3) ?_
    refine wp_seq ?_
    refine wp_region_can [(0, false), (1, false), (2, false), (3, true), (9, false), (10, false), (11, false), (4, false), (5, true), (6, false), (7, true), (8, true), (12, true), (13, true)] (fun w' => True) (by kernel_rfl) (by kernel_rfl) ?_
    have HT : St w0 F w.drew [Box p_0 [.slice a_x0_0 x0_0.length c_x0_0, .int .i64 y8, .int .i64 y9]] := HT.drew
    refine wc_move HF (fun _ => trivial) rfl rfl rfl (fun a HF => ?_)
    refine wc_move HF (fun _ => trivial) rfl rfl rfl (fun a HF => ?_)
    obtain ⟨hg5, h⟩ := grd h
    refine wc_slsH HF (fun _ => trivial) Try.underlying9 rfl rfl hg5 rfl rfl (fun a HF => ?_)
    refine wc_move HF nS rfl rfl rfl (fun a HF => ?_)
    refine wc_move HF (fun _ => trivial) rfl rfl rfl (fun a HF => ?_)
    refine wc_move HF (fun _ => trivial) rfl rfl rfl (fun a HF => ?_)
    obtain ⟨hg6, h⟩ := grd h
    refine wc_slsL HF (fun _ => trivial) Try.underlying9 rfl rfl hg6 rfl rfl (fun a HF => ?_)
    obtain ⟨y10, y11, y12, hx4, h⟩ := obs3 h
    obtain ⟨F4, hAF4, hFF4, hbackF4, hroF4, hownF4, hownAF4⟩ := St.handR2 (A := [Box p_0 [.slice a_x0_0 x0_0.length c_x0_0, .int .i64 y8, .int .i64 y9]]) HT
    refine wc_call HF cf46 rfl (w_spec_l1Byte fuel hx4 hAF4 (hroF4 hr_x0_0)) rfl rfl ?_
    rintro e w ⟨rfl, hE⟩
    have HT := hbackF4 _ _ hE
    have HT : St w0 F w [Box p_0 [.slice a_x0_0 x0_0.length c_x0_0, .int .i64 y11, .int .i64 y12]] := HT
    refine ⟨_, rfl, (fun _ => trivial), fun a HF => ?_⟩
    refine wc_cvb HF nS Try.underlying5 Try.underlying3 rfl rfl rfl (fun a HF => ?_)
    refine wc_bslice (l := ([b8 y10] : List UInt8)) (cs := [.int .u8 ((b8 y10).toNat : Int)]) (A := []) HF HT bs22_1 rfl rfl (gives_flat rfl) rfl (by decide) rfl rfl (fun p1 w HT hb => ⟨(fun _ => trivial), fun a HF => ?_⟩)
    refine wc_cvs HF nS Try.underlying22 Try.underlying5 Try.underlying9 rfl (HT.rdAt 0 rfl) rfl rfl (fun a HF => ?_)
    obtain ⟨hg7, h⟩ := grd h
    refine wc_bin HF nS rfl rfl (b_cat hg7) rfl rfl (fun a HF => ?_)
    obtain ⟨hg8, h⟩ := grd h
    refine wc_bin HF nS rfl rfl (b_cat hg8) rfl rfl (fun a HF => ?_)
    refine wc_assign HF nS rfl rfl rfl (fun a HF => ?_)
    refine wc_endN ?_
    refine then_n ?_
    refine wp_ret ?_
    have hj7 := Option.some.inj h
    obtain ⟨hi7, hj8⟩ := Prod.mk.inj hj7
    subst hi7
    obtain ⟨hi8, hj9⟩ := Prod.mk.inj hj8
    subst hi8
    subst hj9
    refine blk_r (then_r (?_))
    refine bp_ret HF (res_one rfl HF rfl) ?_
    have HT : St w0 F w [Box p_0 [.slice a_x0_0 x0_0.length c_x0_0, .int .i64 y11, .int .i64 y12]] := (HT.pick 1).take 1
    exact ⟨rfl, HT⟩
  have h := (if_neg hb3).symm.trans h
  refine wp_if (b' := false) HF rfl (decide_eq_false hb3) ?_
  refine wp_seq ?_
  refine wc_text ?_
  refine wc_bin HF nS rfl rfl b_eq rfl rfl (fun a HF => ?_)
  refine wc_assign HF nS rfl rfl rfl (fun a HF => ?_)
  refine wc_end ?_
  refine then_n ?_
  by_cases hb4 : y7 = 2
  · have h := (if_pos hb4).symm.trans h
    refine wp_if (b' := true) HF rfl (decide_eq_true hb4) ?_
    refine wp_seq ?_
    refine wc_text ?_
    refine wc_move HF nS rfl rfl rfl (fun a HF => ?_)
    refine wc_move HF nS rfl rfl rfl (fun a HF => ?_)
    obtain ⟨hg9, h⟩ := grd h
    refine wc_slsH HF nS Try.underlying9 rfl rfl hg9 rfl rfl (fun a HF => ?_)
    refine wc_assign HF nS rfl rfl rfl (fun a HF => ?_)
    refine wc_end ?_
    refine then_n ?_
    refine wp_ret ?_
    have hj10 := Option.some.inj h
    obtain ⟨hi10, hj11⟩ := Prod.mk.inj hj10
    subst hi10
    obtain ⟨hi11, hj12⟩ := Prod.mk.inj hj11
    subst hi11
    subst hj12
    refine blk_r (then_r (?_))
    refine bp_ret HF (res_one rfl HF rfl) ?_
    exact ⟨rfl, HT⟩
  have h := (if_neg hb4).symm.trans h
  refine wp_if (b' := false) HF rfl (decide_eq_false hb4) ?_
  refine wp_skip ?_
  refine blk_n ?_
  refine then_n ?_
  refine wp_seq ?_
  refine wp_region_can [(0, false), (1, false), (2, false), (3, false), (4, false), (5, false), (6, false), (7, true), (15, false), (16, false), (17, false), (18, false), (8, false), (9, true), (10, true), (11, true), (12, false), (13, true), (14, true), (19, true), (20, true)] (fun w' => True) (by kernel_rfl) (by kernel_rfl) ?_
  have HT : St w0 F w.drew [Box p_0 [.slice a_x0_0 x0_0.length c_x0_0, .int .i64 y8, .int .i64 y9]] := HT.drew
  refine wc_move HF (fun _ => trivial) rfl rfl rfl (fun a HF => ?_)
  refine wc_move HF (fun _ => trivial) rfl rfl rfl (fun a HF => ?_)
  obtain ⟨hg10, h⟩ := grd h
  refine wc_slsH HF (fun _ => trivial) Try.underlying9 rfl rfl hg10 rfl rfl (fun a HF => ?_)
  refine wc_move HF (fun _ => trivial) rfl rfl rfl (fun a HF => ?_)
  refine wc_move HF (fun _ => trivial) rfl rfl rfl (fun a HF => ?_)
  obtain ⟨c1, hx5, h⟩ := obs h
  refine wc_index HF (fun _ => trivial) Try.underlying9 rfl rfl hx5 rfl rfl (fun a HF => ?_)
  refine wc_cvu HF (fun _ => trivial) Try.underlying3 Try.underlying5 rfl rfl rfl (fun a HF => ?_)
  refine wc_move HF nS rfl rfl rfl (fun a HF => ?_)
  refine wc_move HF (fun _ => trivial) rfl rfl rfl (fun a HF => ?_)
  refine wc_move HF (fun _ => trivial) rfl rfl rfl (fun a HF => ?_)
  obtain ⟨hg11, h⟩ := grd h
  refine wc_bin HF (fun _ => trivial) rfl rfl (b_add hg11) rfl rfl (fun a HF => ?_)
  obtain ⟨hg12, h⟩ := grd h
  refine wc_slsL HF (fun _ => trivial) Try.underlying9 rfl rfl hg12 rfl rfl (fun a HF => ?_)
  obtain ⟨y13, y14, y15, hx6, h⟩ := obs3 h
  obtain ⟨F5, hAF5, hFF5, hbackF5, hroF5, hownF5, hownAF5⟩ := St.handR2 (A := [Box p_0 [.slice a_x0_0 x0_0.length c_x0_0, .int .i64 y8, .int .i64 y9]]) HT
  refine wc_call HF cf44 rfl (w_spec_l1Below fuel hx6 hAF5 (hroF5 hr_x0_0)) rfl rfl ?_
  rintro e w ⟨rfl, hE⟩
  have HT := hbackF5 _ _ hE
  have HT : St w0 F w [Box p_0 [.slice a_x0_0 x0_0.length c_x0_0, .int .i64 y14, .int .i64 y15]] := HT
  refine ⟨_, rfl, (fun _ => trivial), fun a HF => ?_⟩
  obtain ⟨hg13, h⟩ := grd h
  refine wc_bin HF nS rfl rfl (b_add hg13) rfl rfl (fun a HF => ?_)
  refine wc_bin HF nS rfl rfl b_xor rfl rfl (fun a HF => ?_)
  refine wc_cvb HF nS Try.underlying5 Try.underlying3 rfl rfl rfl (fun a HF => ?_)
  refine wc_bslice (l := ([b8 (bits .xor .i64 (c1.toNat : Int) (1 + y13))] : List UInt8)) (cs := [.int .u8 ((b8 (bits .xor .i64 (c1.toNat : Int) (1 + y13))).toNat : Int)]) (A := []) HF HT bs22_1 rfl rfl (gives_flat rfl) rfl (by decide) rfl rfl (fun p2 w HT hb => ⟨(fun _ => trivial), fun a HF => ?_⟩)
  refine wc_cvs HF nS Try.underlying22 Try.underlying5 Try.underlying9 rfl (HT.rdAt 0 rfl) rfl rfl (fun a HF => ?_)
  obtain ⟨hg14, h⟩ := grd h
  refine wc_bin HF nS rfl rfl (b_cat hg14) rfl rfl (fun a HF => ?_)
  obtain ⟨hg15, h⟩ := grd h
  refine wc_bin HF nS rfl rfl (b_cat hg15) rfl rfl (fun a HF => ?_)
  refine wc_assign HF nS rfl rfl rfl (fun a HF => ?_)
  refine wc_endN ?_
  refine then_n ?_
  refine wp_ret ?_
  have hj13 := Option.some.inj h
  obtain ⟨hi13, hj14⟩ := Prod.mk.inj hj13
  subst hi13
  obtain ⟨hi14, hj15⟩ := Prod.mk.inj hj14
  subst hi14
  subst hj15
  refine bp_ret HF (res_one rfl HF rfl) ?_
  have HT : St w0 F w [Box p_0 [.slice a_x0_0 x0_0.length c_x0_0, .int .i64 y14, .int .i64 y15]] := (HT.pick 1).take 1
  exact ⟨rfl, HT⟩

def m_spec_DrawReadVar (fuel : Nat) (x0 : List UInt8) : Option Str :=
  bind2 (m_spec_l1New fuel x0) fun y1 y2 =>
  bind3 (m_spec_l1Num fuel x0 y1 y2) fun y3 y4 y5 =>
  (m_spec_Var fuel y3).bind fun y6 =>
  bind3 (m_spec_l1Text fuel x0 y4 y5 4) fun y7 y8 y9 =>
  if ((y6.length + y7.length : Nat) : Int) ≤ 9223372036854775807 then
    bind3 (m_spec_l1Once fuel x0 y8 y9 4) fun y10 y11 y12 =>
    if y10 = true then
      bind3 (m_spec_l1Spoil fuel x0 y11 y12 (y6 ++ y7)) fun y13 y14 y15 =>
      some y13
    else
    some (y6 ++ y7)
  else none

set_option maxRecDepth 100000 in
set_option maxHeartbeats 4000000 in
theorem w_spec_DrawReadVar (fuel : Nat) {x0 : List UInt8} {a_x0 : Option Addr} {n_x0 c_x0 : Nat} {r0 : Str} {w0 : World} (h : m_spec_DrawReadVar fuel x0 = some r0) (hr_x0 : RdT (fun b => ¬ False) w0 (rowT x0) (.slice a_x0 n_x0 c_x0)) :
    Calls Try.prog 16 #[.slice a_x0 n_x0 c_x0] w0 fun e w => e = .returned (sv r0) ∧ St w0 (fun _ => False) w [] := by
  obtain rfl := hr_x0.neq
  have HT : St w0 (fun _ => False) w0 [] := St.init0
  rw [m_spec_DrawReadVar] at h
  refine calls_fr (n := 19) [.slice a_x0 x0.length c_x0] Try.func16 rfl rfl rfl (fun a HF => ?_)
  have HT : St w0 (fun _ => False) w0 [] := HT
  refine wp_seq ?_
  refine wc_text ?_
  refine wc_assign HF nS rfl rfl rfl (fun a HF => ?_)
  refine wc_end ?_
  refine then_n ?_
  refine wp_seq ?_
  refine wc_text ?_
  refine wc_move HF nS rfl rfl rfl (fun a HF => ?_)
  obtain ⟨y1, y2, hx1, h⟩ := obs2 h
  refine wc_call HF cf25 rfl (w_spec_l1New fuel hx1 (HT.ro hr_x0).any) rfl rfl ?_
  rintro e w ⟨p1, rfl, hE⟩
  have hb := hE.below
  have HT := HT.pure hE
  have HT : St w0 (fun _ => False) w [Box p1 [.slice a_x0 x0.length c_x0, .int .i64 y1, .int .i64 y2]] := HT
  refine ⟨_, rfl, nS, fun a HF => ?_⟩
  refine wc_assign HF nS rfl rfl rfl (fun a HF => ?_)
  refine wc_end ?_
  refine then_n ?_
  refine wp_seq ?_
  refine wc_text ?_
  refine wc_move HF nS rfl rfl rfl (fun a HF => ?_)
  obtain ⟨y3, y4, y5, hx2, h⟩ := obs3 h
  obtain ⟨F1, hAF1, hFF1, hbackF1, hroF1, hownF1, hownAF1⟩ := St.handR2 (A := [Box p1 [.slice a_x0 x0.length c_x0, .int .i64 y1, .int .i64 y2]]) HT
  refine wc_call HF cf26 rfl (w_spec_l1Num fuel hx2 hAF1 (hroF1 hr_x0)) rfl rfl ?_
  rintro e w ⟨rfl, hE⟩
  have HT := hbackF1 _ _ hE
  have HT : St w0 (fun _ => False) w [Box p1 [.slice a_x0 x0.length c_x0, .int .i64 y4, .int .i64 y5]] := HT
  refine ⟨_, rfl, nS, fun a HF => ?_⟩
  obtain ⟨y6, hx3, h⟩ := obs h
  refine wc_call HF cf30 rfl (w_spec_Var fuel hx3) rfl rfl ?_
  rintro e w ⟨rfl, hE⟩
  have hb := hE.below
  have HT := HT.pure hE
  have HT : St w0 (fun _ => False) w [Box p1 [.slice a_x0 x0.length c_x0, .int .i64 y4, .int .i64 y5]] := HT
  refine ⟨_, rfl, nS, fun a HF => ?_⟩
  refine wc_move HF nS rfl rfl rfl (fun a HF => ?_)
  obtain ⟨y7, y8, y9, hx4, h⟩ := obs3 h
  obtain ⟨F2, hAF2, hFF2, hbackF2, hroF2, hownF2, hownAF2⟩ := St.handR2 (A := [Box p1 [.slice a_x0 x0.length c_x0, .int .i64 y4, .int .i64 y5]]) HT
  refine wc_call HF cf27 rfl (w_spec_l1Text fuel hx4 hAF2 (hroF2 hr_x0)) rfl rfl ?_
  rintro e w ⟨rfl, hE⟩
  have HT := hbackF2 _ _ hE
  have HT : St w0 (fun _ => False) w [Box p1 [.slice a_x0 x0.length c_x0, .int .i64 y8, .int .i64 y9]] := HT
  refine ⟨_, rfl, nS, fun a HF => ?_⟩
  obtain ⟨hg1, h⟩ := grd h
  refine wc_bin HF nS rfl rfl (b_cat hg1) rfl rfl (fun a HF => ?_)
  refine wc_assign HF nS rfl rfl rfl (fun a HF => ?_)
  refine wc_end ?_
  refine then_n ?_
  refine wp_seq ?_
  refine wp_seq ?_
  refine wc_text ?_
  refine wc_move HF nS rfl rfl rfl (fun a HF => ?_)
  obtain ⟨y10, y11, y12, hx5, h⟩ := obs3 h
  obtain ⟨F3, hAF3, hFF3, hbackF3, hroF3, hownF3, hownAF3⟩ := St.handR2 (A := [Box p1 [.slice a_x0 x0.length c_x0, .int .i64 y8, .int .i64 y9]]) HT
  refine wc_call HF cf31 rfl (w_spec_l1Once fuel hx5 hAF3 (hroF3 hr_x0)) rfl rfl ?_
  rintro e w ⟨rfl, hE⟩
  have HT := hbackF3 _ _ hE
  have HT : St w0 (fun _ => False) w [Box p1 [.slice a_x0 x0.length c_x0, .int .i64 y11, .int .i64 y12]] := HT
  refine ⟨_, rfl, nS, fun a HF => ?_⟩
  refine wc_end ?_
  refine then_n ?_
  by_cases hb1 : y10 = true
  · have h := (if_pos hb1).symm.trans h
    refine wp_if (b' := true) HF rfl hb1 ?_
    refine wp_seq ?_
    refine wc_text ?_
    refine wc_move HF nS rfl rfl rfl (fun a HF => ?_)
    refine wc_move HF nS rfl rfl rfl (fun a HF => ?_)
    obtain ⟨y13, y14, y15, hx6, h⟩ := obs3 h
    obtain ⟨F4, hAF4, hFF4, hbackF4, hroF4, hownF4, hownAF4⟩ := St.handR2 (A := [Box p1 [.slice a_x0 x0.length c_x0, .int .i64 y11, .int .i64 y12]]) HT
    refine wc_call HF cf32 rfl (w_spec_l1Spoil fuel hx6 hAF4 (hroF4 hr_x0)) rfl rfl ?_
    rintro e w ⟨rfl, hE⟩
    have HT := hbackF4 _ _ hE
    have HT : St w0 (fun _ => False) w [Box p1 [.slice a_x0 x0.length c_x0, .int .i64 y14, .int .i64 y15]] := HT
    refine ⟨_, rfl, nS, fun a HF => ?_⟩
    refine wc_assign HF nS rfl rfl rfl (fun a HF => ?_)
    refine wc_end ?_
    refine then_n ?_
    refine wp_ret ?_
    obtain rfl := Option.some.inj h
    refine then_r (?_)
    refine bp_ret HF (res_one rfl HF rfl) ?_
    have HT : St w0 (fun _ => False) w [] := HT.take 0
    exact ⟨rfl, HT⟩
  have h := (if_neg hb1).symm.trans h
  refine wp_if (b' := false) HF rfl (Bool.eq_false_iff.2 hb1) ?_
  refine wp_skip ?_
  refine then_n ?_
  refine wp_seq ?_
  refine wc_text ?_
  refine wc_move HF nS rfl rfl rfl (fun a HF => ?_)
  refine wc_assign HF nS rfl rfl rfl (fun a HF => ?_)
  refine wc_end ?_
  refine then_n ?_
  refine wp_ret ?_
  obtain rfl := Option.some.inj h
  refine bp_ret HF (res_one rfl HF rfl) ?_
  have HT : St w0 (fun _ => False) w [] := HT.take 0
  exact ⟨rfl, HT⟩

def m_spec_DrawVar (fuel : Nat) (x0 : List UInt8) : Option Int :=
  bind2 (m_spec_l1New fuel x0) fun y1 y2 =>
  bind3 (m_spec_l1Num fuel x0 y1 y2) fun y3 y4 y5 =>
  some y3

set_option maxRecDepth 100000 in
set_option maxHeartbeats 4000000 in
theorem w_spec_DrawVar (fuel : Nat) {x0 : List UInt8} {a_x0 : Option Addr} {n_x0 c_x0 : Nat} {r0 : Int} {w0 : World} (h : m_spec_DrawVar fuel x0 = some r0) (hr_x0 : RdT (fun b => ¬ False) w0 (rowT x0) (.slice a_x0 n_x0 c_x0)) :
    Calls Try.prog 6 #[.slice a_x0 n_x0 c_x0] w0 fun e w => e = .returned (.int .i64 r0) ∧ St w0 (fun _ => False) w [] := by
  obtain rfl := hr_x0.neq
  have HT : St w0 (fun _ => False) w0 [] := St.init0
  rw [m_spec_DrawVar] at h
  refine calls_fr (n := 8) [.slice a_x0 x0.length c_x0] Try.func6 rfl rfl rfl (fun a HF => ?_)
  have HT : St w0 (fun _ => False) w0 [] := HT
  refine wp_seq ?_
  refine wc_text ?_
  refine wc_assign HF nS rfl rfl rfl (fun a HF => ?_)
  refine wc_end ?_
  refine then_n ?_
  refine wp_seq ?_
  refine wc_text ?_
  refine wc_move HF nS rfl rfl rfl (fun a HF => ?_)
  obtain ⟨y1, y2, hx1, h⟩ := obs2 h
  refine wc_call HF cf25 rfl (w_spec_l1New fuel hx1 (HT.ro hr_x0).any) rfl rfl ?_
  rintro e w ⟨p1, rfl, hE⟩
  have hb := hE.below
  have HT := HT.pure hE
  have HT : St w0 (fun _ => False) w [Box p1 [.slice a_x0 x0.length c_x0, .int .i64 y1, .int .i64 y2]] := HT
  refine ⟨_, rfl, nS, fun a HF => ?_⟩
  refine wc_assign HF nS rfl rfl rfl (fun a HF => ?_)
  refine wc_end ?_
  refine then_n ?_
  refine wp_seq ?_
  refine wc_text ?_
  refine wc_move HF nS rfl rfl rfl (fun a HF => ?_)
  obtain ⟨y3, y4, y5, hx2, h⟩ := obs3 h
  obtain ⟨F1, hAF1, hFF1, hbackF1, hroF1, hownF1, hownAF1⟩ := St.handR2 (A := [Box p1 [.slice a_x0 x0.length c_x0, .int .i64 y1, .int .i64 y2]]) HT
  refine wc_call HF cf26 rfl (w_spec_l1Num fuel hx2 hAF1 (hroF1 hr_x0)) rfl rfl ?_
  rintro e w ⟨rfl, hE⟩
  have HT := hbackF1 _ _ hE
  have HT : St w0 (fun _ => False) w [Box p1 [.slice a_x0 x0.length c_x0, .int .i64 y4, .int .i64 y5]] := HT
  refine ⟨_, rfl, nS, fun a HF => ?_⟩
  refine wc_assign HF nS rfl rfl rfl (fun a HF => ?_)
  refine wc_end ?_
  refine then_n ?_
  refine wp_ret ?_
  obtain rfl := Option.some.inj h
  refine bp_ret HF (res_one rfl HF rfl) ?_
  have HT : St w0 (fun _ => False) w [] := HT.take 0
  exact ⟨rfl, HT⟩
end Go.Proofs.Ytikfmmfifhnbjaa
