/- Walks of functions, by program: impl.Dec, impl.within, impl.ReadDec, impl.isCell, impl.isKey, impl.isReg, impl.isValue, impl.OpOk, impl.fieldsOf, impl.mnemonic, impl.ShowOp, impl.split, impl.ReadOp, laws.eqOp, spec.Dec, spec.ReadDec, spec.l1In, spec.l3Cell, spec.l3Val, spec.l4Reg, spec.OpOk, spec.l6Args, spec.l6Words. -/
import Derived.Test.YtpbfppelmgjfpaaTy
namespace Go.Proofs.Ytpbfppelmgjfpaa
open Go Go.RowKit
set_option linter.unusedVariables false
set_option linter.unusedSimpArgs false
def m_impl_Dec_L0 (fuel : Nat) : Nat → (List UInt8) → Int → Option (List UInt8)
  | 0, _, _ => none
  | k1 + 1, z2, z3 =>
    if z3 = 0 then
      some z2
    else
    (
      if (10 : Int) ≠ 0 then
        (
          if (z3.tmod 10) < 0 then
            if in64 (0 - (z3.tmod 10)) then
              some (0 - (z3.tmod 10))
            else none
          else
          some (z3.tmod 10)).bind fun z5 =>
        if in64 (48 + z5) then
          if z2.length + 1 ≤ 17179869184 then
            some (z2 ++ ([b8 (48 + z5)] : List UInt8))
          else none
        else none
      else none).bind fun z4 =>
    if (10 : Int) ≠ 0 ∧ in64 (z3.tdiv 10) then
      m_impl_Dec_L0 fuel k1 z4 (z3.tdiv 10)
    else none

def m_impl_Dec_L1 (fuel : Nat) : Nat → (List UInt8) → Int → Int → Option (List UInt8)
  | 0, _, _, _ => none
  | k2 + 1, z8, z9, z10 =>
    if z9 < z10 then
      (at? z8 z10).bind fun e1 =>
      (at? z8 z9).bind fun e2 =>
      (at? (z8.set z9.toNat e1) z10).bind fun e3 =>
      if in64 (z9 + 1) then
        if in64 (z10 - 1) then
          m_impl_Dec_L1 fuel k2 ((z8.set z9.toNat e1).set z10.toNat e2) (z9 + 1) (z10 - 1)
        else none
      else none
    else
    some z8

def m_impl_Dec (fuel : Nat) (x0 : Int) : Option Str :=
  if x0 = 0 then
    some [48]
  else
  (m_impl_Dec_L0 fuel fuel ([] : List UInt8) x0).bind fun z1 =>
  (
    if x0 < 0 then
      if z1.length + 1 ≤ 17179869184 then
        some (z1 ++ ([(45 : UInt8)] : List UInt8))
      else none
    else
    some z1).bind fun z6 =>
  (
    if in64 ((z6.length : Int) - 1) then
      m_impl_Dec_L1 fuel fuel z6 0 ((z6.length : Int) - 1)
    else none).bind fun z7 =>
  some z7

set_option maxRecDepth 100000 in
set_option maxHeartbeats 4000000 in
theorem w_impl_Dec (fuel : Nat) {x0 : Int} {r0 : Str} {w0 : World} (h : m_impl_Dec fuel x0 = some r0) :
    Calls Try.prog 47 #[.int .i64 x0] w0 fun e w => e = .returned (sv r0) ∧ St w0 (fun _ => False) w [] := by
  have HT : St w0 (fun _ => False) w0 [] := St.init0
  rw [m_impl_Dec] at h
  refine calls_fr (n := 59) [.int .i64 x0] Try.func47 rfl rfl rfl (fun a HF => ?_)
  have HT : St w0 (fun _ => False) w0 [] := HT
  refine wp_seq ?_
  refine wc_text ?_
  refine wc_assign HF nS rfl rfl rfl (fun a HF => ?_)
  refine wc_end ?_
  refine then_n ?_
  refine wp_seq ?_
  refine wp_seq ?_
  refine wc_text ?_
  refine wc_move HF nS rfl rfl rfl (fun a HF => ?_)
  refine wc_bin HF nS rfl rfl b_eq rfl rfl (fun a HF => ?_)
  refine wc_end ?_
  refine then_n ?_
  by_cases hb1 : x0 = 0
  have h := (if_pos hb1).symm.trans h
  refine wp_if (b' := true) HF rfl (decide_eq_true hb1) ?_
  refine wp_seq ?_
  refine wc_text ?_
  refine wc_assign HF nS rfl rfl rfl (fun a HF => ?_)
  refine wc_end ?_
  refine then_n ?_
  refine wp_ret ?_
  obtain rfl := Option.some.inj h
  refine then_r (?_)
  refine bp_ret HF (res_one rfl HF rfl) ?_
  exact ⟨rfl, HT⟩
  have h := (if_neg hb1).symm.trans h
  refine wp_if (b' := false) HF rfl (decide_eq_false hb1) ?_
  refine wp_skip ?_
  refine then_n ?_
  refine wp_seq ?_
  refine wc_text ?_
  refine wc_bslice (l := ([] : List UInt8)) (cs := []) (A := []) HF HT bs56_0 rfl rfl (gives_flat rfl) rfl (by decide) rfl rfl (fun p1 w HT hb  => ⟨nS, fun a HF => ?_⟩)
  refine wc_assign HF nS rfl rfl rfl (fun a HF => ?_)
  refine wc_end ?_
  refine then_n ?_
  obtain ⟨z1, hx1, h⟩ := obs h
  refine wp_cut (fun a w => ∃ a1 n1 c1, Fr a 59 [(0, .int .i64 x0), (3, .slice a1 n1 c1)] ∧ St w0 (fun _ => False) w [Own 5 (rowT z1) (.slice a1 n1 c1)]) ?_ ?_
  have hk1 := h
  have h := hx1
  refine wp_seq ?_
  refine wc_text ?_
  refine wc_move HF nS rfl rfl rfl (fun a HF => ?_)
  refine wc_assign HF nS rfl rfl rfl (fun a HF => ?_)
  refine wc_end ?_
  refine then_n ?_
  refine wp_block ?_
  refine wp_loopN (fun k1 a w => ∃ z2 z3 a2 n2 c2, m_impl_Dec_L0 fuel k1 z2 z3 = some z1 ∧ Fr a 59 [(0, .int .i64 x0), (3, .slice a2 n2 c2), (4, .int .i64 z3)] ∧ St w0 (fun _ => False) w [Own 5 (rowT z2) (.slice a2 n2 c2)]) fuel ⟨([] : List UInt8), x0, (some ⟨p1, 0, none⟩), 0, 0, h, (HF.keep (HF.keep (HF.keep HF.nil rfl) rfl) rfl), HT⟩ ?_
  rintro k1 a w ⟨z2, z3, a2, n2, c2, h, HF, HT⟩
  rcases k1 with _ | k1
  cases h
  rw [m_impl_Dec_L0] at h
  obtain rfl := (HT.rdAt 0 rfl).neq
  refine ?_
  refine wp_seq ?_
  refine wp_seq ?_
  refine wc_text ?_
  refine wc_move HF nS rfl rfl rfl (fun a HF => ?_)
  refine wc_bin HF nS rfl rfl b_ne rfl rfl (fun a HF => ?_)
  refine wc_end ?_
  refine then_n ?_
  by_cases hb2 : z3 = 0
  have h := (if_pos hb2).symm.trans h
  refine wp_if (b' := false) HF rfl (notT (decide_eq_true hb2)) ?_
  refine wp_exit ?_
  refine then_x (then_x (?_))
  refine blk_x ?_
  obtain rfl := Option.some.inj h
  exact then_n ⟨a2, z2.length, c2, (HF.keep (HF.keep HF.nil rfl) rfl), HT⟩
  have h := (if_neg hb2).symm.trans h
  refine wp_if (b' := true) HF rfl (notF (decide_eq_false hb2)) ?_
  refine wp_skip ?_
  refine then_n ?_
  obtain ⟨z4, hx2, h⟩ := obs h
  refine wp_cut (fun a w => ∃ a3 n3 c3, Fr a 59 [(0, .int .i64 x0), (3, .slice a3 n3 c3), (4, .int .i64 z3)] ∧ St w0 (fun _ => False) w [Own 5 (rowT z4) (.slice a3 n3 c3)]) ?_ ?_
  have hk2 := h
  have h := hx2
  refine wp_block ?_
  refine wp_seq ?_
  refine wc_text ?_
  refine wc_move HF nS rfl rfl rfl (fun a HF => ?_)
  obtain ⟨hg1, h⟩ := grd h
  refine wc_bin HF nS rfl rfl (b_rem hg1) rfl rfl (fun a HF => ?_)
  refine wc_assign HF nS rfl rfl rfl (fun a HF => ?_)
  refine wc_end ?_
  refine then_n ?_
  obtain ⟨z5, hx3, h⟩ := obs h
  refine wp_cut (fun a w => Fr a 59 [(0, .int .i64 x0), (3, .slice a2 z2.length c2), (4, .int .i64 z3), (5, .int .i64 z5)] ∧ St w0 (fun _ => False) w [Own 5 (rowT z2) (.slice a2 z2.length c2)]) ?_ ?_
  have hk3 := h
  have h := hx3
  refine wp_seq ?_
  refine wc_text ?_
  refine wc_move HF nS rfl rfl rfl (fun a HF => ?_)
  refine wc_bin HF nS rfl rfl b_lt rfl rfl (fun a HF => ?_)
  refine wc_end ?_
  refine then_n ?_
  by_cases hb3 : (z3.tmod 10) < 0
  have h := (if_pos hb3).symm.trans h
  refine wp_if (b' := true) HF rfl (decide_eq_true hb3) ?_
  refine wc_text ?_
  refine wc_move HF nS rfl rfl rfl (fun a HF => ?_)
  obtain ⟨hg2, h⟩ := grd h
  refine wc_neg HF nS rfl hg2 rfl rfl (fun a HF => ?_)
  refine wc_assign HF nS rfl rfl rfl (fun a HF => ?_)
  refine wc_end ?_
  obtain rfl := Option.some.inj h
  exact then_n ⟨(HF.keep (HF.keep (HF.keep (HF.keep HF.nil rfl) rfl) rfl) rfl), HT⟩
  have h := (if_neg hb3).symm.trans h
  refine wp_if (b' := false) HF rfl (decide_eq_false hb3) ?_
  refine wp_skip ?_
  obtain rfl := Option.some.inj h
  exact then_n ⟨(HF.keep (HF.keep (HF.keep (HF.keep HF.nil rfl) rfl) rfl) rfl), HT⟩
  rintro a w ⟨HF, HT⟩
  refine ?_
  refine wc_text ?_
  refine wc_move HF nS rfl rfl rfl (fun a HF => ?_)
  refine wc_move HF nS rfl rfl rfl (fun a HF => ?_)
  obtain ⟨hg3, h⟩ := grd h
  refine wc_bin HF nS rfl rfl (b_add hg3) rfl rfl (fun a HF => ?_)
  refine wc_cvb HF nS Try.underlying5 Try.underlying3 rfl rfl rfl (fun a HF => ?_)
  refine wc_bslice (l := ([b8 (48 + z5)] : List UInt8)) (cs := [.int .u8 ((b8 (48 + z5)).toNat : Int)]) (A := []) HF HT bs56_1 rfl rfl (gives_flat rfl) rfl (by decide) rfl rfl (fun p2 w HT hb  => ⟨nS, fun a HF => ?_⟩)
  obtain ⟨hg4, h⟩ := grd h
  have HT := HT.p1
  refine wc_append HF HT el56 rfl rfl (Nat.zero_lt_succ _) hg4 rfl rfl rfl (fun a4 c4 w HT => ⟨nS, fun a HF => ?_⟩)
  refine wc_assign HF nS rfl rfl rfl (fun a HF => ?_)
  refine wc_end ?_
  refine blk_n ?_
  obtain rfl := Option.some.inj h
  exact then_n ⟨a4, (z2 ++ ([b8 (48 + z5)] : List UInt8)).length, c4, (HF.keep (HF.keep (HF.keep HF.nil rfl) rfl) rfl), HT⟩
  rintro a w ⟨a3, n3, c3, HF, HT⟩
  obtain rfl := (HT.rdAt 0 rfl).neq
  refine ?_
  refine wc_text ?_
  refine wc_move HF nS rfl rfl rfl (fun a HF => ?_)
  obtain ⟨hg5, h⟩ := grd h
  refine wc_bin HF nS rfl rfl (b_quo hg5) rfl rfl (fun a HF => ?_)
  refine wc_assign HF nS rfl rfl rfl (fun a HF => ?_)
  refine wc_end ?_
  exact then_n ⟨k1, Nat.lt_succ_self k1, z4, z3.tdiv 10, a3, z4.length, c3, h, (HF.keep (HF.keep (HF.keep HF.nil rfl) rfl) rfl), HT⟩
  rintro a w ⟨a1, n1, c1, HF, HT⟩
  obtain rfl := (HT.rdAt 0 rfl).neq
  refine ?_
  obtain ⟨z6, hx4, h⟩ := obs h
  refine wp_cut (fun a w => ∃ a5 n4 c5, Fr a 59 [(3, .slice a5 n4 c5)] ∧ St w0 (fun _ => False) w [Own 5 (rowT z6) (.slice a5 n4 c5)]) ?_ ?_
  have hk1 := h
  have h := hx4
  refine wp_seq ?_
  refine wc_text ?_
  refine wc_move HF nS rfl rfl rfl (fun a HF => ?_)
  refine wc_bin HF nS rfl rfl b_lt rfl rfl (fun a HF => ?_)
  refine wc_end ?_
  refine then_n ?_
  by_cases hb4 : x0 < 0
  have h := (if_pos hb4).symm.trans h
  refine wp_if (b' := true) HF rfl (decide_eq_true hb4) ?_
  refine wc_text ?_
  refine wc_move HF nS rfl rfl rfl (fun a HF => ?_)
  refine wc_bslice (l := ([(45 : UInt8)] : List UInt8)) (cs := [.int .u8 45]) (A := []) HF HT bs56_1 rfl rfl (gives_flat rfl) rfl (by decide) rfl rfl (fun p3 w HT hb  => ⟨nS, fun a HF => ?_⟩)
  obtain ⟨hg6, h⟩ := grd h
  have HT := HT.p1
  refine wc_append HF HT el56 rfl rfl (Nat.zero_lt_succ _) hg6 rfl rfl rfl (fun a6 c6 w HT => ⟨nS, fun a HF => ?_⟩)
  refine wc_assign HF nS rfl rfl rfl (fun a HF => ?_)
  refine wc_end ?_
  obtain rfl := Option.some.inj h
  exact then_n ⟨a6, (z1 ++ ([(45 : UInt8)] : List UInt8)).length, c6, (HF.keep HF.nil rfl), HT⟩
  have h := (if_neg hb4).symm.trans h
  refine wp_if (b' := false) HF rfl (decide_eq_false hb4) ?_
  refine wp_skip ?_
  obtain rfl := Option.some.inj h
  exact then_n ⟨a1, z1.length, c1, (HF.keep HF.nil rfl), HT⟩
  rintro a w ⟨a5, n4, c5, HF, HT⟩
  obtain rfl := (HT.rdAt 0 rfl).neq
  refine ?_
  obtain ⟨z7, hx5, h⟩ := obs h
  refine wp_cut (fun a w => Fr a 59 [(3, .slice a5 z6.length c5)] ∧ St w0 (fun _ => False) w [Own 5 (rowT z7) (.slice a5 z6.length c5)]) ?_ ?_
  have hk1 := h
  have h := hx5
  refine wp_seq ?_
  refine wc_text ?_
  refine wc_move HF nS rfl rfl rfl (fun a HF => ?_)
  refine wc_lenR HF nS Try.underlying56 rfl rfl rfl (fun a HF => ?_)
  obtain ⟨hg7, h⟩ := grd h
  refine wc_bin HF nS rfl rfl (b_sub hg7) rfl rfl (fun a HF => ?_)
  refine wc_assign HF nS rfl rfl rfl (fun a HF => ?_)
  refine wc_assign HF nS rfl rfl rfl (fun a HF => ?_)
  refine wc_end ?_
  refine then_n ?_
  refine wp_block ?_
  refine wp_loopN (fun k2 a w => ∃ z8 z9 z10, m_impl_Dec_L1 fuel k2 z8 z9 z10 = some z7 ∧ Fr a 59 [(3, .slice a5 z6.length c5), (6, .int .i64 z9), (7, .int .i64 z10)] ∧ St w0 (fun _ => False) w [Own 5 (rowT z8) (.slice a5 z6.length c5)]) fuel ⟨z6, 0, (z6.length : Int) - 1, h, (HF.keep (HF.keep (HF.keep HF.nil rfl) rfl) rfl), HT⟩ ?_
  rintro k2 a w ⟨z8, z9, z10, h, HF, HT⟩
  rcases k2 with _ | k2
  cases h
  rw [m_impl_Dec_L1] at h
  refine ?_
  refine wp_seq ?_
  refine wp_seq ?_
  refine wc_text ?_
  refine wc_move HF nS rfl rfl rfl (fun a HF => ?_)
  refine wc_move HF nS rfl rfl rfl (fun a HF => ?_)
  refine wc_bin HF nS rfl rfl b_lt rfl rfl (fun a HF => ?_)
  refine wc_end ?_
  refine then_n ?_
  by_cases hb5 : z9 < z10
  have h := (if_pos hb5).symm.trans h
  refine wp_if (b' := true) HF rfl (decide_eq_true hb5) ?_
  refine wp_skip ?_
  refine then_n ?_
  refine wp_seq ?_
  refine wp_block ?_
  refine wp_region_can [(0, true), (1, true), (2, false), (3, false), (4, true), (5, true), (6, true), (7, true), (8, true), (9, true), (10, true), (11, true), (12, true), (13, false), (14, true), (15, true)] (fun w' => True) (by kernel_rfl) (by kernel_rfl) ?_
  have HT := HT.drew
  refine wc_move HF nS rfl rfl rfl (fun a HF => ?_)
  refine wc_move HF nS rfl rfl rfl (fun a HF => ?_)
  refine wc_move HF (fun _ => trivial) rfl rfl rfl (fun a HF => ?_)
  refine wc_move HF (fun _ => trivial) rfl rfl rfl (fun a HF => ?_)
  refine wc_move HF nS rfl rfl rfl (fun a HF => ?_)
  refine wc_move HF nS rfl rfl rfl (fun a HF => ?_)
  obtain ⟨e1, hx6, h⟩ := obs h
  obtain ⟨b1, o1, ha1⟩ := (HT.rdAt 0 rfl).addr hx6
  refine wc_ixaddr HF nS el56 rfl ha1 ((HT.rdAt 0 rfl)).neq rfl hx6 rfl rfl (fun a HF => ?_)
  have hc1 := (HT.rdAt 0 rfl).flatAt ha1 hx6
  refine wc_load HF rfl sc5 (hc1.get 0 rfl) rfl rfl (fun a HF => ?_)
  refine wc_move HF nS rfl rfl rfl (fun a HF => ?_)
  refine wc_move HF nS rfl rfl rfl (fun a HF => ?_)
  obtain ⟨e2, hx7, h⟩ := obs h
  refine wc_ixaddr HF nS el56 rfl ha1 ((HT.rdAt 0 rfl)).neq rfl hx7 rfl rfl (fun a HF => ?_)
  have hc2 := (HT.rdAt 0 rfl).flatAt ha1 hx7
  refine wc_load HF rfl sc5 (hc2.get 0 rfl) rfl rfl (fun a HF => ?_)
  refine wc_ixaddr HF nS el56 rfl ha1 ((HT.rdAt 0 rfl)).neq rfl hx7 rfl rfl (fun a HF => ?_)
  refine wc_storeR (i := z9) (j := 0) (x' := e1) HF HT ha1 rfl rfl (fun w => (sc5 w).2) rfl rfl hx7 rfl rfl rfl rfl (fun w HT => ⟨(fun _ => trivial), ?_⟩)
  obtain ⟨e3, hx8, h⟩ := obs h
  refine wc_ixaddr HF nS el56 rfl ha1 ((HT.rdAt 0 rfl)).neq rfl hx8 rfl rfl (fun a HF => ?_)
  refine wc_storeR (i := z10) (j := 0) (x' := e2) HF HT ha1 rfl rfl (fun w => (sc5 w).2) rfl rfl hx8 rfl rfl rfl rfl (fun w HT => ⟨nS, ?_⟩)
  refine wc_endN ?_
  refine blk_n ?_
  refine then_n ?_
  refine wc_text ?_
  refine wc_move HF nS rfl rfl rfl (fun a HF => ?_)
  obtain ⟨hg8, h⟩ := grd h
  refine wc_bin HF nS rfl rfl (b_add hg8) rfl rfl (fun a HF => ?_)
  refine wc_move HF nS rfl rfl rfl (fun a HF => ?_)
  obtain ⟨hg9, h⟩ := grd h
  refine wc_bin HF nS rfl rfl (b_sub hg9) rfl rfl (fun a HF => ?_)
  refine wc_assign HF nS rfl rfl rfl (fun a HF => ?_)
  refine wc_assign HF nS rfl rfl rfl (fun a HF => ?_)
  refine wc_end ?_
  exact then_n ⟨k2, Nat.lt_succ_self k2, (z8.set z9.toNat e1).set z10.toNat e2, z9 + 1, z10 - 1, h, (HF.keep (HF.keep (HF.keep HF.nil rfl) rfl) rfl), HT⟩
  have h := (if_neg hb5).symm.trans h
  refine wp_if (b' := false) HF rfl (decide_eq_false hb5) ?_
  refine wp_exit ?_
  refine then_x (then_x (?_))
  refine blk_x ?_
  obtain rfl := Option.some.inj h
  exact then_n ⟨(HF.keep HF.nil rfl), HT⟩
  rintro a w ⟨HF, HT⟩
  refine ?_
  refine wp_seq ?_
  refine wc_text ?_
  refine wc_move HF nS rfl rfl rfl (fun a HF => ?_)
  refine wc_cvs HF nS Try.underlying56 Try.underlying5 Try.underlying9 rfl (HT.rdAt 0 rfl) rfl rfl (fun a HF => ?_)
  refine wc_assign HF nS rfl rfl rfl (fun a HF => ?_)
  refine wc_end ?_
  refine then_n ?_
  refine wp_ret ?_
  obtain rfl := Option.some.inj h
  refine bp_ret HF (res_one rfl HF rfl) ?_
  have HT := HT.t0
  exact ⟨rfl, HT⟩

def m_impl_within (fuel : Nat) (x0 : Int) (x1 : Int) (x2 : Int) : Option Bool :=
  if x1 ≤ x0 then
    some (decide (x0 ≤ x2))
  else
  some false

set_option maxRecDepth 100000 in
set_option maxHeartbeats 4000000 in
theorem w_impl_within (fuel : Nat) {x0 : Int} {x1 : Int} {x2 : Int} {r0 : Bool} {w0 : World} (h : m_impl_within fuel x0 x1 x2 = some r0) :
    Calls Try.prog 80 #[.int .i64 x0, .int .i64 x1, .int .i64 x2] w0 fun e w => e = .returned (.bool r0) ∧ St w0 (fun _ => False) w [] := by
  have HT : St w0 (fun _ => False) w0 [] := St.init0
  rw [m_impl_within] at h
  refine calls_fr (n := 15) [.int .i64 x0, .int .i64 x1, .int .i64 x2] Try.func80 rfl rfl rfl (fun a HF => ?_)
  have HT : St w0 (fun _ => False) w0 [] := HT
  refine wp_seq ?_
  refine wc_text ?_
  refine wc_assign HF nS rfl rfl rfl (fun a HF => ?_)
  refine wc_end ?_
  refine then_n ?_
  refine wp_seq ?_
  refine wc_text ?_
  refine wc_move HF nS rfl rfl rfl (fun a HF => ?_)
  refine wc_move HF nS rfl rfl rfl (fun a HF => ?_)
  refine wc_bin HF nS rfl rfl b_ge rfl rfl (fun a HF => ?_)
  refine wc_move HF nS rfl rfl rfl (fun a HF => ?_)
  by_cases hb1 : x1 ≤ x0
  have h := (if_pos hb1).symm.trans h
  refine wc_move HF nS rfl (HF.wy rfl rfl rfl rfl (decide_eq_true hb1)) rfl (fun a HF => ?_)
  refine wc_move HF nS rfl (HF.wy rfl rfl rfl rfl (decide_eq_true hb1)) rfl (fun a HF => ?_)
  refine wc_bin HF nS rfl rfl b_le (HF.wy rfl rfl rfl rfl (decide_eq_true hb1)) rfl (fun a HF => ?_)
  refine wc_pick (b := true) HF nS rfl (decide_eq_true hb1) rfl rfl rfl (fun a HF => ?_)
  refine wc_assign HF nS rfl rfl rfl (fun a HF => ?_)
  refine wc_end ?_
  refine then_n ?_
  refine wp_ret ?_
  obtain rfl := Option.some.inj h
  refine bp_ret HF (res_one rfl HF rfl) ?_
  exact ⟨rfl, HT⟩
  have h := (if_neg hb1).symm.trans h
  refine wc_skip HF nS (HF.wn rfl rfl rfl rfl (decide_eq_false hb1)) rfl (fun a HF => ?_)
  refine wc_skip HF nS (HF.wn rfl rfl rfl rfl (decide_eq_false hb1)) rfl (fun a HF => ?_)
  refine wc_skip HF nS (HF.wn rfl rfl rfl rfl (decide_eq_false hb1)) rfl (fun a HF => ?_)
  refine wc_pick (b := false) HF nS rfl (decide_eq_false hb1) rfl rfl rfl (fun a HF => ?_)
  refine wc_assign HF nS rfl rfl rfl (fun a HF => ?_)
  refine wc_end ?_
  refine then_n ?_
  refine wp_ret ?_
  obtain rfl := Option.some.inj h
  refine bp_ret HF (res_one rfl HF rfl) ?_
  exact ⟨rfl, HT⟩

def m_impl_ReadDec_L0 (fuel : Nat) (x0 : Str) : Nat → Int → Int → Option (Lp Int (Int × Bool))
  | 0, _, _ => none
  | k1 + 1, z3, z4 =>
    if z4 < (x0.length : Int) then
      (at? x0 z4).bind fun c2 =>
      if (c2.toNat : Int) < 48 then
        some (.ret (0, false))
      else
      (at? x0 z4).bind fun c3 =>
      if 57 < (c3.toNat : Int) then
        some (.ret (0, false))
      else
      if in64 (10 * z3) then
        (at? x0 z4).bind fun c4 =>
        if in64 ((10 * z3) + ((b8 ((c4.toNat : Int) - 48)).toNat : Int)) then
          if in64 (z4 + 1) then
            m_impl_ReadDec_L0 fuel x0 k1 ((10 * z3) + ((b8 ((c4.toNat : Int) - 48)).toNat : Int)) (z4 + 1)
          else none
        else none
      else none
    else
    some (.brk z3)

def m_impl_ReadDec (fuel : Nat) (x0 : Str) : Option (Int × Bool) :=
  (
    if 0 < (x0.length : Int) then
      (at? x0 0).bind fun c1 =>
      if (c1.toNat : Int) = 45 then
        some 1
      else
      some 0
    else
    some 0).bind fun z1 =>
  if in64 ((x0.length : Int) - z1) then
    (m_impl_within fuel ((x0.length : Int) - z1) 1 9).bind fun y1 =>
    if y1 = true then
      (m_impl_ReadDec_L0 fuel x0 fuel 0 z1).bind <| contL <| un1 fun z2 =>
      (
        if z1 = 1 then
          if in64 (0 - z2) then
            some (0 - z2)
          else none
        else
        some z2).bind fun z5 =>
      (m_impl_Dec fuel z5).bind fun y2 =>
      if y2 = x0 then
        some (z5, true)
      else
      some (0, false)
    else
    some (0, false)
  else none

set_option maxRecDepth 100000 in
set_option maxHeartbeats 4000000 in
theorem w_impl_ReadDec (fuel : Nat) {x0 : Str} {r0 : Int} {r1 : Bool} {w0 : World} (h : m_impl_ReadDec fuel x0 = some (r0, r1)) :
    Calls Try.prog 51 #[sv x0] w0 fun e w => e = .returned (.tuple #[.int .i64 r0, .bool r1]) ∧ St w0 (fun _ => False) w [] := by
  have HT : St w0 (fun _ => False) w0 [] := St.init0
  rw [m_impl_ReadDec] at h
  refine calls_fr (n := 55) [sv x0] Try.func51 rfl rfl rfl (fun a HF => ?_)
  have HT : St w0 (fun _ => False) w0 [] := HT
  refine wp_seq ?_
  refine wc_text ?_
  refine wc_assign HF nS rfl rfl rfl (fun a HF => ?_)
  refine wc_assign HF nS rfl rfl rfl (fun a HF => ?_)
  refine wc_end ?_
  refine then_n ?_
  refine wp_seq ?_
  refine wc_text ?_
  refine wc_assign HF nS rfl rfl rfl (fun a HF => ?_)
  refine wc_end ?_
  refine then_n ?_
  obtain ⟨z1, hx1, h⟩ := obs h
  refine wp_cut (fun a w => Fr a 55 [(0, sv x0), (4, .int .i64 z1)] ∧ St w0 (fun _ => False) w []) ?_ ?_
  have hk1 := h
  have h := hx1
  refine wp_seq ?_
  refine wc_text ?_
  refine wc_move HF nS rfl rfl rfl (fun a HF => ?_)
  refine wc_lenS (ats := #[]) HF nS Try.underlying9 rfl rfl rfl (fun a HF => ?_)
  refine wc_bin HF nS rfl rfl b_gt rfl rfl (fun a HF => ?_)
  refine wc_move HF nS rfl rfl rfl (fun a HF => ?_)
  by_cases hb1 : 0 < (x0.length : Int)
  have h := (if_pos hb1).symm.trans h
  refine wc_move HF nS rfl (HF.wy rfl rfl rfl rfl (decide_eq_true hb1)) rfl (fun a HF => ?_)
  obtain ⟨c1, hx2, h⟩ := obs h
  refine wc_index HF nS Try.underlying9 rfl rfl hx2 (HF.wy rfl rfl rfl rfl (decide_eq_true hb1)) rfl (fun a HF => ?_)
  refine wc_bin HF nS rfl rfl b_eq (HF.wy rfl rfl rfl rfl (decide_eq_true hb1)) rfl (fun a HF => ?_)
  refine wc_pick (b := true) HF nS rfl (decide_eq_true hb1) rfl rfl rfl (fun a HF => ?_)
  refine wc_end ?_
  refine then_n ?_
  by_cases hb2 : (c1.toNat : Int) = 45
  have h := (if_pos hb2).symm.trans h
  refine wp_if (b' := true) HF rfl (decide_eq_true hb2) ?_
  refine wc_text ?_
  refine wc_assign HF nS rfl rfl rfl (fun a HF => ?_)
  refine wc_end ?_
  obtain rfl := Option.some.inj h
  exact then_n ⟨(HF.keep (HF.keep HF.nil rfl) rfl), HT⟩
  have h := (if_neg hb2).symm.trans h
  refine wp_if (b' := false) HF rfl (decide_eq_false hb2) ?_
  refine wp_skip ?_
  obtain rfl := Option.some.inj h
  exact then_n ⟨(HF.keep (HF.keep HF.nil rfl) rfl), HT⟩
  have h := (if_neg hb1).symm.trans h
  refine wc_skip HF nS (HF.wn rfl rfl rfl rfl (decide_eq_false hb1)) rfl (fun a HF => ?_)
  refine wc_skip HF nS (HF.wn rfl rfl rfl rfl (decide_eq_false hb1)) rfl (fun a HF => ?_)
  refine wc_skip HF nS (HF.wn rfl rfl rfl rfl (decide_eq_false hb1)) rfl (fun a HF => ?_)
  refine wc_pick (b := false) HF nS rfl (decide_eq_false hb1) rfl rfl rfl (fun a HF => ?_)
  refine wc_end ?_
  refine then_n ?_
  refine wp_if (b' := false) HF rfl rfl ?_
  refine wp_skip ?_
  obtain rfl := Option.some.inj h
  exact then_n ⟨(HF.keep (HF.keep HF.nil rfl) rfl), HT⟩
  rintro a w ⟨HF, HT⟩
  refine ?_
  refine wp_seq ?_
  refine wp_seq ?_
  refine wc_text ?_
  refine wc_move HF nS rfl rfl rfl (fun a HF => ?_)
  refine wc_lenS (ats := #[]) HF nS Try.underlying9 rfl rfl rfl (fun a HF => ?_)
  refine wc_move HF nS rfl rfl rfl (fun a HF => ?_)
  obtain ⟨hg1, h⟩ := grd h
  refine wc_bin HF nS rfl rfl (b_sub hg1) rfl rfl (fun a HF => ?_)
  obtain ⟨y1, hx3, h⟩ := obs h
  refine wc_call HF cf80 rfl (w_impl_within fuel hx3) rfl rfl ?_
  rintro e w ⟨rfl, hE⟩
  have hb := hE.below
  have HT := HT.pure hE
  have HT : St w0 (fun _ => False) w [] := HT
  refine ⟨_, rfl, nS, fun a HF => ?_⟩
  refine wc_not HF nS rfl rfl rfl (fun a HF => ?_)
  refine wc_end ?_
  refine then_n ?_
  by_cases hb3 : y1 = true
  have h := (if_pos hb3).symm.trans h
  refine wp_if (b' := false) HF rfl (notT hb3) ?_
  refine wp_skip ?_
  refine then_n ?_
  refine wp_seq ?_
  refine wc_text ?_
  refine wc_assign HF nS rfl rfl rfl (fun a HF => ?_)
  refine wc_end ?_
  refine then_n ?_
  obtain ⟨q2, hx4, h⟩ := obs h
  refine wp_cut (fun a w => ∃ z2, q2 = .brk z2 ∧ Fr a 55 [(0, sv x0), (4, .int .i64 z1), (5, .int .i64 z2)] ∧ St w0 (fun _ => False) w []) ?_ ?_
  have hk1 := h
  have h := hx4
  refine wp_seq ?_
  refine wc_text ?_
  refine wc_move HF nS rfl rfl rfl (fun a HF => ?_)
  refine wc_assign HF nS rfl rfl rfl (fun a HF => ?_)
  refine wc_end ?_
  refine then_n ?_
  refine wp_block ?_
  refine wp_loopN (fun k1 a w => ∃ z3 z4, m_impl_ReadDec_L0 fuel x0 k1 z3 z4 = some q2 ∧ Fr a 55 [(0, sv x0), (4, .int .i64 z1), (5, .int .i64 z3), (6, .int .i64 z4)] ∧ St w0 (fun _ => False) w []) fuel ⟨0, z1, h, (HF.keep (HF.keep (HF.keep (HF.keep HF.nil rfl) rfl) rfl) rfl), HT⟩ ?_
  rintro k1 a w ⟨z3, z4, h, HF, HT⟩
  rcases k1 with _ | k1
  cases h
  rw [m_impl_ReadDec_L0] at h
  refine ?_
  refine wp_seq ?_
  refine wp_seq ?_
  refine wc_text ?_
  refine wc_move HF nS rfl rfl rfl (fun a HF => ?_)
  refine wc_move HF nS rfl rfl rfl (fun a HF => ?_)
  refine wc_lenS (ats := #[]) HF nS Try.underlying9 rfl rfl rfl (fun a HF => ?_)
  refine wc_bin HF nS rfl rfl b_lt rfl rfl (fun a HF => ?_)
  refine wc_end ?_
  refine then_n ?_
  by_cases hb4 : z4 < (x0.length : Int)
  have h := (if_pos hb4).symm.trans h
  refine wp_if (b' := true) HF rfl (decide_eq_true hb4) ?_
  refine wp_skip ?_
  refine then_n ?_
  refine wp_seq ?_
  refine wp_block ?_
  refine wp_seq ?_
  refine wp_seq ?_
  refine wc_text ?_
  refine wc_move HF nS rfl rfl rfl (fun a HF => ?_)
  refine wc_move HF nS rfl rfl rfl (fun a HF => ?_)
  obtain ⟨c2, hx5, h⟩ := obs h
  refine wc_index HF nS Try.underlying9 rfl rfl hx5 rfl rfl (fun a HF => ?_)
  refine wc_bin HF nS rfl rfl b_lt rfl rfl (fun a HF => ?_)
  refine wc_move HF nS rfl rfl rfl (fun a HF => ?_)
  by_cases hb5 : (c2.toNat : Int) < 48
  have h := (if_pos hb5).symm.trans h
  refine wc_skip HF nS (HF.wn rfl rfl rfl rfl (decide_eq_true hb5)) rfl (fun a HF => ?_)
  refine wc_skip HF nS (HF.wn rfl rfl rfl rfl (decide_eq_true hb5)) rfl (fun a HF => ?_)
  refine wc_skip HF nS (HF.wn rfl rfl rfl rfl (decide_eq_true hb5)) rfl (fun a HF => ?_)
  refine wc_skip HF nS (HF.wn rfl rfl rfl rfl (decide_eq_true hb5)) rfl (fun a HF => ?_)
  refine wc_pick (b := true) HF nS rfl (decide_eq_true hb5) rfl rfl rfl (fun a HF => ?_)
  refine wc_end ?_
  refine then_n ?_
  refine wp_if (b' := true) HF rfl rfl ?_
  refine wp_seq ?_
  refine wc_text ?_
  refine wc_assign HF nS rfl rfl rfl (fun a HF => ?_)
  refine wc_assign HF nS rfl rfl rfl (fun a HF => ?_)
  refine wc_end ?_
  refine then_n ?_
  refine wp_ret ?_
  obtain rfl := Option.some.inj h
  have h := retL hk1
  have hj1 := Option.some.inj h
  obtain ⟨hi1, hj2⟩ := Prod.mk.inj hj1
  subst hi1
  subst hj2
  refine then_r (blk_r (then_r (then_r (blk_r (then_r (?_))))))
  refine bp_ret HF (res_two rfl HF rfl rfl) ?_
  exact ⟨rfl, HT⟩
  have h := (if_neg hb5).symm.trans h
  refine wc_move HF nS rfl (HF.wy rfl rfl rfl rfl (decide_eq_false hb5)) rfl (fun a HF => ?_)
  refine wc_move HF nS rfl (HF.wy rfl rfl rfl rfl (decide_eq_false hb5)) rfl (fun a HF => ?_)
  obtain ⟨c3, hx6, h⟩ := obs h
  refine wc_index HF nS Try.underlying9 rfl rfl hx6 (HF.wy rfl rfl rfl rfl (decide_eq_false hb5)) rfl (fun a HF => ?_)
  refine wc_bin HF nS rfl rfl b_gt (HF.wy rfl rfl rfl rfl (decide_eq_false hb5)) rfl (fun a HF => ?_)
  refine wc_pick (b := false) HF nS rfl (decide_eq_false hb5) rfl rfl rfl (fun a HF => ?_)
  refine wc_end ?_
  refine then_n ?_
  by_cases hb6 : 57 < (c3.toNat : Int)
  have h := (if_pos hb6).symm.trans h
  refine wp_if (b' := true) HF rfl (decide_eq_true hb6) ?_
  refine wp_seq ?_
  refine wc_text ?_
  refine wc_assign HF nS rfl rfl rfl (fun a HF => ?_)
  refine wc_assign HF nS rfl rfl rfl (fun a HF => ?_)
  refine wc_end ?_
  refine then_n ?_
  refine wp_ret ?_
  obtain rfl := Option.some.inj h
  have h := retL hk1
  have hj3 := Option.some.inj h
  obtain ⟨hi3, hj4⟩ := Prod.mk.inj hj3
  subst hi3
  subst hj4
  refine then_r (blk_r (then_r (then_r (blk_r (then_r (?_))))))
  refine bp_ret HF (res_two rfl HF rfl rfl) ?_
  exact ⟨rfl, HT⟩
  have h := (if_neg hb6).symm.trans h
  refine wp_if (b' := false) HF rfl (decide_eq_false hb6) ?_
  refine wp_skip ?_
  refine then_n ?_
  refine wc_text ?_
  refine wc_move HF nS rfl rfl rfl (fun a HF => ?_)
  obtain ⟨hg2, h⟩ := grd h
  refine wc_bin HF nS rfl rfl (b_mul hg2) rfl rfl (fun a HF => ?_)
  refine wc_move HF nS rfl rfl rfl (fun a HF => ?_)
  refine wc_move HF nS rfl rfl rfl (fun a HF => ?_)
  obtain ⟨c4, hx7, h⟩ := obs h
  refine wc_index HF nS Try.underlying9 rfl rfl hx7 rfl rfl (fun a HF => ?_)
  refine wc_bin HF nS rfl rfl b_subu rfl rfl (fun a HF => ?_)
  refine wc_cvu HF nS Try.underlying3 Try.underlying5 rfl rfl rfl (fun a HF => ?_)
  obtain ⟨hg3, h⟩ := grd h
  refine wc_bin HF nS rfl rfl (b_add hg3) rfl rfl (fun a HF => ?_)
  refine wc_assign HF nS rfl rfl rfl (fun a HF => ?_)
  refine wc_end ?_
  refine blk_n ?_
  refine then_n ?_
  refine wc_text ?_
  refine wc_move HF nS rfl rfl rfl (fun a HF => ?_)
  obtain ⟨hg4, h⟩ := grd h
  refine wc_bin HF nS rfl rfl (b_add hg4) rfl rfl (fun a HF => ?_)
  refine wc_assign HF nS rfl rfl rfl (fun a HF => ?_)
  refine wc_end ?_
  exact then_n ⟨k1, Nat.lt_succ_self k1, (10 * z3) + ((b8 ((c4.toNat : Int) - 48)).toNat : Int), z4 + 1, h, (HF.keep (HF.keep (HF.keep (HF.keep HF.nil rfl) rfl) rfl) rfl), HT⟩
  have h := (if_neg hb4).symm.trans h
  refine wp_if (b' := false) HF rfl (decide_eq_false hb4) ?_
  refine wp_exit ?_
  refine then_x (then_x (?_))
  refine blk_x ?_
  exact then_n ⟨z3, (Option.some.inj h).symm, (HF.keep (HF.keep (HF.keep HF.nil rfl) rfl) rfl), HT⟩
  rintro a w ⟨z2, rfl, HF, HT⟩
  have h := brkL1u h
  refine ?_
  obtain ⟨z5, hx8, h⟩ := obs h
  refine wp_cut (fun a w => Fr a 55 [(0, sv x0), (5, .int .i64 z5)] ∧ St w0 (fun _ => False) w []) ?_ ?_
  have hk1 := h
  have h := hx8
  refine wp_seq ?_
  refine wc_text ?_
  refine wc_move HF nS rfl rfl rfl (fun a HF => ?_)
  refine wc_bin HF nS rfl rfl b_eq rfl rfl (fun a HF => ?_)
  refine wc_end ?_
  refine then_n ?_
  by_cases hb7 : z1 = 1
  have h := (if_pos hb7).symm.trans h
  refine wp_if (b' := true) HF rfl (decide_eq_true hb7) ?_
  refine wc_text ?_
  refine wc_move HF nS rfl rfl rfl (fun a HF => ?_)
  obtain ⟨hg5, h⟩ := grd h
  refine wc_neg HF nS rfl hg5 rfl rfl (fun a HF => ?_)
  refine wc_assign HF nS rfl rfl rfl (fun a HF => ?_)
  refine wc_end ?_
  obtain rfl := Option.some.inj h
  exact then_n ⟨(HF.keep (HF.keep HF.nil rfl) rfl), HT⟩
  have h := (if_neg hb7).symm.trans h
  refine wp_if (b' := false) HF rfl (decide_eq_false hb7) ?_
  refine wp_skip ?_
  obtain rfl := Option.some.inj h
  exact then_n ⟨(HF.keep (HF.keep HF.nil rfl) rfl), HT⟩
  rintro a w ⟨HF, HT⟩
  refine ?_
  refine wp_seq ?_
  refine wp_seq ?_
  refine wc_text ?_
  refine wc_move HF nS rfl rfl rfl (fun a HF => ?_)
  obtain ⟨y2, hx9, h⟩ := obs h
  refine wc_call HF cf47 rfl (w_impl_Dec fuel hx9) rfl rfl ?_
  rintro e w ⟨rfl, hE⟩
  have hb := hE.below
  have HT := HT.pure hE
  have HT : St w0 (fun _ => False) w [] := HT
  refine ⟨_, rfl, nS, fun a HF => ?_⟩
  refine wc_move HF nS rfl rfl rfl (fun a HF => ?_)
  refine wc_bin HF nS rfl rfl b_sne rfl rfl (fun a HF => ?_)
  refine wc_end ?_
  refine then_n ?_
  by_cases hb8 : y2 = x0
  have h := (if_pos hb8).symm.trans h
  refine wp_if (b' := false) HF rfl (notT (decide_eq_true hb8)) ?_
  refine wp_skip ?_
  refine then_n ?_
  refine wp_seq ?_
  refine wc_text ?_
  refine wc_move HF nS rfl rfl rfl (fun a HF => ?_)
  refine wc_assign HF nS rfl rfl rfl (fun a HF => ?_)
  refine wc_assign HF nS rfl rfl rfl (fun a HF => ?_)
  refine wc_end ?_
  refine then_n ?_
  refine wp_ret ?_
  have hj5 := Option.some.inj h
  obtain ⟨hi5, hj6⟩ := Prod.mk.inj hj5
  subst hi5
  subst hj6
  refine bp_ret HF (res_two rfl HF rfl rfl) ?_
  exact ⟨rfl, HT⟩
  have h := (if_neg hb8).symm.trans h
  refine wp_if (b' := true) HF rfl (notF (decide_eq_false hb8)) ?_
  refine wp_seq ?_
  refine wc_text ?_
  refine wc_assign HF nS rfl rfl rfl (fun a HF => ?_)
  refine wc_assign HF nS rfl rfl rfl (fun a HF => ?_)
  refine wc_end ?_
  refine then_n ?_
  refine wp_ret ?_
  have hj7 := Option.some.inj h
  obtain ⟨hi7, hj8⟩ := Prod.mk.inj hj7
  subst hi7
  subst hj8
  refine then_r (?_)
  refine bp_ret HF (res_two rfl HF rfl rfl) ?_
  exact ⟨rfl, HT⟩
  have h := (if_neg hb3).symm.trans h
  refine wp_if (b' := true) HF rfl (notF (Bool.eq_false_iff.2 hb3)) ?_
  refine wp_seq ?_
  refine wc_text ?_
  refine wc_assign HF nS rfl rfl rfl (fun a HF => ?_)
  refine wc_assign HF nS rfl rfl rfl (fun a HF => ?_)
  refine wc_end ?_
  refine then_n ?_
  refine wp_ret ?_
  have hj9 := Option.some.inj h
  obtain ⟨hi9, hj10⟩ := Prod.mk.inj hj9
  subst hi9
  subst hj10
  refine then_r (?_)
  refine bp_ret HF (res_two rfl HF rfl rfl) ?_
  exact ⟨rfl, HT⟩

def m_impl_isCell (fuel : Nat) (x0 : Int) : Option Bool :=
  (m_impl_within fuel x0 0 7).bind fun y1 =>
  some y1

set_option maxRecDepth 100000 in
set_option maxHeartbeats 4000000 in
theorem w_impl_isCell (fuel : Nat) {x0 : Int} {r0 : Bool} {w0 : World} (h : m_impl_isCell fuel x0 = some r0) :
    Calls Try.prog 79 #[.int .i64 x0] w0 fun e w => e = .returned (.bool r0) ∧ St w0 (fun _ => False) w [] := by
  have HT : St w0 (fun _ => False) w0 [] := St.init0
  rw [m_impl_isCell] at h
  refine calls_fr (n := 5) [.int .i64 x0] Try.func79 rfl rfl rfl (fun a HF => ?_)
  have HT : St w0 (fun _ => False) w0 [] := HT
  refine wp_seq ?_
  refine wc_text ?_
  refine wc_assign HF nS rfl rfl rfl (fun a HF => ?_)
  refine wc_end ?_
  refine then_n ?_
  refine wp_seq ?_
  refine wc_text ?_
  refine wc_move HF nS rfl rfl rfl (fun a HF => ?_)
  obtain ⟨y1, hx1, h⟩ := obs h
  refine wc_call HF cf80 rfl (w_impl_within fuel hx1) rfl rfl ?_
  rintro e w ⟨rfl, hE⟩
  have hb := hE.below
  have HT := HT.pure hE
  have HT : St w0 (fun _ => False) w [] := HT
  refine ⟨_, rfl, nS, fun a HF => ?_⟩
  refine wc_assign HF nS rfl rfl rfl (fun a HF => ?_)
  refine wc_end ?_
  refine then_n ?_
  refine wp_ret ?_
  obtain rfl := Option.some.inj h
  refine bp_ret HF (res_one rfl HF rfl) ?_
  exact ⟨rfl, HT⟩

def m_impl_isKey (fuel : Nat) (x0 : Int) : Option Bool :=
  (m_impl_within fuel x0 0 7).bind fun y1 =>
  some y1

set_option maxRecDepth 100000 in
set_option maxHeartbeats 4000000 in
theorem w_impl_isKey (fuel : Nat) {x0 : Int} {r0 : Bool} {w0 : World} (h : m_impl_isKey fuel x0 = some r0) :
    Calls Try.prog 81 #[.int .i64 x0] w0 fun e w => e = .returned (.bool r0) ∧ St w0 (fun _ => False) w [] := by
  have HT : St w0 (fun _ => False) w0 [] := St.init0
  rw [m_impl_isKey] at h
  refine calls_fr (n := 5) [.int .i64 x0] Try.func81 rfl rfl rfl (fun a HF => ?_)
  have HT : St w0 (fun _ => False) w0 [] := HT
  refine wp_seq ?_
  refine wc_text ?_
  refine wc_assign HF nS rfl rfl rfl (fun a HF => ?_)
  refine wc_end ?_
  refine then_n ?_
  refine wp_seq ?_
  refine wc_text ?_
  refine wc_move HF nS rfl rfl rfl (fun a HF => ?_)
  obtain ⟨y1, hx1, h⟩ := obs h
  refine wc_call HF cf80 rfl (w_impl_within fuel hx1) rfl rfl ?_
  rintro e w ⟨rfl, hE⟩
  have hb := hE.below
  have HT := HT.pure hE
  have HT : St w0 (fun _ => False) w [] := HT
  refine ⟨_, rfl, nS, fun a HF => ?_⟩
  refine wc_assign HF nS rfl rfl rfl (fun a HF => ?_)
  refine wc_end ?_
  refine then_n ?_
  refine wp_ret ?_
  obtain rfl := Option.some.inj h
  refine bp_ret HF (res_one rfl HF rfl) ?_
  exact ⟨rfl, HT⟩

def m_impl_isReg (fuel : Nat) (x0 : Int) : Option Bool :=
  (m_impl_within fuel x0 0 3).bind fun y1 =>
  some y1

set_option maxRecDepth 100000 in
set_option maxHeartbeats 4000000 in
theorem w_impl_isReg (fuel : Nat) {x0 : Int} {r0 : Bool} {w0 : World} (h : m_impl_isReg fuel x0 = some r0) :
    Calls Try.prog 77 #[.int .i64 x0] w0 fun e w => e = .returned (.bool r0) ∧ St w0 (fun _ => False) w [] := by
  have HT : St w0 (fun _ => False) w0 [] := St.init0
  rw [m_impl_isReg] at h
  refine calls_fr (n := 5) [.int .i64 x0] Try.func77 rfl rfl rfl (fun a HF => ?_)
  have HT : St w0 (fun _ => False) w0 [] := HT
  refine wp_seq ?_
  refine wc_text ?_
  refine wc_assign HF nS rfl rfl rfl (fun a HF => ?_)
  refine wc_end ?_
  refine then_n ?_
  refine wp_seq ?_
  refine wc_text ?_
  refine wc_move HF nS rfl rfl rfl (fun a HF => ?_)
  obtain ⟨y1, hx1, h⟩ := obs h
  refine wc_call HF cf80 rfl (w_impl_within fuel hx1) rfl rfl ?_
  rintro e w ⟨rfl, hE⟩
  have hb := hE.below
  have HT := HT.pure hE
  have HT : St w0 (fun _ => False) w [] := HT
  refine ⟨_, rfl, nS, fun a HF => ?_⟩
  refine wc_assign HF nS rfl rfl rfl (fun a HF => ?_)
  refine wc_end ?_
  refine then_n ?_
  refine wp_ret ?_
  obtain rfl := Option.some.inj h
  refine bp_ret HF (res_one rfl HF rfl) ?_
  exact ⟨rfl, HT⟩

def m_impl_isValue (fuel : Nat) (x0 : Int) : Option Bool :=
  (m_impl_within fuel x0 0 65535).bind fun y1 =>
  some y1

set_option maxRecDepth 100000 in
set_option maxHeartbeats 4000000 in
theorem w_impl_isValue (fuel : Nat) {x0 : Int} {r0 : Bool} {w0 : World} (h : m_impl_isValue fuel x0 = some r0) :
    Calls Try.prog 78 #[.int .i64 x0] w0 fun e w => e = .returned (.bool r0) ∧ St w0 (fun _ => False) w [] := by
  have HT : St w0 (fun _ => False) w0 [] := St.init0
  rw [m_impl_isValue] at h
  refine calls_fr (n := 5) [.int .i64 x0] Try.func78 rfl rfl rfl (fun a HF => ?_)
  have HT : St w0 (fun _ => False) w0 [] := HT
  refine wp_seq ?_
  refine wc_text ?_
  refine wc_assign HF nS rfl rfl rfl (fun a HF => ?_)
  refine wc_end ?_
  refine then_n ?_
  refine wp_seq ?_
  refine wc_text ?_
  refine wc_move HF nS rfl rfl rfl (fun a HF => ?_)
  obtain ⟨y1, hx1, h⟩ := obs h
  refine wc_call HF cf80 rfl (w_impl_within fuel hx1) rfl rfl ?_
  rintro e w ⟨rfl, hE⟩
  have hb := hE.below
  have HT := HT.pure hE
  have HT : St w0 (fun _ => False) w [] := HT
  refine ⟨_, rfl, nS, fun a HF => ?_⟩
  refine wc_assign HF nS rfl rfl rfl (fun a HF => ?_)
  refine wc_end ?_
  refine then_n ?_
  refine wp_ret ?_
  obtain rfl := Option.some.inj h
  refine bp_ret HF (res_one rfl HF rfl) ?_
  exact ⟨rfl, HT⟩

def m_impl_OpOk (fuel : Nat) (x0_0 : Int) (x0_1 : Int) (x0_2 : Int) (x0_3 : Int) : Option Bool :=
  (
    if x0_0 = 1 then
      (m_impl_isReg fuel x0_1).bind fun y1 =>
      if y1 = true then
        (m_impl_isValue fuel x0_2).bind fun y2 =>
        if y2 = true then
          some (.ret (decide (x0_3 = 0)))
        else
        some (.ret false)
      else
      some (.ret false)
    else
    (
      if x0_0 = 2 then
        some (decide (x0_0 = 2))
      else
      if x0_0 = 3 then
        some (decide (x0_0 = 3))
      else
      some (decide (x0_0 = 4))).bind fun z1 =>
    if z1 = true then
      (m_impl_isReg fuel x0_1).bind fun y3 =>
      if y3 = true then
        (m_impl_isReg fuel x0_2).bind fun y4 =>
        if y4 = true then
          (m_impl_isReg fuel x0_3).bind fun y5 =>
          some (.ret y5)
        else
        some (.ret false)
      else
      some (.ret false)
    else
    if x0_0 = 5 then
      (m_impl_isReg fuel x0_1).bind fun y6 =>
      if y6 = true then
        (m_impl_isCell fuel x0_2).bind fun y7 =>
        if y7 = true then
          some (.ret (decide (x0_3 = 0)))
        else
        some (.ret false)
      else
      some (.ret false)
    else
    if x0_0 = 6 then
      (m_impl_isCell fuel x0_1).bind fun y8 =>
      if y8 = true then
        (m_impl_isReg fuel x0_2).bind fun y9 =>
        if y9 = true then
          some (.ret (decide (x0_3 = 0)))
        else
        some (.ret false)
      else
      some (.ret false)
    else
    if x0_0 = 7 then
      (m_impl_isReg fuel x0_1).bind fun y10 =>
      if y10 = true then
        (m_impl_within fuel x0_2 1 20).bind fun y11 =>
        if y11 = true then
          some (.ret (decide (x0_3 = 0)))
        else
        some (.ret false)
      else
      some (.ret false)
    else
    (
      if x0_0 = 8 then
        some (decide (x0_0 = 8))
      else
      if x0_0 = 15 then
        some (decide (x0_0 = 15))
      else
      some (decide (x0_0 = 16))).bind fun z2 =>
    if z2 = true then
      (m_impl_isReg fuel x0_1).bind fun y12 =>
      if y12 = true then
        if x0_2 = 0 then
          some (.ret (decide (x0_3 = 0)))
        else
        some (.ret false)
      else
      some (.ret false)
    else
    (
      if x0_0 = 9 then
        some (decide (x0_0 = 9))
      else
      if x0_0 = 10 then
        some (decide (x0_0 = 10))
      else
      some (decide (x0_0 = 11))).bind fun z3 =>
    if z3 = true then
      if x0_1 = 0 then
        if x0_2 = 0 then
          some (.ret (decide (x0_3 = 0)))
        else
        some (.ret false)
      else
      some (.ret false)
    else
    if x0_0 = 12 then
      (m_impl_isKey fuel x0_1).bind fun y13 =>
      if y13 = true then
        (m_impl_isReg fuel x0_2).bind fun y14 =>
        if y14 = true then
          (m_impl_isReg fuel x0_3).bind fun y15 =>
          some (.ret y15)
        else
        some (.ret false)
      else
      some (.ret false)
    else
    if x0_0 = 13 then
      (m_impl_isReg fuel x0_1).bind fun y16 =>
      if y16 = true then
        (m_impl_isKey fuel x0_2).bind fun y17 =>
        if y17 = true then
          some (.ret (decide (x0_3 = 0)))
        else
        some (.ret false)
      else
      some (.ret false)
    else
    if x0_0 = 14 then
      (m_impl_isKey fuel x0_1).bind fun y18 =>
      if y18 = true then
        (m_impl_isReg fuel x0_2).bind fun y19 =>
        if y19 = true then
          some (.ret (decide (x0_3 = 0)))
        else
        some (.ret false)
      else
      some (.ret false)
    else
    some (.brk ())).bind <| contL <| un1 fun _ =>
  some false

set_option maxRecDepth 100000 in
set_option maxHeartbeats 4000000 in
theorem w_impl_OpOk (fuel : Nat) {x0_0 : Int} {x0_1 : Int} {x0_2 : Int} {x0_3 : Int} {r0 : Bool} {w0 : World} (h : m_impl_OpOk fuel x0_0 x0_1 x0_2 x0_3 = some r0) :
    Calls Try.prog 44 #[.agg #[.int .i64 x0_0, .int .i64 x0_1, .int .i64 x0_2, .int .i64 x0_3]] w0 fun e w => e = .returned (.bool r0) ∧ St w0 (fun _ => False) w [] := by
  have HT : St w0 (fun _ => False) w0 [] := St.init0
  rw [m_impl_OpOk] at h
  refine calls_fr (n := 161) [.agg #[.int .i64 x0_0, .int .i64 x0_1, .int .i64 x0_2, .int .i64 x0_3]] Try.func44 rfl rfl rfl (fun a HF => ?_)
  have HT : St w0 (fun _ => False) w0 [] := HT
  refine wp_seq ?_
  refine wc_text ?_
  refine wc_box (cs := [.int .i64 x0_0, .int .i64 x0_1, .int .i64 x0_2, .int .i64 x0_3]) HF HT rfl rfl rfl rfl (fun p1 w HT hb => ⟨nS, fun a HF => ?_⟩)
  refine wc_assign HF nS rfl rfl rfl (fun a HF => ?_)
  refine wc_end ?_
  refine then_n ?_
  obtain ⟨q1, hx1, h⟩ := obs h
  refine wp_cut (fun a w => q1 = .brk () ∧ Fr a 161 [] ∧ St w0 (fun _ => False) w []) ?_ ?_
  have hk1 := h
  have h := hx1
  refine wp_seq ?_
  refine wc_text ?_
  refine wc_faddr HF nS rfl fl25_0 rfl rfl (fun a HF => ?_)
  refine wc_load HF rfl sc3 ((HT.boxAt 0 rfl).get 0 rfl) rfl rfl (fun a HF => ?_)
  refine wc_end ?_
  refine then_n ?_
  refine wp_block ?_
  refine wp_seq ?_
  refine wc_text ?_
  refine wc_bin HF nS rfl rfl b_eq rfl rfl (fun a HF => ?_)
  refine wc_assign HF nS rfl rfl rfl (fun a HF => ?_)
  refine wc_end ?_
  refine then_n ?_
  by_cases hb1 : x0_0 = 1
  have h := (if_pos hb1).symm.trans h
  refine wp_if (b' := true) HF rfl (decide_eq_true hb1) ?_
  refine wp_seq ?_
  refine wc_text ?_
  refine wc_faddr HF nS rfl fl25_1 rfl rfl (fun a HF => ?_)
  refine wc_load HF rfl sc3 ((HT.boxAt 0 rfl).get 1 rfl) rfl rfl (fun a HF => ?_)
  obtain ⟨y1, hx2, h⟩ := obs h
  refine wc_call HF cf77 rfl (w_impl_isReg fuel hx2) rfl rfl ?_
  rintro e w ⟨rfl, hE⟩
  have hb := hE.below
  have HT := HT.pure hE
  have HT : St w0 (fun _ => False) w [Box p1 [.int .i64 x0_0, .int .i64 x0_1, .int .i64 x0_2, .int .i64 x0_3]] := HT
  refine ⟨_, rfl, nS, fun a HF => ?_⟩
  refine wc_move HF nS rfl rfl rfl (fun a HF => ?_)
  by_cases hb2 : y1 = true
  have h := (if_pos hb2).symm.trans h
  refine wc_faddr HF nS rfl fl25_2 (HF.wy rfl rfl rfl rfl hb2) rfl (fun a HF => ?_)
  refine wc_load HF rfl sc3 ((HT.boxAt 0 rfl).get 2 rfl) (HF.wy rfl rfl rfl rfl hb2) rfl (fun a HF => ?_)
  obtain ⟨y2, hx3, h⟩ := obs h
  refine wc_call HF cf78 rfl (w_impl_isValue fuel hx3) (HF.wy rfl rfl rfl rfl hb2) rfl ?_
  rintro e w ⟨rfl, hE⟩
  have hb := hE.below
  have HT := HT.pure hE
  have HT : St w0 (fun _ => False) w [Box p1 [.int .i64 x0_0, .int .i64 x0_1, .int .i64 x0_2, .int .i64 x0_3]] := HT
  refine ⟨_, rfl, nS, fun a HF => ?_⟩
  refine wc_pick (b := true) HF nS rfl hb2 rfl rfl rfl (fun a HF => ?_)
  refine wc_move HF nS rfl rfl rfl (fun a HF => ?_)
  by_cases hb3 : y2 = true
  have h := (if_pos hb3).symm.trans h
  refine wc_faddr HF nS rfl fl25_3 (HF.wy rfl rfl rfl rfl hb3) rfl (fun a HF => ?_)
  refine wc_load HF rfl sc3 ((HT.boxAt 0 rfl).get 3 rfl) (HF.wy rfl rfl rfl rfl hb3) rfl (fun a HF => ?_)
  refine wc_bin HF nS rfl rfl b_eq (HF.wy rfl rfl rfl rfl hb3) rfl (fun a HF => ?_)
  refine wc_pick (b := true) HF nS rfl hb3 rfl rfl rfl (fun a HF => ?_)
  refine wc_assign HF nS rfl rfl rfl (fun a HF => ?_)
  refine wc_end ?_
  refine then_n ?_
  refine wp_ret ?_
  obtain rfl := Option.some.inj h
  have h := retL hk1
  obtain rfl := Option.some.inj h
  refine blk_r (then_r (?_))
  refine bp_ret HF (res_one rfl HF rfl) ?_
  have HT := HT.t0
  exact ⟨rfl, HT⟩
  have h := (if_neg hb3).symm.trans h
  refine wc_skip HF nS (HF.wn rfl rfl rfl rfl (Bool.eq_false_iff.2 hb3)) rfl (fun a HF => ?_)
  refine wc_skip HF nS (HF.wn rfl rfl rfl rfl (Bool.eq_false_iff.2 hb3)) rfl (fun a HF => ?_)
  refine wc_skip HF nS (HF.wn rfl rfl rfl rfl (Bool.eq_false_iff.2 hb3)) rfl (fun a HF => ?_)
  refine wc_pick (b := false) HF nS rfl (Bool.eq_false_iff.2 hb3) rfl rfl rfl (fun a HF => ?_)
  refine wc_assign HF nS rfl rfl rfl (fun a HF => ?_)
  refine wc_end ?_
  refine then_n ?_
  refine wp_ret ?_
  obtain rfl := Option.some.inj h
  have h := retL hk1
  obtain rfl := Option.some.inj h
  refine blk_r (then_r (?_))
  refine bp_ret HF (res_one rfl HF rfl) ?_
  have HT := HT.t0
  exact ⟨rfl, HT⟩
  have h := (if_neg hb2).symm.trans h
  refine wc_skip HF nS (HF.wn rfl rfl rfl rfl (Bool.eq_false_iff.2 hb2)) rfl (fun a HF => ?_)
  refine wc_skip HF nS (HF.wn rfl rfl rfl rfl (Bool.eq_false_iff.2 hb2)) rfl (fun a HF => ?_)
  refine wc_skip HF nS (HF.wn rfl rfl rfl rfl (Bool.eq_false_iff.2 hb2)) rfl (fun a HF => ?_)
  refine wc_pick (b := false) HF nS rfl (Bool.eq_false_iff.2 hb2) rfl rfl rfl (fun a HF => ?_)
  refine wc_move HF nS rfl rfl rfl (fun a HF => ?_)
  refine wc_skip HF nS (HF.wn rfl rfl rfl rfl rfl) rfl (fun a HF => ?_)
  refine wc_skip HF nS (HF.wn rfl rfl rfl rfl rfl) rfl (fun a HF => ?_)
  refine wc_skip HF nS (HF.wn rfl rfl rfl rfl rfl) rfl (fun a HF => ?_)
  refine wc_pick (b := false) HF nS rfl rfl rfl rfl rfl (fun a HF => ?_)
  refine wc_assign HF nS rfl rfl rfl (fun a HF => ?_)
  refine wc_end ?_
  refine then_n ?_
  refine wp_ret ?_
  obtain rfl := Option.some.inj h
  have h := retL hk1
  obtain rfl := Option.some.inj h
  refine blk_r (then_r (?_))
  refine bp_ret HF (res_one rfl HF rfl) ?_
  have HT := HT.t0
  exact ⟨rfl, HT⟩
  have h := (if_neg hb1).symm.trans h
  refine wp_if (b' := false) HF rfl (decide_eq_false hb1) ?_
  obtain ⟨z1, hx4, h⟩ := obs h
  refine wp_cut (fun a w => Fr a 161 [(1, .pointer (some ⟨p1, 0, none⟩)), (4, .int .i64 x0_0), (20, .bool z1)] ∧ St w0 (fun _ => False) w [Box p1 [.int .i64 x0_0, .int .i64 x0_1, .int .i64 x0_2, .int .i64 x0_3]]) ?_ ?_
  have hk2 := h
  have h := hx4
  refine wp_seq ?_
  refine wc_text ?_
  refine wc_bin HF nS rfl rfl b_eq rfl rfl (fun a HF => ?_)
  refine wc_assign HF nS rfl rfl rfl (fun a HF => ?_)
  refine wc_end ?_
  refine then_n ?_
  by_cases hb4 : x0_0 = 2
  have h := (if_pos hb4).symm.trans h
  refine wp_if (b' := true) HF rfl (decide_eq_true hb4) ?_
  refine wp_skip ?_
  obtain rfl := Option.some.inj h
  exact then_n ⟨(HF.keep (HF.keep (HF.keep HF.nil rfl) rfl) rfl), HT⟩
  have h := (if_neg hb4).symm.trans h
  refine wp_if (b' := false) HF rfl (decide_eq_false hb4) ?_
  refine wp_seq ?_
  refine wc_text ?_
  refine wc_bin HF nS rfl rfl b_eq rfl rfl (fun a HF => ?_)
  refine wc_assign HF nS rfl rfl rfl (fun a HF => ?_)
  refine wc_end ?_
  refine then_n ?_
  by_cases hb5 : x0_0 = 3
  have h := (if_pos hb5).symm.trans h
  refine wp_if (b' := true) HF rfl (decide_eq_true hb5) ?_
  refine wp_skip ?_
  obtain rfl := Option.some.inj h
  exact then_n ⟨(HF.keep (HF.keep (HF.keep HF.nil rfl) rfl) rfl), HT⟩
  have h := (if_neg hb5).symm.trans h
  refine wp_if (b' := false) HF rfl (decide_eq_false hb5) ?_
  refine wc_text ?_
  refine wc_bin HF nS rfl rfl b_eq rfl rfl (fun a HF => ?_)
  refine wc_assign HF nS rfl rfl rfl (fun a HF => ?_)
  refine wc_end ?_
  obtain rfl := Option.some.inj h
  exact then_n ⟨(HF.keep (HF.keep (HF.keep HF.nil rfl) rfl) rfl), HT⟩
  rintro a w ⟨HF, HT⟩
  refine ?_
  by_cases hb6 : z1 = true
  have h := (if_pos hb6).symm.trans h
  refine wp_if (b' := true) HF rfl hb6 ?_
  refine wp_seq ?_
  refine wc_text ?_
  refine wc_faddr HF nS rfl fl25_1 rfl rfl (fun a HF => ?_)
  refine wc_load HF rfl sc3 ((HT.boxAt 0 rfl).get 1 rfl) rfl rfl (fun a HF => ?_)
  obtain ⟨y3, hx5, h⟩ := obs h
  refine wc_call HF cf77 rfl (w_impl_isReg fuel hx5) rfl rfl ?_
  rintro e w ⟨rfl, hE⟩
  have hb := hE.below
  have HT := HT.pure hE
  have HT : St w0 (fun _ => False) w [Box p1 [.int .i64 x0_0, .int .i64 x0_1, .int .i64 x0_2, .int .i64 x0_3]] := HT
  refine ⟨_, rfl, nS, fun a HF => ?_⟩
  refine wc_move HF nS rfl rfl rfl (fun a HF => ?_)
  by_cases hb7 : y3 = true
  have h := (if_pos hb7).symm.trans h
  refine wc_faddr HF nS rfl fl25_2 (HF.wy rfl rfl rfl rfl hb7) rfl (fun a HF => ?_)
  refine wc_load HF rfl sc3 ((HT.boxAt 0 rfl).get 2 rfl) (HF.wy rfl rfl rfl rfl hb7) rfl (fun a HF => ?_)
  obtain ⟨y4, hx6, h⟩ := obs h
  refine wc_call HF cf77 rfl (w_impl_isReg fuel hx6) (HF.wy rfl rfl rfl rfl hb7) rfl ?_
  rintro e w ⟨rfl, hE⟩
  have hb := hE.below
  have HT := HT.pure hE
  have HT : St w0 (fun _ => False) w [Box p1 [.int .i64 x0_0, .int .i64 x0_1, .int .i64 x0_2, .int .i64 x0_3]] := HT
  refine ⟨_, rfl, nS, fun a HF => ?_⟩
  refine wc_pick (b := true) HF nS rfl hb7 rfl rfl rfl (fun a HF => ?_)
  refine wc_move HF nS rfl rfl rfl (fun a HF => ?_)
  by_cases hb8 : y4 = true
  have h := (if_pos hb8).symm.trans h
  refine wc_faddr HF nS rfl fl25_3 (HF.wy rfl rfl rfl rfl hb8) rfl (fun a HF => ?_)
  refine wc_load HF rfl sc3 ((HT.boxAt 0 rfl).get 3 rfl) (HF.wy rfl rfl rfl rfl hb8) rfl (fun a HF => ?_)
  obtain ⟨y5, hx7, h⟩ := obs h
  refine wc_call HF cf77 rfl (w_impl_isReg fuel hx7) (HF.wy rfl rfl rfl rfl hb8) rfl ?_
  rintro e w ⟨rfl, hE⟩
  have hb := hE.below
  have HT := HT.pure hE
  have HT : St w0 (fun _ => False) w [Box p1 [.int .i64 x0_0, .int .i64 x0_1, .int .i64 x0_2, .int .i64 x0_3]] := HT
  refine ⟨_, rfl, nS, fun a HF => ?_⟩
  refine wc_pick (b := true) HF nS rfl hb8 rfl rfl rfl (fun a HF => ?_)
  refine wc_assign HF nS rfl rfl rfl (fun a HF => ?_)
  refine wc_end ?_
  refine then_n ?_
  refine wp_ret ?_
  obtain rfl := Option.some.inj h
  have h := retL hk1
  obtain rfl := Option.some.inj h
  refine blk_r (then_r (?_))
  refine bp_ret HF (res_one rfl HF rfl) ?_
  have HT := HT.t0
  exact ⟨rfl, HT⟩
  have h := (if_neg hb8).symm.trans h
  refine wc_skip HF nS (HF.wn rfl rfl rfl rfl (Bool.eq_false_iff.2 hb8)) rfl (fun a HF => ?_)
  refine wc_skip HF nS (HF.wn rfl rfl rfl rfl (Bool.eq_false_iff.2 hb8)) rfl (fun a HF => ?_)
  refine wc_skip HF nS (HF.wn rfl rfl rfl rfl (Bool.eq_false_iff.2 hb8)) rfl (fun a HF => ?_)
  refine wc_pick (b := false) HF nS rfl (Bool.eq_false_iff.2 hb8) rfl rfl rfl (fun a HF => ?_)
  refine wc_assign HF nS rfl rfl rfl (fun a HF => ?_)
  refine wc_end ?_
  refine then_n ?_
  refine wp_ret ?_
  obtain rfl := Option.some.inj h
  have h := retL hk1
  obtain rfl := Option.some.inj h
  refine blk_r (then_r (?_))
  refine bp_ret HF (res_one rfl HF rfl) ?_
  have HT := HT.t0
  exact ⟨rfl, HT⟩
  have h := (if_neg hb7).symm.trans h
  refine wc_skip HF nS (HF.wn rfl rfl rfl rfl (Bool.eq_false_iff.2 hb7)) rfl (fun a HF => ?_)
  refine wc_skip HF nS (HF.wn rfl rfl rfl rfl (Bool.eq_false_iff.2 hb7)) rfl (fun a HF => ?_)
  refine wc_skip HF nS (HF.wn rfl rfl rfl rfl (Bool.eq_false_iff.2 hb7)) rfl (fun a HF => ?_)
  refine wc_pick (b := false) HF nS rfl (Bool.eq_false_iff.2 hb7) rfl rfl rfl (fun a HF => ?_)
  refine wc_move HF nS rfl rfl rfl (fun a HF => ?_)
  refine wc_skip HF nS (HF.wn rfl rfl rfl rfl rfl) rfl (fun a HF => ?_)
  refine wc_skip HF nS (HF.wn rfl rfl rfl rfl rfl) rfl (fun a HF => ?_)
  refine wc_skip HF nS (HF.wn rfl rfl rfl rfl rfl) rfl (fun a HF => ?_)
  refine wc_pick (b := false) HF nS rfl rfl rfl rfl rfl (fun a HF => ?_)
  refine wc_assign HF nS rfl rfl rfl (fun a HF => ?_)
  refine wc_end ?_
  refine then_n ?_
  refine wp_ret ?_
  obtain rfl := Option.some.inj h
  have h := retL hk1
  obtain rfl := Option.some.inj h
  refine blk_r (then_r (?_))
  refine bp_ret HF (res_one rfl HF rfl) ?_
  have HT := HT.t0
  exact ⟨rfl, HT⟩
  have h := (if_neg hb6).symm.trans h
  refine wp_if (b' := false) HF rfl (Bool.eq_false_iff.2 hb6) ?_
  refine wp_seq ?_
  refine wc_text ?_
  refine wc_bin HF nS rfl rfl b_eq rfl rfl (fun a HF => ?_)
  refine wc_assign HF nS rfl rfl rfl (fun a HF => ?_)
  refine wc_end ?_
  refine then_n ?_
  by_cases hb9 : x0_0 = 5
  have h := (if_pos hb9).symm.trans h
  refine wp_if (b' := true) HF rfl (decide_eq_true hb9) ?_
  refine wp_seq ?_
  refine wc_text ?_
  refine wc_faddr HF nS rfl fl25_1 rfl rfl (fun a HF => ?_)
  refine wc_load HF rfl sc3 ((HT.boxAt 0 rfl).get 1 rfl) rfl rfl (fun a HF => ?_)
  obtain ⟨y6, hx8, h⟩ := obs h
  refine wc_call HF cf77 rfl (w_impl_isReg fuel hx8) rfl rfl ?_
  rintro e w ⟨rfl, hE⟩
  have hb := hE.below
  have HT := HT.pure hE
  have HT : St w0 (fun _ => False) w [Box p1 [.int .i64 x0_0, .int .i64 x0_1, .int .i64 x0_2, .int .i64 x0_3]] := HT
  refine ⟨_, rfl, nS, fun a HF => ?_⟩
  refine wc_move HF nS rfl rfl rfl (fun a HF => ?_)
  by_cases hb10 : y6 = true
  have h := (if_pos hb10).symm.trans h
  refine wc_faddr HF nS rfl fl25_2 (HF.wy rfl rfl rfl rfl hb10) rfl (fun a HF => ?_)
  refine wc_load HF rfl sc3 ((HT.boxAt 0 rfl).get 2 rfl) (HF.wy rfl rfl rfl rfl hb10) rfl (fun a HF => ?_)
  obtain ⟨y7, hx9, h⟩ := obs h
  refine wc_call HF cf79 rfl (w_impl_isCell fuel hx9) (HF.wy rfl rfl rfl rfl hb10) rfl ?_
  rintro e w ⟨rfl, hE⟩
  have hb := hE.below
  have HT := HT.pure hE
  have HT : St w0 (fun _ => False) w [Box p1 [.int .i64 x0_0, .int .i64 x0_1, .int .i64 x0_2, .int .i64 x0_3]] := HT
  refine ⟨_, rfl, nS, fun a HF => ?_⟩
  refine wc_pick (b := true) HF nS rfl hb10 rfl rfl rfl (fun a HF => ?_)
  refine wc_move HF nS rfl rfl rfl (fun a HF => ?_)
  by_cases hb11 : y7 = true
  have h := (if_pos hb11).symm.trans h
  refine wc_faddr HF nS rfl fl25_3 (HF.wy rfl rfl rfl rfl hb11) rfl (fun a HF => ?_)
  refine wc_load HF rfl sc3 ((HT.boxAt 0 rfl).get 3 rfl) (HF.wy rfl rfl rfl rfl hb11) rfl (fun a HF => ?_)
  refine wc_bin HF nS rfl rfl b_eq (HF.wy rfl rfl rfl rfl hb11) rfl (fun a HF => ?_)
  refine wc_pick (b := true) HF nS rfl hb11 rfl rfl rfl (fun a HF => ?_)
  refine wc_assign HF nS rfl rfl rfl (fun a HF => ?_)
  refine wc_end ?_
  refine then_n ?_
  refine wp_ret ?_
  obtain rfl := Option.some.inj h
  have h := retL hk1
  obtain rfl := Option.some.inj h
  refine blk_r (then_r (?_))
  refine bp_ret HF (res_one rfl HF rfl) ?_
  have HT := HT.t0
  exact ⟨rfl, HT⟩
  have h := (if_neg hb11).symm.trans h
  refine wc_skip HF nS (HF.wn rfl rfl rfl rfl (Bool.eq_false_iff.2 hb11)) rfl (fun a HF => ?_)
  refine wc_skip HF nS (HF.wn rfl rfl rfl rfl (Bool.eq_false_iff.2 hb11)) rfl (fun a HF => ?_)
  refine wc_skip HF nS (HF.wn rfl rfl rfl rfl (Bool.eq_false_iff.2 hb11)) rfl (fun a HF => ?_)
  refine wc_pick (b := false) HF nS rfl (Bool.eq_false_iff.2 hb11) rfl rfl rfl (fun a HF => ?_)
  refine wc_assign HF nS rfl rfl rfl (fun a HF => ?_)
  refine wc_end ?_
  refine then_n ?_
  refine wp_ret ?_
  obtain rfl := Option.some.inj h
  have h := retL hk1
  obtain rfl := Option.some.inj h
  refine blk_r (then_r (?_))
  refine bp_ret HF (res_one rfl HF rfl) ?_
  have HT := HT.t0
  exact ⟨rfl, HT⟩
  have h := (if_neg hb10).symm.trans h
  refine wc_skip HF nS (HF.wn rfl rfl rfl rfl (Bool.eq_false_iff.2 hb10)) rfl (fun a HF => ?_)
  refine wc_skip HF nS (HF.wn rfl rfl rfl rfl (Bool.eq_false_iff.2 hb10)) rfl (fun a HF => ?_)
  refine wc_skip HF nS (HF.wn rfl rfl rfl rfl (Bool.eq_false_iff.2 hb10)) rfl (fun a HF => ?_)
  refine wc_pick (b := false) HF nS rfl (Bool.eq_false_iff.2 hb10) rfl rfl rfl (fun a HF => ?_)
  refine wc_move HF nS rfl rfl rfl (fun a HF => ?_)
  refine wc_skip HF nS (HF.wn rfl rfl rfl rfl rfl) rfl (fun a HF => ?_)
  refine wc_skip HF nS (HF.wn rfl rfl rfl rfl rfl) rfl (fun a HF => ?_)
  refine wc_skip HF nS (HF.wn rfl rfl rfl rfl rfl) rfl (fun a HF => ?_)
  refine wc_pick (b := false) HF nS rfl rfl rfl rfl rfl (fun a HF => ?_)
  refine wc_assign HF nS rfl rfl rfl (fun a HF => ?_)
  refine wc_end ?_
  refine then_n ?_
  refine wp_ret ?_
  obtain rfl := Option.some.inj h
  have h := retL hk1
  obtain rfl := Option.some.inj h
  refine blk_r (then_r (?_))
  refine bp_ret HF (res_one rfl HF rfl) ?_
  have HT := HT.t0
  exact ⟨rfl, HT⟩
  have h := (if_neg hb9).symm.trans h
  refine wp_if (b' := false) HF rfl (decide_eq_false hb9) ?_
  refine wp_seq ?_
  refine wc_text ?_
  refine wc_bin HF nS rfl rfl b_eq rfl rfl (fun a HF => ?_)
  refine wc_assign HF nS rfl rfl rfl (fun a HF => ?_)
  refine wc_end ?_
  refine then_n ?_
  by_cases hb12 : x0_0 = 6
  have h := (if_pos hb12).symm.trans h
  refine wp_if (b' := true) HF rfl (decide_eq_true hb12) ?_
  refine wp_seq ?_
  refine wc_text ?_
  refine wc_faddr HF nS rfl fl25_1 rfl rfl (fun a HF => ?_)
  refine wc_load HF rfl sc3 ((HT.boxAt 0 rfl).get 1 rfl) rfl rfl (fun a HF => ?_)
  obtain ⟨y8, hx10, h⟩ := obs h
  refine wc_call HF cf79 rfl (w_impl_isCell fuel hx10) rfl rfl ?_
  rintro e w ⟨rfl, hE⟩
  have hb := hE.below
  have HT := HT.pure hE
  have HT : St w0 (fun _ => False) w [Box p1 [.int .i64 x0_0, .int .i64 x0_1, .int .i64 x0_2, .int .i64 x0_3]] := HT
  refine ⟨_, rfl, nS, fun a HF => ?_⟩
  refine wc_move HF nS rfl rfl rfl (fun a HF => ?_)
  by_cases hb13 : y8 = true
  have h := (if_pos hb13).symm.trans h
  refine wc_faddr HF nS rfl fl25_2 (HF.wy rfl rfl rfl rfl hb13) rfl (fun a HF => ?_)
  refine wc_load HF rfl sc3 ((HT.boxAt 0 rfl).get 2 rfl) (HF.wy rfl rfl rfl rfl hb13) rfl (fun a HF => ?_)
  obtain ⟨y9, hx11, h⟩ := obs h
  refine wc_call HF cf77 rfl (w_impl_isReg fuel hx11) (HF.wy rfl rfl rfl rfl hb13) rfl ?_
  rintro e w ⟨rfl, hE⟩
  have hb := hE.below
  have HT := HT.pure hE
  have HT : St w0 (fun _ => False) w [Box p1 [.int .i64 x0_0, .int .i64 x0_1, .int .i64 x0_2, .int .i64 x0_3]] := HT
  refine ⟨_, rfl, nS, fun a HF => ?_⟩
  refine wc_pick (b := true) HF nS rfl hb13 rfl rfl rfl (fun a HF => ?_)
  refine wc_move HF nS rfl rfl rfl (fun a HF => ?_)
  by_cases hb14 : y9 = true
  have h := (if_pos hb14).symm.trans h
  refine wc_faddr HF nS rfl fl25_3 (HF.wy rfl rfl rfl rfl hb14) rfl (fun a HF => ?_)
  refine wc_load HF rfl sc3 ((HT.boxAt 0 rfl).get 3 rfl) (HF.wy rfl rfl rfl rfl hb14) rfl (fun a HF => ?_)
  refine wc_bin HF nS rfl rfl b_eq (HF.wy rfl rfl rfl rfl hb14) rfl (fun a HF => ?_)
  refine wc_pick (b := true) HF nS rfl hb14 rfl rfl rfl (fun a HF => ?_)
  refine wc_assign HF nS rfl rfl rfl (fun a HF => ?_)
  refine wc_end ?_
  refine then_n ?_
  refine wp_ret ?_
  obtain rfl := Option.some.inj h
  have h := retL hk1
  obtain rfl := Option.some.inj h
  refine blk_r (then_r (?_))
  refine bp_ret HF (res_one rfl HF rfl) ?_
  have HT := HT.t0
  exact ⟨rfl, HT⟩
  have h := (if_neg hb14).symm.trans h
  refine wc_skip HF nS (HF.wn rfl rfl rfl rfl (Bool.eq_false_iff.2 hb14)) rfl (fun a HF => ?_)
  refine wc_skip HF nS (HF.wn rfl rfl rfl rfl (Bool.eq_false_iff.2 hb14)) rfl (fun a HF => ?_)
  refine wc_skip HF nS (HF.wn rfl rfl rfl rfl (Bool.eq_false_iff.2 hb14)) rfl (fun a HF => ?_)
  refine wc_pick (b := false) HF nS rfl (Bool.eq_false_iff.2 hb14) rfl rfl rfl (fun a HF => ?_)
  refine wc_assign HF nS rfl rfl rfl (fun a HF => ?_)
  refine wc_end ?_
  refine then_n ?_
  refine wp_ret ?_
  obtain rfl := Option.some.inj h
  have h := retL hk1
  obtain rfl := Option.some.inj h
  refine blk_r (then_r (?_))
  refine bp_ret HF (res_one rfl HF rfl) ?_
  have HT := HT.t0
  exact ⟨rfl, HT⟩
  have h := (if_neg hb13).symm.trans h
  refine wc_skip HF nS (HF.wn rfl rfl rfl rfl (Bool.eq_false_iff.2 hb13)) rfl (fun a HF => ?_)
  refine wc_skip HF nS (HF.wn rfl rfl rfl rfl (Bool.eq_false_iff.2 hb13)) rfl (fun a HF => ?_)
  refine wc_skip HF nS (HF.wn rfl rfl rfl rfl (Bool.eq_false_iff.2 hb13)) rfl (fun a HF => ?_)
  refine wc_pick (b := false) HF nS rfl (Bool.eq_false_iff.2 hb13) rfl rfl rfl (fun a HF => ?_)
  refine wc_move HF nS rfl rfl rfl (fun a HF => ?_)
  refine wc_skip HF nS (HF.wn rfl rfl rfl rfl rfl) rfl (fun a HF => ?_)
  refine wc_skip HF nS (HF.wn rfl rfl rfl rfl rfl) rfl (fun a HF => ?_)
  refine wc_skip HF nS (HF.wn rfl rfl rfl rfl rfl) rfl (fun a HF => ?_)
  refine wc_pick (b := false) HF nS rfl rfl rfl rfl rfl (fun a HF => ?_)
  refine wc_assign HF nS rfl rfl rfl (fun a HF => ?_)
  refine wc_end ?_
  refine then_n ?_
  refine wp_ret ?_
  obtain rfl := Option.some.inj h
  have h := retL hk1
  obtain rfl := Option.some.inj h
  refine blk_r (then_r (?_))
  refine bp_ret HF (res_one rfl HF rfl) ?_
  have HT := HT.t0
  exact ⟨rfl, HT⟩
  have h := (if_neg hb12).symm.trans h
  refine wp_if (b' := false) HF rfl (decide_eq_false hb12) ?_
  refine wp_seq ?_
  refine wc_text ?_
  refine wc_bin HF nS rfl rfl b_eq rfl rfl (fun a HF => ?_)
  refine wc_assign HF nS rfl rfl rfl (fun a HF => ?_)
  refine wc_end ?_
  refine then_n ?_
  by_cases hb15 : x0_0 = 7
  have h := (if_pos hb15).symm.trans h
  refine wp_if (b' := true) HF rfl (decide_eq_true hb15) ?_
  refine wp_seq ?_
  refine wc_text ?_
  refine wc_faddr HF nS rfl fl25_1 rfl rfl (fun a HF => ?_)
  refine wc_load HF rfl sc3 ((HT.boxAt 0 rfl).get 1 rfl) rfl rfl (fun a HF => ?_)
  obtain ⟨y10, hx12, h⟩ := obs h
  refine wc_call HF cf77 rfl (w_impl_isReg fuel hx12) rfl rfl ?_
  rintro e w ⟨rfl, hE⟩
  have hb := hE.below
  have HT := HT.pure hE
  have HT : St w0 (fun _ => False) w [Box p1 [.int .i64 x0_0, .int .i64 x0_1, .int .i64 x0_2, .int .i64 x0_3]] := HT
  refine ⟨_, rfl, nS, fun a HF => ?_⟩
  refine wc_move HF nS rfl rfl rfl (fun a HF => ?_)
  by_cases hb16 : y10 = true
  have h := (if_pos hb16).symm.trans h
  refine wc_faddr HF nS rfl fl25_2 (HF.wy rfl rfl rfl rfl hb16) rfl (fun a HF => ?_)
  refine wc_load HF rfl sc3 ((HT.boxAt 0 rfl).get 2 rfl) (HF.wy rfl rfl rfl rfl hb16) rfl (fun a HF => ?_)
  obtain ⟨y11, hx13, h⟩ := obs h
  refine wc_call HF cf80 rfl (w_impl_within fuel hx13) (HF.wy rfl rfl rfl rfl hb16) rfl ?_
  rintro e w ⟨rfl, hE⟩
  have hb := hE.below
  have HT := HT.pure hE
  have HT : St w0 (fun _ => False) w [Box p1 [.int .i64 x0_0, .int .i64 x0_1, .int .i64 x0_2, .int .i64 x0_3]] := HT
  refine ⟨_, rfl, nS, fun a HF => ?_⟩
  refine wc_pick (b := true) HF nS rfl hb16 rfl rfl rfl (fun a HF => ?_)
  refine wc_move HF nS rfl rfl rfl (fun a HF => ?_)
  by_cases hb17 : y11 = true
  have h := (if_pos hb17).symm.trans h
  refine wc_faddr HF nS rfl fl25_3 (HF.wy rfl rfl rfl rfl hb17) rfl (fun a HF => ?_)
  refine wc_load HF rfl sc3 ((HT.boxAt 0 rfl).get 3 rfl) (HF.wy rfl rfl rfl rfl hb17) rfl (fun a HF => ?_)
  refine wc_bin HF nS rfl rfl b_eq (HF.wy rfl rfl rfl rfl hb17) rfl (fun a HF => ?_)
  refine wc_pick (b := true) HF nS rfl hb17 rfl rfl rfl (fun a HF => ?_)
  refine wc_assign HF nS rfl rfl rfl (fun a HF => ?_)
  refine wc_end ?_
  refine then_n ?_
  refine wp_ret ?_
  obtain rfl := Option.some.inj h
  have h := retL hk1
  obtain rfl := Option.some.inj h
  refine blk_r (then_r (?_))
  refine bp_ret HF (res_one rfl HF rfl) ?_
  have HT := HT.t0
  exact ⟨rfl, HT⟩
  have h := (if_neg hb17).symm.trans h
  refine wc_skip HF nS (HF.wn rfl rfl rfl rfl (Bool.eq_false_iff.2 hb17)) rfl (fun a HF => ?_)
  refine wc_skip HF nS (HF.wn rfl rfl rfl rfl (Bool.eq_false_iff.2 hb17)) rfl (fun a HF => ?_)
  refine wc_skip HF nS (HF.wn rfl rfl rfl rfl (Bool.eq_false_iff.2 hb17)) rfl (fun a HF => ?_)
  refine wc_pick (b := false) HF nS rfl (Bool.eq_false_iff.2 hb17) rfl rfl rfl (fun a HF => ?_)
  refine wc_assign HF nS rfl rfl rfl (fun a HF => ?_)
  refine wc_end ?_
  refine then_n ?_
  refine wp_ret ?_
  obtain rfl := Option.some.inj h
  have h := retL hk1
  obtain rfl := Option.some.inj h
  refine blk_r (then_r (?_))
  refine bp_ret HF (res_one rfl HF rfl) ?_
  have HT := HT.t0
  exact ⟨rfl, HT⟩
  have h := (if_neg hb16).symm.trans h
  refine wc_skip HF nS (HF.wn rfl rfl rfl rfl (Bool.eq_false_iff.2 hb16)) rfl (fun a HF => ?_)
  refine wc_skip HF nS (HF.wn rfl rfl rfl rfl (Bool.eq_false_iff.2 hb16)) rfl (fun a HF => ?_)
  refine wc_skip HF nS (HF.wn rfl rfl rfl rfl (Bool.eq_false_iff.2 hb16)) rfl (fun a HF => ?_)
  refine wc_pick (b := false) HF nS rfl (Bool.eq_false_iff.2 hb16) rfl rfl rfl (fun a HF => ?_)
  refine wc_move HF nS rfl rfl rfl (fun a HF => ?_)
  refine wc_skip HF nS (HF.wn rfl rfl rfl rfl rfl) rfl (fun a HF => ?_)
  refine wc_skip HF nS (HF.wn rfl rfl rfl rfl rfl) rfl (fun a HF => ?_)
  refine wc_skip HF nS (HF.wn rfl rfl rfl rfl rfl) rfl (fun a HF => ?_)
  refine wc_pick (b := false) HF nS rfl rfl rfl rfl rfl (fun a HF => ?_)
  refine wc_assign HF nS rfl rfl rfl (fun a HF => ?_)
  refine wc_end ?_
  refine then_n ?_
  refine wp_ret ?_
  obtain rfl := Option.some.inj h
  have h := retL hk1
  obtain rfl := Option.some.inj h
  refine blk_r (then_r (?_))
  refine bp_ret HF (res_one rfl HF rfl) ?_
  have HT := HT.t0
  exact ⟨rfl, HT⟩
  have h := (if_neg hb15).symm.trans h
  refine wp_if (b' := false) HF rfl (decide_eq_false hb15) ?_
  obtain ⟨z2, hx14, h⟩ := obs h
  refine wp_cut (fun a w => Fr a 161 [(1, .pointer (some ⟨p1, 0, none⟩)), (4, .int .i64 x0_0), (82, .bool z2)] ∧ St w0 (fun _ => False) w [Box p1 [.int .i64 x0_0, .int .i64 x0_1, .int .i64 x0_2, .int .i64 x0_3]]) ?_ ?_
  have hk2 := h
  have h := hx14
  refine wp_seq ?_
  refine wc_text ?_
  refine wc_bin HF nS rfl rfl b_eq rfl rfl (fun a HF => ?_)
  refine wc_assign HF nS rfl rfl rfl (fun a HF => ?_)
  refine wc_end ?_
  refine then_n ?_
  by_cases hb18 : x0_0 = 8
  have h := (if_pos hb18).symm.trans h
  refine wp_if (b' := true) HF rfl (decide_eq_true hb18) ?_
  refine wp_skip ?_
  obtain rfl := Option.some.inj h
  exact then_n ⟨(HF.keep (HF.keep (HF.keep HF.nil rfl) rfl) rfl), HT⟩
  have h := (if_neg hb18).symm.trans h
  refine wp_if (b' := false) HF rfl (decide_eq_false hb18) ?_
  refine wp_seq ?_
  refine wc_text ?_
  refine wc_bin HF nS rfl rfl b_eq rfl rfl (fun a HF => ?_)
  refine wc_assign HF nS rfl rfl rfl (fun a HF => ?_)
  refine wc_end ?_
  refine then_n ?_
  by_cases hb19 : x0_0 = 15
  have h := (if_pos hb19).symm.trans h
  refine wp_if (b' := true) HF rfl (decide_eq_true hb19) ?_
  refine wp_skip ?_
  obtain rfl := Option.some.inj h
  exact then_n ⟨(HF.keep (HF.keep (HF.keep HF.nil rfl) rfl) rfl), HT⟩
  have h := (if_neg hb19).symm.trans h
  refine wp_if (b' := false) HF rfl (decide_eq_false hb19) ?_
  refine wc_text ?_
  refine wc_bin HF nS rfl rfl b_eq rfl rfl (fun a HF => ?_)
  refine wc_assign HF nS rfl rfl rfl (fun a HF => ?_)
  refine wc_end ?_
  obtain rfl := Option.some.inj h
  exact then_n ⟨(HF.keep (HF.keep (HF.keep HF.nil rfl) rfl) rfl), HT⟩
  rintro a w ⟨HF, HT⟩
  refine ?_
  by_cases hb20 : z2 = true
  have h := (if_pos hb20).symm.trans h
  refine wp_if (b' := true) HF rfl hb20 ?_
  refine wp_seq ?_
  refine wc_text ?_
  refine wc_faddr HF nS rfl fl25_1 rfl rfl (fun a HF => ?_)
  refine wc_load HF rfl sc3 ((HT.boxAt 0 rfl).get 1 rfl) rfl rfl (fun a HF => ?_)
  obtain ⟨y12, hx15, h⟩ := obs h
  refine wc_call HF cf77 rfl (w_impl_isReg fuel hx15) rfl rfl ?_
  rintro e w ⟨rfl, hE⟩
  have hb := hE.below
  have HT := HT.pure hE
  have HT : St w0 (fun _ => False) w [Box p1 [.int .i64 x0_0, .int .i64 x0_1, .int .i64 x0_2, .int .i64 x0_3]] := HT
  refine ⟨_, rfl, nS, fun a HF => ?_⟩
  refine wc_move HF nS rfl rfl rfl (fun a HF => ?_)
  by_cases hb21 : y12 = true
  have h := (if_pos hb21).symm.trans h
  refine wc_faddr HF nS rfl fl25_2 (HF.wy rfl rfl rfl rfl hb21) rfl (fun a HF => ?_)
  refine wc_load HF rfl sc3 ((HT.boxAt 0 rfl).get 2 rfl) (HF.wy rfl rfl rfl rfl hb21) rfl (fun a HF => ?_)
  refine wc_bin HF nS rfl rfl b_eq (HF.wy rfl rfl rfl rfl hb21) rfl (fun a HF => ?_)
  refine wc_pick (b := true) HF nS rfl hb21 rfl rfl rfl (fun a HF => ?_)
  refine wc_move HF nS rfl rfl rfl (fun a HF => ?_)
  by_cases hb22 : x0_2 = 0
  have h := (if_pos hb22).symm.trans h
  refine wc_faddr HF nS rfl fl25_3 (HF.wy rfl rfl rfl rfl (decide_eq_true hb22)) rfl (fun a HF => ?_)
  refine wc_load HF rfl sc3 ((HT.boxAt 0 rfl).get 3 rfl) (HF.wy rfl rfl rfl rfl (decide_eq_true hb22)) rfl (fun a HF => ?_)
  refine wc_bin HF nS rfl rfl b_eq (HF.wy rfl rfl rfl rfl (decide_eq_true hb22)) rfl (fun a HF => ?_)
  refine wc_pick (b := true) HF nS rfl (decide_eq_true hb22) rfl rfl rfl (fun a HF => ?_)
  refine wc_assign HF nS rfl rfl rfl (fun a HF => ?_)
  refine wc_end ?_
  refine then_n ?_
  refine wp_ret ?_
  obtain rfl := Option.some.inj h
  have h := retL hk1
  obtain rfl := Option.some.inj h
  refine blk_r (then_r (?_))
  refine bp_ret HF (res_one rfl HF rfl) ?_
  have HT := HT.t0
  exact ⟨rfl, HT⟩
  have h := (if_neg hb22).symm.trans h
  refine wc_skip HF nS (HF.wn rfl rfl rfl rfl (decide_eq_false hb22)) rfl (fun a HF => ?_)
  refine wc_skip HF nS (HF.wn rfl rfl rfl rfl (decide_eq_false hb22)) rfl (fun a HF => ?_)
  refine wc_skip HF nS (HF.wn rfl rfl rfl rfl (decide_eq_false hb22)) rfl (fun a HF => ?_)
  refine wc_pick (b := false) HF nS rfl (decide_eq_false hb22) rfl rfl rfl (fun a HF => ?_)
  refine wc_assign HF nS rfl rfl rfl (fun a HF => ?_)
  refine wc_end ?_
  refine then_n ?_
  refine wp_ret ?_
  obtain rfl := Option.some.inj h
  have h := retL hk1
  obtain rfl := Option.some.inj h
  refine blk_r (then_r (?_))
  refine bp_ret HF (res_one rfl HF rfl) ?_
  have HT := HT.t0
  exact ⟨rfl, HT⟩
  have h := (if_neg hb21).symm.trans h
  refine wc_skip HF nS (HF.wn rfl rfl rfl rfl (Bool.eq_false_iff.2 hb21)) rfl (fun a HF => ?_)
  refine wc_skip HF nS (HF.wn rfl rfl rfl rfl (Bool.eq_false_iff.2 hb21)) rfl (fun a HF => ?_)
  refine wc_skip HF nS (HF.wn rfl rfl rfl rfl (Bool.eq_false_iff.2 hb21)) rfl (fun a HF => ?_)
  refine wc_pick (b := false) HF nS rfl (Bool.eq_false_iff.2 hb21) rfl rfl rfl (fun a HF => ?_)
  refine wc_move HF nS rfl rfl rfl (fun a HF => ?_)
  refine wc_skip HF nS (HF.wn rfl rfl rfl rfl rfl) rfl (fun a HF => ?_)
  refine wc_skip HF nS (HF.wn rfl rfl rfl rfl rfl) rfl (fun a HF => ?_)
  refine wc_skip HF nS (HF.wn rfl rfl rfl rfl rfl) rfl (fun a HF => ?_)
  refine wc_pick (b := false) HF nS rfl rfl rfl rfl rfl (fun a HF => ?_)
  refine wc_assign HF nS rfl rfl rfl (fun a HF => ?_)
  refine wc_end ?_
  refine then_n ?_
  refine wp_ret ?_
  obtain rfl := Option.some.inj h
  have h := retL hk1
  obtain rfl := Option.some.inj h
  refine blk_r (then_r (?_))
  refine bp_ret HF (res_one rfl HF rfl) ?_
  have HT := HT.t0
  exact ⟨rfl, HT⟩
  have h := (if_neg hb20).symm.trans h
  refine wp_if (b' := false) HF rfl (Bool.eq_false_iff.2 hb20) ?_
  obtain ⟨z3, hx16, h⟩ := obs h
  refine wp_cut (fun a w => Fr a 161 [(1, .pointer (some ⟨p1, 0, none⟩)), (4, .int .i64 x0_0), (99, .bool z3)] ∧ St w0 (fun _ => False) w [Box p1 [.int .i64 x0_0, .int .i64 x0_1, .int .i64 x0_2, .int .i64 x0_3]]) ?_ ?_
  have hk2 := h
  have h := hx16
  refine wp_seq ?_
  refine wc_text ?_
  refine wc_bin HF nS rfl rfl b_eq rfl rfl (fun a HF => ?_)
  refine wc_assign HF nS rfl rfl rfl (fun a HF => ?_)
  refine wc_end ?_
  refine then_n ?_
  by_cases hb23 : x0_0 = 9
  have h := (if_pos hb23).symm.trans h
  refine wp_if (b' := true) HF rfl (decide_eq_true hb23) ?_
  refine wp_skip ?_
  obtain rfl := Option.some.inj h
  exact then_n ⟨(HF.keep (HF.keep (HF.keep HF.nil rfl) rfl) rfl), HT⟩
  have h := (if_neg hb23).symm.trans h
  refine wp_if (b' := false) HF rfl (decide_eq_false hb23) ?_
  refine wp_seq ?_
  refine wc_text ?_
  refine wc_bin HF nS rfl rfl b_eq rfl rfl (fun a HF => ?_)
  refine wc_assign HF nS rfl rfl rfl (fun a HF => ?_)
  refine wc_end ?_
  refine then_n ?_
  by_cases hb24 : x0_0 = 10
  have h := (if_pos hb24).symm.trans h
  refine wp_if (b' := true) HF rfl (decide_eq_true hb24) ?_
  refine wp_skip ?_
  obtain rfl := Option.some.inj h
  exact then_n ⟨(HF.keep (HF.keep (HF.keep HF.nil rfl) rfl) rfl), HT⟩
  have h := (if_neg hb24).symm.trans h
  refine wp_if (b' := false) HF rfl (decide_eq_false hb24) ?_
  refine wc_text ?_
  refine wc_bin HF nS rfl rfl b_eq rfl rfl (fun a HF => ?_)
  refine wc_assign HF nS rfl rfl rfl (fun a HF => ?_)
  refine wc_end ?_
  obtain rfl := Option.some.inj h
  exact then_n ⟨(HF.keep (HF.keep (HF.keep HF.nil rfl) rfl) rfl), HT⟩
  rintro a w ⟨HF, HT⟩
  refine ?_
  by_cases hb25 : z3 = true
  have h := (if_pos hb25).symm.trans h
  refine wp_if (b' := true) HF rfl hb25 ?_
  refine wp_seq ?_
  refine wc_text ?_
  refine wc_faddr HF nS rfl fl25_1 rfl rfl (fun a HF => ?_)
  refine wc_load HF rfl sc3 ((HT.boxAt 0 rfl).get 1 rfl) rfl rfl (fun a HF => ?_)
  refine wc_bin HF nS rfl rfl b_eq rfl rfl (fun a HF => ?_)
  refine wc_move HF nS rfl rfl rfl (fun a HF => ?_)
  by_cases hb26 : x0_1 = 0
  have h := (if_pos hb26).symm.trans h
  refine wc_faddr HF nS rfl fl25_2 (HF.wy rfl rfl rfl rfl (decide_eq_true hb26)) rfl (fun a HF => ?_)
  refine wc_load HF rfl sc3 ((HT.boxAt 0 rfl).get 2 rfl) (HF.wy rfl rfl rfl rfl (decide_eq_true hb26)) rfl (fun a HF => ?_)
  refine wc_bin HF nS rfl rfl b_eq (HF.wy rfl rfl rfl rfl (decide_eq_true hb26)) rfl (fun a HF => ?_)
  refine wc_pick (b := true) HF nS rfl (decide_eq_true hb26) rfl rfl rfl (fun a HF => ?_)
  refine wc_move HF nS rfl rfl rfl (fun a HF => ?_)
  by_cases hb27 : x0_2 = 0
  have h := (if_pos hb27).symm.trans h
  refine wc_faddr HF nS rfl fl25_3 (HF.wy rfl rfl rfl rfl (decide_eq_true hb27)) rfl (fun a HF => ?_)
  refine wc_load HF rfl sc3 ((HT.boxAt 0 rfl).get 3 rfl) (HF.wy rfl rfl rfl rfl (decide_eq_true hb27)) rfl (fun a HF => ?_)
  refine wc_bin HF nS rfl rfl b_eq (HF.wy rfl rfl rfl rfl (decide_eq_true hb27)) rfl (fun a HF => ?_)
  refine wc_pick (b := true) HF nS rfl (decide_eq_true hb27) rfl rfl rfl (fun a HF => ?_)
  refine wc_assign HF nS rfl rfl rfl (fun a HF => ?_)
  refine wc_end ?_
  refine then_n ?_
  refine wp_ret ?_
  obtain rfl := Option.some.inj h
  have h := retL hk1
  obtain rfl := Option.some.inj h
  refine blk_r (then_r (?_))
  refine bp_ret HF (res_one rfl HF rfl) ?_
  have HT := HT.t0
  exact ⟨rfl, HT⟩
  have h := (if_neg hb27).symm.trans h
  refine wc_skip HF nS (HF.wn rfl rfl rfl rfl (decide_eq_false hb27)) rfl (fun a HF => ?_)
  refine wc_skip HF nS (HF.wn rfl rfl rfl rfl (decide_eq_false hb27)) rfl (fun a HF => ?_)
  refine wc_skip HF nS (HF.wn rfl rfl rfl rfl (decide_eq_false hb27)) rfl (fun a HF => ?_)
  refine wc_pick (b := false) HF nS rfl (decide_eq_false hb27) rfl rfl rfl (fun a HF => ?_)
  refine wc_assign HF nS rfl rfl rfl (fun a HF => ?_)
  refine wc_end ?_
  refine then_n ?_
  refine wp_ret ?_
  obtain rfl := Option.some.inj h
  have h := retL hk1
  obtain rfl := Option.some.inj h
  refine blk_r (then_r (?_))
  refine bp_ret HF (res_one rfl HF rfl) ?_
  have HT := HT.t0
  exact ⟨rfl, HT⟩
  have h := (if_neg hb26).symm.trans h
  refine wc_skip HF nS (HF.wn rfl rfl rfl rfl (decide_eq_false hb26)) rfl (fun a HF => ?_)
  refine wc_skip HF nS (HF.wn rfl rfl rfl rfl (decide_eq_false hb26)) rfl (fun a HF => ?_)
  refine wc_skip HF nS (HF.wn rfl rfl rfl rfl (decide_eq_false hb26)) rfl (fun a HF => ?_)
  refine wc_pick (b := false) HF nS rfl (decide_eq_false hb26) rfl rfl rfl (fun a HF => ?_)
  refine wc_move HF nS rfl rfl rfl (fun a HF => ?_)
  refine wc_skip HF nS (HF.wn rfl rfl rfl rfl rfl) rfl (fun a HF => ?_)
  refine wc_skip HF nS (HF.wn rfl rfl rfl rfl rfl) rfl (fun a HF => ?_)
  refine wc_skip HF nS (HF.wn rfl rfl rfl rfl rfl) rfl (fun a HF => ?_)
  refine wc_pick (b := false) HF nS rfl rfl rfl rfl rfl (fun a HF => ?_)
  refine wc_assign HF nS rfl rfl rfl (fun a HF => ?_)
  refine wc_end ?_
  refine then_n ?_
  refine wp_ret ?_
  obtain rfl := Option.some.inj h
  have h := retL hk1
  obtain rfl := Option.some.inj h
  refine blk_r (then_r (?_))
  refine bp_ret HF (res_one rfl HF rfl) ?_
  have HT := HT.t0
  exact ⟨rfl, HT⟩
  have h := (if_neg hb25).symm.trans h
  refine wp_if (b' := false) HF rfl (Bool.eq_false_iff.2 hb25) ?_
  refine wp_seq ?_
  refine wc_text ?_
  refine wc_bin HF nS rfl rfl b_eq rfl rfl (fun a HF => ?_)
  refine wc_assign HF nS rfl rfl rfl (fun a HF => ?_)
  refine wc_end ?_
  refine then_n ?_
  by_cases hb28 : x0_0 = 12
  have h := (if_pos hb28).symm.trans h
  refine wp_if (b' := true) HF rfl (decide_eq_true hb28) ?_
  refine wp_seq ?_
  refine wc_text ?_
  refine wc_faddr HF nS rfl fl25_1 rfl rfl (fun a HF => ?_)
  refine wc_load HF rfl sc3 ((HT.boxAt 0 rfl).get 1 rfl) rfl rfl (fun a HF => ?_)
  obtain ⟨y13, hx17, h⟩ := obs h
  refine wc_call HF cf81 rfl (w_impl_isKey fuel hx17) rfl rfl ?_
  rintro e w ⟨rfl, hE⟩
  have hb := hE.below
  have HT := HT.pure hE
  have HT : St w0 (fun _ => False) w [Box p1 [.int .i64 x0_0, .int .i64 x0_1, .int .i64 x0_2, .int .i64 x0_3]] := HT
  refine ⟨_, rfl, nS, fun a HF => ?_⟩
  refine wc_move HF nS rfl rfl rfl (fun a HF => ?_)
  by_cases hb29 : y13 = true
  have h := (if_pos hb29).symm.trans h
  refine wc_faddr HF nS rfl fl25_2 (HF.wy rfl rfl rfl rfl hb29) rfl (fun a HF => ?_)
  refine wc_load HF rfl sc3 ((HT.boxAt 0 rfl).get 2 rfl) (HF.wy rfl rfl rfl rfl hb29) rfl (fun a HF => ?_)
  obtain ⟨y14, hx18, h⟩ := obs h
  refine wc_call HF cf77 rfl (w_impl_isReg fuel hx18) (HF.wy rfl rfl rfl rfl hb29) rfl ?_
  rintro e w ⟨rfl, hE⟩
  have hb := hE.below
  have HT := HT.pure hE
  have HT : St w0 (fun _ => False) w [Box p1 [.int .i64 x0_0, .int .i64 x0_1, .int .i64 x0_2, .int .i64 x0_3]] := HT
  refine ⟨_, rfl, nS, fun a HF => ?_⟩
  refine wc_pick (b := true) HF nS rfl hb29 rfl rfl rfl (fun a HF => ?_)
  refine wc_move HF nS rfl rfl rfl (fun a HF => ?_)
  by_cases hb30 : y14 = true
  have h := (if_pos hb30).symm.trans h
  refine wc_faddr HF nS rfl fl25_3 (HF.wy rfl rfl rfl rfl hb30) rfl (fun a HF => ?_)
  refine wc_load HF rfl sc3 ((HT.boxAt 0 rfl).get 3 rfl) (HF.wy rfl rfl rfl rfl hb30) rfl (fun a HF => ?_)
  obtain ⟨y15, hx19, h⟩ := obs h
  refine wc_call HF cf77 rfl (w_impl_isReg fuel hx19) (HF.wy rfl rfl rfl rfl hb30) rfl ?_
  rintro e w ⟨rfl, hE⟩
  have hb := hE.below
  have HT := HT.pure hE
  have HT : St w0 (fun _ => False) w [Box p1 [.int .i64 x0_0, .int .i64 x0_1, .int .i64 x0_2, .int .i64 x0_3]] := HT
  refine ⟨_, rfl, nS, fun a HF => ?_⟩
  refine wc_pick (b := true) HF nS rfl hb30 rfl rfl rfl (fun a HF => ?_)
  refine wc_assign HF nS rfl rfl rfl (fun a HF => ?_)
  refine wc_end ?_
  refine then_n ?_
  refine wp_ret ?_
  obtain rfl := Option.some.inj h
  have h := retL hk1
  obtain rfl := Option.some.inj h
  refine blk_r (then_r (?_))
  refine bp_ret HF (res_one rfl HF rfl) ?_
  have HT := HT.t0
  exact ⟨rfl, HT⟩
  have h := (if_neg hb30).symm.trans h
  refine wc_skip HF nS (HF.wn rfl rfl rfl rfl (Bool.eq_false_iff.2 hb30)) rfl (fun a HF => ?_)
  refine wc_skip HF nS (HF.wn rfl rfl rfl rfl (Bool.eq_false_iff.2 hb30)) rfl (fun a HF => ?_)
  refine wc_skip HF nS (HF.wn rfl rfl rfl rfl (Bool.eq_false_iff.2 hb30)) rfl (fun a HF => ?_)
  refine wc_pick (b := false) HF nS rfl (Bool.eq_false_iff.2 hb30) rfl rfl rfl (fun a HF => ?_)
  refine wc_assign HF nS rfl rfl rfl (fun a HF => ?_)
  refine wc_end ?_
  refine then_n ?_
  refine wp_ret ?_
  obtain rfl := Option.some.inj h
  have h := retL hk1
  obtain rfl := Option.some.inj h
  refine blk_r (then_r (?_))
  refine bp_ret HF (res_one rfl HF rfl) ?_
  have HT := HT.t0
  exact ⟨rfl, HT⟩
  have h := (if_neg hb29).symm.trans h
  refine wc_skip HF nS (HF.wn rfl rfl rfl rfl (Bool.eq_false_iff.2 hb29)) rfl (fun a HF => ?_)
  refine wc_skip HF nS (HF.wn rfl rfl rfl rfl (Bool.eq_false_iff.2 hb29)) rfl (fun a HF => ?_)
  refine wc_skip HF nS (HF.wn rfl rfl rfl rfl (Bool.eq_false_iff.2 hb29)) rfl (fun a HF => ?_)
  refine wc_pick (b := false) HF nS rfl (Bool.eq_false_iff.2 hb29) rfl rfl rfl (fun a HF => ?_)
  refine wc_move HF nS rfl rfl rfl (fun a HF => ?_)
  refine wc_skip HF nS (HF.wn rfl rfl rfl rfl rfl) rfl (fun a HF => ?_)
  refine wc_skip HF nS (HF.wn rfl rfl rfl rfl rfl) rfl (fun a HF => ?_)
  refine wc_skip HF nS (HF.wn rfl rfl rfl rfl rfl) rfl (fun a HF => ?_)
  refine wc_pick (b := false) HF nS rfl rfl rfl rfl rfl (fun a HF => ?_)
  refine wc_assign HF nS rfl rfl rfl (fun a HF => ?_)
  refine wc_end ?_
  refine then_n ?_
  refine wp_ret ?_
  obtain rfl := Option.some.inj h
  have h := retL hk1
  obtain rfl := Option.some.inj h
  refine blk_r (then_r (?_))
  refine bp_ret HF (res_one rfl HF rfl) ?_
  have HT := HT.t0
  exact ⟨rfl, HT⟩
  have h := (if_neg hb28).symm.trans h
  refine wp_if (b' := false) HF rfl (decide_eq_false hb28) ?_
  refine wp_seq ?_
  refine wc_text ?_
  refine wc_bin HF nS rfl rfl b_eq rfl rfl (fun a HF => ?_)
  refine wc_assign HF nS rfl rfl rfl (fun a HF => ?_)
  refine wc_end ?_
  refine then_n ?_
  by_cases hb31 : x0_0 = 13
  have h := (if_pos hb31).symm.trans h
  refine wp_if (b' := true) HF rfl (decide_eq_true hb31) ?_
  refine wp_seq ?_
  refine wc_text ?_
  refine wc_faddr HF nS rfl fl25_1 rfl rfl (fun a HF => ?_)
  refine wc_load HF rfl sc3 ((HT.boxAt 0 rfl).get 1 rfl) rfl rfl (fun a HF => ?_)
  obtain ⟨y16, hx20, h⟩ := obs h
  refine wc_call HF cf77 rfl (w_impl_isReg fuel hx20) rfl rfl ?_
  rintro e w ⟨rfl, hE⟩
  have hb := hE.below
  have HT := HT.pure hE
  have HT : St w0 (fun _ => False) w [Box p1 [.int .i64 x0_0, .int .i64 x0_1, .int .i64 x0_2, .int .i64 x0_3]] := HT
  refine ⟨_, rfl, nS, fun a HF => ?_⟩
  refine wc_move HF nS rfl rfl rfl (fun a HF => ?_)
  by_cases hb32 : y16 = true
  have h := (if_pos hb32).symm.trans h
  refine wc_faddr HF nS rfl fl25_2 (HF.wy rfl rfl rfl rfl hb32) rfl (fun a HF => ?_)
  refine wc_load HF rfl sc3 ((HT.boxAt 0 rfl).get 2 rfl) (HF.wy rfl rfl rfl rfl hb32) rfl (fun a HF => ?_)
  obtain ⟨y17, hx21, h⟩ := obs h
  refine wc_call HF cf81 rfl (w_impl_isKey fuel hx21) (HF.wy rfl rfl rfl rfl hb32) rfl ?_
  rintro e w ⟨rfl, hE⟩
  have hb := hE.below
  have HT := HT.pure hE
  have HT : St w0 (fun _ => False) w [Box p1 [.int .i64 x0_0, .int .i64 x0_1, .int .i64 x0_2, .int .i64 x0_3]] := HT
  refine ⟨_, rfl, nS, fun a HF => ?_⟩
  refine wc_pick (b := true) HF nS rfl hb32 rfl rfl rfl (fun a HF => ?_)
  refine wc_move HF nS rfl rfl rfl (fun a HF => ?_)
  by_cases hb33 : y17 = true
  have h := (if_pos hb33).symm.trans h
  refine wc_faddr HF nS rfl fl25_3 (HF.wy rfl rfl rfl rfl hb33) rfl (fun a HF => ?_)
  refine wc_load HF rfl sc3 ((HT.boxAt 0 rfl).get 3 rfl) (HF.wy rfl rfl rfl rfl hb33) rfl (fun a HF => ?_)
  refine wc_bin HF nS rfl rfl b_eq (HF.wy rfl rfl rfl rfl hb33) rfl (fun a HF => ?_)
  refine wc_pick (b := true) HF nS rfl hb33 rfl rfl rfl (fun a HF => ?_)
  refine wc_assign HF nS rfl rfl rfl (fun a HF => ?_)
  refine wc_end ?_
  refine then_n ?_
  refine wp_ret ?_
  obtain rfl := Option.some.inj h
  have h := retL hk1
  obtain rfl := Option.some.inj h
  refine blk_r (then_r (?_))
  refine bp_ret HF (res_one rfl HF rfl) ?_
  have HT := HT.t0
  exact ⟨rfl, HT⟩
  have h := (if_neg hb33).symm.trans h
  refine wc_skip HF nS (HF.wn rfl rfl rfl rfl (Bool.eq_false_iff.2 hb33)) rfl (fun a HF => ?_)
  refine wc_skip HF nS (HF.wn rfl rfl rfl rfl (Bool.eq_false_iff.2 hb33)) rfl (fun a HF => ?_)
  refine wc_skip HF nS (HF.wn rfl rfl rfl rfl (Bool.eq_false_iff.2 hb33)) rfl (fun a HF => ?_)
  refine wc_pick (b := false) HF nS rfl (Bool.eq_false_iff.2 hb33) rfl rfl rfl (fun a HF => ?_)
  refine wc_assign HF nS rfl rfl rfl (fun a HF => ?_)
  refine wc_end ?_
  refine then_n ?_
  refine wp_ret ?_
  obtain rfl := Option.some.inj h
  have h := retL hk1
  obtain rfl := Option.some.inj h
  refine blk_r (then_r (?_))
  refine bp_ret HF (res_one rfl HF rfl) ?_
  have HT := HT.t0
  exact ⟨rfl, HT⟩
  have h := (if_neg hb32).symm.trans h
  refine wc_skip HF nS (HF.wn rfl rfl rfl rfl (Bool.eq_false_iff.2 hb32)) rfl (fun a HF => ?_)
  refine wc_skip HF nS (HF.wn rfl rfl rfl rfl (Bool.eq_false_iff.2 hb32)) rfl (fun a HF => ?_)
  refine wc_skip HF nS (HF.wn rfl rfl rfl rfl (Bool.eq_false_iff.2 hb32)) rfl (fun a HF => ?_)
  refine wc_pick (b := false) HF nS rfl (Bool.eq_false_iff.2 hb32) rfl rfl rfl (fun a HF => ?_)
  refine wc_move HF nS rfl rfl rfl (fun a HF => ?_)
  refine wc_skip HF nS (HF.wn rfl rfl rfl rfl rfl) rfl (fun a HF => ?_)
  refine wc_skip HF nS (HF.wn rfl rfl rfl rfl rfl) rfl (fun a HF => ?_)
  refine wc_skip HF nS (HF.wn rfl rfl rfl rfl rfl) rfl (fun a HF => ?_)
  refine wc_pick (b := false) HF nS rfl rfl rfl rfl rfl (fun a HF => ?_)
  refine wc_assign HF nS rfl rfl rfl (fun a HF => ?_)
  refine wc_end ?_
  refine then_n ?_
  refine wp_ret ?_
  obtain rfl := Option.some.inj h
  have h := retL hk1
  obtain rfl := Option.some.inj h
  refine blk_r (then_r (?_))
  refine bp_ret HF (res_one rfl HF rfl) ?_
  have HT := HT.t0
  exact ⟨rfl, HT⟩
  have h := (if_neg hb31).symm.trans h
  refine wp_if (b' := false) HF rfl (decide_eq_false hb31) ?_
  refine wp_seq ?_
  refine wc_text ?_
  refine wc_bin HF nS rfl rfl b_eq rfl rfl (fun a HF => ?_)
  refine wc_assign HF nS rfl rfl rfl (fun a HF => ?_)
  refine wc_end ?_
  refine then_n ?_
  by_cases hb34 : x0_0 = 14
  have h := (if_pos hb34).symm.trans h
  refine wp_if (b' := true) HF rfl (decide_eq_true hb34) ?_
  refine wp_seq ?_
  refine wc_text ?_
  refine wc_faddr HF nS rfl fl25_1 rfl rfl (fun a HF => ?_)
  refine wc_load HF rfl sc3 ((HT.boxAt 0 rfl).get 1 rfl) rfl rfl (fun a HF => ?_)
  obtain ⟨y18, hx22, h⟩ := obs h
  refine wc_call HF cf81 rfl (w_impl_isKey fuel hx22) rfl rfl ?_
  rintro e w ⟨rfl, hE⟩
  have hb := hE.below
  have HT := HT.pure hE
  have HT : St w0 (fun _ => False) w [Box p1 [.int .i64 x0_0, .int .i64 x0_1, .int .i64 x0_2, .int .i64 x0_3]] := HT
  refine ⟨_, rfl, nS, fun a HF => ?_⟩
  refine wc_move HF nS rfl rfl rfl (fun a HF => ?_)
  by_cases hb35 : y18 = true
  have h := (if_pos hb35).symm.trans h
  refine wc_faddr HF nS rfl fl25_2 (HF.wy rfl rfl rfl rfl hb35) rfl (fun a HF => ?_)
  refine wc_load HF rfl sc3 ((HT.boxAt 0 rfl).get 2 rfl) (HF.wy rfl rfl rfl rfl hb35) rfl (fun a HF => ?_)
  obtain ⟨y19, hx23, h⟩ := obs h
  refine wc_call HF cf77 rfl (w_impl_isReg fuel hx23) (HF.wy rfl rfl rfl rfl hb35) rfl ?_
  rintro e w ⟨rfl, hE⟩
  have hb := hE.below
  have HT := HT.pure hE
  have HT : St w0 (fun _ => False) w [Box p1 [.int .i64 x0_0, .int .i64 x0_1, .int .i64 x0_2, .int .i64 x0_3]] := HT
  refine ⟨_, rfl, nS, fun a HF => ?_⟩
  refine wc_pick (b := true) HF nS rfl hb35 rfl rfl rfl (fun a HF => ?_)
  refine wc_move HF nS rfl rfl rfl (fun a HF => ?_)
  by_cases hb36 : y19 = true
  have h := (if_pos hb36).symm.trans h
  refine wc_faddr HF nS rfl fl25_3 (HF.wy rfl rfl rfl rfl hb36) rfl (fun a HF => ?_)
  refine wc_load HF rfl sc3 ((HT.boxAt 0 rfl).get 3 rfl) (HF.wy rfl rfl rfl rfl hb36) rfl (fun a HF => ?_)
  refine wc_bin HF nS rfl rfl b_eq (HF.wy rfl rfl rfl rfl hb36) rfl (fun a HF => ?_)
  refine wc_pick (b := true) HF nS rfl hb36 rfl rfl rfl (fun a HF => ?_)
  refine wc_assign HF nS rfl rfl rfl (fun a HF => ?_)
  refine wc_end ?_
  refine then_n ?_
  refine wp_ret ?_
  obtain rfl := Option.some.inj h
  have h := retL hk1
  obtain rfl := Option.some.inj h
  refine blk_r (then_r (?_))
  refine bp_ret HF (res_one rfl HF rfl) ?_
  have HT := HT.t0
  exact ⟨rfl, HT⟩
  have h := (if_neg hb36).symm.trans h
  refine wc_skip HF nS (HF.wn rfl rfl rfl rfl (Bool.eq_false_iff.2 hb36)) rfl (fun a HF => ?_)
  refine wc_skip HF nS (HF.wn rfl rfl rfl rfl (Bool.eq_false_iff.2 hb36)) rfl (fun a HF => ?_)
  refine wc_skip HF nS (HF.wn rfl rfl rfl rfl (Bool.eq_false_iff.2 hb36)) rfl (fun a HF => ?_)
  refine wc_pick (b := false) HF nS rfl (Bool.eq_false_iff.2 hb36) rfl rfl rfl (fun a HF => ?_)
  refine wc_assign HF nS rfl rfl rfl (fun a HF => ?_)
  refine wc_end ?_
  refine then_n ?_
  refine wp_ret ?_
  obtain rfl := Option.some.inj h
  have h := retL hk1
  obtain rfl := Option.some.inj h
  refine blk_r (then_r (?_))
  refine bp_ret HF (res_one rfl HF rfl) ?_
  have HT := HT.t0
  exact ⟨rfl, HT⟩
  have h := (if_neg hb35).symm.trans h
  refine wc_skip HF nS (HF.wn rfl rfl rfl rfl (Bool.eq_false_iff.2 hb35)) rfl (fun a HF => ?_)
  refine wc_skip HF nS (HF.wn rfl rfl rfl rfl (Bool.eq_false_iff.2 hb35)) rfl (fun a HF => ?_)
  refine wc_skip HF nS (HF.wn rfl rfl rfl rfl (Bool.eq_false_iff.2 hb35)) rfl (fun a HF => ?_)
  refine wc_pick (b := false) HF nS rfl (Bool.eq_false_iff.2 hb35) rfl rfl rfl (fun a HF => ?_)
  refine wc_move HF nS rfl rfl rfl (fun a HF => ?_)
  refine wc_skip HF nS (HF.wn rfl rfl rfl rfl rfl) rfl (fun a HF => ?_)
  refine wc_skip HF nS (HF.wn rfl rfl rfl rfl rfl) rfl (fun a HF => ?_)
  refine wc_skip HF nS (HF.wn rfl rfl rfl rfl rfl) rfl (fun a HF => ?_)
  refine wc_pick (b := false) HF nS rfl rfl rfl rfl rfl (fun a HF => ?_)
  refine wc_assign HF nS rfl rfl rfl (fun a HF => ?_)
  refine wc_end ?_
  refine then_n ?_
  refine wp_ret ?_
  obtain rfl := Option.some.inj h
  have h := retL hk1
  obtain rfl := Option.some.inj h
  refine blk_r (then_r (?_))
  refine bp_ret HF (res_one rfl HF rfl) ?_
  have HT := HT.t0
  exact ⟨rfl, HT⟩
  have h := (if_neg hb34).symm.trans h
  refine wp_if (b' := false) HF rfl (decide_eq_false hb34) ?_
  refine wp_skip ?_
  refine blk_n ?_
  have HT := HT.t0
  exact then_n ⟨(Option.some.inj h).symm, HF.nil, HT⟩
  rintro a w ⟨rfl, HF, HT⟩
  have h := brkL1u h
  refine ?_
  refine wp_seq ?_
  refine wc_text ?_
  refine wc_assign HF nS rfl rfl rfl (fun a HF => ?_)
  refine wc_end ?_
  refine then_n ?_
  refine wp_ret ?_
  obtain rfl := Option.some.inj h
  refine bp_ret HF (res_one rfl HF rfl) ?_
  exact ⟨rfl, HT⟩

def m_impl_fieldsOf (fuel : Nat) (x0 : Int) : Option Int :=
  (
    (
      if x0 = 2 then
        some (decide (x0 = 2))
      else
      if x0 = 3 then
        some (decide (x0 = 3))
      else
      if x0 = 4 then
        some (decide (x0 = 4))
      else
      some (decide (x0 = 12))).bind fun z1 =>
    if z1 = true then
      some (.ret 3)
    else
    (
      if x0 = 8 then
        some (decide (x0 = 8))
      else
      if x0 = 15 then
        some (decide (x0 = 15))
      else
      some (decide (x0 = 16))).bind fun z2 =>
    if z2 = true then
      some (.ret 1)
    else
    (
      if x0 = 9 then
        some (decide (x0 = 9))
      else
      if x0 = 10 then
        some (decide (x0 = 10))
      else
      some (decide (x0 = 11))).bind fun z3 =>
    if z3 = true then
      some (.ret 0)
    else
    some (.brk ())).bind <| contL <| un1 fun _ =>
  some 2

set_option maxRecDepth 100000 in
set_option maxHeartbeats 4000000 in
theorem w_impl_fieldsOf (fuel : Nat) {x0 : Int} {r0 : Int} {w0 : World} (h : m_impl_fieldsOf fuel x0 = some r0) :
    Calls Try.prog 46 #[.int .i64 x0] w0 fun e w => e = .returned (.int .i64 r0) ∧ St w0 (fun _ => False) w [] := by
  have HT : St w0 (fun _ => False) w0 [] := St.init0
  rw [m_impl_fieldsOf] at h
  refine calls_fr (n := 17) [.int .i64 x0] Try.func46 rfl rfl rfl (fun a HF => ?_)
  have HT : St w0 (fun _ => False) w0 [] := HT
  refine wp_seq ?_
  refine wc_text ?_
  refine wc_assign HF nS rfl rfl rfl (fun a HF => ?_)
  refine wc_end ?_
  refine then_n ?_
  obtain ⟨q1, hx1, h⟩ := obs h
  refine wp_cut (fun a w => q1 = .brk () ∧ Fr a 17 [] ∧ St w0 (fun _ => False) w []) ?_ ?_
  have hk1 := h
  have h := hx1
  refine wp_seq ?_
  refine wc_text ?_
  refine wc_move HF nS rfl rfl rfl (fun a HF => ?_)
  refine wc_end ?_
  refine then_n ?_
  refine wp_block ?_
  obtain ⟨z1, hx2, h⟩ := obs h
  refine wp_cut (fun a w => Fr a 17 [(3, .int .i64 x0), (4, .bool z1)] ∧ St w0 (fun _ => False) w []) ?_ ?_
  have hk2 := h
  have h := hx2
  refine wp_seq ?_
  refine wc_text ?_
  refine wc_bin HF nS rfl rfl b_eq rfl rfl (fun a HF => ?_)
  refine wc_assign HF nS rfl rfl rfl (fun a HF => ?_)
  refine wc_end ?_
  refine then_n ?_
  by_cases hb1 : x0 = 2
  have h := (if_pos hb1).symm.trans h
  refine wp_if (b' := true) HF rfl (decide_eq_true hb1) ?_
  refine wp_skip ?_
  obtain rfl := Option.some.inj h
  exact then_n ⟨(HF.keep (HF.keep HF.nil rfl) rfl), HT⟩
  have h := (if_neg hb1).symm.trans h
  refine wp_if (b' := false) HF rfl (decide_eq_false hb1) ?_
  refine wp_seq ?_
  refine wc_text ?_
  refine wc_bin HF nS rfl rfl b_eq rfl rfl (fun a HF => ?_)
  refine wc_assign HF nS rfl rfl rfl (fun a HF => ?_)
  refine wc_end ?_
  refine then_n ?_
  by_cases hb2 : x0 = 3
  have h := (if_pos hb2).symm.trans h
  refine wp_if (b' := true) HF rfl (decide_eq_true hb2) ?_
  refine wp_skip ?_
  obtain rfl := Option.some.inj h
  exact then_n ⟨(HF.keep (HF.keep HF.nil rfl) rfl), HT⟩
  have h := (if_neg hb2).symm.trans h
  refine wp_if (b' := false) HF rfl (decide_eq_false hb2) ?_
  refine wp_seq ?_
  refine wc_text ?_
  refine wc_bin HF nS rfl rfl b_eq rfl rfl (fun a HF => ?_)
  refine wc_assign HF nS rfl rfl rfl (fun a HF => ?_)
  refine wc_end ?_
  refine then_n ?_
  by_cases hb3 : x0 = 4
  have h := (if_pos hb3).symm.trans h
  refine wp_if (b' := true) HF rfl (decide_eq_true hb3) ?_
  refine wp_skip ?_
  obtain rfl := Option.some.inj h
  exact then_n ⟨(HF.keep (HF.keep HF.nil rfl) rfl), HT⟩
  have h := (if_neg hb3).symm.trans h
  refine wp_if (b' := false) HF rfl (decide_eq_false hb3) ?_
  refine wc_text ?_
  refine wc_bin HF nS rfl rfl b_eq rfl rfl (fun a HF => ?_)
  refine wc_assign HF nS rfl rfl rfl (fun a HF => ?_)
  refine wc_end ?_
  obtain rfl := Option.some.inj h
  exact then_n ⟨(HF.keep (HF.keep HF.nil rfl) rfl), HT⟩
  rintro a w ⟨HF, HT⟩
  refine ?_
  by_cases hb4 : z1 = true
  have h := (if_pos hb4).symm.trans h
  refine wp_if (b' := true) HF rfl hb4 ?_
  refine wp_seq ?_
  refine wc_text ?_
  refine wc_assign HF nS rfl rfl rfl (fun a HF => ?_)
  refine wc_end ?_
  refine then_n ?_
  refine wp_ret ?_
  obtain rfl := Option.some.inj h
  have h := retL hk1
  obtain rfl := Option.some.inj h
  refine blk_r (then_r (?_))
  refine bp_ret HF (res_one rfl HF rfl) ?_
  exact ⟨rfl, HT⟩
  have h := (if_neg hb4).symm.trans h
  refine wp_if (b' := false) HF rfl (Bool.eq_false_iff.2 hb4) ?_
  obtain ⟨z2, hx3, h⟩ := obs h
  refine wp_cut (fun a w => Fr a 17 [(3, .int .i64 x0), (9, .bool z2)] ∧ St w0 (fun _ => False) w []) ?_ ?_
  have hk2 := h
  have h := hx3
  refine wp_seq ?_
  refine wc_text ?_
  refine wc_bin HF nS rfl rfl b_eq rfl rfl (fun a HF => ?_)
  refine wc_assign HF nS rfl rfl rfl (fun a HF => ?_)
  refine wc_end ?_
  refine then_n ?_
  by_cases hb5 : x0 = 8
  have h := (if_pos hb5).symm.trans h
  refine wp_if (b' := true) HF rfl (decide_eq_true hb5) ?_
  refine wp_skip ?_
  obtain rfl := Option.some.inj h
  exact then_n ⟨(HF.keep (HF.keep HF.nil rfl) rfl), HT⟩
  have h := (if_neg hb5).symm.trans h
  refine wp_if (b' := false) HF rfl (decide_eq_false hb5) ?_
  refine wp_seq ?_
  refine wc_text ?_
  refine wc_bin HF nS rfl rfl b_eq rfl rfl (fun a HF => ?_)
  refine wc_assign HF nS rfl rfl rfl (fun a HF => ?_)
  refine wc_end ?_
  refine then_n ?_
  by_cases hb6 : x0 = 15
  have h := (if_pos hb6).symm.trans h
  refine wp_if (b' := true) HF rfl (decide_eq_true hb6) ?_
  refine wp_skip ?_
  obtain rfl := Option.some.inj h
  exact then_n ⟨(HF.keep (HF.keep HF.nil rfl) rfl), HT⟩
  have h := (if_neg hb6).symm.trans h
  refine wp_if (b' := false) HF rfl (decide_eq_false hb6) ?_
  refine wc_text ?_
  refine wc_bin HF nS rfl rfl b_eq rfl rfl (fun a HF => ?_)
  refine wc_assign HF nS rfl rfl rfl (fun a HF => ?_)
  refine wc_end ?_
  obtain rfl := Option.some.inj h
  exact then_n ⟨(HF.keep (HF.keep HF.nil rfl) rfl), HT⟩
  rintro a w ⟨HF, HT⟩
  refine ?_
  by_cases hb7 : z2 = true
  have h := (if_pos hb7).symm.trans h
  refine wp_if (b' := true) HF rfl hb7 ?_
  refine wp_seq ?_
  refine wc_text ?_
  refine wc_assign HF nS rfl rfl rfl (fun a HF => ?_)
  refine wc_end ?_
  refine then_n ?_
  refine wp_ret ?_
  obtain rfl := Option.some.inj h
  have h := retL hk1
  obtain rfl := Option.some.inj h
  refine blk_r (then_r (?_))
  refine bp_ret HF (res_one rfl HF rfl) ?_
  exact ⟨rfl, HT⟩
  have h := (if_neg hb7).symm.trans h
  refine wp_if (b' := false) HF rfl (Bool.eq_false_iff.2 hb7) ?_
  obtain ⟨z3, hx4, h⟩ := obs h
  refine wp_cut (fun a w => Fr a 17 [(13, .bool z3)] ∧ St w0 (fun _ => False) w []) ?_ ?_
  have hk2 := h
  have h := hx4
  refine wp_seq ?_
  refine wc_text ?_
  refine wc_bin HF nS rfl rfl b_eq rfl rfl (fun a HF => ?_)
  refine wc_assign HF nS rfl rfl rfl (fun a HF => ?_)
  refine wc_end ?_
  refine then_n ?_
  by_cases hb8 : x0 = 9
  have h := (if_pos hb8).symm.trans h
  refine wp_if (b' := true) HF rfl (decide_eq_true hb8) ?_
  refine wp_skip ?_
  obtain rfl := Option.some.inj h
  exact then_n ⟨(HF.keep HF.nil rfl), HT⟩
  have h := (if_neg hb8).symm.trans h
  refine wp_if (b' := false) HF rfl (decide_eq_false hb8) ?_
  refine wp_seq ?_
  refine wc_text ?_
  refine wc_bin HF nS rfl rfl b_eq rfl rfl (fun a HF => ?_)
  refine wc_assign HF nS rfl rfl rfl (fun a HF => ?_)
  refine wc_end ?_
  refine then_n ?_
  by_cases hb9 : x0 = 10
  have h := (if_pos hb9).symm.trans h
  refine wp_if (b' := true) HF rfl (decide_eq_true hb9) ?_
  refine wp_skip ?_
  obtain rfl := Option.some.inj h
  exact then_n ⟨(HF.keep HF.nil rfl), HT⟩
  have h := (if_neg hb9).symm.trans h
  refine wp_if (b' := false) HF rfl (decide_eq_false hb9) ?_
  refine wc_text ?_
  refine wc_bin HF nS rfl rfl b_eq rfl rfl (fun a HF => ?_)
  refine wc_assign HF nS rfl rfl rfl (fun a HF => ?_)
  refine wc_end ?_
  obtain rfl := Option.some.inj h
  exact then_n ⟨(HF.keep HF.nil rfl), HT⟩
  rintro a w ⟨HF, HT⟩
  refine ?_
  by_cases hb10 : z3 = true
  have h := (if_pos hb10).symm.trans h
  refine wp_if (b' := true) HF rfl hb10 ?_
  refine wp_seq ?_
  refine wc_text ?_
  refine wc_assign HF nS rfl rfl rfl (fun a HF => ?_)
  refine wc_end ?_
  refine then_n ?_
  refine wp_ret ?_
  obtain rfl := Option.some.inj h
  have h := retL hk1
  obtain rfl := Option.some.inj h
  refine blk_r (then_r (?_))
  refine bp_ret HF (res_one rfl HF rfl) ?_
  exact ⟨rfl, HT⟩
  have h := (if_neg hb10).symm.trans h
  refine wp_if (b' := false) HF rfl (Bool.eq_false_iff.2 hb10) ?_
  refine wp_skip ?_
  refine blk_n ?_
  exact then_n ⟨(Option.some.inj h).symm, HF.nil, HT⟩
  rintro a w ⟨rfl, HF, HT⟩
  have h := brkL1u h
  refine ?_
  refine wp_seq ?_
  refine wc_text ?_
  refine wc_assign HF nS rfl rfl rfl (fun a HF => ?_)
  refine wc_end ?_
  refine then_n ?_
  refine wp_ret ?_
  obtain rfl := Option.some.inj h
  refine bp_ret HF (res_one rfl HF rfl) ?_
  exact ⟨rfl, HT⟩

def m_impl_mnemonic (fuel : Nat) (x0 : Int) : Option Str :=
  (m_impl_within fuel x0 1 16).bind fun y1 =>
  if y1 = true then
    if in64 (x0 - 1) then
      (at? ([(⟨[115, 101, 116]⟩ : SE), (⟨[97, 100, 100]⟩ : SE), (⟨[115, 117, 98]⟩ : SE), (⟨[108, 101, 115, 115]⟩ : SE), (⟨[114, 101, 97, 100]⟩ : SE), (⟨[119, 114, 105, 116, 101]⟩ : SE), (⟨[115, 107, 105, 112]⟩ : SE), (⟨[98, 101, 103, 105, 110]⟩ : SE), (⟨[101, 110, 100]⟩ : SE), (⟨[97, 98, 111, 114, 116]⟩ : SE), (⟨[102, 111, 114, 107]⟩ : SE), (⟨[112, 117, 116]⟩ : SE), (⟨[103, 101, 116]⟩ : SE), (⟨[100, 114, 111, 112]⟩ : SE), (⟨[98, 117, 109, 112]⟩ : SE), (⟨[99, 111, 117, 110, 116]⟩ : SE)] : List SE) (x0 - 1)).bind fun e1 =>
      some e1.s
    else none
  else
  some []

set_option maxRecDepth 100000 in
set_option maxHeartbeats 4000000 in
theorem w_impl_mnemonic (fuel : Nat) {x0 : Int} {r0 : Str} {w0 : World} (h : m_impl_mnemonic fuel x0 = some r0) :
    Calls Try.prog 45 #[.int .i64 x0] w0 fun e w => e = .returned (sv r0) ∧ St w0 (fun _ => False) w [] := by
  have HT : St w0 (fun _ => False) w0 [] := St.init0
  rw [m_impl_mnemonic] at h
  refine calls_fr (n := 11) [.int .i64 x0] Try.func45 rfl rfl rfl (fun a HF => ?_)
  have HT : St w0 (fun _ => False) w0 [] := HT
  refine wp_seq ?_
  refine wc_text ?_
  refine wc_assign HF nS rfl rfl rfl (fun a HF => ?_)
  refine wc_end ?_
  refine then_n ?_
  refine wp_seq ?_
  refine wp_seq ?_
  refine wc_text ?_
  refine wc_move HF nS rfl rfl rfl (fun a HF => ?_)
  obtain ⟨y1, hx1, h⟩ := obs h
  refine wc_call HF cf80 rfl (w_impl_within fuel hx1) rfl rfl ?_
  rintro e w ⟨rfl, hE⟩
  have hb := hE.below
  have HT := HT.pure hE
  have HT : St w0 (fun _ => False) w [] := HT
  refine ⟨_, rfl, nS, fun a HF => ?_⟩
  refine wc_not HF nS rfl rfl rfl (fun a HF => ?_)
  refine wc_end ?_
  refine then_n ?_
  by_cases hb1 : y1 = true
  have h := (if_pos hb1).symm.trans h
  refine wp_if (b' := false) HF rfl (notT hb1) ?_
  refine wp_skip ?_
  refine then_n ?_
  refine wp_seq ?_
  refine wc_text ?_
  refine wc_bslice (l := ([(⟨[115, 101, 116]⟩ : SE), (⟨[97, 100, 100]⟩ : SE), (⟨[115, 117, 98]⟩ : SE), (⟨[108, 101, 115, 115]⟩ : SE), (⟨[114, 101, 97, 100]⟩ : SE), (⟨[119, 114, 105, 116, 101]⟩ : SE), (⟨[115, 107, 105, 112]⟩ : SE), (⟨[98, 101, 103, 105, 110]⟩ : SE), (⟨[101, 110, 100]⟩ : SE), (⟨[97, 98, 111, 114, 116]⟩ : SE), (⟨[102, 111, 114, 107]⟩ : SE), (⟨[112, 117, 116]⟩ : SE), (⟨[103, 101, 116]⟩ : SE), (⟨[100, 114, 111, 112]⟩ : SE), (⟨[98, 117, 109, 112]⟩ : SE), (⟨[99, 111, 117, 110, 116]⟩ : SE)] : List SE)) (cs := [sv ([115, 101, 116]), sv ([97, 100, 100]), sv ([115, 117, 98]), sv ([108, 101, 115, 115]), sv ([114, 101, 97, 100]), sv ([119, 114, 105, 116, 101]), sv ([115, 107, 105, 112]), sv ([98, 101, 103, 105, 110]), sv ([101, 110, 100]), sv ([97, 98, 111, 114, 116]), sv ([102, 111, 114, 107]), sv ([112, 117, 116]), sv ([103, 101, 116]), sv ([100, 114, 111, 112]), sv ([98, 117, 109, 112]), sv ([99, 111, 117, 110, 116])]) (A := []) HF HT bs62_16 rfl rfl (gives_flat rfl) rfl (by decide) rfl rfl (fun p1 w HT hb  => ⟨nS, fun a HF => ?_⟩)
  refine wc_move HF nS rfl rfl rfl (fun a HF => ?_)
  obtain ⟨hg1, h⟩ := grd h
  refine wc_bin HF nS rfl rfl (b_sub hg1) rfl rfl (fun a HF => ?_)
  obtain ⟨e1, hx2, h⟩ := obs h
  refine wc_ixaddr HF nS el62 rfl rfl ((HT.rdAt 0 rfl)).neq rfl hx2 rfl rfl (fun a HF => ?_)
  have hc1 := (HT.rdAt 0 rfl).flatAt rfl hx2
  refine wc_load HF rfl sc9 (hc1.get 0 rfl) rfl rfl (fun a HF => ?_)
  refine wc_assign HF nS rfl rfl rfl (fun a HF => ?_)
  refine wc_end ?_
  refine then_n ?_
  refine wp_ret ?_
  obtain rfl := Option.some.inj h
  refine bp_ret HF (res_one rfl HF rfl) ?_
  have HT := HT.t0
  exact ⟨rfl, HT⟩
  have h := (if_neg hb1).symm.trans h
  refine wp_if (b' := true) HF rfl (notF (Bool.eq_false_iff.2 hb1)) ?_
  refine wp_seq ?_
  refine wc_text ?_
  refine wc_assign HF nS rfl rfl rfl (fun a HF => ?_)
  refine wc_end ?_
  refine then_n ?_
  refine wp_ret ?_
  obtain rfl := Option.some.inj h
  refine then_r (?_)
  refine bp_ret HF (res_one rfl HF rfl) ?_
  exact ⟨rfl, HT⟩

def m_impl_ShowOp_L0 (fuel : Nat) (x0_1 : Int) (x0_2 : Int) (x0_3 : Int) (y3 : Int) : Nat → Str → Int → Option Str
  | 0, _, _ => none
  | k1 + 1, z2, z3 =>
    if z3 < ((subl ([x0_1, x0_2, x0_3] : List Int) 0 y3).length : Int) then
      (at? (subl ([x0_1, x0_2, x0_3] : List Int) 0 y3) z3).bind fun e1 =>
      if ((z2.length + [32].length : Nat) : Int) ≤ 9223372036854775807 then
        (m_impl_Dec fuel e1).bind fun y4 =>
        if (((z2 ++ [32]).length + y4.length : Nat) : Int) ≤ 9223372036854775807 then
          if in64 (z3 + 1) then
            m_impl_ShowOp_L0 fuel x0_1 x0_2 x0_3 y3 k1 ((z2 ++ [32]) ++ y4) (z3 + 1)
          else none
        else none
      else none
    else
    some z2

def m_impl_ShowOp (fuel : Nat) (x0_0 : Int) (x0_1 : Int) (x0_2 : Int) (x0_3 : Int) : Option Str :=
  (m_impl_OpOk fuel x0_0 x0_1 x0_2 x0_3).bind fun y1 =>
  if y1 = true then
    (m_impl_mnemonic fuel x0_0).bind fun y2 =>
    (
      (m_impl_fieldsOf fuel x0_0).bind fun y3 =>
      if 0 ≤ (y3 : Int) ∧ y3 ≤ (([x0_1, x0_2, x0_3] : List Int).length : Int) then
        m_impl_ShowOp_L0 fuel x0_1 x0_2 x0_3 y3 fuel y2 0
      else none).bind fun z1 =>
    some z1
  else
  some []

set_option maxRecDepth 100000 in
set_option maxHeartbeats 4000000 in
theorem w_impl_ShowOp (fuel : Nat) {x0_0 : Int} {x0_1 : Int} {x0_2 : Int} {x0_3 : Int} {r0 : Str} {w0 : World} (h : m_impl_ShowOp fuel x0_0 x0_1 x0_2 x0_3 = some r0) :
    Calls Try.prog 12 #[.agg #[.int .i64 x0_0, .int .i64 x0_1, .int .i64 x0_2, .int .i64 x0_3]] w0 fun e w => e = .returned (sv r0) ∧ St w0 (fun _ => False) w [] := by
  have HT : St w0 (fun _ => False) w0 [] := St.init0
  rw [m_impl_ShowOp] at h
  refine calls_fr (n := 37) [.agg #[.int .i64 x0_0, .int .i64 x0_1, .int .i64 x0_2, .int .i64 x0_3]] Try.func12 rfl rfl rfl (fun a HF => ?_)
  have HT : St w0 (fun _ => False) w0 [] := HT
  refine wp_seq ?_
  refine wc_text ?_
  refine wc_box (cs := [.int .i64 x0_0, .int .i64 x0_1, .int .i64 x0_2, .int .i64 x0_3]) HF HT rfl rfl rfl rfl (fun p1 w HT hb => ⟨nS, fun a HF => ?_⟩)
  refine wc_assign HF nS rfl rfl rfl (fun a HF => ?_)
  refine wc_end ?_
  refine then_n ?_
  refine wp_seq ?_
  refine wp_seq ?_
  refine wc_text ?_
  refine wc_loadA (vs := [.int .i64 x0_0, .int .i64 x0_1, .int .i64 x0_2, .int .i64 x0_3]) HF rfl ag25 rfl ((HT.boxAt 0 rfl).part 0 4) rfl rfl (fun a HF => ?_)
  obtain ⟨y1, hx1, h⟩ := obs h
  refine wc_call HF cf44 rfl (w_impl_OpOk fuel hx1) rfl rfl ?_
  rintro e w ⟨rfl, hE⟩
  have hb := hE.below
  have HT := HT.pure hE
  have HT : St w0 (fun _ => False) w [Box p1 [.int .i64 x0_0, .int .i64 x0_1, .int .i64 x0_2, .int .i64 x0_3]] := HT
  refine ⟨_, rfl, nS, fun a HF => ?_⟩
  refine wc_not HF nS rfl rfl rfl (fun a HF => ?_)
  refine wc_end ?_
  refine then_n ?_
  by_cases hb1 : y1 = true
  have h := (if_pos hb1).symm.trans h
  refine wp_if (b' := false) HF rfl (notT hb1) ?_
  refine wp_skip ?_
  refine then_n ?_
  refine wp_seq ?_
  refine wc_text ?_
  refine wc_faddr HF nS rfl fl25_0 rfl rfl (fun a HF => ?_)
  refine wc_load HF rfl sc3 ((HT.boxAt 0 rfl).get 0 rfl) rfl rfl (fun a HF => ?_)
  obtain ⟨y2, hx2, h⟩ := obs h
  refine wc_call HF cf45 rfl (w_impl_mnemonic fuel hx2) rfl rfl ?_
  rintro e w ⟨rfl, hE⟩
  have hb := hE.below
  have HT := HT.pure hE
  have HT : St w0 (fun _ => False) w [Box p1 [.int .i64 x0_0, .int .i64 x0_1, .int .i64 x0_2, .int .i64 x0_3]] := HT
  refine ⟨_, rfl, nS, fun a HF => ?_⟩
  refine wc_assign HF nS rfl rfl rfl (fun a HF => ?_)
  refine wc_end ?_
  refine then_n ?_
  refine wp_seq ?_
  refine wc_text ?_
  refine wc_faddr HF nS rfl fl25_1 rfl rfl (fun a HF => ?_)
  refine wc_load HF rfl sc3 ((HT.boxAt 0 rfl).get 1 rfl) rfl rfl (fun a HF => ?_)
  refine wc_faddr HF nS rfl fl25_2 rfl rfl (fun a HF => ?_)
  refine wc_load HF rfl sc3 ((HT.boxAt 0 rfl).get 2 rfl) rfl rfl (fun a HF => ?_)
  refine wc_faddr HF nS rfl fl25_3 rfl rfl (fun a HF => ?_)
  refine wc_load HF rfl sc3 ((HT.boxAt 0 rfl).get 3 rfl) rfl rfl (fun a HF => ?_)
  refine wc_bslice (l := ([x0_1, x0_2, x0_3] : List Int)) (cs := [.int .i64 x0_1, .int .i64 x0_2, .int .i64 x0_3]) (A := []) HF HT bs66_3 rfl rfl (gives_flat rfl) rfl (by decide) rfl rfl (fun p2 w HT hb  => ⟨nS, fun a HF => ?_⟩)
  refine wc_assign HF nS rfl rfl rfl (fun a HF => ?_)
  refine wc_end ?_
  refine then_n ?_
  obtain ⟨z1, hx3, h⟩ := obs h
  refine wp_cut (fun a w => Fr a 37 [(3, sv z1)] ∧ St w0 (fun _ => False) w []) ?_ ?_
  have hk1 := h
  have h := hx3
  refine wp_seq ?_
  refine wc_text ?_
  refine wc_move HF nS rfl rfl rfl (fun a HF => ?_)
  refine wc_faddr HF nS rfl fl25_0 rfl rfl (fun a HF => ?_)
  refine wc_load HF rfl sc3 ((HT.boxAt 1 rfl).get 0 rfl) rfl rfl (fun a HF => ?_)
  obtain ⟨y3, hx4, h⟩ := obs h
  refine wc_call HF cf46 rfl (w_impl_fieldsOf fuel hx4) rfl rfl ?_
  rintro e w ⟨rfl, hE⟩
  have hb := hE.below
  have HT := HT.pure hE
  have HT : St w0 (fun _ => False) w [Own 3 (rowT ([x0_1, x0_2, x0_3] : List Int)) (.slice (some ⟨p2, 0, none⟩) 3 3), Box p1 [.int .i64 x0_0, .int .i64 x0_1, .int .i64 x0_2, .int .i64 x0_3]] := HT
  refine ⟨_, rfl, nS, fun a HF => ?_⟩
  obtain ⟨hg1, h⟩ := grd h
  obtain ⟨HT, hcut⟩ := St.cutO HT hg1
  refine wc_slrH HF nS el66 rfl rfl hcut rfl rfl (fun a HF => ?_)
  refine wc_lenR HF nS Try.underlying66 rfl rfl rfl (fun a HF => ?_)
  refine wc_move HF nS rfl rfl rfl (fun a HF => ?_)
  refine wc_end ?_
  refine then_n ?_
  refine wp_block ?_
  have HT := HT.t1
  refine wp_loopN (fun k1 a w => ∃ z2 z3, m_impl_ShowOp_L0 fuel x0_1 x0_2 x0_3 y3 k1 z2 z3 = some z1 ∧ Fr a 37 [(3, sv z2), (24, .slice (some ⟨p2, 0, none⟩) ((subl ([x0_1, x0_2, x0_3] : List Int) 0 y3).length) 3), (25, .int .i64 ((subl ([x0_1, x0_2, x0_3] : List Int) 0 y3).length : Int)), (26, .int .i64 z3)] ∧ St w0 (fun _ => False) w [Own 3 (rowT (subl ([x0_1, x0_2, x0_3] : List Int) 0 y3)) (.slice (some ⟨p2, 0, none⟩) ((subl ([x0_1, x0_2, x0_3] : List Int) 0 y3).length) 3)]) fuel ⟨y2, 0, h, (HF.keep (HF.keep (HF.keep (HF.keep HF.nil rfl) rfl) rfl) rfl), HT⟩ ?_
  rintro k1 a w ⟨z2, z3, h, HF, HT⟩
  rcases k1 with _ | k1
  cases h
  rw [m_impl_ShowOp_L0] at h
  refine ?_
  refine wp_seq ?_
  refine wc_text ?_
  refine wc_bin HF nS rfl rfl b_lt rfl rfl (fun a HF => ?_)
  refine wc_end ?_
  refine then_n ?_
  refine wp_seq ?_
  by_cases hb2 : z3 < ((subl ([x0_1, x0_2, x0_3] : List Int) 0 y3).length : Int)
  have h := (if_pos hb2).symm.trans h
  refine wp_if (b' := true) HF rfl (decide_eq_true hb2) ?_
  refine wp_skip ?_
  refine then_n ?_
  refine wp_seq ?_
  refine wp_block ?_
  refine wp_seq ?_
  refine wc_text ?_
  obtain ⟨e1, hx5, h⟩ := obs h
  refine wc_ixaddr HF nS el66 rfl rfl ((HT.rdAt 0 rfl)).neq rfl hx5 rfl rfl (fun a HF => ?_)
  have hc1 := (HT.rdAt 0 rfl).flatAt rfl hx5
  refine wc_load HF rfl sc3 (hc1.get 0 rfl) rfl rfl (fun a HF => ?_)
  refine wc_assign HF nS rfl rfl rfl (fun a HF => ?_)
  refine wc_end ?_
  refine then_n ?_
  refine wc_text ?_
  refine wc_move HF nS rfl rfl rfl (fun a HF => ?_)
  obtain ⟨hg2, h⟩ := grd h
  refine wc_bin HF nS rfl rfl (b_cat hg2) rfl rfl (fun a HF => ?_)
  refine wc_move HF nS rfl rfl rfl (fun a HF => ?_)
  obtain ⟨y4, hx6, h⟩ := obs h
  refine wc_call HF cf47 rfl (w_impl_Dec fuel hx6) rfl rfl ?_
  rintro e w ⟨rfl, hE⟩
  have hb := hE.below
  have HT := HT.pure hE
  have HT : St w0 (fun _ => False) w [Own 3 (rowT (subl ([x0_1, x0_2, x0_3] : List Int) 0 y3)) (.slice (some ⟨p2, 0, none⟩) ((subl ([x0_1, x0_2, x0_3] : List Int) 0 y3).length) 3)] := HT
  refine ⟨_, rfl, nS, fun a HF => ?_⟩
  obtain ⟨hg3, h⟩ := grd h
  refine wc_bin HF nS rfl rfl (b_cat hg3) rfl rfl (fun a HF => ?_)
  refine wc_assign HF nS rfl rfl rfl (fun a HF => ?_)
  refine wc_end ?_
  refine blk_n ?_
  refine then_n ?_
  refine wc_text ?_
  obtain ⟨hg4, h⟩ := grd h
  refine wc_bin HF nS rfl rfl (b_add hg4) rfl rfl (fun a HF => ?_)
  refine wc_move HF nS rfl rfl rfl (fun a HF => ?_)
  refine wc_end ?_
  exact then_n ⟨k1, Nat.lt_succ_self k1, (z2 ++ [32]) ++ y4, z3 + 1, h, (HF.keep (HF.keep (HF.keep (HF.keep HF.nil rfl) rfl) rfl) rfl), HT⟩
  have h := (if_neg hb2).symm.trans h
  refine wp_if (b' := false) HF rfl (decide_eq_false hb2) ?_
  refine wp_exit ?_
  refine then_x (then_x (?_))
  refine blk_x ?_
  have HT := HT.t0
  obtain rfl := Option.some.inj h
  exact then_n ⟨(HF.keep HF.nil rfl), HT⟩
  rintro a w ⟨HF, HT⟩
  refine ?_
  refine wp_seq ?_
  refine wc_text ?_
  refine wc_move HF nS rfl rfl rfl (fun a HF => ?_)
  refine wc_assign HF nS rfl rfl rfl (fun a HF => ?_)
  refine wc_end ?_
  refine then_n ?_
  refine wp_ret ?_
  obtain rfl := Option.some.inj h
  refine bp_ret HF (res_one rfl HF rfl) ?_
  exact ⟨rfl, HT⟩
  have h := (if_neg hb1).symm.trans h
  refine wp_if (b' := true) HF rfl (notF (Bool.eq_false_iff.2 hb1)) ?_
  refine wp_seq ?_
  refine wc_text ?_
  refine wc_assign HF nS rfl rfl rfl (fun a HF => ?_)
  refine wc_end ?_
  refine then_n ?_
  refine wp_ret ?_
  obtain rfl := Option.some.inj h
  refine then_r (?_)
  refine bp_ret HF (res_one rfl HF rfl) ?_
  have HT := HT.t0
  exact ⟨rfl, HT⟩

def m_impl_split_L0 (fuel : Nat) (x0 : Str) : Nat → UInt8 → (List SE) → Int → Int → Option (List SE × Int)
  | 0, _, _, _, _ => none
  | k1 + 1, z3, z4, z5, z6 =>
    if z6 < (x0.length : Int) then
      bind3 (
        (at? x0 z6).bind fun c4 =>
        if (c4.toNat : Int) = (z3.toNat : Int) then
          if 0 ≤ (z5 : Int) ∧ (z5 : Int) ≤ z6 ∧ z6 ≤ (x0.length : Int) then
            if z4.length + 1 ≤ 17179869184 then
              if in64 (z6 + 1) then
                some (z3, z4 ++ ([(⟨sub x0 z5 z6⟩ : SE)] : List SE), z6 + 1)
              else none
            else none
          else none
        else
        some (z3, z4, z5)) fun z7 z8 z9 =>
      if in64 (z6 + 1) then
        m_impl_split_L0 fuel x0 k1 z7 z8 z9 (z6 + 1)
      else none
    else
    some (z4, z5)

def m_impl_split (fuel : Nat) (x0 : Str) (x1 : UInt8) : Option (List SE) :=
  bind2 (m_impl_split_L0 fuel x0 fuel x1 ([] : List SE) 0 0) fun z1 z2 =>
  if 0 ≤ (z2 : Int) ∧ (z2 : Int) ≤ (x0.length : Int) ∧ (x0.length : Int) ≤ (x0.length : Int) then
    if z1.length + 1 ≤ 17179869184 then
      some (z1 ++ ([(⟨sub x0 z2 (x0.length : Int)⟩ : SE)] : List SE))
    else none
  else none

set_option maxRecDepth 100000 in
set_option maxHeartbeats 4000000 in
theorem w_impl_split (fuel : Nat) {x0 : Str} {x1 : UInt8} {r0 : List SE} {w0 : World} (h : m_impl_split fuel x0 x1 = some r0) :
    Calls Try.prog 50 #[sv x0, .int .u8 (x1.toNat : Int)] w0 fun e w => ∃ a_r0 n_r0 c_r0, e = .returned (.slice a_r0 n_r0 c_r0) ∧ St w0 (fun _ => False) w [Own 9 (rowT r0) (.slice a_r0 n_r0 c_r0)] := by
  have HT : St w0 (fun _ => False) w0 [] := St.init0
  rw [m_impl_split] at h
  refine calls_fr (n := 35) [sv x0, .int .u8 (x1.toNat : Int)] Try.func50 rfl rfl rfl (fun a HF => ?_)
  have HT : St w0 (fun _ => False) w0 [] := HT
  refine wp_seq ?_
  refine wc_text ?_
  refine wc_assign HF nS rfl rfl rfl (fun a HF => ?_)
  refine wc_end ?_
  refine then_n ?_
  refine wp_seq ?_
  refine wc_text ?_
  refine wc_bslice (l := ([] : List SE)) (cs := []) (A := []) HF HT bs62_0 rfl rfl (gives_flat rfl) rfl (by decide) rfl rfl (fun p1 w HT hb  => ⟨nS, fun a HF => ?_⟩)
  refine wc_assign HF nS rfl rfl rfl (fun a HF => ?_)
  refine wc_end ?_
  refine then_n ?_
  refine wp_seq ?_
  refine wc_text ?_
  refine wc_assign HF nS rfl rfl rfl (fun a HF => ?_)
  refine wc_end ?_
  refine then_n ?_
  obtain ⟨z1, z2, hx1, h⟩ := obs2 h
  refine wp_cut (fun a w => ∃ a1 n1 c1, Fr a 35 [(0, sv x0), (5, .slice a1 n1 c1), (6, .int .i64 z2)] ∧ St w0 (fun _ => False) w [Own 9 (rowT z1) (.slice a1 n1 c1)]) ?_ ?_
  have hk1 := h
  have h := hx1
  refine wp_seq ?_
  refine wc_text ?_
  refine wc_assign HF nS rfl rfl rfl (fun a HF => ?_)
  refine wc_end ?_
  refine then_n ?_
  refine wp_block ?_
  refine wp_loopN (fun k1 a w => ∃ z3 z4 z5 z6 a2 n2 c2, m_impl_split_L0 fuel x0 k1 z3 z4 z5 z6 = some (z1, z2) ∧ Fr a 35 [(0, sv x0), (1, .int .u8 (z3.toNat : Int)), (5, .slice a2 n2 c2), (6, .int .i64 z5), (7, .int .i64 z6)] ∧ St w0 (fun _ => False) w [Own 9 (rowT z4) (.slice a2 n2 c2)]) fuel ⟨x1, ([] : List SE), 0, 0, (some ⟨p1, 0, none⟩), 0, 0, h, (HF.keep (HF.keep (HF.keep (HF.keep (HF.keep HF.nil rfl) rfl) rfl) rfl) rfl), HT⟩ ?_
  rintro k1 a w ⟨z3, z4, z5, z6, a2, n2, c2, h, HF, HT⟩
  rcases k1 with _ | k1
  cases h
  rw [m_impl_split_L0] at h
  obtain rfl := (HT.rdAt 0 rfl).neq
  refine ?_
  refine wp_seq ?_
  refine wp_seq ?_
  refine wc_text ?_
  refine wc_move HF nS rfl rfl rfl (fun a HF => ?_)
  refine wc_move HF nS rfl rfl rfl (fun a HF => ?_)
  refine wc_lenS (ats := #[]) HF nS Try.underlying9 rfl rfl rfl (fun a HF => ?_)
  refine wc_bin HF nS rfl rfl b_lt rfl rfl (fun a HF => ?_)
  refine wc_end ?_
  refine then_n ?_
  by_cases hb1 : z6 < (x0.length : Int)
  have h := (if_pos hb1).symm.trans h
  refine wp_if (b' := true) HF rfl (decide_eq_true hb1) ?_
  refine wp_skip ?_
  refine then_n ?_
  obtain ⟨z7, z8, z9, hx2, h⟩ := obs3 h
  refine wp_cut (fun a w => ∃ a3 n3 c3, Fr a 35 [(0, sv x0), (1, .int .u8 (z7.toNat : Int)), (5, .slice a3 n3 c3), (6, .int .i64 z9), (7, .int .i64 z6)] ∧ St w0 (fun _ => False) w [Own 9 (rowT z8) (.slice a3 n3 c3)]) ?_ ?_
  have hk2 := h
  have h := hx2
  refine wp_block ?_
  refine wp_seq ?_
  refine wc_text ?_
  refine wc_move HF nS rfl rfl rfl (fun a HF => ?_)
  refine wc_move HF nS rfl rfl rfl (fun a HF => ?_)
  obtain ⟨c4, hx3, h⟩ := obs h
  refine wc_index HF nS Try.underlying9 rfl rfl hx3 rfl rfl (fun a HF => ?_)
  refine wc_move HF nS rfl rfl rfl (fun a HF => ?_)
  refine wc_bin HF nS rfl rfl b_eq rfl rfl (fun a HF => ?_)
  refine wc_end ?_
  refine then_n ?_
  by_cases hb2 : (c4.toNat : Int) = (z3.toNat : Int)
  have h := (if_pos hb2).symm.trans h
  refine wp_if (b' := true) HF rfl (decide_eq_true hb2) ?_
  refine wp_seq ?_
  refine wc_text ?_
  refine wc_move HF nS rfl rfl rfl (fun a HF => ?_)
  refine wc_move HF nS rfl rfl rfl (fun a HF => ?_)
  refine wc_move HF nS rfl rfl rfl (fun a HF => ?_)
  refine wc_move HF nS rfl rfl rfl (fun a HF => ?_)
  obtain ⟨hg1, h⟩ := grd h
  refine wc_slsLH HF nS Try.underlying9 rfl rfl rfl hg1 rfl rfl (fun a HF => ?_)
  refine wc_bslice (l := ([(⟨sub x0 z5 z6⟩ : SE)] : List SE)) (cs := [sv (sub x0 z5 z6)]) (A := []) HF HT bs62_1 rfl rfl (gives_flat rfl) rfl (by decide) rfl rfl (fun p2 w HT hb  => ⟨nS, fun a HF => ?_⟩)
  obtain ⟨hg2, h⟩ := grd h
  have HT := HT.p1
  refine wc_append HF HT el62 rfl rfl (Nat.zero_lt_succ _) hg2 rfl rfl rfl (fun a4 c5 w HT => ⟨nS, fun a HF => ?_⟩)
  refine wc_assign HF nS rfl rfl rfl (fun a HF => ?_)
  refine wc_end ?_
  refine then_n ?_
  refine wc_text ?_
  refine wc_move HF nS rfl rfl rfl (fun a HF => ?_)
  obtain ⟨hg3, h⟩ := grd h
  refine wc_bin HF nS rfl rfl (b_add hg3) rfl rfl (fun a HF => ?_)
  refine wc_assign HF nS rfl rfl rfl (fun a HF => ?_)
  refine wc_end ?_
  refine blk_n ?_
  have hj1 := Option.some.inj h
  obtain ⟨hi1, hj2⟩ := Prod.mk.inj hj1
  subst hi1
  obtain ⟨hi2, hj3⟩ := Prod.mk.inj hj2
  subst hi2
  subst hj3
  exact then_n ⟨a4, (z4 ++ ([(⟨sub x0 z5 z6⟩ : SE)] : List SE)).length, c5, (HF.keep (HF.keep (HF.keep (HF.keep (HF.keep HF.nil rfl) rfl) rfl) rfl) rfl), HT⟩
  have h := (if_neg hb2).symm.trans h
  refine wp_if (b' := false) HF rfl (decide_eq_false hb2) ?_
  refine wp_skip ?_
  refine blk_n ?_
  have hj4 := Option.some.inj h
  obtain ⟨hi4, hj5⟩ := Prod.mk.inj hj4
  subst hi4
  obtain ⟨hi5, hj6⟩ := Prod.mk.inj hj5
  subst hi5
  subst hj6
  exact then_n ⟨a2, z4.length, c2, (HF.keep (HF.keep (HF.keep (HF.keep (HF.keep HF.nil rfl) rfl) rfl) rfl) rfl), HT⟩
  rintro a w ⟨a3, n3, c3, HF, HT⟩
  obtain rfl := (HT.rdAt 0 rfl).neq
  refine ?_
  refine wc_text ?_
  refine wc_move HF nS rfl rfl rfl (fun a HF => ?_)
  obtain ⟨hg4, h⟩ := grd h
  refine wc_bin HF nS rfl rfl (b_add hg4) rfl rfl (fun a HF => ?_)
  refine wc_assign HF nS rfl rfl rfl (fun a HF => ?_)
  refine wc_end ?_
  exact then_n ⟨k1, Nat.lt_succ_self k1, z7, z8, z9, z6 + 1, a3, z8.length, c3, h, (HF.keep (HF.keep (HF.keep (HF.keep (HF.keep HF.nil rfl) rfl) rfl) rfl) rfl), HT⟩
  have h := (if_neg hb1).symm.trans h
  refine wp_if (b' := false) HF rfl (decide_eq_false hb1) ?_
  refine wp_exit ?_
  refine then_x (then_x (?_))
  refine blk_x ?_
  have hj7 := Option.some.inj h
  obtain ⟨hi7, hj8⟩ := Prod.mk.inj hj7
  subst hi7
  subst hj8
  exact then_n ⟨a2, z4.length, c2, (HF.keep (HF.keep (HF.keep HF.nil rfl) rfl) rfl), HT⟩
  rintro a w ⟨a1, n1, c1, HF, HT⟩
  obtain rfl := (HT.rdAt 0 rfl).neq
  refine ?_
  refine wp_seq ?_
  refine wc_text ?_
  refine wc_move HF nS rfl rfl rfl (fun a HF => ?_)
  refine wc_move HF nS rfl rfl rfl (fun a HF => ?_)
  refine wc_move HF nS rfl rfl rfl (fun a HF => ?_)
  obtain ⟨hg5, h⟩ := grd h
  refine wc_slsL HF nS Try.underlying9 rfl rfl hg5 rfl rfl (fun a HF => ?_)
  refine wc_bslice (l := ([(⟨sub x0 z2 (x0.length : Int)⟩ : SE)] : List SE)) (cs := [sv (sub x0 z2 (x0.length : Int))]) (A := []) HF HT bs62_1 rfl rfl (gives_flat rfl) rfl (by decide) rfl rfl (fun p3 w HT hb  => ⟨nS, fun a HF => ?_⟩)
  obtain ⟨hg6, h⟩ := grd h
  have HT := HT.p1
  refine wc_append HF HT el62 rfl rfl (Nat.zero_lt_succ _) hg6 rfl rfl rfl (fun a5 c6 w HT => ⟨nS, fun a HF => ?_⟩)
  refine wc_assign HF nS rfl rfl rfl (fun a HF => ?_)
  refine wc_end ?_
  refine then_n ?_
  refine wp_ret ?_
  obtain rfl := Option.some.inj h
  refine bp_ret HF (res_one rfl HF rfl) ?_
  exact ⟨a5, (z1 ++ ([(⟨sub x0 z2 (x0.length : Int)⟩ : SE)] : List SE)).length, c6, rfl, HT⟩

def m_impl_ReadOp_L0 (fuel : Nat) (y1 : List SE) : Nat → Int → Int → Option Int
  | 0, _, _ => none
  | k1 + 1, z2, z3 =>
    if z3 ≤ 16 then
      (
        (at? y1 0).bind fun e1 =>
        (m_impl_mnemonic fuel z3).bind fun y2 =>
        if y2 = e1.s then
          some z3
        else
        some z2).bind fun z4 =>
      if in64 (z3 + 1) then
        m_impl_ReadOp_L0 fuel y1 k1 z4 (z3 + 1)
      else none
    else
    some z2

def m_impl_ReadOp_L1 (fuel : Nat) (y1 : List SE) : Nat → Int → Int → Int → Int → Option (Int × Int × Int)
  | 0, _, _, _, _ => none
  | k2 + 1, z8, z9, z10, z11 =>
    if z11 < ((subl y1 1 (y1.length : Int)).length : Int) then
      (at? (subl y1 1 (y1.length : Int)) z11).bind fun e2 =>
      bind2 (m_impl_ReadDec fuel e2.s) fun y4 y5 =>
      if z11 = 0 then
        if in64 (z11 + 1) then
          m_impl_ReadOp_L1 fuel y1 k2 y4 z9 z10 (z11 + 1)
        else none
      else
      if z11 = 1 then
        if in64 (z11 + 1) then
          m_impl_ReadOp_L1 fuel y1 k2 z8 y4 z10 (z11 + 1)
        else none
      else
      if z11 = 2 then
        if in64 (z11 + 1) then
          m_impl_ReadOp_L1 fuel y1 k2 z8 z9 y4 (z11 + 1)
        else none
      else
      none
    else
    some (z8, z9, z10)

def m_impl_ReadOp (fuel : Nat) (x0 : Str) : Option (Int × Int × Int × Int × Bool) :=
  (m_impl_split fuel x0 (32 : UInt8)).bind fun y1 =>
  (m_impl_ReadOp_L0 fuel y1 fuel 0 1).bind fun z1 =>
  if z1 = 0 then
    some (0, 0, 0, 0, false)
  else
  if in64 ((y1.length : Int) - 1) then
    (m_impl_fieldsOf fuel z1).bind fun y3 =>
    if ((y1.length : Int) - 1) = y3 then
      bind3 (
        if 0 ≤ (1 : Int) ∧ (1 : Int) ≤ (y1.length : Int) ∧ (y1.length : Int) ≤ (y1.length : Int) then
          m_impl_ReadOp_L1 fuel y1 fuel 0 0 0 0
        else none) fun z5 z6 z7 =>
      (m_impl_ShowOp fuel z1 z5 z6 z7).bind fun y6 =>
      if y6 = x0 then
        some (z1, z5, z6, z7, true)
      else
      some (0, 0, 0, 0, false)
    else
    some (0, 0, 0, 0, false)
  else none

set_option maxRecDepth 100000 in
set_option maxHeartbeats 4000000 in
theorem w_impl_ReadOp (fuel : Nat) {x0 : Str} {r0_0 : Int} {r0_1 : Int} {r0_2 : Int} {r0_3 : Int} {r1 : Bool} {w0 : World} (h : m_impl_ReadOp fuel x0 = some (r0_0, r0_1, r0_2, r0_3, r1)) :
    Calls Try.prog 14 #[sv x0] w0 fun e w => e = .returned (.tuple #[.agg #[.int .i64 r0_0, .int .i64 r0_1, .int .i64 r0_2, .int .i64 r0_3], .bool r1]) ∧ St w0 (fun _ => False) w [] := by
  have HT : St w0 (fun _ => False) w0 [] := St.init0
  rw [m_impl_ReadOp] at h
  refine calls_fr (n := 72) [sv x0] Try.func14 rfl rfl rfl (fun a HF => ?_)
  have HT : St w0 (fun _ => False) w0 [] := HT
  refine wp_seq ?_
  refine wc_text ?_
  refine wc_alloc (cs := [.int .i64 0, .int .i64 0, .int .i64 0, .int .i64 0]) HF HT zr25 rfl rfl rfl (fun p1 w HT hb => ⟨nS, fun a HF => ?_⟩)
  refine wc_assign HF nS rfl rfl rfl (fun a HF => ?_)
  refine wc_end ?_
  refine then_n ?_
  refine wp_seq ?_
  refine wc_text ?_
  refine wc_move HF nS rfl rfl rfl (fun a HF => ?_)
  obtain ⟨y1, hx1, h⟩ := obs h
  refine wc_call HF cf50 rfl (w_impl_split (x1 := (32 : UInt8)) fuel hx1) rfl rfl ?_
  rintro e w ⟨a1, n1, c1, rfl, hE⟩
  have hb := hE.below
  have HT := HT.pure hE
  obtain rfl := (HT.rdAt 0 rfl).neq
  have HT : St w0 (fun _ => False) w [Own 9 (rowT y1) (.slice a1 y1.length c1), Box p1 [.int .i64 0, .int .i64 0, .int .i64 0, .int .i64 0]] := HT
  refine ⟨_, rfl, nS, fun a HF => ?_⟩
  refine wc_assign HF nS rfl rfl rfl (fun a HF => ?_)
  refine wc_end ?_
  refine then_n ?_
  refine wp_seq ?_
  refine wc_text ?_
  refine wc_build (cs := #[.int .i64 0, .int .i64 0, .int .i64 0, .int .i64 0]) HF nS bd25 rfl rfl rfl rfl (fun a HF => ?_)
  refine wc_alloc (cs := [.int .i64 0, .int .i64 0, .int .i64 0, .int .i64 0]) HF HT zr25 rfl rfl rfl (fun p2 w HT hb => ⟨nS, fun a HF => ?_⟩)
  refine wc_storeB (cs' := [.int .i64 0, .int .i64 0, .int .i64 0, .int .i64 0]) HF HT rfl rfl (fun w => (ag25 w).2) rfl rfl rfl rfl rfl (fun w HT => ⟨nS, ?_⟩)
  refine wc_end ?_
  refine then_n ?_
  obtain ⟨z1, hx2, h⟩ := obs h
  refine wp_cut (fun a w => Fr a 72 [(0, sv x0), (2, .pointer (some ⟨p1, 0, none⟩)), (4, .slice a1 y1.length c1), (5, .pointer (some ⟨p2, 0, none⟩))] ∧ St w0 (fun _ => False) w [Box p1 [.int .i64 0, .int .i64 0, .int .i64 0, .int .i64 0], Own 9 (rowT y1) (.slice a1 y1.length c1), Box p2 [.int .i64 z1, .int .i64 0, .int .i64 0, .int .i64 0]]) ?_ ?_
  have hk1 := h
  have h := hx2
  refine wp_seq ?_
  refine wc_text ?_
  refine wc_assign HF nS rfl rfl rfl (fun a HF => ?_)
  refine wc_end ?_
  refine then_n ?_
  refine wp_block ?_
  have HT := HT.p1.p2
  refine wp_loopN (fun k1 a w => ∃ z2 z3, m_impl_ReadOp_L0 fuel y1 k1 z2 z3 = some z1 ∧ Fr a 72 [(0, sv x0), (2, .pointer (some ⟨p1, 0, none⟩)), (4, .slice a1 y1.length c1), (5, .pointer (some ⟨p2, 0, none⟩)), (6, .int .i64 z3)] ∧ St w0 (fun _ => False) w [Box p1 [.int .i64 0, .int .i64 0, .int .i64 0, .int .i64 0], Own 9 (rowT y1) (.slice a1 y1.length c1), Box p2 [.int .i64 z2, .int .i64 0, .int .i64 0, .int .i64 0]]) fuel ⟨0, 1, h, (HF.keep (HF.keep (HF.keep (HF.keep (HF.keep HF.nil rfl) rfl) rfl) rfl) rfl), HT⟩ ?_
  rintro k1 a w ⟨z2, z3, h, HF, HT⟩
  rcases k1 with _ | k1
  cases h
  rw [m_impl_ReadOp_L0] at h
  refine ?_
  refine wp_seq ?_
  refine wp_seq ?_
  refine wc_text ?_
  refine wc_move HF nS rfl rfl rfl (fun a HF => ?_)
  refine wc_bin HF nS rfl rfl b_le rfl rfl (fun a HF => ?_)
  refine wc_end ?_
  refine then_n ?_
  by_cases hb1 : z3 ≤ 16
  have h := (if_pos hb1).symm.trans h
  refine wp_if (b' := true) HF rfl (decide_eq_true hb1) ?_
  refine wp_skip ?_
  refine then_n ?_
  obtain ⟨z4, hx3, h⟩ := obs h
  refine wp_cut (fun a w => Fr a 72 [(0, sv x0), (2, .pointer (some ⟨p1, 0, none⟩)), (4, .slice a1 y1.length c1), (5, .pointer (some ⟨p2, 0, none⟩)), (6, .int .i64 z3)] ∧ St w0 (fun _ => False) w [Box p1 [.int .i64 0, .int .i64 0, .int .i64 0, .int .i64 0], Own 9 (rowT y1) (.slice a1 y1.length c1), Box p2 [.int .i64 z4, .int .i64 0, .int .i64 0, .int .i64 0]]) ?_ ?_
  have hk2 := h
  have h := hx3
  refine wp_block ?_
  refine wp_seq ?_
  obtain ⟨e1, hx4, h⟩ := obs h
  obtain ⟨b1, o1, ha1⟩ := (HT.rdAt 1 rfl).addr hx4
  have hc1 := (HT.rdAt 1 rfl).flatAt ha1 hx4
  refine wp_region_can [(0, true), (2, false), (3, false), (4, false), (1, false), (5, true)] (fun w' => LdC w' b1 (o1 + (0 : Int).toNat * Dat.size SE) [sv e1.s] ∧ True) (by kernel_rfl) (by kernel_rfl) ?_
  have HT := HT.drew
  refine wc_move HF nS rfl rfl rfl (fun a HF => ?_)
  refine wc_move HF (fun _ => ⟨((HT.rdAt 1 rfl).flatAt ha1 hx4), trivial⟩) rfl rfl rfl (fun a HF => ?_)
  refine wc_ixaddr HF (fun _ => ⟨((HT.rdAt 1 rfl).flatAt ha1 hx4), trivial⟩) el62 rfl ha1 ((HT.rdAt 1 rfl)).neq rfl hx4 rfl rfl (fun a HF => ?_)
  refine wc_loadS HF ⟨((HT.rdAt 1 rfl).flatAt ha1 hx4), trivial⟩ rfl sc9 (fun w hS => (hS.1).get 0 rfl) rfl rfl (fun a HF => ?_)
  obtain ⟨y2, hx5, h⟩ := obs h
  refine wc_call HF cf45 rfl (w_impl_mnemonic fuel hx5) rfl rfl ?_
  rintro e w ⟨rfl, hE⟩
  have hb := hE.below
  have HT := HT.pure hE
  have HT : St w0 (fun _ => False) w [Box p1 [.int .i64 0, .int .i64 0, .int .i64 0, .int .i64 0], Own 9 (rowT y1) (.slice a1 y1.length c1), Box p2 [.int .i64 z2, .int .i64 0, .int .i64 0, .int .i64 0]] := HT
  refine ⟨_, rfl, (fun _ => ⟨((HT.rdAt 1 rfl).flatAt ha1 hx4), trivial⟩), fun a HF => ?_⟩
  refine wc_bin HF nS rfl rfl b_seq rfl rfl (fun a HF => ?_)
  refine wc_endN ?_
  refine then_n ?_
  by_cases hb2 : y2 = e1.s
  have h := (if_pos hb2).symm.trans h
  refine wp_if (b' := true) HF rfl (decide_eq_true hb2) ?_
  refine wc_text ?_
  refine wc_move HF nS rfl rfl rfl (fun a HF => ?_)
  refine wc_faddr HF nS rfl fl25_0 rfl rfl (fun a HF => ?_)
  have HT := HT.p2
  refine wc_storeB (cs' := [.int .i64 z3, .int .i64 0, .int .i64 0, .int .i64 0]) HF HT rfl rfl (fun w => (sc3 w).2) rfl rfl rfl rfl rfl (fun w HT => ⟨nS, ?_⟩)
  refine wc_end ?_
  refine blk_n ?_
  have HT := HT.p2.p2
  obtain rfl := Option.some.inj h
  exact then_n ⟨(HF.keep (HF.keep (HF.keep (HF.keep (HF.keep HF.nil rfl) rfl) rfl) rfl) rfl), HT⟩
  have h := (if_neg hb2).symm.trans h
  refine wp_if (b' := false) HF rfl (decide_eq_false hb2) ?_
  refine wp_skip ?_
  refine blk_n ?_
  obtain rfl := Option.some.inj h
  exact then_n ⟨(HF.keep (HF.keep (HF.keep (HF.keep (HF.keep HF.nil rfl) rfl) rfl) rfl) rfl), HT⟩
  rintro a w ⟨HF, HT⟩
  refine ?_
  refine wc_text ?_
  refine wc_move HF nS rfl rfl rfl (fun a HF => ?_)
  obtain ⟨hg1, h⟩ := grd h
  refine wc_bin HF nS rfl rfl (b_add hg1) rfl rfl (fun a HF => ?_)
  refine wc_assign HF nS rfl rfl rfl (fun a HF => ?_)
  refine wc_end ?_
  exact then_n ⟨k1, Nat.lt_succ_self k1, z4, z3 + 1, h, (HF.keep (HF.keep (HF.keep (HF.keep (HF.keep HF.nil rfl) rfl) rfl) rfl) rfl), HT⟩
  have h := (if_neg hb1).symm.trans h
  refine wp_if (b' := false) HF rfl (decide_eq_false hb1) ?_
  refine wp_exit ?_
  refine then_x (then_x (?_))
  refine blk_x ?_
  obtain rfl := Option.some.inj h
  exact then_n ⟨(HF.keep (HF.keep (HF.keep (HF.keep HF.nil rfl) rfl) rfl) rfl), HT⟩
  rintro a w ⟨HF, HT⟩
  refine ?_
  refine wp_seq ?_
  refine wp_seq ?_
  refine wc_text ?_
  refine wc_faddr HF nS rfl fl25_0 rfl rfl (fun a HF => ?_)
  refine wc_load HF rfl sc3 ((HT.boxAt 2 rfl).get 0 rfl) rfl rfl (fun a HF => ?_)
  refine wc_bin HF nS rfl rfl b_eq rfl rfl (fun a HF => ?_)
  refine wc_move HF nS rfl rfl rfl (fun a HF => ?_)
  by_cases hb3 : z1 = 0
  have h := (if_pos hb3).symm.trans h
  refine wc_skip HF nS (HF.wn rfl rfl rfl rfl (decide_eq_true hb3)) rfl (fun a HF => ?_)
  refine wc_skip HF nS (HF.wn rfl rfl rfl rfl (decide_eq_true hb3)) rfl (fun a HF => ?_)
  refine wc_skip HF nS (HF.wn rfl rfl rfl rfl (decide_eq_true hb3)) rfl (fun a HF => ?_)
  refine wc_skip HF nS (HF.wn rfl rfl rfl rfl (decide_eq_true hb3)) rfl (fun a HF => ?_)
  refine wc_skip HF nS (HF.wn rfl rfl rfl rfl (decide_eq_true hb3)) rfl (fun a HF => ?_)
  refine wc_skip HF nS (HF.wn rfl rfl rfl rfl (decide_eq_true hb3)) rfl (fun a HF => ?_)
  refine wc_skip HF nS (HF.wn rfl rfl rfl rfl (decide_eq_true hb3)) rfl (fun a HF => ?_)
  refine wc_pick (b := true) HF nS rfl (decide_eq_true hb3) rfl rfl rfl (fun a HF => ?_)
  refine wc_end ?_
  refine then_n ?_
  refine wp_if (b' := true) HF rfl rfl ?_
  refine wp_seq ?_
  refine wc_text ?_
  refine wc_build (cs := #[.int .i64 0, .int .i64 0, .int .i64 0, .int .i64 0]) HF nS bd25 rfl rfl rfl rfl (fun a HF => ?_)
  refine wc_storeB (cs' := [.int .i64 0, .int .i64 0, .int .i64 0, .int .i64 0]) HF HT rfl rfl (fun w => (ag25 w).2) rfl rfl rfl rfl rfl (fun w HT => ⟨nS, ?_⟩)
  refine wc_assign HF nS rfl rfl rfl (fun a HF => ?_)
  refine wc_end ?_
  refine then_n ?_
  refine wp_ret ?_
  have hj1 := Option.some.inj h
  obtain ⟨hi1, hj2⟩ := Prod.mk.inj hj1
  subst hi1
  obtain ⟨hi2, hj3⟩ := Prod.mk.inj hj2
  subst hi2
  obtain ⟨hi3, hj4⟩ := Prod.mk.inj hj3
  subst hi3
  obtain ⟨hi4, hj5⟩ := Prod.mk.inj hj4
  subst hi4
  subst hj5
  refine then_r (?_)
  refine bp_ret HF (res_cell_tmp (vs := [.int .i64 0, .int .i64 0, .int .i64 0, .int .i64 0]) rfl HF rfl ag25 rfl (HT.boxAt 0 rfl) rfl) ?_
  have HT := HT.t0
  exact ⟨rfl, HT⟩
  have h := (if_neg hb3).symm.trans h
  refine wc_move HF nS rfl (HF.wy rfl rfl rfl rfl (decide_eq_false hb3)) rfl (fun a HF => ?_)
  refine wc_lenR HF nS Try.underlying62 rfl (HF.wy rfl rfl rfl rfl (decide_eq_false hb3)) rfl (fun a HF => ?_)
  obtain ⟨hg2, h⟩ := grd h
  refine wc_bin HF nS rfl rfl (b_sub hg2) (HF.wy rfl rfl rfl rfl (decide_eq_false hb3)) rfl (fun a HF => ?_)
  refine wc_faddr HF nS rfl fl25_0 (HF.wy rfl rfl rfl rfl (decide_eq_false hb3)) rfl (fun a HF => ?_)
  refine wc_load HF rfl sc3 ((HT.boxAt 2 rfl).get 0 rfl) (HF.wy rfl rfl rfl rfl (decide_eq_false hb3)) rfl (fun a HF => ?_)
  obtain ⟨y3, hx6, h⟩ := obs h
  refine wc_call HF cf46 rfl (w_impl_fieldsOf fuel hx6) (HF.wy rfl rfl rfl rfl (decide_eq_false hb3)) rfl ?_
  rintro e w ⟨rfl, hE⟩
  have hb := hE.below
  have HT := HT.pure hE
  have HT : St w0 (fun _ => False) w [Box p1 [.int .i64 0, .int .i64 0, .int .i64 0, .int .i64 0], Own 9 (rowT y1) (.slice a1 y1.length c1), Box p2 [.int .i64 z1, .int .i64 0, .int .i64 0, .int .i64 0]] := HT
  refine ⟨_, rfl, nS, fun a HF => ?_⟩
  refine wc_bin HF nS rfl rfl b_ne (HF.wy rfl rfl rfl rfl (decide_eq_false hb3)) rfl (fun a HF => ?_)
  refine wc_pick (b := false) HF nS rfl (decide_eq_false hb3) rfl rfl rfl (fun a HF => ?_)
  refine wc_end ?_
  refine then_n ?_
  by_cases hb4 : ((y1.length : Int) - 1) = y3
  have h := (if_pos hb4).symm.trans h
  refine wp_if (b' := false) HF rfl (notT (decide_eq_true hb4)) ?_
  refine wp_skip ?_
  refine then_n ?_
  refine wp_seq ?_
  refine wc_text ?_
  refine wc_alloc (cs := [.int .i64 0, .int .i64 0, .int .i64 0]) HF HT zr70 rfl rfl rfl (fun p3 w HT hb => ⟨nS, fun a HF => ?_⟩)
  refine wc_end ?_
  refine then_n ?_
  obtain ⟨z5, z6, z7, hx7, h⟩ := obs3 h
  refine wp_cut (fun a w => Fr a 72 [(0, sv x0), (2, .pointer (some ⟨p1, 0, none⟩)), (5, .pointer (some ⟨p2, 0, none⟩)), (7, .pointer (some ⟨p3, 0, none⟩))] ∧ St w0 (fun _ => False) w [Box p1 [.int .i64 0, .int .i64 0, .int .i64 0, .int .i64 0], Box p2 [.int .i64 z1, .int .i64 0, .int .i64 0, .int .i64 0], Box p3 [.int .i64 z5, .int .i64 z6, .int .i64 z7]]) ?_ ?_
  have hk1 := h
  have h := hx7
  refine wp_seq ?_
  refine wc_text ?_
  refine wc_move HF nS rfl rfl rfl (fun a HF => ?_)
  obtain ⟨hg3, h⟩ := grd h
  have HT := HT.p2
  have HT := HT.toRead
  obtain ⟨a2, c2, HT, hcut⟩ := St.cutRead HT hg3
  refine wc_slrL (j := 0) HF nS el62 rfl rfl hcut rfl rfl (fun a HF => ?_)
  refine wc_lenR HF nS Try.underlying62 rfl rfl rfl (fun a HF => ?_)
  refine wc_move HF nS rfl rfl rfl (fun a HF => ?_)
  refine wc_end ?_
  refine then_n ?_
  refine wp_block ?_
  have HT := HT.p1.p3.p3
  refine wp_loopN (fun k2 a w => ∃ z8 z9 z10 z11, m_impl_ReadOp_L1 fuel y1 k2 z8 z9 z10 z11 = some (z5, z6, z7) ∧ Fr a 72 [(0, sv x0), (2, .pointer (some ⟨p1, 0, none⟩)), (5, .pointer (some ⟨p2, 0, none⟩)), (7, .pointer (some ⟨p3, 0, none⟩)), (41, .slice a2 ((subl y1 1 (y1.length : Int)).length) c2), (42, .int .i64 ((subl y1 1 (y1.length : Int)).length : Int)), (43, .int .i64 z11)] ∧ St w0 (fun _ => False) w [Box p1 [.int .i64 0, .int .i64 0, .int .i64 0, .int .i64 0], Box p2 [.int .i64 z1, .int .i64 0, .int .i64 0, .int .i64 0], Box p3 [.int .i64 z8, .int .i64 z9, .int .i64 z10], ReadR (rowT (subl y1 1 (y1.length : Int))) (.slice a2 ((subl y1 1 (y1.length : Int)).length) c2)]) fuel ⟨0, 0, 0, 0, h, (HF.keep (HF.keep (HF.keep (HF.keep (HF.keep (HF.keep (HF.keep HF.nil rfl) rfl) rfl) rfl) rfl) rfl) rfl), HT⟩ ?_
  rintro k2 a w ⟨z8, z9, z10, z11, h, HF, HT⟩
  rcases k2 with _ | k2
  cases h
  rw [m_impl_ReadOp_L1] at h
  refine ?_
  refine wp_seq ?_
  refine wc_text ?_
  refine wc_bin HF nS rfl rfl b_lt rfl rfl (fun a HF => ?_)
  refine wc_end ?_
  refine then_n ?_
  refine wp_seq ?_
  by_cases hb5 : z11 < ((subl y1 1 (y1.length : Int)).length : Int)
  have h := (if_pos hb5).symm.trans h
  refine wp_if (b' := true) HF rfl (decide_eq_true hb5) ?_
  refine wp_skip ?_
  refine then_n ?_
  refine wp_seq ?_
  refine wp_block ?_
  refine wp_seq ?_
  refine wc_text ?_
  refine wc_move HF nS rfl rfl rfl (fun a HF => ?_)
  obtain ⟨e2, hx8, h⟩ := obs h
  obtain ⟨b2, o2, ha2⟩ := (HT.rdRAt 3 rfl).addr hx8
  refine wc_ixaddr HF nS el62 rfl ha2 ((HT.rdRAt 3 rfl)).neq rfl hx8 rfl rfl (fun a HF => ?_)
  have hc2 := (HT.rdRAt 3 rfl).flatAt ha2 hx8
  refine wc_load HF rfl sc9 (hc2.get 0 rfl) rfl rfl (fun a HF => ?_)
  refine wc_assign HF nS rfl rfl rfl (fun a HF => ?_)
  refine wc_assign HF nS rfl rfl rfl (fun a HF => ?_)
  refine wc_end ?_
  refine then_n ?_
  refine wp_seq ?_
  refine wc_text ?_
  refine wc_move HF nS rfl rfl rfl (fun a HF => ?_)
  obtain ⟨y4, y5, hx9, h⟩ := obs2 h
  refine wc_call HF cf51 rfl (w_impl_ReadDec fuel hx9) rfl rfl ?_
  rintro e w ⟨rfl, hE⟩
  have hb := hE.below
  have HT := HT.pure hE
  have HT : St w0 (fun _ => False) w [Box p1 [.int .i64 0, .int .i64 0, .int .i64 0, .int .i64 0], Box p2 [.int .i64 z1, .int .i64 0, .int .i64 0, .int .i64 0], Box p3 [.int .i64 z8, .int .i64 z9, .int .i64 z10], ReadR (rowT (subl y1 1 (y1.length : Int))) (.slice a2 ((subl y1 1 (y1.length : Int)).length) c2)] := HT
  refine ⟨_, rfl, nS, fun a HF => ?_⟩
  refine wc_move HF nS rfl rfl rfl (fun a HF => ?_)
  refine wc_extract (v := .int .i64 y4) HF nS rfl rfl rfl rfl (fun a HF => ?_)
  refine wc_extract (v := .bool y5) HF nS rfl rfl rfl rfl (fun a HF => ?_)
  refine wc_assign HF nS rfl rfl rfl (fun a HF => ?_)
  refine wc_assign HF nS rfl rfl rfl (fun a HF => ?_)
  refine wc_end ?_
  refine then_n ?_
  refine wc_text ?_
  refine wc_move HF nS rfl rfl rfl (fun a HF => ?_)
  refine wc_move HF nS rfl rfl rfl (fun a HF => ?_)
  by_cases hb6 : z11 = 0
  have h := (if_pos hb6).symm.trans h
  refine wc_ixarr (m := 0) HF nS ar70 rfl rfl (of_decide_eq_true (decide_eq_true hb6)) rfl rfl rfl rfl (fun a HF => ?_)
  have HT := HT.p2
  refine wc_storeB (cs' := [.int .i64 y4, .int .i64 z9, .int .i64 z10]) HF HT rfl rfl (fun w => (sc3 w).2) rfl rfl rfl rfl rfl (fun w HT => ⟨nS, ?_⟩)
  refine wc_end ?_
  refine blk_n ?_
  refine then_n ?_
  refine wc_text ?_
  obtain ⟨hg4, h⟩ := grd h
  refine wc_bin HF nS rfl rfl (b_add hg4) rfl rfl (fun a HF => ?_)
  refine wc_move HF nS rfl rfl rfl (fun a HF => ?_)
  refine wc_end ?_
  have HT := HT.p3.p1.p3.p3
  exact then_n ⟨k2, Nat.lt_succ_self k2, y4, z9, z10, z11 + 1, h, (HF.keep (HF.keep (HF.keep (HF.keep (HF.keep (HF.keep (HF.keep HF.nil rfl) rfl) rfl) rfl) rfl) rfl) rfl), HT⟩
  have h := (if_neg hb6).symm.trans h
  by_cases hb7 : z11 = 1
  have h := (if_pos hb7).symm.trans h
  refine wc_ixarr (m := 1) HF nS ar70 rfl rfl (of_decide_eq_true (decide_eq_true hb7)) rfl rfl rfl rfl (fun a HF => ?_)
  have HT := HT.p2
  refine wc_storeB (cs' := [.int .i64 z8, .int .i64 y4, .int .i64 z10]) HF HT rfl rfl (fun w => (sc3 w).2) rfl rfl rfl rfl rfl (fun w HT => ⟨nS, ?_⟩)
  refine wc_end ?_
  refine blk_n ?_
  refine then_n ?_
  refine wc_text ?_
  obtain ⟨hg5, h⟩ := grd h
  refine wc_bin HF nS rfl rfl (b_add hg5) rfl rfl (fun a HF => ?_)
  refine wc_move HF nS rfl rfl rfl (fun a HF => ?_)
  refine wc_end ?_
  have HT := HT.p3.p1.p3.p3
  exact then_n ⟨k2, Nat.lt_succ_self k2, z8, y4, z10, z11 + 1, h, (HF.keep (HF.keep (HF.keep (HF.keep (HF.keep (HF.keep (HF.keep HF.nil rfl) rfl) rfl) rfl) rfl) rfl) rfl), HT⟩
  have h := (if_neg hb7).symm.trans h
  by_cases hb8 : z11 = 2
  have h := (if_pos hb8).symm.trans h
  refine wc_ixarr (m := 2) HF nS ar70 rfl rfl (of_decide_eq_true (decide_eq_true hb8)) rfl rfl rfl rfl (fun a HF => ?_)
  have HT := HT.p2
  refine wc_storeB (cs' := [.int .i64 z8, .int .i64 z9, .int .i64 y4]) HF HT rfl rfl (fun w => (sc3 w).2) rfl rfl rfl rfl rfl (fun w HT => ⟨nS, ?_⟩)
  refine wc_end ?_
  refine blk_n ?_
  refine then_n ?_
  refine wc_text ?_
  obtain ⟨hg6, h⟩ := grd h
  refine wc_bin HF nS rfl rfl (b_add hg6) rfl rfl (fun a HF => ?_)
  refine wc_move HF nS rfl rfl rfl (fun a HF => ?_)
  refine wc_end ?_
  have HT := HT.p3.p1.p3.p3
  exact then_n ⟨k2, Nat.lt_succ_self k2, z8, z9, y4, z11 + 1, h, (HF.keep (HF.keep (HF.keep (HF.keep (HF.keep (HF.keep (HF.keep HF.nil rfl) rfl) rfl) rfl) rfl) rfl) rfl), HT⟩
  have h := (if_neg hb8).symm.trans h
  cases h
  have h := (if_neg hb5).symm.trans h
  refine wp_if (b' := false) HF rfl (decide_eq_false hb5) ?_
  refine wp_exit ?_
  refine then_x (then_x (?_))
  refine blk_x ?_
  have HT := HT.t3
  have hj6 := Option.some.inj h
  obtain ⟨hi6, hj7⟩ := Prod.mk.inj hj6
  subst hi6
  obtain ⟨hi7, hj8⟩ := Prod.mk.inj hj7
  subst hi7
  subst hj8
  exact then_n ⟨(HF.keep (HF.keep (HF.keep (HF.keep HF.nil rfl) rfl) rfl) rfl), HT⟩
  rintro a w ⟨HF, HT⟩
  refine ?_
  refine wp_seq ?_
  refine wp_region_can [(0, true), (1, true), (2, false), (3, false), (4, false), (5, false), (6, true), (7, false), (8, true), (9, false), (10, true), (11, true)] (fun w' => w'.cell? ⟨p3, 1, none⟩ = some (.int .i64 z6) ∧ w'.cell? ⟨p3, 2, none⟩ = some (.int .i64 z7) ∧ True) (by kernel_rfl) (by kernel_rfl) ?_
  have HT := HT.drew
  refine wc_ixarr (m := 0) HF nS ar70 rfl rfl rfl rfl rfl rfl rfl (fun a HF => ?_)
  refine wc_load HF rfl sc3 ((HT.boxAt 2 rfl).get 0 rfl) rfl rfl (fun a HF => ?_)
  refine wc_ixarr (m := 1) HF (fun _ => ⟨(HT.boxAt 2 rfl).get 1 rfl, (HT.boxAt 2 rfl).get 2 rfl, trivial⟩) ar70 rfl rfl rfl rfl rfl rfl rfl (fun a HF => ?_)
  refine wc_loadS HF ⟨(HT.boxAt 2 rfl).get 1 rfl, (HT.boxAt 2 rfl).get 2 rfl, trivial⟩ rfl sc3 (fun w hS => hS.1) rfl rfl (fun a HF => ?_)
  refine wc_ixarr (m := 2) HF (fun _ => ⟨(HT.boxAt 2 rfl).get 1 rfl, (HT.boxAt 2 rfl).get 2 rfl, trivial⟩) ar70 rfl rfl rfl rfl rfl rfl rfl (fun a HF => ?_)
  refine wc_loadS HF ⟨(HT.boxAt 2 rfl).get 1 rfl, (HT.boxAt 2 rfl).get 2 rfl, trivial⟩ rfl sc3 (fun w hS => hS.2.1) rfl rfl (fun a HF => ?_)
  refine wc_faddr HF nS rfl fl25_1 rfl rfl (fun a HF => ?_)
  have HT := HT.p1
  refine wc_storeB (cs' := [.int .i64 z1, .int .i64 z5, .int .i64 0, .int .i64 0]) HF HT rfl rfl (fun w => (sc3 w).2) rfl rfl rfl rfl rfl (fun w HT => ⟨(fun _ => ⟨(HT.boxAt 2 rfl).get 1 rfl, (HT.boxAt 2 rfl).get 2 rfl, trivial⟩), ?_⟩)
  refine wc_faddr HF nS rfl fl25_2 rfl rfl (fun a HF => ?_)
  refine wc_storeB (cs' := [.int .i64 z1, .int .i64 z5, .int .i64 z6, .int .i64 0]) HF HT rfl rfl (fun w => (sc3 w).2) rfl rfl rfl rfl rfl (fun w HT => ⟨(fun _ => ⟨(HT.boxAt 2 rfl).get 1 rfl, (HT.boxAt 2 rfl).get 2 rfl, trivial⟩), ?_⟩)
  refine wc_faddr HF nS rfl fl25_3 rfl rfl (fun a HF => ?_)
  refine wc_storeB (cs' := [.int .i64 z1, .int .i64 z5, .int .i64 z6, .int .i64 z7]) HF HT rfl rfl (fun w => (sc3 w).2) rfl rfl rfl rfl rfl (fun w HT => ⟨nS, ?_⟩)
  refine wc_endN ?_
  refine then_n ?_
  refine wp_seq ?_
  refine wp_seq ?_
  refine wc_text ?_
  refine wc_loadA (vs := [.int .i64 z1, .int .i64 z5, .int .i64 z6, .int .i64 z7]) HF rfl ag25 rfl ((HT.boxAt 0 rfl).part 0 4) rfl rfl (fun a HF => ?_)
  obtain ⟨y6, hx10, h⟩ := obs h
  refine wc_call HF cf12 rfl (w_impl_ShowOp fuel hx10) rfl rfl ?_
  rintro e w ⟨rfl, hE⟩
  have hb := hE.below
  have HT := HT.pure hE
  have HT : St w0 (fun _ => False) w [Box p2 [.int .i64 z1, .int .i64 z5, .int .i64 z6, .int .i64 z7], Box p1 [.int .i64 0, .int .i64 0, .int .i64 0, .int .i64 0], Box p3 [.int .i64 z5, .int .i64 z6, .int .i64 z7]] := HT
  refine ⟨_, rfl, nS, fun a HF => ?_⟩
  refine wc_move HF nS rfl rfl rfl (fun a HF => ?_)
  refine wc_bin HF nS rfl rfl b_sne rfl rfl (fun a HF => ?_)
  refine wc_end ?_
  refine then_n ?_
  by_cases hb9 : y6 = x0
  have h := (if_pos hb9).symm.trans h
  refine wp_if (b' := false) HF rfl (notT (decide_eq_true hb9)) ?_
  refine wp_skip ?_
  refine then_n ?_
  refine wp_seq ?_
  refine wc_text ?_
  refine wc_loadA (vs := [.int .i64 z1, .int .i64 z5, .int .i64 z6, .int .i64 z7]) HF rfl ag25 rfl ((HT.boxAt 0 rfl).part 0 4) rfl rfl (fun a HF => ?_)
  have HT := HT.p1
  refine wc_storeB (cs' := [.int .i64 z1, .int .i64 z5, .int .i64 z6, .int .i64 z7]) HF HT rfl rfl (fun w => (ag25 w).2) rfl rfl rfl rfl rfl (fun w HT => ⟨nS, ?_⟩)
  refine wc_assign HF nS rfl rfl rfl (fun a HF => ?_)
  refine wc_end ?_
  refine then_n ?_
  refine wp_ret ?_
  have hj9 := Option.some.inj h
  obtain ⟨hi9, hj10⟩ := Prod.mk.inj hj9
  subst hi9
  obtain ⟨hi10, hj11⟩ := Prod.mk.inj hj10
  subst hi10
  obtain ⟨hi11, hj12⟩ := Prod.mk.inj hj11
  subst hi11
  obtain ⟨hi12, hj13⟩ := Prod.mk.inj hj12
  subst hi12
  subst hj13
  refine bp_ret HF (res_cell_tmp (vs := [.int .i64 z1, .int .i64 z5, .int .i64 z6, .int .i64 z7]) rfl HF rfl ag25 rfl (HT.boxAt 0 rfl) rfl) ?_
  have HT := HT.t0
  exact ⟨rfl, HT⟩
  have h := (if_neg hb9).symm.trans h
  refine wp_if (b' := true) HF rfl (notF (decide_eq_false hb9)) ?_
  refine wp_seq ?_
  refine wc_text ?_
  refine wc_build (cs := #[.int .i64 0, .int .i64 0, .int .i64 0, .int .i64 0]) HF nS bd25 rfl rfl rfl rfl (fun a HF => ?_)
  have HT := HT.p1
  refine wc_storeB (cs' := [.int .i64 0, .int .i64 0, .int .i64 0, .int .i64 0]) HF HT rfl rfl (fun w => (ag25 w).2) rfl rfl rfl rfl rfl (fun w HT => ⟨nS, ?_⟩)
  refine wc_assign HF nS rfl rfl rfl (fun a HF => ?_)
  refine wc_end ?_
  refine then_n ?_
  refine wp_ret ?_
  have hj14 := Option.some.inj h
  obtain ⟨hi14, hj15⟩ := Prod.mk.inj hj14
  subst hi14
  obtain ⟨hi15, hj16⟩ := Prod.mk.inj hj15
  subst hi15
  obtain ⟨hi16, hj17⟩ := Prod.mk.inj hj16
  subst hi16
  obtain ⟨hi17, hj18⟩ := Prod.mk.inj hj17
  subst hi17
  subst hj18
  refine then_r (?_)
  refine bp_ret HF (res_cell_tmp (vs := [.int .i64 0, .int .i64 0, .int .i64 0, .int .i64 0]) rfl HF rfl ag25 rfl (HT.boxAt 0 rfl) rfl) ?_
  have HT := HT.t0
  exact ⟨rfl, HT⟩
  have h := (if_neg hb4).symm.trans h
  refine wp_if (b' := true) HF rfl (notF (decide_eq_false hb4)) ?_
  refine wp_seq ?_
  refine wc_text ?_
  refine wc_build (cs := #[.int .i64 0, .int .i64 0, .int .i64 0, .int .i64 0]) HF nS bd25 rfl rfl rfl rfl (fun a HF => ?_)
  refine wc_storeB (cs' := [.int .i64 0, .int .i64 0, .int .i64 0, .int .i64 0]) HF HT rfl rfl (fun w => (ag25 w).2) rfl rfl rfl rfl rfl (fun w HT => ⟨nS, ?_⟩)
  refine wc_assign HF nS rfl rfl rfl (fun a HF => ?_)
  refine wc_end ?_
  refine then_n ?_
  refine wp_ret ?_
  have hj19 := Option.some.inj h
  obtain ⟨hi19, hj20⟩ := Prod.mk.inj hj19
  subst hi19
  obtain ⟨hi20, hj21⟩ := Prod.mk.inj hj20
  subst hi20
  obtain ⟨hi21, hj22⟩ := Prod.mk.inj hj21
  subst hi21
  obtain ⟨hi22, hj23⟩ := Prod.mk.inj hj22
  subst hi22
  subst hj23
  refine then_r (?_)
  refine bp_ret HF (res_cell_tmp (vs := [.int .i64 0, .int .i64 0, .int .i64 0, .int .i64 0]) rfl HF rfl ag25 rfl (HT.boxAt 0 rfl) rfl) ?_
  have HT := HT.t0
  exact ⟨rfl, HT⟩

def m_spec_Dec_L0 (fuel : Nat) : Nat → Int → Str → Option Str
  | 0, _, _ => none
  | k1 + 1, z2, z3 =>
    if z2 = 0 then
      some z3
    else
    if (10 : Int) ≠ 0 then
      (
        if (z2.tmod 10) < 0 then
          if in64 (0 - (z2.tmod 10)) then
            some (0 - (z2.tmod 10))
          else none
        else
        some (z2.tmod 10)).bind fun z4 =>
      if in64 (48 + z4) then
        if ((([b8 (48 + z4)] : List UInt8).length + z3.length : Nat) : Int) ≤ 9223372036854775807 then
          if (10 : Int) ≠ 0 ∧ in64 (z2.tdiv 10) then
            m_spec_Dec_L0 fuel k1 (z2.tdiv 10) (([b8 (48 + z4)] : List UInt8) ++ z3)
          else none
        else none
      else none
    else none

def m_spec_Dec (fuel : Nat) (x0 : Int) : Option Str :=
  if x0 = 0 then
    some [48]
  else
  (m_spec_Dec_L0 fuel fuel x0 []).bind fun z1 =>
  if x0 < 0 then
    if (([45].length + z1.length : Nat) : Int) ≤ 9223372036854775807 then
      some ([45] ++ z1)
    else none
  else
  some z1

set_option maxRecDepth 100000 in
set_option maxHeartbeats 4000000 in
theorem w_spec_Dec (fuel : Nat) {x0 : Int} {r0 : Str} {w0 : World} (h : m_spec_Dec fuel x0 = some r0) :
    Calls Try.prog 43 #[.int .i64 x0] w0 fun e w => e = .returned (sv r0) ∧ St w0 (fun _ => False) w [] := by
  have HT : St w0 (fun _ => False) w0 [] := St.init0
  rw [m_spec_Dec] at h
  refine calls_fr (n := 31) [.int .i64 x0] Try.func43 rfl rfl rfl (fun a HF => ?_)
  have HT : St w0 (fun _ => False) w0 [] := HT
  refine wp_seq ?_
  refine wc_text ?_
  refine wc_assign HF nS rfl rfl rfl (fun a HF => ?_)
  refine wc_end ?_
  refine then_n ?_
  refine wp_seq ?_
  refine wp_seq ?_
  refine wc_text ?_
  refine wc_move HF nS rfl rfl rfl (fun a HF => ?_)
  refine wc_bin HF nS rfl rfl b_eq rfl rfl (fun a HF => ?_)
  refine wc_end ?_
  refine then_n ?_
  by_cases hb1 : x0 = 0
  have h := (if_pos hb1).symm.trans h
  refine wp_if (b' := true) HF rfl (decide_eq_true hb1) ?_
  refine wp_seq ?_
  refine wc_text ?_
  refine wc_assign HF nS rfl rfl rfl (fun a HF => ?_)
  refine wc_end ?_
  refine then_n ?_
  refine wp_ret ?_
  obtain rfl := Option.some.inj h
  refine then_r (?_)
  refine bp_ret HF (res_one rfl HF rfl) ?_
  exact ⟨rfl, HT⟩
  have h := (if_neg hb1).symm.trans h
  refine wp_if (b' := false) HF rfl (decide_eq_false hb1) ?_
  refine wp_skip ?_
  refine then_n ?_
  refine wp_seq ?_
  refine wc_text ?_
  refine wc_assign HF nS rfl rfl rfl (fun a HF => ?_)
  refine wc_end ?_
  refine then_n ?_
  refine wp_seq ?_
  refine wc_text ?_
  refine wc_move HF nS rfl rfl rfl (fun a HF => ?_)
  refine wc_bin HF nS rfl rfl b_lt rfl rfl (fun a HF => ?_)
  refine wc_assign HF nS rfl rfl rfl (fun a HF => ?_)
  refine wc_end ?_
  refine then_n ?_
  obtain ⟨z1, hx1, h⟩ := obs h
  refine wp_cut (fun a w => Fr a 31 [(3, sv z1), (4, .bool (decide (x0 < 0)))] ∧ St w0 (fun _ => False) w []) ?_ ?_
  have hk1 := h
  have h := hx1
  refine wp_block ?_
  refine wp_loopN (fun k1 a w => ∃ z2 z3, m_spec_Dec_L0 fuel k1 z2 z3 = some z1 ∧ Fr a 31 [(0, .int .i64 z2), (3, sv z3), (4, .bool (decide (x0 < 0)))] ∧ St w0 (fun _ => False) w []) fuel ⟨x0, [], h, (HF.keep (HF.keep (HF.keep HF.nil rfl) rfl) rfl), HT⟩ ?_
  rintro k1 a w ⟨z2, z3, h, HF, HT⟩
  rcases k1 with _ | k1
  cases h
  rw [m_spec_Dec_L0] at h
  refine ?_
  refine wp_seq ?_
  refine wp_seq ?_
  refine wc_text ?_
  refine wc_move HF nS rfl rfl rfl (fun a HF => ?_)
  refine wc_bin HF nS rfl rfl b_ne rfl rfl (fun a HF => ?_)
  refine wc_end ?_
  refine then_n ?_
  by_cases hb2 : z2 = 0
  have h := (if_pos hb2).symm.trans h
  refine wp_if (b' := false) HF rfl (notT (decide_eq_true hb2)) ?_
  refine wp_exit ?_
  refine then_x (then_x (?_))
  refine blk_x ?_
  obtain rfl := Option.some.inj h
  exact then_n ⟨(HF.keep (HF.keep HF.nil rfl) rfl), HT⟩
  have h := (if_neg hb2).symm.trans h
  refine wp_if (b' := true) HF rfl (notF (decide_eq_false hb2)) ?_
  refine wp_skip ?_
  refine then_n ?_
  refine wp_block ?_
  refine wp_seq ?_
  refine wc_text ?_
  refine wc_move HF nS rfl rfl rfl (fun a HF => ?_)
  obtain ⟨hg1, h⟩ := grd h
  refine wc_bin HF nS rfl rfl (b_rem hg1) rfl rfl (fun a HF => ?_)
  refine wc_assign HF nS rfl rfl rfl (fun a HF => ?_)
  refine wc_end ?_
  refine then_n ?_
  obtain ⟨z4, hx2, h⟩ := obs h
  refine wp_cut (fun a w => Fr a 31 [(0, .int .i64 z2), (3, sv z3), (4, .bool (decide (x0 < 0))), (5, .int .i64 z4)] ∧ St w0 (fun _ => False) w []) ?_ ?_
  have hk2 := h
  have h := hx2
  refine wp_seq ?_
  refine wc_text ?_
  refine wc_move HF nS rfl rfl rfl (fun a HF => ?_)
  refine wc_bin HF nS rfl rfl b_lt rfl rfl (fun a HF => ?_)
  refine wc_end ?_
  refine then_n ?_
  by_cases hb3 : (z2.tmod 10) < 0
  have h := (if_pos hb3).symm.trans h
  refine wp_if (b' := true) HF rfl (decide_eq_true hb3) ?_
  refine wc_text ?_
  refine wc_move HF nS rfl rfl rfl (fun a HF => ?_)
  obtain ⟨hg2, h⟩ := grd h
  refine wc_neg HF nS rfl hg2 rfl rfl (fun a HF => ?_)
  refine wc_assign HF nS rfl rfl rfl (fun a HF => ?_)
  refine wc_end ?_
  obtain rfl := Option.some.inj h
  exact then_n ⟨(HF.keep (HF.keep (HF.keep (HF.keep HF.nil rfl) rfl) rfl) rfl), HT⟩
  have h := (if_neg hb3).symm.trans h
  refine wp_if (b' := false) HF rfl (decide_eq_false hb3) ?_
  refine wp_skip ?_
  obtain rfl := Option.some.inj h
  exact then_n ⟨(HF.keep (HF.keep (HF.keep (HF.keep HF.nil rfl) rfl) rfl) rfl), HT⟩
  rintro a w ⟨HF, HT⟩
  refine ?_
  refine wp_seq ?_
  refine wc_text ?_
  refine wc_move HF nS rfl rfl rfl (fun a HF => ?_)
  obtain ⟨hg3, h⟩ := grd h
  refine wc_bin HF nS rfl rfl (b_add hg3) rfl rfl (fun a HF => ?_)
  refine wc_cvb HF nS Try.underlying5 Try.underlying3 rfl rfl rfl (fun a HF => ?_)
  refine wc_bslice (l := ([b8 (48 + z4)] : List UInt8)) (cs := [.int .u8 ((b8 (48 + z4)).toNat : Int)]) (A := []) HF HT bs56_1 rfl rfl (gives_flat rfl) rfl (by decide) rfl rfl (fun p1 w HT hb  => ⟨nS, fun a HF => ?_⟩)
  refine wc_cvs HF nS Try.underlying56 Try.underlying5 Try.underlying9 rfl (HT.rdAt 0 rfl) rfl rfl (fun a HF => ?_)
  refine wc_move HF nS rfl rfl rfl (fun a HF => ?_)
  obtain ⟨hg4, h⟩ := grd h
  refine wc_bin HF nS rfl rfl (b_cat hg4) rfl rfl (fun a HF => ?_)
  refine wc_assign HF nS rfl rfl rfl (fun a HF => ?_)
  refine wc_end ?_
  refine then_n ?_
  refine wc_text ?_
  refine wc_move HF nS rfl rfl rfl (fun a HF => ?_)
  obtain ⟨hg5, h⟩ := grd h
  refine wc_bin HF nS rfl rfl (b_quo hg5) rfl rfl (fun a HF => ?_)
  refine wc_assign HF nS rfl rfl rfl (fun a HF => ?_)
  refine wc_end ?_
  refine blk_n ?_
  have HT := HT.t0
  exact then_n ⟨k1, Nat.lt_succ_self k1, z2.tdiv 10, ([b8 (48 + z4)] : List UInt8) ++ z3, h, (HF.keep (HF.keep (HF.keep HF.nil rfl) rfl) rfl), HT⟩
  rintro a w ⟨HF, HT⟩
  refine ?_
  refine wp_seq ?_
  refine wp_seq ?_
  refine wc_text ?_
  refine wc_move HF nS rfl rfl rfl (fun a HF => ?_)
  refine wc_end ?_
  refine then_n ?_
  by_cases hb4 : x0 < 0
  have h := (if_pos hb4).symm.trans h
  refine wp_if (b' := true) HF rfl (decide_eq_true hb4) ?_
  refine wp_seq ?_
  refine wc_text ?_
  refine wc_move HF nS rfl rfl rfl (fun a HF => ?_)
  obtain ⟨hg6, h⟩ := grd h
  refine wc_bin HF nS rfl rfl (b_cat hg6) rfl rfl (fun a HF => ?_)
  refine wc_assign HF nS rfl rfl rfl (fun a HF => ?_)
  refine wc_end ?_
  refine then_n ?_
  refine wp_ret ?_
  obtain rfl := Option.some.inj h
  refine then_r (?_)
  refine bp_ret HF (res_one rfl HF rfl) ?_
  exact ⟨rfl, HT⟩
  have h := (if_neg hb4).symm.trans h
  refine wp_if (b' := false) HF rfl (decide_eq_false hb4) ?_
  refine wp_skip ?_
  refine then_n ?_
  refine wp_seq ?_
  refine wc_text ?_
  refine wc_move HF nS rfl rfl rfl (fun a HF => ?_)
  refine wc_assign HF nS rfl rfl rfl (fun a HF => ?_)
  refine wc_end ?_
  refine then_n ?_
  refine wp_ret ?_
  obtain rfl := Option.some.inj h
  refine bp_ret HF (res_one rfl HF rfl) ?_
  exact ⟨rfl, HT⟩

def m_spec_ReadDec_L0 (fuel : Nat) (x0 : Str) : Nat → Int → Int → Int → Option (Int × Int)
  | 0, _, _, _ => none
  | k1 + 1, z3, z4, z5 =>
    if z5 < (x0.length : Int) then
      if z5 < 11 then
        bind2 (
          (at? x0 z5).bind fun c1 =>
          if 48 ≤ (c1.toNat : Int) then
            (at? x0 z5).bind fun c2 =>
            if (c2.toNat : Int) ≤ 57 then
              if in64 (z3 * 10) then
                (at? x0 z5).bind fun c3 =>
                if in64 ((z3 * 10) + ((b8 ((c3.toNat : Int) - 48)).toNat : Int)) then
                  if in64 (z4 + 1) then
                    some ((z3 * 10) + ((b8 ((c3.toNat : Int) - 48)).toNat : Int), z4 + 1)
                  else none
                else none
              else none
            else
            some (z3, z4)
          else
          some (z3, z4)) fun z6 z7 =>
        if in64 (z5 + 1) then
          m_spec_ReadDec_L0 fuel x0 k1 z6 z7 (z5 + 1)
        else none
      else
      some (z3, z4)
    else
    some (z3, z4)

def m_spec_ReadDec (fuel : Nat) (x0 : Str) : Option (Int × Bool) :=
  bind2 (m_spec_ReadDec_L0 fuel x0 fuel 0 0 0) fun z1 z2 =>
  (
    if 0 < (x0.length : Int) then
      (at? x0 0).bind fun c4 =>
      if (c4.toNat : Int) = 45 then
        if in64 (0 - z1) then
          some (0 - z1)
        else none
      else
      some z1
    else
    some z1).bind fun z8 =>
  if 9 < z2 then
    some (0, false)
  else
  if 10 < (x0.length : Int) then
    some (0, false)
  else
  (m_spec_Dec fuel z8).bind fun y1 =>
  if y1 = x0 then
    some (z8, true)
  else
  some (0, false)

set_option maxRecDepth 100000 in
set_option maxHeartbeats 4000000 in
theorem w_spec_ReadDec (fuel : Nat) {x0 : Str} {r0 : Int} {r1 : Bool} {w0 : World} (h : m_spec_ReadDec fuel x0 = some (r0, r1)) :
    Calls Try.prog 49 #[sv x0] w0 fun e w => e = .returned (.tuple #[.int .i64 r0, .bool r1]) ∧ St w0 (fun _ => False) w [] := by
  have HT : St w0 (fun _ => False) w0 [] := St.init0
  rw [m_spec_ReadDec] at h
  refine calls_fr (n := 61) [sv x0] Try.func49 rfl rfl rfl (fun a HF => ?_)
  have HT : St w0 (fun _ => False) w0 [] := HT
  refine wp_seq ?_
  refine wc_text ?_
  refine wc_assign HF nS rfl rfl rfl (fun a HF => ?_)
  refine wc_assign HF nS rfl rfl rfl (fun a HF => ?_)
  refine wc_end ?_
  refine then_n ?_
  refine wp_seq ?_
  refine wc_text ?_
  refine wc_assign HF nS rfl rfl rfl (fun a HF => ?_)
  refine wc_end ?_
  refine then_n ?_
  refine wp_seq ?_
  refine wc_text ?_
  refine wc_assign HF nS rfl rfl rfl (fun a HF => ?_)
  refine wc_end ?_
  refine then_n ?_
  obtain ⟨z1, z2, hx1, h⟩ := obs2 h
  refine wp_cut (fun a w => Fr a 61 [(0, sv x0), (4, .int .i64 z1), (5, .int .i64 z2)] ∧ St w0 (fun _ => False) w []) ?_ ?_
  have hk1 := h
  have h := hx1
  refine wp_seq ?_
  refine wc_text ?_
  refine wc_assign HF nS rfl rfl rfl (fun a HF => ?_)
  refine wc_end ?_
  refine then_n ?_
  refine wp_block ?_
  refine wp_loopN (fun k1 a w => ∃ z3 z4 z5, m_spec_ReadDec_L0 fuel x0 k1 z3 z4 z5 = some (z1, z2) ∧ Fr a 61 [(0, sv x0), (4, .int .i64 z3), (5, .int .i64 z4), (6, .int .i64 z5)] ∧ St w0 (fun _ => False) w []) fuel ⟨0, 0, 0, h, (HF.keep (HF.keep (HF.keep (HF.keep HF.nil rfl) rfl) rfl) rfl), HT⟩ ?_
  rintro k1 a w ⟨z3, z4, z5, h, HF, HT⟩
  rcases k1 with _ | k1
  cases h
  rw [m_spec_ReadDec_L0] at h
  refine ?_
  refine wp_seq ?_
  refine wp_seq ?_
  refine wc_text ?_
  refine wc_move HF nS rfl rfl rfl (fun a HF => ?_)
  refine wc_move HF nS rfl rfl rfl (fun a HF => ?_)
  refine wc_lenS (ats := #[]) HF nS Try.underlying9 rfl rfl rfl (fun a HF => ?_)
  refine wc_bin HF nS rfl rfl b_lt rfl rfl (fun a HF => ?_)
  refine wc_move HF nS rfl rfl rfl (fun a HF => ?_)
  by_cases hb1 : z5 < (x0.length : Int)
  have h := (if_pos hb1).symm.trans h
  refine wc_move HF nS rfl (HF.wy rfl rfl rfl rfl (decide_eq_true hb1)) rfl (fun a HF => ?_)
  refine wc_bin HF nS rfl rfl b_lt (HF.wy rfl rfl rfl rfl (decide_eq_true hb1)) rfl (fun a HF => ?_)
  refine wc_pick (b := true) HF nS rfl (decide_eq_true hb1) rfl rfl rfl (fun a HF => ?_)
  refine wc_end ?_
  refine then_n ?_
  by_cases hb2 : z5 < 11
  have h := (if_pos hb2).symm.trans h
  refine wp_if (b' := true) HF rfl (decide_eq_true hb2) ?_
  refine wp_skip ?_
  refine then_n ?_
  obtain ⟨z6, z7, hx2, h⟩ := obs2 h
  refine wp_cut (fun a w => Fr a 61 [(0, sv x0), (4, .int .i64 z6), (5, .int .i64 z7), (6, .int .i64 z5)] ∧ St w0 (fun _ => False) w []) ?_ ?_
  have hk2 := h
  have h := hx2
  refine wp_block ?_
  refine wp_seq ?_
  refine wc_text ?_
  refine wc_move HF nS rfl rfl rfl (fun a HF => ?_)
  refine wc_move HF nS rfl rfl rfl (fun a HF => ?_)
  obtain ⟨c1, hx3, h⟩ := obs h
  refine wc_index HF nS Try.underlying9 rfl rfl hx3 rfl rfl (fun a HF => ?_)
  refine wc_bin HF nS rfl rfl b_ge rfl rfl (fun a HF => ?_)
  refine wc_move HF nS rfl rfl rfl (fun a HF => ?_)
  by_cases hb3 : 48 ≤ (c1.toNat : Int)
  have h := (if_pos hb3).symm.trans h
  refine wc_move HF nS rfl (HF.wy rfl rfl rfl rfl (decide_eq_true hb3)) rfl (fun a HF => ?_)
  refine wc_move HF nS rfl (HF.wy rfl rfl rfl rfl (decide_eq_true hb3)) rfl (fun a HF => ?_)
  obtain ⟨c2, hx4, h⟩ := obs h
  refine wc_index HF nS Try.underlying9 rfl rfl hx4 (HF.wy rfl rfl rfl rfl (decide_eq_true hb3)) rfl (fun a HF => ?_)
  refine wc_bin HF nS rfl rfl b_le (HF.wy rfl rfl rfl rfl (decide_eq_true hb3)) rfl (fun a HF => ?_)
  refine wc_pick (b := true) HF nS rfl (decide_eq_true hb3) rfl rfl rfl (fun a HF => ?_)
  refine wc_end ?_
  refine then_n ?_
  by_cases hb4 : (c2.toNat : Int) ≤ 57
  have h := (if_pos hb4).symm.trans h
  refine wp_if (b' := true) HF rfl (decide_eq_true hb4) ?_
  refine wp_seq ?_
  refine wc_text ?_
  refine wc_move HF nS rfl rfl rfl (fun a HF => ?_)
  obtain ⟨hg1, h⟩ := grd h
  refine wc_bin HF nS rfl rfl (b_mul hg1) rfl rfl (fun a HF => ?_)
  refine wc_move HF nS rfl rfl rfl (fun a HF => ?_)
  refine wc_move HF nS rfl rfl rfl (fun a HF => ?_)
  obtain ⟨c3, hx5, h⟩ := obs h
  refine wc_index HF nS Try.underlying9 rfl rfl hx5 rfl rfl (fun a HF => ?_)
  refine wc_bin HF nS rfl rfl b_subu rfl rfl (fun a HF => ?_)
  refine wc_cvu HF nS Try.underlying3 Try.underlying5 rfl rfl rfl (fun a HF => ?_)
  obtain ⟨hg2, h⟩ := grd h
  refine wc_bin HF nS rfl rfl (b_add hg2) rfl rfl (fun a HF => ?_)
  refine wc_assign HF nS rfl rfl rfl (fun a HF => ?_)
  refine wc_end ?_
  refine then_n ?_
  refine wc_text ?_
  refine wc_move HF nS rfl rfl rfl (fun a HF => ?_)
  obtain ⟨hg3, h⟩ := grd h
  refine wc_bin HF nS rfl rfl (b_add hg3) rfl rfl (fun a HF => ?_)
  refine wc_assign HF nS rfl rfl rfl (fun a HF => ?_)
  refine wc_end ?_
  refine blk_n ?_
  have hj1 := Option.some.inj h
  obtain ⟨hi1, hj2⟩ := Prod.mk.inj hj1
  subst hi1
  subst hj2
  exact then_n ⟨(HF.keep (HF.keep (HF.keep (HF.keep HF.nil rfl) rfl) rfl) rfl), HT⟩
  have h := (if_neg hb4).symm.trans h
  refine wp_if (b' := false) HF rfl (decide_eq_false hb4) ?_
  refine wp_skip ?_
  refine blk_n ?_
  have hj3 := Option.some.inj h
  obtain ⟨hi3, hj4⟩ := Prod.mk.inj hj3
  subst hi3
  subst hj4
  exact then_n ⟨(HF.keep (HF.keep (HF.keep (HF.keep HF.nil rfl) rfl) rfl) rfl), HT⟩
  have h := (if_neg hb3).symm.trans h
  refine wc_skip HF nS (HF.wn rfl rfl rfl rfl (decide_eq_false hb3)) rfl (fun a HF => ?_)
  refine wc_skip HF nS (HF.wn rfl rfl rfl rfl (decide_eq_false hb3)) rfl (fun a HF => ?_)
  refine wc_skip HF nS (HF.wn rfl rfl rfl rfl (decide_eq_false hb3)) rfl (fun a HF => ?_)
  refine wc_skip HF nS (HF.wn rfl rfl rfl rfl (decide_eq_false hb3)) rfl (fun a HF => ?_)
  refine wc_pick (b := false) HF nS rfl (decide_eq_false hb3) rfl rfl rfl (fun a HF => ?_)
  refine wc_end ?_
  refine then_n ?_
  refine wp_if (b' := false) HF rfl rfl ?_
  refine wp_skip ?_
  refine blk_n ?_
  have hj5 := Option.some.inj h
  obtain ⟨hi5, hj6⟩ := Prod.mk.inj hj5
  subst hi5
  subst hj6
  exact then_n ⟨(HF.keep (HF.keep (HF.keep (HF.keep HF.nil rfl) rfl) rfl) rfl), HT⟩
  rintro a w ⟨HF, HT⟩
  refine ?_
  refine wc_text ?_
  refine wc_move HF nS rfl rfl rfl (fun a HF => ?_)
  obtain ⟨hg4, h⟩ := grd h
  refine wc_bin HF nS rfl rfl (b_add hg4) rfl rfl (fun a HF => ?_)
  refine wc_assign HF nS rfl rfl rfl (fun a HF => ?_)
  refine wc_end ?_
  exact then_n ⟨k1, Nat.lt_succ_self k1, z6, z7, z5 + 1, h, (HF.keep (HF.keep (HF.keep (HF.keep HF.nil rfl) rfl) rfl) rfl), HT⟩
  have h := (if_neg hb2).symm.trans h
  refine wp_if (b' := false) HF rfl (decide_eq_false hb2) ?_
  refine wp_exit ?_
  refine then_x (then_x (?_))
  refine blk_x ?_
  have hj7 := Option.some.inj h
  obtain ⟨hi7, hj8⟩ := Prod.mk.inj hj7
  subst hi7
  subst hj8
  exact then_n ⟨(HF.keep (HF.keep (HF.keep HF.nil rfl) rfl) rfl), HT⟩
  have h := (if_neg hb1).symm.trans h
  refine wc_skip HF nS (HF.wn rfl rfl rfl rfl (decide_eq_false hb1)) rfl (fun a HF => ?_)
  refine wc_skip HF nS (HF.wn rfl rfl rfl rfl (decide_eq_false hb1)) rfl (fun a HF => ?_)
  refine wc_pick (b := false) HF nS rfl (decide_eq_false hb1) rfl rfl rfl (fun a HF => ?_)
  refine wc_end ?_
  refine then_n ?_
  refine wp_if (b' := false) HF rfl rfl ?_
  refine wp_exit ?_
  refine then_x (then_x (?_))
  refine blk_x ?_
  have hj9 := Option.some.inj h
  obtain ⟨hi9, hj10⟩ := Prod.mk.inj hj9
  subst hi9
  subst hj10
  exact then_n ⟨(HF.keep (HF.keep (HF.keep HF.nil rfl) rfl) rfl), HT⟩
  rintro a w ⟨HF, HT⟩
  refine ?_
  obtain ⟨z8, hx6, h⟩ := obs h
  refine wp_cut (fun a w => Fr a 61 [(0, sv x0), (4, .int .i64 z8), (5, .int .i64 z2)] ∧ St w0 (fun _ => False) w []) ?_ ?_
  have hk1 := h
  have h := hx6
  refine wp_seq ?_
  refine wc_text ?_
  refine wc_move HF nS rfl rfl rfl (fun a HF => ?_)
  refine wc_lenS (ats := #[]) HF nS Try.underlying9 rfl rfl rfl (fun a HF => ?_)
  refine wc_bin HF nS rfl rfl b_gt rfl rfl (fun a HF => ?_)
  refine wc_move HF nS rfl rfl rfl (fun a HF => ?_)
  by_cases hb5 : 0 < (x0.length : Int)
  have h := (if_pos hb5).symm.trans h
  refine wc_move HF nS rfl (HF.wy rfl rfl rfl rfl (decide_eq_true hb5)) rfl (fun a HF => ?_)
  obtain ⟨c4, hx7, h⟩ := obs h
  refine wc_index HF nS Try.underlying9 rfl rfl hx7 (HF.wy rfl rfl rfl rfl (decide_eq_true hb5)) rfl (fun a HF => ?_)
  refine wc_bin HF nS rfl rfl b_eq (HF.wy rfl rfl rfl rfl (decide_eq_true hb5)) rfl (fun a HF => ?_)
  refine wc_pick (b := true) HF nS rfl (decide_eq_true hb5) rfl rfl rfl (fun a HF => ?_)
  refine wc_end ?_
  refine then_n ?_
  by_cases hb6 : (c4.toNat : Int) = 45
  have h := (if_pos hb6).symm.trans h
  refine wp_if (b' := true) HF rfl (decide_eq_true hb6) ?_
  refine wc_text ?_
  refine wc_move HF nS rfl rfl rfl (fun a HF => ?_)
  obtain ⟨hg5, h⟩ := grd h
  refine wc_neg HF nS rfl hg5 rfl rfl (fun a HF => ?_)
  refine wc_assign HF nS rfl rfl rfl (fun a HF => ?_)
  refine wc_end ?_
  obtain rfl := Option.some.inj h
  exact then_n ⟨(HF.keep (HF.keep (HF.keep HF.nil rfl) rfl) rfl), HT⟩
  have h := (if_neg hb6).symm.trans h
  refine wp_if (b' := false) HF rfl (decide_eq_false hb6) ?_
  refine wp_skip ?_
  obtain rfl := Option.some.inj h
  exact then_n ⟨(HF.keep (HF.keep (HF.keep HF.nil rfl) rfl) rfl), HT⟩
  have h := (if_neg hb5).symm.trans h
  refine wc_skip HF nS (HF.wn rfl rfl rfl rfl (decide_eq_false hb5)) rfl (fun a HF => ?_)
  refine wc_skip HF nS (HF.wn rfl rfl rfl rfl (decide_eq_false hb5)) rfl (fun a HF => ?_)
  refine wc_skip HF nS (HF.wn rfl rfl rfl rfl (decide_eq_false hb5)) rfl (fun a HF => ?_)
  refine wc_pick (b := false) HF nS rfl (decide_eq_false hb5) rfl rfl rfl (fun a HF => ?_)
  refine wc_end ?_
  refine then_n ?_
  refine wp_if (b' := false) HF rfl rfl ?_
  refine wp_skip ?_
  obtain rfl := Option.some.inj h
  exact then_n ⟨(HF.keep (HF.keep (HF.keep HF.nil rfl) rfl) rfl), HT⟩
  rintro a w ⟨HF, HT⟩
  refine ?_
  refine wp_seq ?_
  refine wp_seq ?_
  refine wc_text ?_
  refine wc_move HF nS rfl rfl rfl (fun a HF => ?_)
  refine wc_bin HF nS rfl rfl b_gt rfl rfl (fun a HF => ?_)
  refine wc_move HF nS rfl rfl rfl (fun a HF => ?_)
  by_cases hb7 : 9 < z2
  have h := (if_pos hb7).symm.trans h
  refine wc_skip HF nS (HF.wn rfl rfl rfl rfl (decide_eq_true hb7)) rfl (fun a HF => ?_)
  refine wc_skip HF nS (HF.wn rfl rfl rfl rfl (decide_eq_true hb7)) rfl (fun a HF => ?_)
  refine wc_skip HF nS (HF.wn rfl rfl rfl rfl (decide_eq_true hb7)) rfl (fun a HF => ?_)
  refine wc_pick (b := true) HF nS rfl (decide_eq_true hb7) rfl rfl rfl (fun a HF => ?_)
  refine wc_move HF nS rfl rfl rfl (fun a HF => ?_)
  refine wc_skip HF nS (HF.wn rfl rfl rfl rfl rfl) rfl (fun a HF => ?_)
  refine wc_skip HF nS (HF.wn rfl rfl rfl rfl rfl) rfl (fun a HF => ?_)
  refine wc_skip HF nS (HF.wn rfl rfl rfl rfl rfl) rfl (fun a HF => ?_)
  refine wc_skip HF nS (HF.wn rfl rfl rfl rfl rfl) rfl (fun a HF => ?_)
  refine wc_pick (b := true) HF nS rfl rfl rfl rfl rfl (fun a HF => ?_)
  refine wc_end ?_
  refine then_n ?_
  refine wp_if (b' := true) HF rfl rfl ?_
  refine wp_seq ?_
  refine wc_text ?_
  refine wc_assign HF nS rfl rfl rfl (fun a HF => ?_)
  refine wc_assign HF nS rfl rfl rfl (fun a HF => ?_)
  refine wc_end ?_
  refine then_n ?_
  refine wp_ret ?_
  have hj11 := Option.some.inj h
  obtain ⟨hi11, hj12⟩ := Prod.mk.inj hj11
  subst hi11
  subst hj12
  refine then_r (?_)
  refine bp_ret HF (res_two rfl HF rfl rfl) ?_
  exact ⟨rfl, HT⟩
  have h := (if_neg hb7).symm.trans h
  refine wc_move HF nS rfl (HF.wy rfl rfl rfl rfl (decide_eq_false hb7)) rfl (fun a HF => ?_)
  refine wc_lenS (ats := #[]) HF nS Try.underlying9 rfl (HF.wy rfl rfl rfl rfl (decide_eq_false hb7)) rfl (fun a HF => ?_)
  refine wc_bin HF nS rfl rfl b_gt (HF.wy rfl rfl rfl rfl (decide_eq_false hb7)) rfl (fun a HF => ?_)
  refine wc_pick (b := false) HF nS rfl (decide_eq_false hb7) rfl rfl rfl (fun a HF => ?_)
  refine wc_move HF nS rfl rfl rfl (fun a HF => ?_)
  by_cases hb8 : 10 < (x0.length : Int)
  have h := (if_pos hb8).symm.trans h
  refine wc_skip HF nS (HF.wn rfl rfl rfl rfl (decide_eq_true hb8)) rfl (fun a HF => ?_)
  refine wc_skip HF nS (HF.wn rfl rfl rfl rfl (decide_eq_true hb8)) rfl (fun a HF => ?_)
  refine wc_skip HF nS (HF.wn rfl rfl rfl rfl (decide_eq_true hb8)) rfl (fun a HF => ?_)
  refine wc_skip HF nS (HF.wn rfl rfl rfl rfl (decide_eq_true hb8)) rfl (fun a HF => ?_)
  refine wc_pick (b := true) HF nS rfl (decide_eq_true hb8) rfl rfl rfl (fun a HF => ?_)
  refine wc_end ?_
  refine then_n ?_
  refine wp_if (b' := true) HF rfl rfl ?_
  refine wp_seq ?_
  refine wc_text ?_
  refine wc_assign HF nS rfl rfl rfl (fun a HF => ?_)
  refine wc_assign HF nS rfl rfl rfl (fun a HF => ?_)
  refine wc_end ?_
  refine then_n ?_
  refine wp_ret ?_
  have hj13 := Option.some.inj h
  obtain ⟨hi13, hj14⟩ := Prod.mk.inj hj13
  subst hi13
  subst hj14
  refine then_r (?_)
  refine bp_ret HF (res_two rfl HF rfl rfl) ?_
  exact ⟨rfl, HT⟩
  have h := (if_neg hb8).symm.trans h
  refine wc_move HF nS rfl (HF.wy rfl rfl rfl rfl (decide_eq_false hb8)) rfl (fun a HF => ?_)
  obtain ⟨y1, hx8, h⟩ := obs h
  refine wc_call HF cf43 rfl (w_spec_Dec fuel hx8) (HF.wy rfl rfl rfl rfl (decide_eq_false hb8)) rfl ?_
  rintro e w ⟨rfl, hE⟩
  have hb := hE.below
  have HT := HT.pure hE
  have HT : St w0 (fun _ => False) w [] := HT
  refine ⟨_, rfl, nS, fun a HF => ?_⟩
  refine wc_move HF nS rfl (HF.wy rfl rfl rfl rfl (decide_eq_false hb8)) rfl (fun a HF => ?_)
  refine wc_bin HF nS rfl rfl b_sne (HF.wy rfl rfl rfl rfl (decide_eq_false hb8)) rfl (fun a HF => ?_)
  refine wc_pick (b := false) HF nS rfl (decide_eq_false hb8) rfl rfl rfl (fun a HF => ?_)
  refine wc_end ?_
  refine then_n ?_
  by_cases hb9 : y1 = x0
  have h := (if_pos hb9).symm.trans h
  refine wp_if (b' := false) HF rfl (notT (decide_eq_true hb9)) ?_
  refine wp_skip ?_
  refine then_n ?_
  refine wp_seq ?_
  refine wc_text ?_
  refine wc_move HF nS rfl rfl rfl (fun a HF => ?_)
  refine wc_assign HF nS rfl rfl rfl (fun a HF => ?_)
  refine wc_assign HF nS rfl rfl rfl (fun a HF => ?_)
  refine wc_end ?_
  refine then_n ?_
  refine wp_ret ?_
  have hj15 := Option.some.inj h
  obtain ⟨hi15, hj16⟩ := Prod.mk.inj hj15
  subst hi15
  subst hj16
  refine bp_ret HF (res_two rfl HF rfl rfl) ?_
  exact ⟨rfl, HT⟩
  have h := (if_neg hb9).symm.trans h
  refine wp_if (b' := true) HF rfl (notF (decide_eq_false hb9)) ?_
  refine wp_seq ?_
  refine wc_text ?_
  refine wc_assign HF nS rfl rfl rfl (fun a HF => ?_)
  refine wc_assign HF nS rfl rfl rfl (fun a HF => ?_)
  refine wc_end ?_
  refine then_n ?_
  refine wp_ret ?_
  have hj17 := Option.some.inj h
  obtain ⟨hi17, hj18⟩ := Prod.mk.inj hj17
  subst hi17
  subst hj18
  refine then_r (?_)
  refine bp_ret HF (res_two rfl HF rfl rfl) ?_
  exact ⟨rfl, HT⟩

def m_spec_l1In (fuel : Nat) (x0 : Int) (x1 : Int) (x2 : Int) : Option Bool :=
  if x1 ≤ x0 then
    some (decide (x0 ≤ x2))
  else
  some false

set_option maxRecDepth 100000 in
set_option maxHeartbeats 4000000 in
theorem w_spec_l1In (fuel : Nat) {x0 : Int} {x1 : Int} {x2 : Int} {r0 : Bool} {w0 : World} (h : m_spec_l1In fuel x0 x1 x2 = some r0) :
    Calls Try.prog 76 #[.int .i64 x0, .int .i64 x1, .int .i64 x2] w0 fun e w => e = .returned (.bool r0) ∧ St w0 (fun _ => False) w [] := by
  have HT : St w0 (fun _ => False) w0 [] := St.init0
  rw [m_spec_l1In] at h
  refine calls_fr (n := 15) [.int .i64 x0, .int .i64 x1, .int .i64 x2] Try.func76 rfl rfl rfl (fun a HF => ?_)
  have HT : St w0 (fun _ => False) w0 [] := HT
  refine wp_seq ?_
  refine wc_text ?_
  refine wc_assign HF nS rfl rfl rfl (fun a HF => ?_)
  refine wc_end ?_
  refine then_n ?_
  refine wp_seq ?_
  refine wc_text ?_
  refine wc_move HF nS rfl rfl rfl (fun a HF => ?_)
  refine wc_move HF nS rfl rfl rfl (fun a HF => ?_)
  refine wc_bin HF nS rfl rfl b_ge rfl rfl (fun a HF => ?_)
  refine wc_move HF nS rfl rfl rfl (fun a HF => ?_)
  by_cases hb1 : x1 ≤ x0
  have h := (if_pos hb1).symm.trans h
  refine wc_move HF nS rfl (HF.wy rfl rfl rfl rfl (decide_eq_true hb1)) rfl (fun a HF => ?_)
  refine wc_move HF nS rfl (HF.wy rfl rfl rfl rfl (decide_eq_true hb1)) rfl (fun a HF => ?_)
  refine wc_bin HF nS rfl rfl b_le (HF.wy rfl rfl rfl rfl (decide_eq_true hb1)) rfl (fun a HF => ?_)
  refine wc_pick (b := true) HF nS rfl (decide_eq_true hb1) rfl rfl rfl (fun a HF => ?_)
  refine wc_assign HF nS rfl rfl rfl (fun a HF => ?_)
  refine wc_end ?_
  refine then_n ?_
  refine wp_ret ?_
  obtain rfl := Option.some.inj h
  refine bp_ret HF (res_one rfl HF rfl) ?_
  exact ⟨rfl, HT⟩
  have h := (if_neg hb1).symm.trans h
  refine wc_skip HF nS (HF.wn rfl rfl rfl rfl (decide_eq_false hb1)) rfl (fun a HF => ?_)
  refine wc_skip HF nS (HF.wn rfl rfl rfl rfl (decide_eq_false hb1)) rfl (fun a HF => ?_)
  refine wc_skip HF nS (HF.wn rfl rfl rfl rfl (decide_eq_false hb1)) rfl (fun a HF => ?_)
  refine wc_pick (b := false) HF nS rfl (decide_eq_false hb1) rfl rfl rfl (fun a HF => ?_)
  refine wc_assign HF nS rfl rfl rfl (fun a HF => ?_)
  refine wc_end ?_
  refine then_n ?_
  refine wp_ret ?_
  obtain rfl := Option.some.inj h
  refine bp_ret HF (res_one rfl HF rfl) ?_
  exact ⟨rfl, HT⟩

def m_spec_l3Cell (fuel : Nat) (x0 : Int) : Option Bool :=
  (m_spec_l1In fuel x0 0 7).bind fun y1 =>
  some y1

set_option maxRecDepth 100000 in
set_option maxHeartbeats 4000000 in
theorem w_spec_l3Cell (fuel : Nat) {x0 : Int} {r0 : Bool} {w0 : World} (h : m_spec_l3Cell fuel x0 = some r0) :
    Calls Try.prog 75 #[.int .i64 x0] w0 fun e w => e = .returned (.bool r0) ∧ St w0 (fun _ => False) w [] := by
  have HT : St w0 (fun _ => False) w0 [] := St.init0
  rw [m_spec_l3Cell] at h
  refine calls_fr (n := 5) [.int .i64 x0] Try.func75 rfl rfl rfl (fun a HF => ?_)
  have HT : St w0 (fun _ => False) w0 [] := HT
  refine wp_seq ?_
  refine wc_text ?_
  refine wc_assign HF nS rfl rfl rfl (fun a HF => ?_)
  refine wc_end ?_
  refine then_n ?_
  refine wp_seq ?_
  refine wc_text ?_
  refine wc_move HF nS rfl rfl rfl (fun a HF => ?_)
  obtain ⟨y1, hx1, h⟩ := obs h
  refine wc_call HF cf76 rfl (w_spec_l1In fuel hx1) rfl rfl ?_
  rintro e w ⟨rfl, hE⟩
  have hb := hE.below
  have HT := HT.pure hE
  have HT : St w0 (fun _ => False) w [] := HT
  refine ⟨_, rfl, nS, fun a HF => ?_⟩
  refine wc_assign HF nS rfl rfl rfl (fun a HF => ?_)
  refine wc_end ?_
  refine then_n ?_
  refine wp_ret ?_
  obtain rfl := Option.some.inj h
  refine bp_ret HF (res_one rfl HF rfl) ?_
  exact ⟨rfl, HT⟩

def m_spec_l3Val (fuel : Nat) (x0 : Int) : Option Bool :=
  (m_spec_l1In fuel x0 0 65535).bind fun y1 =>
  some y1

set_option maxRecDepth 100000 in
set_option maxHeartbeats 4000000 in
theorem w_spec_l3Val (fuel : Nat) {x0 : Int} {r0 : Bool} {w0 : World} (h : m_spec_l3Val fuel x0 = some r0) :
    Calls Try.prog 74 #[.int .i64 x0] w0 fun e w => e = .returned (.bool r0) ∧ St w0 (fun _ => False) w [] := by
  have HT : St w0 (fun _ => False) w0 [] := St.init0
  rw [m_spec_l3Val] at h
  refine calls_fr (n := 5) [.int .i64 x0] Try.func74 rfl rfl rfl (fun a HF => ?_)
  have HT : St w0 (fun _ => False) w0 [] := HT
  refine wp_seq ?_
  refine wc_text ?_
  refine wc_assign HF nS rfl rfl rfl (fun a HF => ?_)
  refine wc_end ?_
  refine then_n ?_
  refine wp_seq ?_
  refine wc_text ?_
  refine wc_move HF nS rfl rfl rfl (fun a HF => ?_)
  obtain ⟨y1, hx1, h⟩ := obs h
  refine wc_call HF cf76 rfl (w_spec_l1In fuel hx1) rfl rfl ?_
  rintro e w ⟨rfl, hE⟩
  have hb := hE.below
  have HT := HT.pure hE
  have HT : St w0 (fun _ => False) w [] := HT
  refine ⟨_, rfl, nS, fun a HF => ?_⟩
  refine wc_assign HF nS rfl rfl rfl (fun a HF => ?_)
  refine wc_end ?_
  refine then_n ?_
  refine wp_ret ?_
  obtain rfl := Option.some.inj h
  refine bp_ret HF (res_one rfl HF rfl) ?_
  exact ⟨rfl, HT⟩

def m_spec_l4Reg (fuel : Nat) (x0 : Int) : Option Bool :=
  (m_spec_l1In fuel x0 0 3).bind fun y1 =>
  some y1

set_option maxRecDepth 100000 in
set_option maxHeartbeats 4000000 in
theorem w_spec_l4Reg (fuel : Nat) {x0 : Int} {r0 : Bool} {w0 : World} (h : m_spec_l4Reg fuel x0 = some r0) :
    Calls Try.prog 73 #[.int .i64 x0] w0 fun e w => e = .returned (.bool r0) ∧ St w0 (fun _ => False) w [] := by
  have HT : St w0 (fun _ => False) w0 [] := St.init0
  rw [m_spec_l4Reg] at h
  refine calls_fr (n := 5) [.int .i64 x0] Try.func73 rfl rfl rfl (fun a HF => ?_)
  have HT : St w0 (fun _ => False) w0 [] := HT
  refine wp_seq ?_
  refine wc_text ?_
  refine wc_assign HF nS rfl rfl rfl (fun a HF => ?_)
  refine wc_end ?_
  refine then_n ?_
  refine wp_seq ?_
  refine wc_text ?_
  refine wc_move HF nS rfl rfl rfl (fun a HF => ?_)
  obtain ⟨y1, hx1, h⟩ := obs h
  refine wc_call HF cf76 rfl (w_spec_l1In fuel hx1) rfl rfl ?_
  rintro e w ⟨rfl, hE⟩
  have hb := hE.below
  have HT := HT.pure hE
  have HT : St w0 (fun _ => False) w [] := HT
  refine ⟨_, rfl, nS, fun a HF => ?_⟩
  refine wc_assign HF nS rfl rfl rfl (fun a HF => ?_)
  refine wc_end ?_
  refine then_n ?_
  refine wp_ret ?_
  obtain rfl := Option.some.inj h
  refine bp_ret HF (res_one rfl HF rfl) ?_
  exact ⟨rfl, HT⟩

def m_spec_OpOk (fuel : Nat) (x0_0 : Int) (x0_1 : Int) (x0_2 : Int) (x0_3 : Int) : Option Bool :=
  (
    if x0_0 = 1 then
      (m_spec_l4Reg fuel x0_1).bind fun y1 =>
      if y1 = true then
        (m_spec_l3Val fuel x0_2).bind fun y2 =>
        if y2 = true then
          some (.ret (decide (x0_3 = 0)))
        else
        some (.ret false)
      else
      some (.ret false)
    else
    (
      if x0_0 = 2 then
        some (decide (x0_0 = 2))
      else
      if x0_0 = 3 then
        some (decide (x0_0 = 3))
      else
      some (decide (x0_0 = 4))).bind fun z1 =>
    if z1 = true then
      (m_spec_l4Reg fuel x0_1).bind fun y3 =>
      if y3 = true then
        (m_spec_l4Reg fuel x0_2).bind fun y4 =>
        if y4 = true then
          (m_spec_l4Reg fuel x0_3).bind fun y5 =>
          some (.ret y5)
        else
        some (.ret false)
      else
      some (.ret false)
    else
    if x0_0 = 5 then
      (m_spec_l4Reg fuel x0_1).bind fun y6 =>
      if y6 = true then
        (m_spec_l3Cell fuel x0_2).bind fun y7 =>
        if y7 = true then
          some (.ret (decide (x0_3 = 0)))
        else
        some (.ret false)
      else
      some (.ret false)
    else
    if x0_0 = 6 then
      (m_spec_l3Cell fuel x0_1).bind fun y8 =>
      if y8 = true then
        (m_spec_l4Reg fuel x0_2).bind fun y9 =>
        if y9 = true then
          some (.ret (decide (x0_3 = 0)))
        else
        some (.ret false)
      else
      some (.ret false)
    else
    if x0_0 = 7 then
      (m_spec_l4Reg fuel x0_1).bind fun y10 =>
      if y10 = true then
        (m_spec_l1In fuel x0_2 1 20).bind fun y11 =>
        if y11 = true then
          some (.ret (decide (x0_3 = 0)))
        else
        some (.ret false)
      else
      some (.ret false)
    else
    (
      if x0_0 = 8 then
        some (decide (x0_0 = 8))
      else
      if x0_0 = 15 then
        some (decide (x0_0 = 15))
      else
      some (decide (x0_0 = 16))).bind fun z2 =>
    if z2 = true then
      (m_spec_l4Reg fuel x0_1).bind fun y12 =>
      if y12 = true then
        if x0_2 = 0 then
          some (.ret (decide (x0_3 = 0)))
        else
        some (.ret false)
      else
      some (.ret false)
    else
    (
      if x0_0 = 9 then
        some (decide (x0_0 = 9))
      else
      if x0_0 = 10 then
        some (decide (x0_0 = 10))
      else
      some (decide (x0_0 = 11))).bind fun z3 =>
    if z3 = true then
      if x0_1 = 0 then
        if x0_2 = 0 then
          some (.ret (decide (x0_3 = 0)))
        else
        some (.ret false)
      else
      some (.ret false)
    else
    if x0_0 = 12 then
      (m_spec_l1In fuel x0_1 0 7).bind fun y13 =>
      if y13 = true then
        (m_spec_l4Reg fuel x0_2).bind fun y14 =>
        if y14 = true then
          (m_spec_l4Reg fuel x0_3).bind fun y15 =>
          some (.ret y15)
        else
        some (.ret false)
      else
      some (.ret false)
    else
    if x0_0 = 13 then
      (m_spec_l4Reg fuel x0_1).bind fun y16 =>
      if y16 = true then
        (m_spec_l1In fuel x0_2 0 7).bind fun y17 =>
        if y17 = true then
          some (.ret (decide (x0_3 = 0)))
        else
        some (.ret false)
      else
      some (.ret false)
    else
    if x0_0 = 14 then
      (m_spec_l1In fuel x0_1 0 7).bind fun y18 =>
      if y18 = true then
        (m_spec_l4Reg fuel x0_2).bind fun y19 =>
        if y19 = true then
          some (.ret (decide (x0_3 = 0)))
        else
        some (.ret false)
      else
      some (.ret false)
    else
    some (.brk ())).bind <| contL <| un1 fun _ =>
  some false

set_option maxRecDepth 100000 in
set_option maxHeartbeats 4000000 in
theorem w_spec_OpOk (fuel : Nat) {x0_0 : Int} {x0_1 : Int} {x0_2 : Int} {x0_3 : Int} {r0 : Bool} {w0 : World} (h : m_spec_OpOk fuel x0_0 x0_1 x0_2 x0_3 = some r0) :
    Calls Try.prog 40 #[.agg #[.int .i64 x0_0, .int .i64 x0_1, .int .i64 x0_2, .int .i64 x0_3]] w0 fun e w => e = .returned (.bool r0) ∧ St w0 (fun _ => False) w [] := by
  have HT : St w0 (fun _ => False) w0 [] := St.init0
  rw [m_spec_OpOk] at h
  refine calls_fr (n := 161) [.agg #[.int .i64 x0_0, .int .i64 x0_1, .int .i64 x0_2, .int .i64 x0_3]] Try.func40 rfl rfl rfl (fun a HF => ?_)
  have HT : St w0 (fun _ => False) w0 [] := HT
  refine wp_seq ?_
  refine wc_text ?_
  refine wc_box (cs := [.int .i64 x0_0, .int .i64 x0_1, .int .i64 x0_2, .int .i64 x0_3]) HF HT rfl rfl rfl rfl (fun p1 w HT hb => ⟨nS, fun a HF => ?_⟩)
  refine wc_assign HF nS rfl rfl rfl (fun a HF => ?_)
  refine wc_end ?_
  refine then_n ?_
  obtain ⟨q1, hx1, h⟩ := obs h
  refine wp_cut (fun a w => q1 = .brk () ∧ Fr a 161 [] ∧ St w0 (fun _ => False) w []) ?_ ?_
  have hk1 := h
  have h := hx1
  refine wp_seq ?_
  refine wc_text ?_
  refine wc_faddr HF nS rfl fl25_0 rfl rfl (fun a HF => ?_)
  refine wc_load HF rfl sc3 ((HT.boxAt 0 rfl).get 0 rfl) rfl rfl (fun a HF => ?_)
  refine wc_end ?_
  refine then_n ?_
  refine wp_block ?_
  refine wp_seq ?_
  refine wc_text ?_
  refine wc_bin HF nS rfl rfl b_eq rfl rfl (fun a HF => ?_)
  refine wc_assign HF nS rfl rfl rfl (fun a HF => ?_)
  refine wc_end ?_
  refine then_n ?_
  by_cases hb1 : x0_0 = 1
  have h := (if_pos hb1).symm.trans h
  refine wp_if (b' := true) HF rfl (decide_eq_true hb1) ?_
  refine wp_seq ?_
  refine wc_text ?_
  refine wc_faddr HF nS rfl fl25_1 rfl rfl (fun a HF => ?_)
  refine wc_load HF rfl sc3 ((HT.boxAt 0 rfl).get 1 rfl) rfl rfl (fun a HF => ?_)
  obtain ⟨y1, hx2, h⟩ := obs h
  refine wc_call HF cf73 rfl (w_spec_l4Reg fuel hx2) rfl rfl ?_
  rintro e w ⟨rfl, hE⟩
  have hb := hE.below
  have HT := HT.pure hE
  have HT : St w0 (fun _ => False) w [Box p1 [.int .i64 x0_0, .int .i64 x0_1, .int .i64 x0_2, .int .i64 x0_3]] := HT
  refine ⟨_, rfl, nS, fun a HF => ?_⟩
  refine wc_move HF nS rfl rfl rfl (fun a HF => ?_)
  by_cases hb2 : y1 = true
  have h := (if_pos hb2).symm.trans h
  refine wc_faddr HF nS rfl fl25_2 (HF.wy rfl rfl rfl rfl hb2) rfl (fun a HF => ?_)
  refine wc_load HF rfl sc3 ((HT.boxAt 0 rfl).get 2 rfl) (HF.wy rfl rfl rfl rfl hb2) rfl (fun a HF => ?_)
  obtain ⟨y2, hx3, h⟩ := obs h
  refine wc_call HF cf74 rfl (w_spec_l3Val fuel hx3) (HF.wy rfl rfl rfl rfl hb2) rfl ?_
  rintro e w ⟨rfl, hE⟩
  have hb := hE.below
  have HT := HT.pure hE
  have HT : St w0 (fun _ => False) w [Box p1 [.int .i64 x0_0, .int .i64 x0_1, .int .i64 x0_2, .int .i64 x0_3]] := HT
  refine ⟨_, rfl, nS, fun a HF => ?_⟩
  refine wc_pick (b := true) HF nS rfl hb2 rfl rfl rfl (fun a HF => ?_)
  refine wc_move HF nS rfl rfl rfl (fun a HF => ?_)
  by_cases hb3 : y2 = true
  have h := (if_pos hb3).symm.trans h
  refine wc_faddr HF nS rfl fl25_3 (HF.wy rfl rfl rfl rfl hb3) rfl (fun a HF => ?_)
  refine wc_load HF rfl sc3 ((HT.boxAt 0 rfl).get 3 rfl) (HF.wy rfl rfl rfl rfl hb3) rfl (fun a HF => ?_)
  refine wc_bin HF nS rfl rfl b_eq (HF.wy rfl rfl rfl rfl hb3) rfl (fun a HF => ?_)
  refine wc_pick (b := true) HF nS rfl hb3 rfl rfl rfl (fun a HF => ?_)
  refine wc_assign HF nS rfl rfl rfl (fun a HF => ?_)
  refine wc_end ?_
  refine then_n ?_
  refine wp_ret ?_
  obtain rfl := Option.some.inj h
  have h := retL hk1
  obtain rfl := Option.some.inj h
  refine blk_r (then_r (?_))
  refine bp_ret HF (res_one rfl HF rfl) ?_
  have HT := HT.t0
  exact ⟨rfl, HT⟩
  have h := (if_neg hb3).symm.trans h
  refine wc_skip HF nS (HF.wn rfl rfl rfl rfl (Bool.eq_false_iff.2 hb3)) rfl (fun a HF => ?_)
  refine wc_skip HF nS (HF.wn rfl rfl rfl rfl (Bool.eq_false_iff.2 hb3)) rfl (fun a HF => ?_)
  refine wc_skip HF nS (HF.wn rfl rfl rfl rfl (Bool.eq_false_iff.2 hb3)) rfl (fun a HF => ?_)
  refine wc_pick (b := false) HF nS rfl (Bool.eq_false_iff.2 hb3) rfl rfl rfl (fun a HF => ?_)
  refine wc_assign HF nS rfl rfl rfl (fun a HF => ?_)
  refine wc_end ?_
  refine then_n ?_
  refine wp_ret ?_
  obtain rfl := Option.some.inj h
  have h := retL hk1
  obtain rfl := Option.some.inj h
  refine blk_r (then_r (?_))
  refine bp_ret HF (res_one rfl HF rfl) ?_
  have HT := HT.t0
  exact ⟨rfl, HT⟩
  have h := (if_neg hb2).symm.trans h
  refine wc_skip HF nS (HF.wn rfl rfl rfl rfl (Bool.eq_false_iff.2 hb2)) rfl (fun a HF => ?_)
  refine wc_skip HF nS (HF.wn rfl rfl rfl rfl (Bool.eq_false_iff.2 hb2)) rfl (fun a HF => ?_)
  refine wc_skip HF nS (HF.wn rfl rfl rfl rfl (Bool.eq_false_iff.2 hb2)) rfl (fun a HF => ?_)
  refine wc_pick (b := false) HF nS rfl (Bool.eq_false_iff.2 hb2) rfl rfl rfl (fun a HF => ?_)
  refine wc_move HF nS rfl rfl rfl (fun a HF => ?_)
  refine wc_skip HF nS (HF.wn rfl rfl rfl rfl rfl) rfl (fun a HF => ?_)
  refine wc_skip HF nS (HF.wn rfl rfl rfl rfl rfl) rfl (fun a HF => ?_)
  refine wc_skip HF nS (HF.wn rfl rfl rfl rfl rfl) rfl (fun a HF => ?_)
  refine wc_pick (b := false) HF nS rfl rfl rfl rfl rfl (fun a HF => ?_)
  refine wc_assign HF nS rfl rfl rfl (fun a HF => ?_)
  refine wc_end ?_
  refine then_n ?_
  refine wp_ret ?_
  obtain rfl := Option.some.inj h
  have h := retL hk1
  obtain rfl := Option.some.inj h
  refine blk_r (then_r (?_))
  refine bp_ret HF (res_one rfl HF rfl) ?_
  have HT := HT.t0
  exact ⟨rfl, HT⟩
  have h := (if_neg hb1).symm.trans h
  refine wp_if (b' := false) HF rfl (decide_eq_false hb1) ?_
  obtain ⟨z1, hx4, h⟩ := obs h
  refine wp_cut (fun a w => Fr a 161 [(1, .pointer (some ⟨p1, 0, none⟩)), (4, .int .i64 x0_0), (20, .bool z1)] ∧ St w0 (fun _ => False) w [Box p1 [.int .i64 x0_0, .int .i64 x0_1, .int .i64 x0_2, .int .i64 x0_3]]) ?_ ?_
  have hk2 := h
  have h := hx4
  refine wp_seq ?_
  refine wc_text ?_
  refine wc_bin HF nS rfl rfl b_eq rfl rfl (fun a HF => ?_)
  refine wc_assign HF nS rfl rfl rfl (fun a HF => ?_)
  refine wc_end ?_
  refine then_n ?_
  by_cases hb4 : x0_0 = 2
  have h := (if_pos hb4).symm.trans h
  refine wp_if (b' := true) HF rfl (decide_eq_true hb4) ?_
  refine wp_skip ?_
  obtain rfl := Option.some.inj h
  exact then_n ⟨(HF.keep (HF.keep (HF.keep HF.nil rfl) rfl) rfl), HT⟩
  have h := (if_neg hb4).symm.trans h
  refine wp_if (b' := false) HF rfl (decide_eq_false hb4) ?_
  refine wp_seq ?_
  refine wc_text ?_
  refine wc_bin HF nS rfl rfl b_eq rfl rfl (fun a HF => ?_)
  refine wc_assign HF nS rfl rfl rfl (fun a HF => ?_)
  refine wc_end ?_
  refine then_n ?_
  by_cases hb5 : x0_0 = 3
  have h := (if_pos hb5).symm.trans h
  refine wp_if (b' := true) HF rfl (decide_eq_true hb5) ?_
  refine wp_skip ?_
  obtain rfl := Option.some.inj h
  exact then_n ⟨(HF.keep (HF.keep (HF.keep HF.nil rfl) rfl) rfl), HT⟩
  have h := (if_neg hb5).symm.trans h
  refine wp_if (b' := false) HF rfl (decide_eq_false hb5) ?_
  refine wc_text ?_
  refine wc_bin HF nS rfl rfl b_eq rfl rfl (fun a HF => ?_)
  refine wc_assign HF nS rfl rfl rfl (fun a HF => ?_)
  refine wc_end ?_
  obtain rfl := Option.some.inj h
  exact then_n ⟨(HF.keep (HF.keep (HF.keep HF.nil rfl) rfl) rfl), HT⟩
  rintro a w ⟨HF, HT⟩
  refine ?_
  by_cases hb6 : z1 = true
  have h := (if_pos hb6).symm.trans h
  refine wp_if (b' := true) HF rfl hb6 ?_
  refine wp_seq ?_
  refine wc_text ?_
  refine wc_faddr HF nS rfl fl25_1 rfl rfl (fun a HF => ?_)
  refine wc_load HF rfl sc3 ((HT.boxAt 0 rfl).get 1 rfl) rfl rfl (fun a HF => ?_)
  obtain ⟨y3, hx5, h⟩ := obs h
  refine wc_call HF cf73 rfl (w_spec_l4Reg fuel hx5) rfl rfl ?_
  rintro e w ⟨rfl, hE⟩
  have hb := hE.below
  have HT := HT.pure hE
  have HT : St w0 (fun _ => False) w [Box p1 [.int .i64 x0_0, .int .i64 x0_1, .int .i64 x0_2, .int .i64 x0_3]] := HT
  refine ⟨_, rfl, nS, fun a HF => ?_⟩
  refine wc_move HF nS rfl rfl rfl (fun a HF => ?_)
  by_cases hb7 : y3 = true
  have h := (if_pos hb7).symm.trans h
  refine wc_faddr HF nS rfl fl25_2 (HF.wy rfl rfl rfl rfl hb7) rfl (fun a HF => ?_)
  refine wc_load HF rfl sc3 ((HT.boxAt 0 rfl).get 2 rfl) (HF.wy rfl rfl rfl rfl hb7) rfl (fun a HF => ?_)
  obtain ⟨y4, hx6, h⟩ := obs h
  refine wc_call HF cf73 rfl (w_spec_l4Reg fuel hx6) (HF.wy rfl rfl rfl rfl hb7) rfl ?_
  rintro e w ⟨rfl, hE⟩
  have hb := hE.below
  have HT := HT.pure hE
  have HT : St w0 (fun _ => False) w [Box p1 [.int .i64 x0_0, .int .i64 x0_1, .int .i64 x0_2, .int .i64 x0_3]] := HT
  refine ⟨_, rfl, nS, fun a HF => ?_⟩
  refine wc_pick (b := true) HF nS rfl hb7 rfl rfl rfl (fun a HF => ?_)
  refine wc_move HF nS rfl rfl rfl (fun a HF => ?_)
  by_cases hb8 : y4 = true
  have h := (if_pos hb8).symm.trans h
  refine wc_faddr HF nS rfl fl25_3 (HF.wy rfl rfl rfl rfl hb8) rfl (fun a HF => ?_)
  refine wc_load HF rfl sc3 ((HT.boxAt 0 rfl).get 3 rfl) (HF.wy rfl rfl rfl rfl hb8) rfl (fun a HF => ?_)
  obtain ⟨y5, hx7, h⟩ := obs h
  refine wc_call HF cf73 rfl (w_spec_l4Reg fuel hx7) (HF.wy rfl rfl rfl rfl hb8) rfl ?_
  rintro e w ⟨rfl, hE⟩
  have hb := hE.below
  have HT := HT.pure hE
  have HT : St w0 (fun _ => False) w [Box p1 [.int .i64 x0_0, .int .i64 x0_1, .int .i64 x0_2, .int .i64 x0_3]] := HT
  refine ⟨_, rfl, nS, fun a HF => ?_⟩
  refine wc_pick (b := true) HF nS rfl hb8 rfl rfl rfl (fun a HF => ?_)
  refine wc_assign HF nS rfl rfl rfl (fun a HF => ?_)
  refine wc_end ?_
  refine then_n ?_
  refine wp_ret ?_
  obtain rfl := Option.some.inj h
  have h := retL hk1
  obtain rfl := Option.some.inj h
  refine blk_r (then_r (?_))
  refine bp_ret HF (res_one rfl HF rfl) ?_
  have HT := HT.t0
  exact ⟨rfl, HT⟩
  have h := (if_neg hb8).symm.trans h
  refine wc_skip HF nS (HF.wn rfl rfl rfl rfl (Bool.eq_false_iff.2 hb8)) rfl (fun a HF => ?_)
  refine wc_skip HF nS (HF.wn rfl rfl rfl rfl (Bool.eq_false_iff.2 hb8)) rfl (fun a HF => ?_)
  refine wc_skip HF nS (HF.wn rfl rfl rfl rfl (Bool.eq_false_iff.2 hb8)) rfl (fun a HF => ?_)
  refine wc_pick (b := false) HF nS rfl (Bool.eq_false_iff.2 hb8) rfl rfl rfl (fun a HF => ?_)
  refine wc_assign HF nS rfl rfl rfl (fun a HF => ?_)
  refine wc_end ?_
  refine then_n ?_
  refine wp_ret ?_
  obtain rfl := Option.some.inj h
  have h := retL hk1
  obtain rfl := Option.some.inj h
  refine blk_r (then_r (?_))
  refine bp_ret HF (res_one rfl HF rfl) ?_
  have HT := HT.t0
  exact ⟨rfl, HT⟩
  have h := (if_neg hb7).symm.trans h
  refine wc_skip HF nS (HF.wn rfl rfl rfl rfl (Bool.eq_false_iff.2 hb7)) rfl (fun a HF => ?_)
  refine wc_skip HF nS (HF.wn rfl rfl rfl rfl (Bool.eq_false_iff.2 hb7)) rfl (fun a HF => ?_)
  refine wc_skip HF nS (HF.wn rfl rfl rfl rfl (Bool.eq_false_iff.2 hb7)) rfl (fun a HF => ?_)
  refine wc_pick (b := false) HF nS rfl (Bool.eq_false_iff.2 hb7) rfl rfl rfl (fun a HF => ?_)
  refine wc_move HF nS rfl rfl rfl (fun a HF => ?_)
  refine wc_skip HF nS (HF.wn rfl rfl rfl rfl rfl) rfl (fun a HF => ?_)
  refine wc_skip HF nS (HF.wn rfl rfl rfl rfl rfl) rfl (fun a HF => ?_)
  refine wc_skip HF nS (HF.wn rfl rfl rfl rfl rfl) rfl (fun a HF => ?_)
  refine wc_pick (b := false) HF nS rfl rfl rfl rfl rfl (fun a HF => ?_)
  refine wc_assign HF nS rfl rfl rfl (fun a HF => ?_)
  refine wc_end ?_
  refine then_n ?_
  refine wp_ret ?_
  obtain rfl := Option.some.inj h
  have h := retL hk1
  obtain rfl := Option.some.inj h
  refine blk_r (then_r (?_))
  refine bp_ret HF (res_one rfl HF rfl) ?_
  have HT := HT.t0
  exact ⟨rfl, HT⟩
  have h := (if_neg hb6).symm.trans h
  refine wp_if (b' := false) HF rfl (Bool.eq_false_iff.2 hb6) ?_
  refine wp_seq ?_
  refine wc_text ?_
  refine wc_bin HF nS rfl rfl b_eq rfl rfl (fun a HF => ?_)
  refine wc_assign HF nS rfl rfl rfl (fun a HF => ?_)
  refine wc_end ?_
  refine then_n ?_
  by_cases hb9 : x0_0 = 5
  have h := (if_pos hb9).symm.trans h
  refine wp_if (b' := true) HF rfl (decide_eq_true hb9) ?_
  refine wp_seq ?_
  refine wc_text ?_
  refine wc_faddr HF nS rfl fl25_1 rfl rfl (fun a HF => ?_)
  refine wc_load HF rfl sc3 ((HT.boxAt 0 rfl).get 1 rfl) rfl rfl (fun a HF => ?_)
  obtain ⟨y6, hx8, h⟩ := obs h
  refine wc_call HF cf73 rfl (w_spec_l4Reg fuel hx8) rfl rfl ?_
  rintro e w ⟨rfl, hE⟩
  have hb := hE.below
  have HT := HT.pure hE
  have HT : St w0 (fun _ => False) w [Box p1 [.int .i64 x0_0, .int .i64 x0_1, .int .i64 x0_2, .int .i64 x0_3]] := HT
  refine ⟨_, rfl, nS, fun a HF => ?_⟩
  refine wc_move HF nS rfl rfl rfl (fun a HF => ?_)
  by_cases hb10 : y6 = true
  have h := (if_pos hb10).symm.trans h
  refine wc_faddr HF nS rfl fl25_2 (HF.wy rfl rfl rfl rfl hb10) rfl (fun a HF => ?_)
  refine wc_load HF rfl sc3 ((HT.boxAt 0 rfl).get 2 rfl) (HF.wy rfl rfl rfl rfl hb10) rfl (fun a HF => ?_)
  obtain ⟨y7, hx9, h⟩ := obs h
  refine wc_call HF cf75 rfl (w_spec_l3Cell fuel hx9) (HF.wy rfl rfl rfl rfl hb10) rfl ?_
  rintro e w ⟨rfl, hE⟩
  have hb := hE.below
  have HT := HT.pure hE
  have HT : St w0 (fun _ => False) w [Box p1 [.int .i64 x0_0, .int .i64 x0_1, .int .i64 x0_2, .int .i64 x0_3]] := HT
  refine ⟨_, rfl, nS, fun a HF => ?_⟩
  refine wc_pick (b := true) HF nS rfl hb10 rfl rfl rfl (fun a HF => ?_)
  refine wc_move HF nS rfl rfl rfl (fun a HF => ?_)
  by_cases hb11 : y7 = true
  have h := (if_pos hb11).symm.trans h
  refine wc_faddr HF nS rfl fl25_3 (HF.wy rfl rfl rfl rfl hb11) rfl (fun a HF => ?_)
  refine wc_load HF rfl sc3 ((HT.boxAt 0 rfl).get 3 rfl) (HF.wy rfl rfl rfl rfl hb11) rfl (fun a HF => ?_)
  refine wc_bin HF nS rfl rfl b_eq (HF.wy rfl rfl rfl rfl hb11) rfl (fun a HF => ?_)
  refine wc_pick (b := true) HF nS rfl hb11 rfl rfl rfl (fun a HF => ?_)
  refine wc_assign HF nS rfl rfl rfl (fun a HF => ?_)
  refine wc_end ?_
  refine then_n ?_
  refine wp_ret ?_
  obtain rfl := Option.some.inj h
  have h := retL hk1
  obtain rfl := Option.some.inj h
  refine blk_r (then_r (?_))
  refine bp_ret HF (res_one rfl HF rfl) ?_
  have HT := HT.t0
  exact ⟨rfl, HT⟩
  have h := (if_neg hb11).symm.trans h
  refine wc_skip HF nS (HF.wn rfl rfl rfl rfl (Bool.eq_false_iff.2 hb11)) rfl (fun a HF => ?_)
  refine wc_skip HF nS (HF.wn rfl rfl rfl rfl (Bool.eq_false_iff.2 hb11)) rfl (fun a HF => ?_)
  refine wc_skip HF nS (HF.wn rfl rfl rfl rfl (Bool.eq_false_iff.2 hb11)) rfl (fun a HF => ?_)
  refine wc_pick (b := false) HF nS rfl (Bool.eq_false_iff.2 hb11) rfl rfl rfl (fun a HF => ?_)
  refine wc_assign HF nS rfl rfl rfl (fun a HF => ?_)
  refine wc_end ?_
  refine then_n ?_
  refine wp_ret ?_
  obtain rfl := Option.some.inj h
  have h := retL hk1
  obtain rfl := Option.some.inj h
  refine blk_r (then_r (?_))
  refine bp_ret HF (res_one rfl HF rfl) ?_
  have HT := HT.t0
  exact ⟨rfl, HT⟩
  have h := (if_neg hb10).symm.trans h
  refine wc_skip HF nS (HF.wn rfl rfl rfl rfl (Bool.eq_false_iff.2 hb10)) rfl (fun a HF => ?_)
  refine wc_skip HF nS (HF.wn rfl rfl rfl rfl (Bool.eq_false_iff.2 hb10)) rfl (fun a HF => ?_)
  refine wc_skip HF nS (HF.wn rfl rfl rfl rfl (Bool.eq_false_iff.2 hb10)) rfl (fun a HF => ?_)
  refine wc_pick (b := false) HF nS rfl (Bool.eq_false_iff.2 hb10) rfl rfl rfl (fun a HF => ?_)
  refine wc_move HF nS rfl rfl rfl (fun a HF => ?_)
  refine wc_skip HF nS (HF.wn rfl rfl rfl rfl rfl) rfl (fun a HF => ?_)
  refine wc_skip HF nS (HF.wn rfl rfl rfl rfl rfl) rfl (fun a HF => ?_)
  refine wc_skip HF nS (HF.wn rfl rfl rfl rfl rfl) rfl (fun a HF => ?_)
  refine wc_pick (b := false) HF nS rfl rfl rfl rfl rfl (fun a HF => ?_)
  refine wc_assign HF nS rfl rfl rfl (fun a HF => ?_)
  refine wc_end ?_
  refine then_n ?_
  refine wp_ret ?_
  obtain rfl := Option.some.inj h
  have h := retL hk1
  obtain rfl := Option.some.inj h
  refine blk_r (then_r (?_))
  refine bp_ret HF (res_one rfl HF rfl) ?_
  have HT := HT.t0
  exact ⟨rfl, HT⟩
  have h := (if_neg hb9).symm.trans h
  refine wp_if (b' := false) HF rfl (decide_eq_false hb9) ?_
  refine wp_seq ?_
  refine wc_text ?_
  refine wc_bin HF nS rfl rfl b_eq rfl rfl (fun a HF => ?_)
  refine wc_assign HF nS rfl rfl rfl (fun a HF => ?_)
  refine wc_end ?_
  refine then_n ?_
  by_cases hb12 : x0_0 = 6
  have h := (if_pos hb12).symm.trans h
  refine wp_if (b' := true) HF rfl (decide_eq_true hb12) ?_
  refine wp_seq ?_
  refine wc_text ?_
  refine wc_faddr HF nS rfl fl25_1 rfl rfl (fun a HF => ?_)
  refine wc_load HF rfl sc3 ((HT.boxAt 0 rfl).get 1 rfl) rfl rfl (fun a HF => ?_)
  obtain ⟨y8, hx10, h⟩ := obs h
  refine wc_call HF cf75 rfl (w_spec_l3Cell fuel hx10) rfl rfl ?_
  rintro e w ⟨rfl, hE⟩
  have hb := hE.below
  have HT := HT.pure hE
  have HT : St w0 (fun _ => False) w [Box p1 [.int .i64 x0_0, .int .i64 x0_1, .int .i64 x0_2, .int .i64 x0_3]] := HT
  refine ⟨_, rfl, nS, fun a HF => ?_⟩
  refine wc_move HF nS rfl rfl rfl (fun a HF => ?_)
  by_cases hb13 : y8 = true
  have h := (if_pos hb13).symm.trans h
  refine wc_faddr HF nS rfl fl25_2 (HF.wy rfl rfl rfl rfl hb13) rfl (fun a HF => ?_)
  refine wc_load HF rfl sc3 ((HT.boxAt 0 rfl).get 2 rfl) (HF.wy rfl rfl rfl rfl hb13) rfl (fun a HF => ?_)
  obtain ⟨y9, hx11, h⟩ := obs h
  refine wc_call HF cf73 rfl (w_spec_l4Reg fuel hx11) (HF.wy rfl rfl rfl rfl hb13) rfl ?_
  rintro e w ⟨rfl, hE⟩
  have hb := hE.below
  have HT := HT.pure hE
  have HT : St w0 (fun _ => False) w [Box p1 [.int .i64 x0_0, .int .i64 x0_1, .int .i64 x0_2, .int .i64 x0_3]] := HT
  refine ⟨_, rfl, nS, fun a HF => ?_⟩
  refine wc_pick (b := true) HF nS rfl hb13 rfl rfl rfl (fun a HF => ?_)
  refine wc_move HF nS rfl rfl rfl (fun a HF => ?_)
  by_cases hb14 : y9 = true
  have h := (if_pos hb14).symm.trans h
  refine wc_faddr HF nS rfl fl25_3 (HF.wy rfl rfl rfl rfl hb14) rfl (fun a HF => ?_)
  refine wc_load HF rfl sc3 ((HT.boxAt 0 rfl).get 3 rfl) (HF.wy rfl rfl rfl rfl hb14) rfl (fun a HF => ?_)
  refine wc_bin HF nS rfl rfl b_eq (HF.wy rfl rfl rfl rfl hb14) rfl (fun a HF => ?_)
  refine wc_pick (b := true) HF nS rfl hb14 rfl rfl rfl (fun a HF => ?_)
  refine wc_assign HF nS rfl rfl rfl (fun a HF => ?_)
  refine wc_end ?_
  refine then_n ?_
  refine wp_ret ?_
  obtain rfl := Option.some.inj h
  have h := retL hk1
  obtain rfl := Option.some.inj h
  refine blk_r (then_r (?_))
  refine bp_ret HF (res_one rfl HF rfl) ?_
  have HT := HT.t0
  exact ⟨rfl, HT⟩
  have h := (if_neg hb14).symm.trans h
  refine wc_skip HF nS (HF.wn rfl rfl rfl rfl (Bool.eq_false_iff.2 hb14)) rfl (fun a HF => ?_)
  refine wc_skip HF nS (HF.wn rfl rfl rfl rfl (Bool.eq_false_iff.2 hb14)) rfl (fun a HF => ?_)
  refine wc_skip HF nS (HF.wn rfl rfl rfl rfl (Bool.eq_false_iff.2 hb14)) rfl (fun a HF => ?_)
  refine wc_pick (b := false) HF nS rfl (Bool.eq_false_iff.2 hb14) rfl rfl rfl (fun a HF => ?_)
  refine wc_assign HF nS rfl rfl rfl (fun a HF => ?_)
  refine wc_end ?_
  refine then_n ?_
  refine wp_ret ?_
  obtain rfl := Option.some.inj h
  have h := retL hk1
  obtain rfl := Option.some.inj h
  refine blk_r (then_r (?_))
  refine bp_ret HF (res_one rfl HF rfl) ?_
  have HT := HT.t0
  exact ⟨rfl, HT⟩
  have h := (if_neg hb13).symm.trans h
  refine wc_skip HF nS (HF.wn rfl rfl rfl rfl (Bool.eq_false_iff.2 hb13)) rfl (fun a HF => ?_)
  refine wc_skip HF nS (HF.wn rfl rfl rfl rfl (Bool.eq_false_iff.2 hb13)) rfl (fun a HF => ?_)
  refine wc_skip HF nS (HF.wn rfl rfl rfl rfl (Bool.eq_false_iff.2 hb13)) rfl (fun a HF => ?_)
  refine wc_pick (b := false) HF nS rfl (Bool.eq_false_iff.2 hb13) rfl rfl rfl (fun a HF => ?_)
  refine wc_move HF nS rfl rfl rfl (fun a HF => ?_)
  refine wc_skip HF nS (HF.wn rfl rfl rfl rfl rfl) rfl (fun a HF => ?_)
  refine wc_skip HF nS (HF.wn rfl rfl rfl rfl rfl) rfl (fun a HF => ?_)
  refine wc_skip HF nS (HF.wn rfl rfl rfl rfl rfl) rfl (fun a HF => ?_)
  refine wc_pick (b := false) HF nS rfl rfl rfl rfl rfl (fun a HF => ?_)
  refine wc_assign HF nS rfl rfl rfl (fun a HF => ?_)
  refine wc_end ?_
  refine then_n ?_
  refine wp_ret ?_
  obtain rfl := Option.some.inj h
  have h := retL hk1
  obtain rfl := Option.some.inj h
  refine blk_r (then_r (?_))
  refine bp_ret HF (res_one rfl HF rfl) ?_
  have HT := HT.t0
  exact ⟨rfl, HT⟩
  have h := (if_neg hb12).symm.trans h
  refine wp_if (b' := false) HF rfl (decide_eq_false hb12) ?_
  refine wp_seq ?_
  refine wc_text ?_
  refine wc_bin HF nS rfl rfl b_eq rfl rfl (fun a HF => ?_)
  refine wc_assign HF nS rfl rfl rfl (fun a HF => ?_)
  refine wc_end ?_
  refine then_n ?_
  by_cases hb15 : x0_0 = 7
  have h := (if_pos hb15).symm.trans h
  refine wp_if (b' := true) HF rfl (decide_eq_true hb15) ?_
  refine wp_seq ?_
  refine wc_text ?_
  refine wc_faddr HF nS rfl fl25_1 rfl rfl (fun a HF => ?_)
  refine wc_load HF rfl sc3 ((HT.boxAt 0 rfl).get 1 rfl) rfl rfl (fun a HF => ?_)
  obtain ⟨y10, hx12, h⟩ := obs h
  refine wc_call HF cf73 rfl (w_spec_l4Reg fuel hx12) rfl rfl ?_
  rintro e w ⟨rfl, hE⟩
  have hb := hE.below
  have HT := HT.pure hE
  have HT : St w0 (fun _ => False) w [Box p1 [.int .i64 x0_0, .int .i64 x0_1, .int .i64 x0_2, .int .i64 x0_3]] := HT
  refine ⟨_, rfl, nS, fun a HF => ?_⟩
  refine wc_move HF nS rfl rfl rfl (fun a HF => ?_)
  by_cases hb16 : y10 = true
  have h := (if_pos hb16).symm.trans h
  refine wc_faddr HF nS rfl fl25_2 (HF.wy rfl rfl rfl rfl hb16) rfl (fun a HF => ?_)
  refine wc_load HF rfl sc3 ((HT.boxAt 0 rfl).get 2 rfl) (HF.wy rfl rfl rfl rfl hb16) rfl (fun a HF => ?_)
  obtain ⟨y11, hx13, h⟩ := obs h
  refine wc_call HF cf76 rfl (w_spec_l1In fuel hx13) (HF.wy rfl rfl rfl rfl hb16) rfl ?_
  rintro e w ⟨rfl, hE⟩
  have hb := hE.below
  have HT := HT.pure hE
  have HT : St w0 (fun _ => False) w [Box p1 [.int .i64 x0_0, .int .i64 x0_1, .int .i64 x0_2, .int .i64 x0_3]] := HT
  refine ⟨_, rfl, nS, fun a HF => ?_⟩
  refine wc_pick (b := true) HF nS rfl hb16 rfl rfl rfl (fun a HF => ?_)
  refine wc_move HF nS rfl rfl rfl (fun a HF => ?_)
  by_cases hb17 : y11 = true
  have h := (if_pos hb17).symm.trans h
  refine wc_faddr HF nS rfl fl25_3 (HF.wy rfl rfl rfl rfl hb17) rfl (fun a HF => ?_)
  refine wc_load HF rfl sc3 ((HT.boxAt 0 rfl).get 3 rfl) (HF.wy rfl rfl rfl rfl hb17) rfl (fun a HF => ?_)
  refine wc_bin HF nS rfl rfl b_eq (HF.wy rfl rfl rfl rfl hb17) rfl (fun a HF => ?_)
  refine wc_pick (b := true) HF nS rfl hb17 rfl rfl rfl (fun a HF => ?_)
  refine wc_assign HF nS rfl rfl rfl (fun a HF => ?_)
  refine wc_end ?_
  refine then_n ?_
  refine wp_ret ?_
  obtain rfl := Option.some.inj h
  have h := retL hk1
  obtain rfl := Option.some.inj h
  refine blk_r (then_r (?_))
  refine bp_ret HF (res_one rfl HF rfl) ?_
  have HT := HT.t0
  exact ⟨rfl, HT⟩
  have h := (if_neg hb17).symm.trans h
  refine wc_skip HF nS (HF.wn rfl rfl rfl rfl (Bool.eq_false_iff.2 hb17)) rfl (fun a HF => ?_)
  refine wc_skip HF nS (HF.wn rfl rfl rfl rfl (Bool.eq_false_iff.2 hb17)) rfl (fun a HF => ?_)
  refine wc_skip HF nS (HF.wn rfl rfl rfl rfl (Bool.eq_false_iff.2 hb17)) rfl (fun a HF => ?_)
  refine wc_pick (b := false) HF nS rfl (Bool.eq_false_iff.2 hb17) rfl rfl rfl (fun a HF => ?_)
  refine wc_assign HF nS rfl rfl rfl (fun a HF => ?_)
  refine wc_end ?_
  refine then_n ?_
  refine wp_ret ?_
  obtain rfl := Option.some.inj h
  have h := retL hk1
  obtain rfl := Option.some.inj h
  refine blk_r (then_r (?_))
  refine bp_ret HF (res_one rfl HF rfl) ?_
  have HT := HT.t0
  exact ⟨rfl, HT⟩
  have h := (if_neg hb16).symm.trans h
  refine wc_skip HF nS (HF.wn rfl rfl rfl rfl (Bool.eq_false_iff.2 hb16)) rfl (fun a HF => ?_)
  refine wc_skip HF nS (HF.wn rfl rfl rfl rfl (Bool.eq_false_iff.2 hb16)) rfl (fun a HF => ?_)
  refine wc_skip HF nS (HF.wn rfl rfl rfl rfl (Bool.eq_false_iff.2 hb16)) rfl (fun a HF => ?_)
  refine wc_pick (b := false) HF nS rfl (Bool.eq_false_iff.2 hb16) rfl rfl rfl (fun a HF => ?_)
  refine wc_move HF nS rfl rfl rfl (fun a HF => ?_)
  refine wc_skip HF nS (HF.wn rfl rfl rfl rfl rfl) rfl (fun a HF => ?_)
  refine wc_skip HF nS (HF.wn rfl rfl rfl rfl rfl) rfl (fun a HF => ?_)
  refine wc_skip HF nS (HF.wn rfl rfl rfl rfl rfl) rfl (fun a HF => ?_)
  refine wc_pick (b := false) HF nS rfl rfl rfl rfl rfl (fun a HF => ?_)
  refine wc_assign HF nS rfl rfl rfl (fun a HF => ?_)
  refine wc_end ?_
  refine then_n ?_
  refine wp_ret ?_
  obtain rfl := Option.some.inj h
  have h := retL hk1
  obtain rfl := Option.some.inj h
  refine blk_r (then_r (?_))
  refine bp_ret HF (res_one rfl HF rfl) ?_
  have HT := HT.t0
  exact ⟨rfl, HT⟩
  have h := (if_neg hb15).symm.trans h
  refine wp_if (b' := false) HF rfl (decide_eq_false hb15) ?_
  obtain ⟨z2, hx14, h⟩ := obs h
  refine wp_cut (fun a w => Fr a 161 [(1, .pointer (some ⟨p1, 0, none⟩)), (4, .int .i64 x0_0), (82, .bool z2)] ∧ St w0 (fun _ => False) w [Box p1 [.int .i64 x0_0, .int .i64 x0_1, .int .i64 x0_2, .int .i64 x0_3]]) ?_ ?_
  have hk2 := h
  have h := hx14
  refine wp_seq ?_
  refine wc_text ?_
  refine wc_bin HF nS rfl rfl b_eq rfl rfl (fun a HF => ?_)
  refine wc_assign HF nS rfl rfl rfl (fun a HF => ?_)
  refine wc_end ?_
  refine then_n ?_
  by_cases hb18 : x0_0 = 8
  have h := (if_pos hb18).symm.trans h
  refine wp_if (b' := true) HF rfl (decide_eq_true hb18) ?_
  refine wp_skip ?_
  obtain rfl := Option.some.inj h
  exact then_n ⟨(HF.keep (HF.keep (HF.keep HF.nil rfl) rfl) rfl), HT⟩
  have h := (if_neg hb18).symm.trans h
  refine wp_if (b' := false) HF rfl (decide_eq_false hb18) ?_
  refine wp_seq ?_
  refine wc_text ?_
  refine wc_bin HF nS rfl rfl b_eq rfl rfl (fun a HF => ?_)
  refine wc_assign HF nS rfl rfl rfl (fun a HF => ?_)
  refine wc_end ?_
  refine then_n ?_
  by_cases hb19 : x0_0 = 15
  have h := (if_pos hb19).symm.trans h
  refine wp_if (b' := true) HF rfl (decide_eq_true hb19) ?_
  refine wp_skip ?_
  obtain rfl := Option.some.inj h
  exact then_n ⟨(HF.keep (HF.keep (HF.keep HF.nil rfl) rfl) rfl), HT⟩
  have h := (if_neg hb19).symm.trans h
  refine wp_if (b' := false) HF rfl (decide_eq_false hb19) ?_
  refine wc_text ?_
  refine wc_bin HF nS rfl rfl b_eq rfl rfl (fun a HF => ?_)
  refine wc_assign HF nS rfl rfl rfl (fun a HF => ?_)
  refine wc_end ?_
  obtain rfl := Option.some.inj h
  exact then_n ⟨(HF.keep (HF.keep (HF.keep HF.nil rfl) rfl) rfl), HT⟩
  rintro a w ⟨HF, HT⟩
  refine ?_
  by_cases hb20 : z2 = true
  have h := (if_pos hb20).symm.trans h
  refine wp_if (b' := true) HF rfl hb20 ?_
  refine wp_seq ?_
  refine wc_text ?_
  refine wc_faddr HF nS rfl fl25_1 rfl rfl (fun a HF => ?_)
  refine wc_load HF rfl sc3 ((HT.boxAt 0 rfl).get 1 rfl) rfl rfl (fun a HF => ?_)
  obtain ⟨y12, hx15, h⟩ := obs h
  refine wc_call HF cf73 rfl (w_spec_l4Reg fuel hx15) rfl rfl ?_
  rintro e w ⟨rfl, hE⟩
  have hb := hE.below
  have HT := HT.pure hE
  have HT : St w0 (fun _ => False) w [Box p1 [.int .i64 x0_0, .int .i64 x0_1, .int .i64 x0_2, .int .i64 x0_3]] := HT
  refine ⟨_, rfl, nS, fun a HF => ?_⟩
  refine wc_move HF nS rfl rfl rfl (fun a HF => ?_)
  by_cases hb21 : y12 = true
  have h := (if_pos hb21).symm.trans h
  refine wc_faddr HF nS rfl fl25_2 (HF.wy rfl rfl rfl rfl hb21) rfl (fun a HF => ?_)
  refine wc_load HF rfl sc3 ((HT.boxAt 0 rfl).get 2 rfl) (HF.wy rfl rfl rfl rfl hb21) rfl (fun a HF => ?_)
  refine wc_bin HF nS rfl rfl b_eq (HF.wy rfl rfl rfl rfl hb21) rfl (fun a HF => ?_)
  refine wc_pick (b := true) HF nS rfl hb21 rfl rfl rfl (fun a HF => ?_)
  refine wc_move HF nS rfl rfl rfl (fun a HF => ?_)
  by_cases hb22 : x0_2 = 0
  have h := (if_pos hb22).symm.trans h
  refine wc_faddr HF nS rfl fl25_3 (HF.wy rfl rfl rfl rfl (decide_eq_true hb22)) rfl (fun a HF => ?_)
  refine wc_load HF rfl sc3 ((HT.boxAt 0 rfl).get 3 rfl) (HF.wy rfl rfl rfl rfl (decide_eq_true hb22)) rfl (fun a HF => ?_)
  refine wc_bin HF nS rfl rfl b_eq (HF.wy rfl rfl rfl rfl (decide_eq_true hb22)) rfl (fun a HF => ?_)
  refine wc_pick (b := true) HF nS rfl (decide_eq_true hb22) rfl rfl rfl (fun a HF => ?_)
  refine wc_assign HF nS rfl rfl rfl (fun a HF => ?_)
  refine wc_end ?_
  refine then_n ?_
  refine wp_ret ?_
  obtain rfl := Option.some.inj h
  have h := retL hk1
  obtain rfl := Option.some.inj h
  refine blk_r (then_r (?_))
  refine bp_ret HF (res_one rfl HF rfl) ?_
  have HT := HT.t0
  exact ⟨rfl, HT⟩
  have h := (if_neg hb22).symm.trans h
  refine wc_skip HF nS (HF.wn rfl rfl rfl rfl (decide_eq_false hb22)) rfl (fun a HF => ?_)
  refine wc_skip HF nS (HF.wn rfl rfl rfl rfl (decide_eq_false hb22)) rfl (fun a HF => ?_)
  refine wc_skip HF nS (HF.wn rfl rfl rfl rfl (decide_eq_false hb22)) rfl (fun a HF => ?_)
  refine wc_pick (b := false) HF nS rfl (decide_eq_false hb22) rfl rfl rfl (fun a HF => ?_)
  refine wc_assign HF nS rfl rfl rfl (fun a HF => ?_)
  refine wc_end ?_
  refine then_n ?_
  refine wp_ret ?_
  obtain rfl := Option.some.inj h
  have h := retL hk1
  obtain rfl := Option.some.inj h
  refine blk_r (then_r (?_))
  refine bp_ret HF (res_one rfl HF rfl) ?_
  have HT := HT.t0
  exact ⟨rfl, HT⟩
  have h := (if_neg hb21).symm.trans h
  refine wc_skip HF nS (HF.wn rfl rfl rfl rfl (Bool.eq_false_iff.2 hb21)) rfl (fun a HF => ?_)
  refine wc_skip HF nS (HF.wn rfl rfl rfl rfl (Bool.eq_false_iff.2 hb21)) rfl (fun a HF => ?_)
  refine wc_skip HF nS (HF.wn rfl rfl rfl rfl (Bool.eq_false_iff.2 hb21)) rfl (fun a HF => ?_)
  refine wc_pick (b := false) HF nS rfl (Bool.eq_false_iff.2 hb21) rfl rfl rfl (fun a HF => ?_)
  refine wc_move HF nS rfl rfl rfl (fun a HF => ?_)
  refine wc_skip HF nS (HF.wn rfl rfl rfl rfl rfl) rfl (fun a HF => ?_)
  refine wc_skip HF nS (HF.wn rfl rfl rfl rfl rfl) rfl (fun a HF => ?_)
  refine wc_skip HF nS (HF.wn rfl rfl rfl rfl rfl) rfl (fun a HF => ?_)
  refine wc_pick (b := false) HF nS rfl rfl rfl rfl rfl (fun a HF => ?_)
  refine wc_assign HF nS rfl rfl rfl (fun a HF => ?_)
  refine wc_end ?_
  refine then_n ?_
  refine wp_ret ?_
  obtain rfl := Option.some.inj h
  have h := retL hk1
  obtain rfl := Option.some.inj h
  refine blk_r (then_r (?_))
  refine bp_ret HF (res_one rfl HF rfl) ?_
  have HT := HT.t0
  exact ⟨rfl, HT⟩
  have h := (if_neg hb20).symm.trans h
  refine wp_if (b' := false) HF rfl (Bool.eq_false_iff.2 hb20) ?_
  obtain ⟨z3, hx16, h⟩ := obs h
  refine wp_cut (fun a w => Fr a 161 [(1, .pointer (some ⟨p1, 0, none⟩)), (4, .int .i64 x0_0), (99, .bool z3)] ∧ St w0 (fun _ => False) w [Box p1 [.int .i64 x0_0, .int .i64 x0_1, .int .i64 x0_2, .int .i64 x0_3]]) ?_ ?_
  have hk2 := h
  have h := hx16
  refine wp_seq ?_
  refine wc_text ?_
  refine wc_bin HF nS rfl rfl b_eq rfl rfl (fun a HF => ?_)
  refine wc_assign HF nS rfl rfl rfl (fun a HF => ?_)
  refine wc_end ?_
  refine then_n ?_
  by_cases hb23 : x0_0 = 9
  have h := (if_pos hb23).symm.trans h
  refine wp_if (b' := true) HF rfl (decide_eq_true hb23) ?_
  refine wp_skip ?_
  obtain rfl := Option.some.inj h
  exact then_n ⟨(HF.keep (HF.keep (HF.keep HF.nil rfl) rfl) rfl), HT⟩
  have h := (if_neg hb23).symm.trans h
  refine wp_if (b' := false) HF rfl (decide_eq_false hb23) ?_
  refine wp_seq ?_
  refine wc_text ?_
  refine wc_bin HF nS rfl rfl b_eq rfl rfl (fun a HF => ?_)
  refine wc_assign HF nS rfl rfl rfl (fun a HF => ?_)
  refine wc_end ?_
  refine then_n ?_
  by_cases hb24 : x0_0 = 10
  have h := (if_pos hb24).symm.trans h
  refine wp_if (b' := true) HF rfl (decide_eq_true hb24) ?_
  refine wp_skip ?_
  obtain rfl := Option.some.inj h
  exact then_n ⟨(HF.keep (HF.keep (HF.keep HF.nil rfl) rfl) rfl), HT⟩
  have h := (if_neg hb24).symm.trans h
  refine wp_if (b' := false) HF rfl (decide_eq_false hb24) ?_
  refine wc_text ?_
  refine wc_bin HF nS rfl rfl b_eq rfl rfl (fun a HF => ?_)
  refine wc_assign HF nS rfl rfl rfl (fun a HF => ?_)
  refine wc_end ?_
  obtain rfl := Option.some.inj h
  exact then_n ⟨(HF.keep (HF.keep (HF.keep HF.nil rfl) rfl) rfl), HT⟩
  rintro a w ⟨HF, HT⟩
  refine ?_
  by_cases hb25 : z3 = true
  have h := (if_pos hb25).symm.trans h
  refine wp_if (b' := true) HF rfl hb25 ?_
  refine wp_seq ?_
  refine wc_text ?_
  refine wc_faddr HF nS rfl fl25_1 rfl rfl (fun a HF => ?_)
  refine wc_load HF rfl sc3 ((HT.boxAt 0 rfl).get 1 rfl) rfl rfl (fun a HF => ?_)
  refine wc_bin HF nS rfl rfl b_eq rfl rfl (fun a HF => ?_)
  refine wc_move HF nS rfl rfl rfl (fun a HF => ?_)
  by_cases hb26 : x0_1 = 0
  have h := (if_pos hb26).symm.trans h
  refine wc_faddr HF nS rfl fl25_2 (HF.wy rfl rfl rfl rfl (decide_eq_true hb26)) rfl (fun a HF => ?_)
  refine wc_load HF rfl sc3 ((HT.boxAt 0 rfl).get 2 rfl) (HF.wy rfl rfl rfl rfl (decide_eq_true hb26)) rfl (fun a HF => ?_)
  refine wc_bin HF nS rfl rfl b_eq (HF.wy rfl rfl rfl rfl (decide_eq_true hb26)) rfl (fun a HF => ?_)
  refine wc_pick (b := true) HF nS rfl (decide_eq_true hb26) rfl rfl rfl (fun a HF => ?_)
  refine wc_move HF nS rfl rfl rfl (fun a HF => ?_)
  by_cases hb27 : x0_2 = 0
  have h := (if_pos hb27).symm.trans h
  refine wc_faddr HF nS rfl fl25_3 (HF.wy rfl rfl rfl rfl (decide_eq_true hb27)) rfl (fun a HF => ?_)
  refine wc_load HF rfl sc3 ((HT.boxAt 0 rfl).get 3 rfl) (HF.wy rfl rfl rfl rfl (decide_eq_true hb27)) rfl (fun a HF => ?_)
  refine wc_bin HF nS rfl rfl b_eq (HF.wy rfl rfl rfl rfl (decide_eq_true hb27)) rfl (fun a HF => ?_)
  refine wc_pick (b := true) HF nS rfl (decide_eq_true hb27) rfl rfl rfl (fun a HF => ?_)
  refine wc_assign HF nS rfl rfl rfl (fun a HF => ?_)
  refine wc_end ?_
  refine then_n ?_
  refine wp_ret ?_
  obtain rfl := Option.some.inj h
  have h := retL hk1
  obtain rfl := Option.some.inj h
  refine blk_r (then_r (?_))
  refine bp_ret HF (res_one rfl HF rfl) ?_
  have HT := HT.t0
  exact ⟨rfl, HT⟩
  have h := (if_neg hb27).symm.trans h
  refine wc_skip HF nS (HF.wn rfl rfl rfl rfl (decide_eq_false hb27)) rfl (fun a HF => ?_)
  refine wc_skip HF nS (HF.wn rfl rfl rfl rfl (decide_eq_false hb27)) rfl (fun a HF => ?_)
  refine wc_skip HF nS (HF.wn rfl rfl rfl rfl (decide_eq_false hb27)) rfl (fun a HF => ?_)
  refine wc_pick (b := false) HF nS rfl (decide_eq_false hb27) rfl rfl rfl (fun a HF => ?_)
  refine wc_assign HF nS rfl rfl rfl (fun a HF => ?_)
  refine wc_end ?_
  refine then_n ?_
  refine wp_ret ?_
  obtain rfl := Option.some.inj h
  have h := retL hk1
  obtain rfl := Option.some.inj h
  refine blk_r (then_r (?_))
  refine bp_ret HF (res_one rfl HF rfl) ?_
  have HT := HT.t0
  exact ⟨rfl, HT⟩
  have h := (if_neg hb26).symm.trans h
  refine wc_skip HF nS (HF.wn rfl rfl rfl rfl (decide_eq_false hb26)) rfl (fun a HF => ?_)
  refine wc_skip HF nS (HF.wn rfl rfl rfl rfl (decide_eq_false hb26)) rfl (fun a HF => ?_)
  refine wc_skip HF nS (HF.wn rfl rfl rfl rfl (decide_eq_false hb26)) rfl (fun a HF => ?_)
  refine wc_pick (b := false) HF nS rfl (decide_eq_false hb26) rfl rfl rfl (fun a HF => ?_)
  refine wc_move HF nS rfl rfl rfl (fun a HF => ?_)
  refine wc_skip HF nS (HF.wn rfl rfl rfl rfl rfl) rfl (fun a HF => ?_)
  refine wc_skip HF nS (HF.wn rfl rfl rfl rfl rfl) rfl (fun a HF => ?_)
  refine wc_skip HF nS (HF.wn rfl rfl rfl rfl rfl) rfl (fun a HF => ?_)
  refine wc_pick (b := false) HF nS rfl rfl rfl rfl rfl (fun a HF => ?_)
  refine wc_assign HF nS rfl rfl rfl (fun a HF => ?_)
  refine wc_end ?_
  refine then_n ?_
  refine wp_ret ?_
  obtain rfl := Option.some.inj h
  have h := retL hk1
  obtain rfl := Option.some.inj h
  refine blk_r (then_r (?_))
  refine bp_ret HF (res_one rfl HF rfl) ?_
  have HT := HT.t0
  exact ⟨rfl, HT⟩
  have h := (if_neg hb25).symm.trans h
  refine wp_if (b' := false) HF rfl (Bool.eq_false_iff.2 hb25) ?_
  refine wp_seq ?_
  refine wc_text ?_
  refine wc_bin HF nS rfl rfl b_eq rfl rfl (fun a HF => ?_)
  refine wc_assign HF nS rfl rfl rfl (fun a HF => ?_)
  refine wc_end ?_
  refine then_n ?_
  by_cases hb28 : x0_0 = 12
  have h := (if_pos hb28).symm.trans h
  refine wp_if (b' := true) HF rfl (decide_eq_true hb28) ?_
  refine wp_seq ?_
  refine wc_text ?_
  refine wc_faddr HF nS rfl fl25_1 rfl rfl (fun a HF => ?_)
  refine wc_load HF rfl sc3 ((HT.boxAt 0 rfl).get 1 rfl) rfl rfl (fun a HF => ?_)
  obtain ⟨y13, hx17, h⟩ := obs h
  refine wc_call HF cf76 rfl (w_spec_l1In fuel hx17) rfl rfl ?_
  rintro e w ⟨rfl, hE⟩
  have hb := hE.below
  have HT := HT.pure hE
  have HT : St w0 (fun _ => False) w [Box p1 [.int .i64 x0_0, .int .i64 x0_1, .int .i64 x0_2, .int .i64 x0_3]] := HT
  refine ⟨_, rfl, nS, fun a HF => ?_⟩
  refine wc_move HF nS rfl rfl rfl (fun a HF => ?_)
  by_cases hb29 : y13 = true
  have h := (if_pos hb29).symm.trans h
  refine wc_faddr HF nS rfl fl25_2 (HF.wy rfl rfl rfl rfl hb29) rfl (fun a HF => ?_)
  refine wc_load HF rfl sc3 ((HT.boxAt 0 rfl).get 2 rfl) (HF.wy rfl rfl rfl rfl hb29) rfl (fun a HF => ?_)
  obtain ⟨y14, hx18, h⟩ := obs h
  refine wc_call HF cf73 rfl (w_spec_l4Reg fuel hx18) (HF.wy rfl rfl rfl rfl hb29) rfl ?_
  rintro e w ⟨rfl, hE⟩
  have hb := hE.below
  have HT := HT.pure hE
  have HT : St w0 (fun _ => False) w [Box p1 [.int .i64 x0_0, .int .i64 x0_1, .int .i64 x0_2, .int .i64 x0_3]] := HT
  refine ⟨_, rfl, nS, fun a HF => ?_⟩
  refine wc_pick (b := true) HF nS rfl hb29 rfl rfl rfl (fun a HF => ?_)
  refine wc_move HF nS rfl rfl rfl (fun a HF => ?_)
  by_cases hb30 : y14 = true
  have h := (if_pos hb30).symm.trans h
  refine wc_faddr HF nS rfl fl25_3 (HF.wy rfl rfl rfl rfl hb30) rfl (fun a HF => ?_)
  refine wc_load HF rfl sc3 ((HT.boxAt 0 rfl).get 3 rfl) (HF.wy rfl rfl rfl rfl hb30) rfl (fun a HF => ?_)
  obtain ⟨y15, hx19, h⟩ := obs h
  refine wc_call HF cf73 rfl (w_spec_l4Reg fuel hx19) (HF.wy rfl rfl rfl rfl hb30) rfl ?_
  rintro e w ⟨rfl, hE⟩
  have hb := hE.below
  have HT := HT.pure hE
  have HT : St w0 (fun _ => False) w [Box p1 [.int .i64 x0_0, .int .i64 x0_1, .int .i64 x0_2, .int .i64 x0_3]] := HT
  refine ⟨_, rfl, nS, fun a HF => ?_⟩
  refine wc_pick (b := true) HF nS rfl hb30 rfl rfl rfl (fun a HF => ?_)
  refine wc_assign HF nS rfl rfl rfl (fun a HF => ?_)
  refine wc_end ?_
  refine then_n ?_
  refine wp_ret ?_
  obtain rfl := Option.some.inj h
  have h := retL hk1
  obtain rfl := Option.some.inj h
  refine blk_r (then_r (?_))
  refine bp_ret HF (res_one rfl HF rfl) ?_
  have HT := HT.t0
  exact ⟨rfl, HT⟩
  have h := (if_neg hb30).symm.trans h
  refine wc_skip HF nS (HF.wn rfl rfl rfl rfl (Bool.eq_false_iff.2 hb30)) rfl (fun a HF => ?_)
  refine wc_skip HF nS (HF.wn rfl rfl rfl rfl (Bool.eq_false_iff.2 hb30)) rfl (fun a HF => ?_)
  refine wc_skip HF nS (HF.wn rfl rfl rfl rfl (Bool.eq_false_iff.2 hb30)) rfl (fun a HF => ?_)
  refine wc_pick (b := false) HF nS rfl (Bool.eq_false_iff.2 hb30) rfl rfl rfl (fun a HF => ?_)
  refine wc_assign HF nS rfl rfl rfl (fun a HF => ?_)
  refine wc_end ?_
  refine then_n ?_
  refine wp_ret ?_
  obtain rfl := Option.some.inj h
  have h := retL hk1
  obtain rfl := Option.some.inj h
  refine blk_r (then_r (?_))
  refine bp_ret HF (res_one rfl HF rfl) ?_
  have HT := HT.t0
  exact ⟨rfl, HT⟩
  have h := (if_neg hb29).symm.trans h
  refine wc_skip HF nS (HF.wn rfl rfl rfl rfl (Bool.eq_false_iff.2 hb29)) rfl (fun a HF => ?_)
  refine wc_skip HF nS (HF.wn rfl rfl rfl rfl (Bool.eq_false_iff.2 hb29)) rfl (fun a HF => ?_)
  refine wc_skip HF nS (HF.wn rfl rfl rfl rfl (Bool.eq_false_iff.2 hb29)) rfl (fun a HF => ?_)
  refine wc_pick (b := false) HF nS rfl (Bool.eq_false_iff.2 hb29) rfl rfl rfl (fun a HF => ?_)
  refine wc_move HF nS rfl rfl rfl (fun a HF => ?_)
  refine wc_skip HF nS (HF.wn rfl rfl rfl rfl rfl) rfl (fun a HF => ?_)
  refine wc_skip HF nS (HF.wn rfl rfl rfl rfl rfl) rfl (fun a HF => ?_)
  refine wc_skip HF nS (HF.wn rfl rfl rfl rfl rfl) rfl (fun a HF => ?_)
  refine wc_pick (b := false) HF nS rfl rfl rfl rfl rfl (fun a HF => ?_)
  refine wc_assign HF nS rfl rfl rfl (fun a HF => ?_)
  refine wc_end ?_
  refine then_n ?_
  refine wp_ret ?_
  obtain rfl := Option.some.inj h
  have h := retL hk1
  obtain rfl := Option.some.inj h
  refine blk_r (then_r (?_))
  refine bp_ret HF (res_one rfl HF rfl) ?_
  have HT := HT.t0
  exact ⟨rfl, HT⟩
  have h := (if_neg hb28).symm.trans h
  refine wp_if (b' := false) HF rfl (decide_eq_false hb28) ?_
  refine wp_seq ?_
  refine wc_text ?_
  refine wc_bin HF nS rfl rfl b_eq rfl rfl (fun a HF => ?_)
  refine wc_assign HF nS rfl rfl rfl (fun a HF => ?_)
  refine wc_end ?_
  refine then_n ?_
  by_cases hb31 : x0_0 = 13
  have h := (if_pos hb31).symm.trans h
  refine wp_if (b' := true) HF rfl (decide_eq_true hb31) ?_
  refine wp_seq ?_
  refine wc_text ?_
  refine wc_faddr HF nS rfl fl25_1 rfl rfl (fun a HF => ?_)
  refine wc_load HF rfl sc3 ((HT.boxAt 0 rfl).get 1 rfl) rfl rfl (fun a HF => ?_)
  obtain ⟨y16, hx20, h⟩ := obs h
  refine wc_call HF cf73 rfl (w_spec_l4Reg fuel hx20) rfl rfl ?_
  rintro e w ⟨rfl, hE⟩
  have hb := hE.below
  have HT := HT.pure hE
  have HT : St w0 (fun _ => False) w [Box p1 [.int .i64 x0_0, .int .i64 x0_1, .int .i64 x0_2, .int .i64 x0_3]] := HT
  refine ⟨_, rfl, nS, fun a HF => ?_⟩
  refine wc_move HF nS rfl rfl rfl (fun a HF => ?_)
  by_cases hb32 : y16 = true
  have h := (if_pos hb32).symm.trans h
  refine wc_faddr HF nS rfl fl25_2 (HF.wy rfl rfl rfl rfl hb32) rfl (fun a HF => ?_)
  refine wc_load HF rfl sc3 ((HT.boxAt 0 rfl).get 2 rfl) (HF.wy rfl rfl rfl rfl hb32) rfl (fun a HF => ?_)
  obtain ⟨y17, hx21, h⟩ := obs h
  refine wc_call HF cf76 rfl (w_spec_l1In fuel hx21) (HF.wy rfl rfl rfl rfl hb32) rfl ?_
  rintro e w ⟨rfl, hE⟩
  have hb := hE.below
  have HT := HT.pure hE
  have HT : St w0 (fun _ => False) w [Box p1 [.int .i64 x0_0, .int .i64 x0_1, .int .i64 x0_2, .int .i64 x0_3]] := HT
  refine ⟨_, rfl, nS, fun a HF => ?_⟩
  refine wc_pick (b := true) HF nS rfl hb32 rfl rfl rfl (fun a HF => ?_)
  refine wc_move HF nS rfl rfl rfl (fun a HF => ?_)
  by_cases hb33 : y17 = true
  have h := (if_pos hb33).symm.trans h
  refine wc_faddr HF nS rfl fl25_3 (HF.wy rfl rfl rfl rfl hb33) rfl (fun a HF => ?_)
  refine wc_load HF rfl sc3 ((HT.boxAt 0 rfl).get 3 rfl) (HF.wy rfl rfl rfl rfl hb33) rfl (fun a HF => ?_)
  refine wc_bin HF nS rfl rfl b_eq (HF.wy rfl rfl rfl rfl hb33) rfl (fun a HF => ?_)
  refine wc_pick (b := true) HF nS rfl hb33 rfl rfl rfl (fun a HF => ?_)
  refine wc_assign HF nS rfl rfl rfl (fun a HF => ?_)
  refine wc_end ?_
  refine then_n ?_
  refine wp_ret ?_
  obtain rfl := Option.some.inj h
  have h := retL hk1
  obtain rfl := Option.some.inj h
  refine blk_r (then_r (?_))
  refine bp_ret HF (res_one rfl HF rfl) ?_
  have HT := HT.t0
  exact ⟨rfl, HT⟩
  have h := (if_neg hb33).symm.trans h
  refine wc_skip HF nS (HF.wn rfl rfl rfl rfl (Bool.eq_false_iff.2 hb33)) rfl (fun a HF => ?_)
  refine wc_skip HF nS (HF.wn rfl rfl rfl rfl (Bool.eq_false_iff.2 hb33)) rfl (fun a HF => ?_)
  refine wc_skip HF nS (HF.wn rfl rfl rfl rfl (Bool.eq_false_iff.2 hb33)) rfl (fun a HF => ?_)
  refine wc_pick (b := false) HF nS rfl (Bool.eq_false_iff.2 hb33) rfl rfl rfl (fun a HF => ?_)
  refine wc_assign HF nS rfl rfl rfl (fun a HF => ?_)
  refine wc_end ?_
  refine then_n ?_
  refine wp_ret ?_
  obtain rfl := Option.some.inj h
  have h := retL hk1
  obtain rfl := Option.some.inj h
  refine blk_r (then_r (?_))
  refine bp_ret HF (res_one rfl HF rfl) ?_
  have HT := HT.t0
  exact ⟨rfl, HT⟩
  have h := (if_neg hb32).symm.trans h
  refine wc_skip HF nS (HF.wn rfl rfl rfl rfl (Bool.eq_false_iff.2 hb32)) rfl (fun a HF => ?_)
  refine wc_skip HF nS (HF.wn rfl rfl rfl rfl (Bool.eq_false_iff.2 hb32)) rfl (fun a HF => ?_)
  refine wc_skip HF nS (HF.wn rfl rfl rfl rfl (Bool.eq_false_iff.2 hb32)) rfl (fun a HF => ?_)
  refine wc_pick (b := false) HF nS rfl (Bool.eq_false_iff.2 hb32) rfl rfl rfl (fun a HF => ?_)
  refine wc_move HF nS rfl rfl rfl (fun a HF => ?_)
  refine wc_skip HF nS (HF.wn rfl rfl rfl rfl rfl) rfl (fun a HF => ?_)
  refine wc_skip HF nS (HF.wn rfl rfl rfl rfl rfl) rfl (fun a HF => ?_)
  refine wc_skip HF nS (HF.wn rfl rfl rfl rfl rfl) rfl (fun a HF => ?_)
  refine wc_pick (b := false) HF nS rfl rfl rfl rfl rfl (fun a HF => ?_)
  refine wc_assign HF nS rfl rfl rfl (fun a HF => ?_)
  refine wc_end ?_
  refine then_n ?_
  refine wp_ret ?_
  obtain rfl := Option.some.inj h
  have h := retL hk1
  obtain rfl := Option.some.inj h
  refine blk_r (then_r (?_))
  refine bp_ret HF (res_one rfl HF rfl) ?_
  have HT := HT.t0
  exact ⟨rfl, HT⟩
  have h := (if_neg hb31).symm.trans h
  refine wp_if (b' := false) HF rfl (decide_eq_false hb31) ?_
  refine wp_seq ?_
  refine wc_text ?_
  refine wc_bin HF nS rfl rfl b_eq rfl rfl (fun a HF => ?_)
  refine wc_assign HF nS rfl rfl rfl (fun a HF => ?_)
  refine wc_end ?_
  refine then_n ?_
  by_cases hb34 : x0_0 = 14
  have h := (if_pos hb34).symm.trans h
  refine wp_if (b' := true) HF rfl (decide_eq_true hb34) ?_
  refine wp_seq ?_
  refine wc_text ?_
  refine wc_faddr HF nS rfl fl25_1 rfl rfl (fun a HF => ?_)
  refine wc_load HF rfl sc3 ((HT.boxAt 0 rfl).get 1 rfl) rfl rfl (fun a HF => ?_)
  obtain ⟨y18, hx22, h⟩ := obs h
  refine wc_call HF cf76 rfl (w_spec_l1In fuel hx22) rfl rfl ?_
  rintro e w ⟨rfl, hE⟩
  have hb := hE.below
  have HT := HT.pure hE
  have HT : St w0 (fun _ => False) w [Box p1 [.int .i64 x0_0, .int .i64 x0_1, .int .i64 x0_2, .int .i64 x0_3]] := HT
  refine ⟨_, rfl, nS, fun a HF => ?_⟩
  refine wc_move HF nS rfl rfl rfl (fun a HF => ?_)
  by_cases hb35 : y18 = true
  have h := (if_pos hb35).symm.trans h
  refine wc_faddr HF nS rfl fl25_2 (HF.wy rfl rfl rfl rfl hb35) rfl (fun a HF => ?_)
  refine wc_load HF rfl sc3 ((HT.boxAt 0 rfl).get 2 rfl) (HF.wy rfl rfl rfl rfl hb35) rfl (fun a HF => ?_)
  obtain ⟨y19, hx23, h⟩ := obs h
  refine wc_call HF cf73 rfl (w_spec_l4Reg fuel hx23) (HF.wy rfl rfl rfl rfl hb35) rfl ?_
  rintro e w ⟨rfl, hE⟩
  have hb := hE.below
  have HT := HT.pure hE
  have HT : St w0 (fun _ => False) w [Box p1 [.int .i64 x0_0, .int .i64 x0_1, .int .i64 x0_2, .int .i64 x0_3]] := HT
  refine ⟨_, rfl, nS, fun a HF => ?_⟩
  refine wc_pick (b := true) HF nS rfl hb35 rfl rfl rfl (fun a HF => ?_)
  refine wc_move HF nS rfl rfl rfl (fun a HF => ?_)
  by_cases hb36 : y19 = true
  have h := (if_pos hb36).symm.trans h
  refine wc_faddr HF nS rfl fl25_3 (HF.wy rfl rfl rfl rfl hb36) rfl (fun a HF => ?_)
  refine wc_load HF rfl sc3 ((HT.boxAt 0 rfl).get 3 rfl) (HF.wy rfl rfl rfl rfl hb36) rfl (fun a HF => ?_)
  refine wc_bin HF nS rfl rfl b_eq (HF.wy rfl rfl rfl rfl hb36) rfl (fun a HF => ?_)
  refine wc_pick (b := true) HF nS rfl hb36 rfl rfl rfl (fun a HF => ?_)
  refine wc_assign HF nS rfl rfl rfl (fun a HF => ?_)
  refine wc_end ?_
  refine then_n ?_
  refine wp_ret ?_
  obtain rfl := Option.some.inj h
  have h := retL hk1
  obtain rfl := Option.some.inj h
  refine blk_r (then_r (?_))
  refine bp_ret HF (res_one rfl HF rfl) ?_
  have HT := HT.t0
  exact ⟨rfl, HT⟩
  have h := (if_neg hb36).symm.trans h
  refine wc_skip HF nS (HF.wn rfl rfl rfl rfl (Bool.eq_false_iff.2 hb36)) rfl (fun a HF => ?_)
  refine wc_skip HF nS (HF.wn rfl rfl rfl rfl (Bool.eq_false_iff.2 hb36)) rfl (fun a HF => ?_)
  refine wc_skip HF nS (HF.wn rfl rfl rfl rfl (Bool.eq_false_iff.2 hb36)) rfl (fun a HF => ?_)
  refine wc_pick (b := false) HF nS rfl (Bool.eq_false_iff.2 hb36) rfl rfl rfl (fun a HF => ?_)
  refine wc_assign HF nS rfl rfl rfl (fun a HF => ?_)
  refine wc_end ?_
  refine then_n ?_
  refine wp_ret ?_
  obtain rfl := Option.some.inj h
  have h := retL hk1
  obtain rfl := Option.some.inj h
  refine blk_r (then_r (?_))
  refine bp_ret HF (res_one rfl HF rfl) ?_
  have HT := HT.t0
  exact ⟨rfl, HT⟩
  have h := (if_neg hb35).symm.trans h
  refine wc_skip HF nS (HF.wn rfl rfl rfl rfl (Bool.eq_false_iff.2 hb35)) rfl (fun a HF => ?_)
  refine wc_skip HF nS (HF.wn rfl rfl rfl rfl (Bool.eq_false_iff.2 hb35)) rfl (fun a HF => ?_)
  refine wc_skip HF nS (HF.wn rfl rfl rfl rfl (Bool.eq_false_iff.2 hb35)) rfl (fun a HF => ?_)
  refine wc_pick (b := false) HF nS rfl (Bool.eq_false_iff.2 hb35) rfl rfl rfl (fun a HF => ?_)
  refine wc_move HF nS rfl rfl rfl (fun a HF => ?_)
  refine wc_skip HF nS (HF.wn rfl rfl rfl rfl rfl) rfl (fun a HF => ?_)
  refine wc_skip HF nS (HF.wn rfl rfl rfl rfl rfl) rfl (fun a HF => ?_)
  refine wc_skip HF nS (HF.wn rfl rfl rfl rfl rfl) rfl (fun a HF => ?_)
  refine wc_pick (b := false) HF nS rfl rfl rfl rfl rfl (fun a HF => ?_)
  refine wc_assign HF nS rfl rfl rfl (fun a HF => ?_)
  refine wc_end ?_
  refine then_n ?_
  refine wp_ret ?_
  obtain rfl := Option.some.inj h
  have h := retL hk1
  obtain rfl := Option.some.inj h
  refine blk_r (then_r (?_))
  refine bp_ret HF (res_one rfl HF rfl) ?_
  have HT := HT.t0
  exact ⟨rfl, HT⟩
  have h := (if_neg hb34).symm.trans h
  refine wp_if (b' := false) HF rfl (decide_eq_false hb34) ?_
  refine wp_skip ?_
  refine blk_n ?_
  have HT := HT.t0
  exact then_n ⟨(Option.some.inj h).symm, HF.nil, HT⟩
  rintro a w ⟨rfl, HF, HT⟩
  have h := brkL1u h
  refine ?_
  refine wp_seq ?_
  refine wc_text ?_
  refine wc_assign HF nS rfl rfl rfl (fun a HF => ?_)
  refine wc_end ?_
  refine then_n ?_
  refine wp_ret ?_
  obtain rfl := Option.some.inj h
  refine bp_ret HF (res_one rfl HF rfl) ?_
  exact ⟨rfl, HT⟩

def m_spec_l6Args (fuel : Nat) (x0 : Int) : Option Int :=
  (
    (
      if x0 = 2 then
        some (decide (x0 = 2))
      else
      if x0 = 3 then
        some (decide (x0 = 3))
      else
      if x0 = 4 then
        some (decide (x0 = 4))
      else
      some (decide (x0 = 12))).bind fun z1 =>
    if z1 = true then
      some (.ret 3)
    else
    (
      if x0 = 8 then
        some (decide (x0 = 8))
      else
      if x0 = 15 then
        some (decide (x0 = 15))
      else
      some (decide (x0 = 16))).bind fun z2 =>
    if z2 = true then
      some (.ret 1)
    else
    (
      if x0 = 9 then
        some (decide (x0 = 9))
      else
      if x0 = 10 then
        some (decide (x0 = 10))
      else
      some (decide (x0 = 11))).bind fun z3 =>
    if z3 = true then
      some (.ret 0)
    else
    some (.brk ())).bind <| contL <| un1 fun _ =>
  some 2

set_option maxRecDepth 100000 in
set_option maxHeartbeats 4000000 in
theorem w_spec_l6Args (fuel : Nat) {x0 : Int} {r0 : Int} {w0 : World} (h : m_spec_l6Args fuel x0 = some r0) :
    Calls Try.prog 42 #[.int .i64 x0] w0 fun e w => e = .returned (.int .i64 r0) ∧ St w0 (fun _ => False) w [] := by
  have HT : St w0 (fun _ => False) w0 [] := St.init0
  rw [m_spec_l6Args] at h
  refine calls_fr (n := 17) [.int .i64 x0] Try.func42 rfl rfl rfl (fun a HF => ?_)
  have HT : St w0 (fun _ => False) w0 [] := HT
  refine wp_seq ?_
  refine wc_text ?_
  refine wc_assign HF nS rfl rfl rfl (fun a HF => ?_)
  refine wc_end ?_
  refine then_n ?_
  obtain ⟨q1, hx1, h⟩ := obs h
  refine wp_cut (fun a w => q1 = .brk () ∧ Fr a 17 [] ∧ St w0 (fun _ => False) w []) ?_ ?_
  have hk1 := h
  have h := hx1
  refine wp_seq ?_
  refine wc_text ?_
  refine wc_move HF nS rfl rfl rfl (fun a HF => ?_)
  refine wc_end ?_
  refine then_n ?_
  refine wp_block ?_
  obtain ⟨z1, hx2, h⟩ := obs h
  refine wp_cut (fun a w => Fr a 17 [(3, .int .i64 x0), (4, .bool z1)] ∧ St w0 (fun _ => False) w []) ?_ ?_
  have hk2 := h
  have h := hx2
  refine wp_seq ?_
  refine wc_text ?_
  refine wc_bin HF nS rfl rfl b_eq rfl rfl (fun a HF => ?_)
  refine wc_assign HF nS rfl rfl rfl (fun a HF => ?_)
  refine wc_end ?_
  refine then_n ?_
  by_cases hb1 : x0 = 2
  have h := (if_pos hb1).symm.trans h
  refine wp_if (b' := true) HF rfl (decide_eq_true hb1) ?_
  refine wp_skip ?_
  obtain rfl := Option.some.inj h
  exact then_n ⟨(HF.keep (HF.keep HF.nil rfl) rfl), HT⟩
  have h := (if_neg hb1).symm.trans h
  refine wp_if (b' := false) HF rfl (decide_eq_false hb1) ?_
  refine wp_seq ?_
  refine wc_text ?_
  refine wc_bin HF nS rfl rfl b_eq rfl rfl (fun a HF => ?_)
  refine wc_assign HF nS rfl rfl rfl (fun a HF => ?_)
  refine wc_end ?_
  refine then_n ?_
  by_cases hb2 : x0 = 3
  have h := (if_pos hb2).symm.trans h
  refine wp_if (b' := true) HF rfl (decide_eq_true hb2) ?_
  refine wp_skip ?_
  obtain rfl := Option.some.inj h
  exact then_n ⟨(HF.keep (HF.keep HF.nil rfl) rfl), HT⟩
  have h := (if_neg hb2).symm.trans h
  refine wp_if (b' := false) HF rfl (decide_eq_false hb2) ?_
  refine wp_seq ?_
  refine wc_text ?_
  refine wc_bin HF nS rfl rfl b_eq rfl rfl (fun a HF => ?_)
  refine wc_assign HF nS rfl rfl rfl (fun a HF => ?_)
  refine wc_end ?_
  refine then_n ?_
  by_cases hb3 : x0 = 4
  have h := (if_pos hb3).symm.trans h
  refine wp_if (b' := true) HF rfl (decide_eq_true hb3) ?_
  refine wp_skip ?_
  obtain rfl := Option.some.inj h
  exact then_n ⟨(HF.keep (HF.keep HF.nil rfl) rfl), HT⟩
  have h := (if_neg hb3).symm.trans h
  refine wp_if (b' := false) HF rfl (decide_eq_false hb3) ?_
  refine wc_text ?_
  refine wc_bin HF nS rfl rfl b_eq rfl rfl (fun a HF => ?_)
  refine wc_assign HF nS rfl rfl rfl (fun a HF => ?_)
  refine wc_end ?_
  obtain rfl := Option.some.inj h
  exact then_n ⟨(HF.keep (HF.keep HF.nil rfl) rfl), HT⟩
  rintro a w ⟨HF, HT⟩
  refine ?_
  by_cases hb4 : z1 = true
  have h := (if_pos hb4).symm.trans h
  refine wp_if (b' := true) HF rfl hb4 ?_
  refine wp_seq ?_
  refine wc_text ?_
  refine wc_assign HF nS rfl rfl rfl (fun a HF => ?_)
  refine wc_end ?_
  refine then_n ?_
  refine wp_ret ?_
  obtain rfl := Option.some.inj h
  have h := retL hk1
  obtain rfl := Option.some.inj h
  refine blk_r (then_r (?_))
  refine bp_ret HF (res_one rfl HF rfl) ?_
  exact ⟨rfl, HT⟩
  have h := (if_neg hb4).symm.trans h
  refine wp_if (b' := false) HF rfl (Bool.eq_false_iff.2 hb4) ?_
  obtain ⟨z2, hx3, h⟩ := obs h
  refine wp_cut (fun a w => Fr a 17 [(3, .int .i64 x0), (9, .bool z2)] ∧ St w0 (fun _ => False) w []) ?_ ?_
  have hk2 := h
  have h := hx3
  refine wp_seq ?_
  refine wc_text ?_
  refine wc_bin HF nS rfl rfl b_eq rfl rfl (fun a HF => ?_)
  refine wc_assign HF nS rfl rfl rfl (fun a HF => ?_)
  refine wc_end ?_
  refine then_n ?_
  by_cases hb5 : x0 = 8
  have h := (if_pos hb5).symm.trans h
  refine wp_if (b' := true) HF rfl (decide_eq_true hb5) ?_
  refine wp_skip ?_
  obtain rfl := Option.some.inj h
  exact then_n ⟨(HF.keep (HF.keep HF.nil rfl) rfl), HT⟩
  have h := (if_neg hb5).symm.trans h
  refine wp_if (b' := false) HF rfl (decide_eq_false hb5) ?_
  refine wp_seq ?_
  refine wc_text ?_
  refine wc_bin HF nS rfl rfl b_eq rfl rfl (fun a HF => ?_)
  refine wc_assign HF nS rfl rfl rfl (fun a HF => ?_)
  refine wc_end ?_
  refine then_n ?_
  by_cases hb6 : x0 = 15
  have h := (if_pos hb6).symm.trans h
  refine wp_if (b' := true) HF rfl (decide_eq_true hb6) ?_
  refine wp_skip ?_
  obtain rfl := Option.some.inj h
  exact then_n ⟨(HF.keep (HF.keep HF.nil rfl) rfl), HT⟩
  have h := (if_neg hb6).symm.trans h
  refine wp_if (b' := false) HF rfl (decide_eq_false hb6) ?_
  refine wc_text ?_
  refine wc_bin HF nS rfl rfl b_eq rfl rfl (fun a HF => ?_)
  refine wc_assign HF nS rfl rfl rfl (fun a HF => ?_)
  refine wc_end ?_
  obtain rfl := Option.some.inj h
  exact then_n ⟨(HF.keep (HF.keep HF.nil rfl) rfl), HT⟩
  rintro a w ⟨HF, HT⟩
  refine ?_
  by_cases hb7 : z2 = true
  have h := (if_pos hb7).symm.trans h
  refine wp_if (b' := true) HF rfl hb7 ?_
  refine wp_seq ?_
  refine wc_text ?_
  refine wc_assign HF nS rfl rfl rfl (fun a HF => ?_)
  refine wc_end ?_
  refine then_n ?_
  refine wp_ret ?_
  obtain rfl := Option.some.inj h
  have h := retL hk1
  obtain rfl := Option.some.inj h
  refine blk_r (then_r (?_))
  refine bp_ret HF (res_one rfl HF rfl) ?_
  exact ⟨rfl, HT⟩
  have h := (if_neg hb7).symm.trans h
  refine wp_if (b' := false) HF rfl (Bool.eq_false_iff.2 hb7) ?_
  obtain ⟨z3, hx4, h⟩ := obs h
  refine wp_cut (fun a w => Fr a 17 [(13, .bool z3)] ∧ St w0 (fun _ => False) w []) ?_ ?_
  have hk2 := h
  have h := hx4
  refine wp_seq ?_
  refine wc_text ?_
  refine wc_bin HF nS rfl rfl b_eq rfl rfl (fun a HF => ?_)
  refine wc_assign HF nS rfl rfl rfl (fun a HF => ?_)
  refine wc_end ?_
  refine then_n ?_
  by_cases hb8 : x0 = 9
  have h := (if_pos hb8).symm.trans h
  refine wp_if (b' := true) HF rfl (decide_eq_true hb8) ?_
  refine wp_skip ?_
  obtain rfl := Option.some.inj h
  exact then_n ⟨(HF.keep HF.nil rfl), HT⟩
  have h := (if_neg hb8).symm.trans h
  refine wp_if (b' := false) HF rfl (decide_eq_false hb8) ?_
  refine wp_seq ?_
  refine wc_text ?_
  refine wc_bin HF nS rfl rfl b_eq rfl rfl (fun a HF => ?_)
  refine wc_assign HF nS rfl rfl rfl (fun a HF => ?_)
  refine wc_end ?_
  refine then_n ?_
  by_cases hb9 : x0 = 10
  have h := (if_pos hb9).symm.trans h
  refine wp_if (b' := true) HF rfl (decide_eq_true hb9) ?_
  refine wp_skip ?_
  obtain rfl := Option.some.inj h
  exact then_n ⟨(HF.keep HF.nil rfl), HT⟩
  have h := (if_neg hb9).symm.trans h
  refine wp_if (b' := false) HF rfl (decide_eq_false hb9) ?_
  refine wc_text ?_
  refine wc_bin HF nS rfl rfl b_eq rfl rfl (fun a HF => ?_)
  refine wc_assign HF nS rfl rfl rfl (fun a HF => ?_)
  refine wc_end ?_
  obtain rfl := Option.some.inj h
  exact then_n ⟨(HF.keep HF.nil rfl), HT⟩
  rintro a w ⟨HF, HT⟩
  refine ?_
  by_cases hb10 : z3 = true
  have h := (if_pos hb10).symm.trans h
  refine wp_if (b' := true) HF rfl hb10 ?_
  refine wp_seq ?_
  refine wc_text ?_
  refine wc_assign HF nS rfl rfl rfl (fun a HF => ?_)
  refine wc_end ?_
  refine then_n ?_
  refine wp_ret ?_
  obtain rfl := Option.some.inj h
  have h := retL hk1
  obtain rfl := Option.some.inj h
  refine blk_r (then_r (?_))
  refine bp_ret HF (res_one rfl HF rfl) ?_
  exact ⟨rfl, HT⟩
  have h := (if_neg hb10).symm.trans h
  refine wp_if (b' := false) HF rfl (Bool.eq_false_iff.2 hb10) ?_
  refine wp_skip ?_
  refine blk_n ?_
  exact then_n ⟨(Option.some.inj h).symm, HF.nil, HT⟩
  rintro a w ⟨rfl, HF, HT⟩
  have h := brkL1u h
  refine ?_
  refine wp_seq ?_
  refine wc_text ?_
  refine wc_assign HF nS rfl rfl rfl (fun a HF => ?_)
  refine wc_end ?_
  refine then_n ?_
  refine wp_ret ?_
  obtain rfl := Option.some.inj h
  refine bp_ret HF (res_one rfl HF rfl) ?_
  exact ⟨rfl, HT⟩

def m_spec_l6Words (fuel : Nat) : Option (List SE) :=
  some ([(⟨[]⟩ : SE), (⟨[115, 101, 116]⟩ : SE), (⟨[97, 100, 100]⟩ : SE), (⟨[115, 117, 98]⟩ : SE), (⟨[108, 101, 115, 115]⟩ : SE), (⟨[114, 101, 97, 100]⟩ : SE), (⟨[119, 114, 105, 116, 101]⟩ : SE), (⟨[115, 107, 105, 112]⟩ : SE), (⟨[98, 101, 103, 105, 110]⟩ : SE), (⟨[101, 110, 100]⟩ : SE), (⟨[97, 98, 111, 114, 116]⟩ : SE), (⟨[102, 111, 114, 107]⟩ : SE), (⟨[112, 117, 116]⟩ : SE), (⟨[103, 101, 116]⟩ : SE), (⟨[100, 114, 111, 112]⟩ : SE), (⟨[98, 117, 109, 112]⟩ : SE), (⟨[99, 111, 117, 110, 116]⟩ : SE)] : List SE)

set_option maxRecDepth 100000 in
set_option maxHeartbeats 4000000 in
theorem w_spec_l6Words (fuel : Nat)  {r0 : List SE} {w0 : World} (h : m_spec_l6Words fuel  = some r0) :
    Calls Try.prog 41 #[] w0 fun e w => ∃ a_r0 n_r0 c_r0, e = .returned (.slice a_r0 n_r0 c_r0) ∧ St w0 (fun _ => False) w [Own 9 (rowT r0) (.slice a_r0 n_r0 c_r0)] := by
  have HT : St w0 (fun _ => False) w0 [] := St.init0
  rw [m_spec_l6Words] at h
  refine calls_fr (n := 2) [] Try.func41 rfl rfl rfl (fun a HF => ?_)
  have HT : St w0 (fun _ => False) w0 [] := HT
  refine wp_seq ?_
  refine wc_text ?_
  refine wc_assign HF nS rfl rfl rfl (fun a HF => ?_)
  refine wc_end ?_
  refine then_n ?_
  refine wp_seq ?_
  refine wc_text ?_
  refine wc_bslice (l := ([(⟨[]⟩ : SE), (⟨[115, 101, 116]⟩ : SE), (⟨[97, 100, 100]⟩ : SE), (⟨[115, 117, 98]⟩ : SE), (⟨[108, 101, 115, 115]⟩ : SE), (⟨[114, 101, 97, 100]⟩ : SE), (⟨[119, 114, 105, 116, 101]⟩ : SE), (⟨[115, 107, 105, 112]⟩ : SE), (⟨[98, 101, 103, 105, 110]⟩ : SE), (⟨[101, 110, 100]⟩ : SE), (⟨[97, 98, 111, 114, 116]⟩ : SE), (⟨[102, 111, 114, 107]⟩ : SE), (⟨[112, 117, 116]⟩ : SE), (⟨[103, 101, 116]⟩ : SE), (⟨[100, 114, 111, 112]⟩ : SE), (⟨[98, 117, 109, 112]⟩ : SE), (⟨[99, 111, 117, 110, 116]⟩ : SE)] : List SE)) (cs := [sv [], sv ([115, 101, 116]), sv ([97, 100, 100]), sv ([115, 117, 98]), sv ([108, 101, 115, 115]), sv ([114, 101, 97, 100]), sv ([119, 114, 105, 116, 101]), sv ([115, 107, 105, 112]), sv ([98, 101, 103, 105, 110]), sv ([101, 110, 100]), sv ([97, 98, 111, 114, 116]), sv ([102, 111, 114, 107]), sv ([112, 117, 116]), sv ([103, 101, 116]), sv ([100, 114, 111, 112]), sv ([98, 117, 109, 112]), sv ([99, 111, 117, 110, 116])]) (A := []) HF HT bs62_17 rfl rfl (gives_flat rfl) rfl (by decide) rfl rfl (fun p1 w HT hb  => ⟨nS, fun a HF => ?_⟩)
  refine wc_assign HF nS rfl rfl rfl (fun a HF => ?_)
  refine wc_end ?_
  refine then_n ?_
  refine wp_ret ?_
  obtain rfl := Option.some.inj h
  refine bp_ret HF (res_one rfl HF rfl) ?_
  exact ⟨(some ⟨p1, 0, none⟩), 17, 17, rfl, HT⟩
end Go.Proofs.Ytpbfppelmgjfpaa
