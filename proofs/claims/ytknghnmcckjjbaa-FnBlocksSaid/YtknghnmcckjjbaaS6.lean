/- Walks of functions, by program: spec.SerialAll, laws.FnExactSerialAll, laws.big, laws.sameInts, spec.l1Byte, spec.l1Below, spec.l1New, spec.l1Once, spec.l1PickInt, spec.l3Draw, spec.l3DrawVals, spec.l4DrawCell, spec.l4DrawKey, spec.l4DrawReg, spec.l4Plain. -/
import Derived.Test.YtknghnmcckjjbaaTy
import Derived.Test.YtknghnmcckjjbaaS5
namespace Go.Proofs.Ytknghnmcckjjbaa
open Go Go.RowKit
set_option linter.unusedVariables false
set_option linter.unusedSimpArgs false
def m_laws_big (fuel : Nat) (x0 : List UInt8) : Option Bool :=
  some (decide (1048576 < (x0.length : Int)))

set_option maxRecDepth 100000 in
set_option maxHeartbeats 4000000 in
theorem w_laws_big (fuel : Nat) {x0 : List UInt8} {a_x0 : Option Addr} {n_x0 c_x0 : Nat} {r0 : Bool} {w0 : World} (h : m_laws_big fuel x0 = some r0) (hr_x0 : RdT (fun b => ¬ False) w0 (rowT x0) (.slice a_x0 n_x0 c_x0)) :
    Calls Try.prog 51 #[.slice a_x0 n_x0 c_x0] w0 fun e w => e = .returned (.bool r0) ∧ St w0 (fun _ => False) w [] := by
  obtain rfl := hr_x0.neq
  have HT : St w0 (fun _ => False) w0 [] := St.init0
  rw [m_laws_big] at h
  refine calls_fr (n := 6) [.slice a_x0 x0.length c_x0] Try.func51 rfl rfl rfl (fun a HF => ?_)
  have HT : St w0 (fun _ => False) w0 [] := HT
  refine wp_seq ?_
  refine wc_text ?_
  refine wc_assign HF nS rfl rfl rfl (fun a HF => ?_)
  refine wc_end ?_
  refine then_n ?_
  refine wp_seq ?_
  refine wc_text ?_
  refine wc_move HF nS rfl rfl rfl (fun a HF => ?_)
  refine wc_lenR HF nS Try.underlying79 rfl rfl rfl (fun a HF => ?_)
  refine wc_bin HF nS rfl rfl b_gt rfl rfl (fun a HF => ?_)
  refine wc_assign HF nS rfl rfl rfl (fun a HF => ?_)
  refine wc_end ?_
  refine then_n ?_
  refine wp_ret ?_
  obtain rfl := Option.some.inj h
  refine bp_ret HF (res_one rfl HF rfl) ?_
  exact ⟨rfl, HT⟩

def m_laws_sameInts_L0 (fuel : Nat) (x0 : List Int) (x1 : List Int) : Nat → Int → Option (Lp Unit Bool)
  | 0, _ => none
  | k1 + 1, z1 =>
    if z1 < (x0.length : Int) then
      (at? x0 z1).bind fun e1 =>
      (at? x1 z1).bind fun e2 =>
      if e1 = e2 then
        if in64 (z1 + 1) then
          m_laws_sameInts_L0 fuel x0 x1 k1 (z1 + 1)
        else none
      else
      some (.ret false)
    else
    some (.brk ())

def m_laws_sameInts (fuel : Nat) (x0 : List Int) (x1 : List Int) : Option Bool :=
  if (x0.length : Int) = (x1.length : Int) then
    (m_laws_sameInts_L0 fuel x0 x1 fuel 0).bind <| contL <| un1 fun _ =>
    some true
  else
  some false

set_option maxRecDepth 100000 in
set_option maxHeartbeats 4000000 in
theorem w_laws_sameInts (fuel : Nat) {x0 : List Int} {x1 : List Int} {a_x0 : Option Addr} {n_x0 c_x0 : Nat} {a_x1 : Option Addr} {n_x1 c_x1 : Nat} {r0 : Bool} {w0 : World} (h : m_laws_sameInts fuel x0 x1 = some r0) (hr_x0 : RdT (fun b => ¬ False) w0 (rowT x0) (.slice a_x0 n_x0 c_x0)) (hr_x1 : RdT (fun b => ¬ False) w0 (rowT x1) (.slice a_x1 n_x1 c_x1)) :
    Calls Try.prog 54 #[.slice a_x0 n_x0 c_x0, .slice a_x1 n_x1 c_x1] w0 fun e w => e = .returned (.bool r0) ∧ St w0 (fun _ => False) w [] := by
  obtain rfl := hr_x0.neq
  obtain rfl := hr_x1.neq
  have HT : St w0 (fun _ => False) w0 [] := St.init0
  rw [m_laws_sameInts] at h
  refine calls_fr (n := 26) [.slice a_x0 x0.length c_x0, .slice a_x1 x1.length c_x1] Try.func54 rfl rfl rfl (fun a HF => ?_)
  have HT : St w0 (fun _ => False) w0 [] := HT
  refine wp_seq ?_
  refine wc_text ?_
  refine wc_assign HF nS rfl rfl rfl (fun a HF => ?_)
  refine wc_end ?_
  refine then_n ?_
  refine wp_seq ?_
  refine wp_seq ?_
  refine wc_text ?_
  refine wc_move HF nS rfl rfl rfl (fun a HF => ?_)
  refine wc_lenR HF nS Try.underlying22 rfl rfl rfl (fun a HF => ?_)
  refine wc_move HF nS rfl rfl rfl (fun a HF => ?_)
  refine wc_lenR HF nS Try.underlying22 rfl rfl rfl (fun a HF => ?_)
  refine wc_bin HF nS rfl rfl b_ne rfl rfl (fun a HF => ?_)
  refine wc_end ?_
  refine then_n ?_
  by_cases hb1 : (x0.length : Int) = (x1.length : Int)
  have h := (if_pos hb1).symm.trans h
  refine wp_if (b' := false) HF rfl (notT (decide_eq_true hb1)) ?_
  refine wp_skip ?_
  refine then_n ?_
  obtain ⟨q1, hx1, h⟩ := obs h
  refine wp_cut (fun a w => q1 = .brk () ∧ Fr a 26 [] ∧ St w0 (fun _ => False) w []) ?_ ?_
  have hk1 := h
  have h := hx1
  refine wp_seq ?_
  refine wc_text ?_
  refine wc_assign HF nS rfl rfl rfl (fun a HF => ?_)
  refine wc_end ?_
  refine then_n ?_
  refine wp_block ?_
  refine wp_loopN (fun k1 a w => ∃ z1, m_laws_sameInts_L0 fuel x0 x1 k1 z1 = some q1 ∧ Fr a 26 [(0, .slice a_x0 x0.length c_x0), (1, .slice a_x1 x1.length c_x1), (5, .int .i64 z1)] ∧ St w0 (fun _ => False) w []) fuel ⟨0, h, (HF.keep (HF.keep (HF.keep HF.nil rfl) rfl) rfl), HT⟩ ?_
  rintro k1 a w ⟨z1, h, HF, HT⟩
  rcases k1 with _ | k1
  cases h
  rw [m_laws_sameInts_L0] at h
  refine ?_
  refine wp_seq ?_
  refine wp_seq ?_
  refine wc_text ?_
  refine wc_move HF nS rfl rfl rfl (fun a HF => ?_)
  refine wc_move HF nS rfl rfl rfl (fun a HF => ?_)
  refine wc_lenR HF nS Try.underlying22 rfl rfl rfl (fun a HF => ?_)
  refine wc_bin HF nS rfl rfl b_lt rfl rfl (fun a HF => ?_)
  refine wc_end ?_
  refine then_n ?_
  by_cases hb2 : z1 < (x0.length : Int)
  have h := (if_pos hb2).symm.trans h
  refine wp_if (b' := true) HF rfl (decide_eq_true hb2) ?_
  refine wp_skip ?_
  refine then_n ?_
  refine wp_seq ?_
  refine wp_block ?_
  refine wp_seq ?_
  refine wp_region_can [(0, true), (1, true), (2, true), (3, true), (4, true), (5, true), (6, true), (7, true), (8, true)] (fun w' => True) (by kernel_rfl) (by kernel_rfl) ?_
  have HT := HT.drew
  refine wc_move HF nS rfl rfl rfl (fun a HF => ?_)
  refine wc_move HF nS rfl rfl rfl (fun a HF => ?_)
  obtain ⟨e1, hx2, h⟩ := obs h
  obtain ⟨b1, o1, ha1⟩ := (HT.ro hr_x0).any.addr hx2
  refine wc_ixaddr HF nS el22 rfl ha1 ((HT.ro hr_x0).any).neq rfl hx2 rfl rfl (fun a HF => ?_)
  have hc1 := (HT.ro hr_x0).any.flatAt ha1 hx2
  refine wc_load HF rfl sc3 (hc1.get 0 rfl) rfl rfl (fun a HF => ?_)
  refine wc_move HF nS rfl rfl rfl (fun a HF => ?_)
  refine wc_move HF nS rfl rfl rfl (fun a HF => ?_)
  obtain ⟨e2, hx3, h⟩ := obs h
  obtain ⟨b2, o2, ha2⟩ := (HT.ro hr_x1).any.addr hx3
  refine wc_ixaddr HF nS el22 rfl ha2 ((HT.ro hr_x1).any).neq rfl hx3 rfl rfl (fun a HF => ?_)
  have hc2 := (HT.ro hr_x1).any.flatAt ha2 hx3
  refine wc_load HF rfl sc3 (hc2.get 0 rfl) rfl rfl (fun a HF => ?_)
  refine wc_bin HF nS rfl rfl b_ne rfl rfl (fun a HF => ?_)
  refine wc_endN ?_
  refine then_n ?_
  by_cases hb3 : e1 = e2
  have h := (if_pos hb3).symm.trans h
  refine wp_if (b' := false) HF rfl (notT (decide_eq_true hb3)) ?_
  refine wp_skip ?_
  refine blk_n ?_
  refine then_n ?_
  refine wc_text ?_
  refine wc_move HF nS rfl rfl rfl (fun a HF => ?_)
  obtain ⟨hg1, h⟩ := grd h
  refine wc_bin HF nS rfl rfl (b_add hg1) rfl rfl (fun a HF => ?_)
  refine wc_assign HF nS rfl rfl rfl (fun a HF => ?_)
  refine wc_end ?_
  exact then_n ⟨k1, Nat.lt_succ_self k1, z1 + 1, h, (HF.keep (HF.keep (HF.keep HF.nil rfl) rfl) rfl), HT⟩
  have h := (if_neg hb3).symm.trans h
  refine wp_if (b' := true) HF rfl (notF (decide_eq_false hb3)) ?_
  refine wp_seq ?_
  refine wc_text ?_
  refine wc_assign HF nS rfl rfl rfl (fun a HF => ?_)
  refine wc_end ?_
  refine then_n ?_
  refine wp_ret ?_
  obtain rfl := Option.some.inj h
  have h := retL hk1
  obtain rfl := Option.some.inj h
  refine blk_r (then_r (then_r (blk_r (then_r (?_)))))
  refine bp_ret HF (res_one rfl HF rfl) ?_
  exact ⟨rfl, HT⟩
  have h := (if_neg hb2).symm.trans h
  refine wp_if (b' := false) HF rfl (decide_eq_false hb2) ?_
  refine wp_exit ?_
  refine then_x (then_x (?_))
  refine blk_x ?_
  exact then_n ⟨(Option.some.inj h).symm, HF.nil, HT⟩
  rintro a w ⟨rfl, HF, HT⟩
  have h := brkL1u h
  refine ?_
  refine wp_seq ?_
  refine wc_text ?_
  refine wc_assign HF nS rfl rfl rfl (fun a HF => ?_)
  refine wc_end ?_
  refine then_n ?_
  refine wp_ret ?_
  obtain rfl := Option.some.inj h
  refine bp_ret HF (res_one rfl HF rfl) ?_
  exact ⟨rfl, HT⟩
  have h := (if_neg hb1).symm.trans h
  refine wp_if (b' := true) HF rfl (notF (decide_eq_false hb1)) ?_
  refine wp_seq ?_
  refine wc_text ?_
  refine wc_assign HF nS rfl rfl rfl (fun a HF => ?_)
  refine wc_end ?_
  refine then_n ?_
  refine wp_ret ?_
  obtain rfl := Option.some.inj h
  refine then_r (?_)
  refine bp_ret HF (res_one rfl HF rfl) ?_
  exact ⟨rfl, HT⟩

def m_spec_l1Byte (fuel : Nat) (x0_0 : List UInt8) (x0_1 : Int) (x0_2 : Int) : Option (Int × Int × Int) :=
  bind3 (
    if x0_1 < (x0_0.length : Int) then
      (at? x0_0 x0_1).bind fun e1 =>
      some (bits .and .i64 (IntKind.i64.wrap ((bits .and .i64 (bits .xor .i64 ((IntKind.i64.wrap ((IntKind.i64.wrap (x0_2 * 6364136223846793005)) + 1442695040888963407)) / 2 ^ 33) ((IntKind.i64.wrap ((IntKind.i64.wrap (x0_2 * 6364136223846793005)) + 1442695040888963407)) / 2 ^ 45)) 255) + (e1.toNat : Int))) 255, IntKind.i64.wrap (x0_1 + 1), IntKind.i64.wrap ((IntKind.i64.wrap (x0_2 * 6364136223846793005)) + 1442695040888963407))
    else
    some (bits .and .i64 (bits .xor .i64 ((IntKind.i64.wrap ((IntKind.i64.wrap (x0_2 * 6364136223846793005)) + 1442695040888963407)) / 2 ^ 33) ((IntKind.i64.wrap ((IntKind.i64.wrap (x0_2 * 6364136223846793005)) + 1442695040888963407)) / 2 ^ 45)) 255, x0_1, IntKind.i64.wrap ((IntKind.i64.wrap (x0_2 * 6364136223846793005)) + 1442695040888963407))) fun z1 z2 z3 =>
  some (z1, z2, z3)

set_option maxRecDepth 100000 in
set_option maxHeartbeats 4000000 in
theorem w_spec_l1Byte (fuel : Nat) {x0_0 : List UInt8} {x0_1 : Int} {x0_2 : Int} {a_x0_0 : Option Addr} {n_x0_0 c_x0_0 : Nat} {p_0 : Nat} {r0 : Int} {x0_1' : Int} {x0_2' : Int} {F : Foot} {w0 : World} (h : m_spec_l1Byte fuel x0_0 x0_1 x0_2 = some (r0, x0_1', x0_2')) (hA : StF w0 F [Box p_0 [.slice a_x0_0 n_x0_0 c_x0_0, .int .i64 x0_1, .int .i64 x0_2]]) (hr_x0_0 : RdT (fun b => ¬ F b) w0 (rowT x0_0) (.slice a_x0_0 n_x0_0 c_x0_0)) :
    Calls Try.prog 116 #[.pointer (some ⟨p_0, 0, none⟩)] w0 fun e w => e = .returned (.int .i64 r0) ∧ St w0 F w [Box p_0 [.slice a_x0_0 n_x0_0 c_x0_0, .int .i64 x0_1', .int .i64 x0_2']] := by
  have HT0 := St.init hA
  obtain rfl := hr_x0_0.neq
  have HT : St w0 F w0 [Box p_0 [.slice a_x0_0 x0_0.length c_x0_0, .int .i64 x0_1, .int .i64 x0_2]] := St.init hA
  rw [m_spec_l1Byte] at h
  refine calls_fr (n := 58) [.pointer (some ⟨p_0, 0, none⟩)] Try.func116 rfl rfl rfl (fun a HF => ?_)
  have HT : St w0 F w0 [Box p_0 [.slice a_x0_0 x0_0.length c_x0_0, .int .i64 x0_1, .int .i64 x0_2]] := HT
  refine wp_seq ?_
  refine wc_text ?_
  refine wc_assign HF nS rfl rfl rfl (fun a HF => ?_)
  refine wc_end ?_
  refine then_n ?_
  refine wp_seq ?_
  refine wc_text ?_
  refine wc_move HF nS rfl rfl rfl (fun a HF => ?_)
  refine wc_move HF nS rfl rfl rfl (fun a HF => ?_)
  refine wc_nilCheck HF nS rfl rfl rfl (fun a HF => ?_)
  refine wc_faddr HF nS rfl fl142_2 rfl rfl (fun a HF => ?_)
  refine wc_load HF rfl sc3 ((HT.boxAt 0 rfl).get 2 rfl) rfl rfl (fun a HF => ?_)
  refine wc_bin HF nS rfl rfl b_mulw rfl rfl (fun a HF => ?_)
  refine wc_bin HF nS rfl rfl b_addw rfl rfl (fun a HF => ?_)
  refine wc_nilCheck HF nS rfl rfl rfl (fun a HF => ?_)
  refine wc_faddr HF nS rfl fl142_2 rfl rfl (fun a HF => ?_)
  refine wc_storeB (cs' := [.slice a_x0_0 x0_0.length c_x0_0, .int .i64 x0_1, .int .i64 (IntKind.i64.wrap ((IntKind.i64.wrap (x0_2 * 6364136223846793005)) + 1442695040888963407))]) HF HT rfl rfl (fun w => (sc3 w).2) rfl rfl rfl rfl rfl (fun w HT => ⟨nS, ?_⟩)
  refine wc_end ?_
  refine then_n ?_
  refine wp_seq ?_
  refine wp_region_can [(0, true), (1, true), (2, true), (3, true), (4, true), (5, true), (6, true), (7, true), (8, true), (9, true), (10, true), (11, true), (12, true)] (fun w' => True) (by kernel_rfl) (by kernel_rfl) ?_
  have HT := HT.drew
  refine wc_move HF nS rfl rfl rfl (fun a HF => ?_)
  refine wc_nilCheck HF nS rfl rfl rfl (fun a HF => ?_)
  refine wc_faddr HF nS rfl fl142_2 rfl rfl (fun a HF => ?_)
  refine wc_load HF rfl sc3 ((HT.boxAt 0 rfl).get 2 rfl) rfl rfl (fun a HF => ?_)
  refine wc_bin HF nS rfl rfl (b_shrk (k := 33) (by decide)) rfl rfl (fun a HF => ?_)
  refine wc_move HF nS rfl rfl rfl (fun a HF => ?_)
  refine wc_nilCheck HF nS rfl rfl rfl (fun a HF => ?_)
  refine wc_faddr HF nS rfl fl142_2 rfl rfl (fun a HF => ?_)
  refine wc_load HF rfl sc3 ((HT.boxAt 0 rfl).get 2 rfl) rfl rfl (fun a HF => ?_)
  refine wc_bin HF nS rfl rfl (b_shrk (k := 45) (by decide)) rfl rfl (fun a HF => ?_)
  refine wc_bin HF nS rfl rfl b_xor rfl rfl (fun a HF => ?_)
  refine wc_bin HF nS rfl rfl b_and rfl rfl (fun a HF => ?_)
  refine wc_assign HF nS rfl rfl rfl (fun a HF => ?_)
  refine wc_endN ?_
  refine then_n ?_
  obtain ⟨z1, z2, z3, hx1, h⟩ := obs3 h
  refine wp_cut (fun a w => Fr a 58 [(3, .int .i64 z1)] ∧ St w0 F w [Box p_0 [.slice a_x0_0 x0_0.length c_x0_0, .int .i64 z2, .int .i64 z3]]) ?_ ?_
  have hk1 := h
  have h := hx1
  refine wp_seq ?_
  refine wp_region_can [(0, true), (1, true), (2, true), (3, true), (4, true), (5, true), (6, true), (7, true), (8, true), (9, true)] (fun w' => True) (by kernel_rfl) (by kernel_rfl) ?_
  have HT := HT.drew
  refine wc_move HF nS rfl rfl rfl (fun a HF => ?_)
  refine wc_nilCheck HF nS rfl rfl rfl (fun a HF => ?_)
  refine wc_faddr HF nS rfl fl142_1 rfl rfl (fun a HF => ?_)
  refine wc_load HF rfl sc3 ((HT.boxAt 0 rfl).get 1 rfl) rfl rfl (fun a HF => ?_)
  refine wc_move HF nS rfl rfl rfl (fun a HF => ?_)
  refine wc_nilCheck HF nS rfl rfl rfl (fun a HF => ?_)
  refine wc_faddr HF nS rfl fl142_0 rfl rfl (fun a HF => ?_)
  refine wc_load HF rfl sc79 ((HT.boxAt 0 rfl).get 0 rfl) rfl rfl (fun a HF => ?_)
  refine wc_lenR HF nS Try.underlying79 rfl rfl rfl (fun a HF => ?_)
  refine wc_bin HF nS rfl rfl b_lt rfl rfl (fun a HF => ?_)
  refine wc_endN ?_
  refine then_n ?_
  by_cases hb1 : x0_1 < (x0_0.length : Int)
  have h := (if_pos hb1).symm.trans h
  refine wp_if (b' := true) HF rfl (decide_eq_true hb1) ?_
  refine wp_seq ?_
  refine wp_region_can [(0, true), (1, true), (2, true), (3, true), (4, true), (5, true), (6, true), (7, true), (8, true), (9, true), (10, true), (11, true), (12, true), (13, true), (14, true)] (fun w' => True) (by kernel_rfl) (by kernel_rfl) ?_
  have HT := HT.drew
  refine wc_move HF nS rfl rfl rfl (fun a HF => ?_)
  refine wc_move HF nS rfl rfl rfl (fun a HF => ?_)
  refine wc_nilCheck HF nS rfl rfl rfl (fun a HF => ?_)
  refine wc_faddr HF nS rfl fl142_0 rfl rfl (fun a HF => ?_)
  refine wc_load HF rfl sc79 ((HT.boxAt 0 rfl).get 0 rfl) rfl rfl (fun a HF => ?_)
  refine wc_move HF nS rfl rfl rfl (fun a HF => ?_)
  refine wc_nilCheck HF nS rfl rfl rfl (fun a HF => ?_)
  refine wc_faddr HF nS rfl fl142_1 rfl rfl (fun a HF => ?_)
  refine wc_load HF rfl sc3 ((HT.boxAt 0 rfl).get 1 rfl) rfl rfl (fun a HF => ?_)
  obtain ⟨e1, hx2, h⟩ := obs h
  obtain ⟨b1, o1, ha1⟩ := (HT.ro hr_x0_0).any.addr hx2
  refine wc_ixaddr HF nS el79 rfl ha1 ((HT.ro hr_x0_0).any).neq rfl hx2 rfl rfl (fun a HF => ?_)
  have hc1 := (HT.ro hr_x0_0).any.flatAt ha1 hx2
  refine wc_load HF rfl sc5 (hc1.get 0 rfl) rfl rfl (fun a HF => ?_)
  refine wc_cvu HF nS Try.underlying3 Try.underlying5 rfl rfl rfl (fun a HF => ?_)
  refine wc_bin HF nS rfl rfl b_addw rfl rfl (fun a HF => ?_)
  refine wc_bin HF nS rfl rfl b_and rfl rfl (fun a HF => ?_)
  refine wc_assign HF nS rfl rfl rfl (fun a HF => ?_)
  refine wc_endN ?_
  refine then_n ?_
  refine wc_text ?_
  refine wc_move HF nS rfl rfl rfl (fun a HF => ?_)
  refine wc_move HF nS rfl rfl rfl (fun a HF => ?_)
  refine wc_nilCheck HF nS rfl rfl rfl (fun a HF => ?_)
  refine wc_faddr HF nS rfl fl142_1 rfl rfl (fun a HF => ?_)
  refine wc_load HF rfl sc3 ((HT.boxAt 0 rfl).get 1 rfl) rfl rfl (fun a HF => ?_)
  refine wc_bin HF nS rfl rfl b_addw rfl rfl (fun a HF => ?_)
  refine wc_nilCheck HF nS rfl rfl rfl (fun a HF => ?_)
  refine wc_faddr HF nS rfl fl142_1 rfl rfl (fun a HF => ?_)
  refine wc_storeB (cs' := [.slice a_x0_0 x0_0.length c_x0_0, .int .i64 (IntKind.i64.wrap (x0_1 + 1)), .int .i64 (IntKind.i64.wrap ((IntKind.i64.wrap (x0_2 * 6364136223846793005)) + 1442695040888963407))]) HF HT rfl rfl (fun w => (sc3 w).2) rfl rfl rfl rfl rfl (fun w HT => ⟨nS, ?_⟩)
  refine wc_end ?_
  have hj1 := Option.some.inj h
  obtain ⟨hi1, hj2⟩ := Prod.mk.inj hj1
  subst hi1
  obtain ⟨hi2, hj3⟩ := Prod.mk.inj hj2
  subst hi2
  subst hj3
  exact then_n ⟨(HF.keep HF.nil rfl), HT⟩
  have h := (if_neg hb1).symm.trans h
  refine wp_if (b' := false) HF rfl (decide_eq_false hb1) ?_
  refine wp_skip ?_
  have hj4 := Option.some.inj h
  obtain ⟨hi4, hj5⟩ := Prod.mk.inj hj4
  subst hi4
  obtain ⟨hi5, hj6⟩ := Prod.mk.inj hj5
  subst hi5
  subst hj6
  exact then_n ⟨(HF.keep HF.nil rfl), HT⟩
  rintro a w ⟨HF, HT⟩
  refine ?_
  refine wp_seq ?_
  refine wc_text ?_
  refine wc_move HF nS rfl rfl rfl (fun a HF => ?_)
  refine wc_assign HF nS rfl rfl rfl (fun a HF => ?_)
  refine wc_end ?_
  refine then_n ?_
  refine wp_ret ?_
  have hj7 := Option.some.inj h
  obtain ⟨hi7, hj8⟩ := Prod.mk.inj hj7
  subst hi7
  obtain ⟨hi8, hj9⟩ := Prod.mk.inj hj8
  subst hi8
  subst hj9
  refine bp_ret HF (res_one rfl HF rfl) ?_
  exact ⟨rfl, HT⟩

def m_spec_l1Below (fuel : Nat) (x0_0 : List UInt8) (x0_1 : Int) (x0_2 : Int) (x1 : Int) : Option (Int × Int × Int) :=
  if x1 ≤ 0 then
    some (0, x0_1, x0_2)
  else
  if x1 ≤ 256 then
    bind3 (m_spec_l1Byte fuel x0_0 x0_1 x0_2) fun y1 y2 y3 =>
    if (x1 : Int) ≠ 0 then
      some (y1.tmod x1, y2, y3)
    else none
  else
  bind3 (m_spec_l1Byte fuel x0_0 x0_1 x0_2) fun y4 y5 y6 =>
  bind3 (m_spec_l1Byte fuel x0_0 y5 y6) fun y7 y8 y9 =>
  bind3 (m_spec_l1Byte fuel x0_0 y8 y9) fun y10 y11 y12 =>
  bind3 (m_spec_l1Byte fuel x0_0 y11 y12) fun y13 y14 y15 =>
  if in64 (y4 * 16777216) then
    if in64 (y7 * 65536) then
      if in64 ((y4 * 16777216) + (y7 * 65536)) then
        if in64 (y10 * 256) then
          if in64 (((y4 * 16777216) + (y7 * 65536)) + (y10 * 256)) then
            if in64 ((((y4 * 16777216) + (y7 * 65536)) + (y10 * 256)) + y13) then
              if (x1 : Int) ≠ 0 then
                some (((((y4 * 16777216) + (y7 * 65536)) + (y10 * 256)) + y13).tmod x1, y14, y15)
              else none
            else none
          else none
        else none
      else none
    else none
  else none

set_option maxRecDepth 100000 in
set_option maxHeartbeats 4000000 in
theorem w_spec_l1Below (fuel : Nat) {x0_0 : List UInt8} {x0_1 : Int} {x0_2 : Int} {x1 : Int} {a_x0_0 : Option Addr} {n_x0_0 c_x0_0 : Nat} {p_0 : Nat} {r0 : Int} {x0_1' : Int} {x0_2' : Int} {F : Foot} {w0 : World} (h : m_spec_l1Below fuel x0_0 x0_1 x0_2 x1 = some (r0, x0_1', x0_2')) (hA : StF w0 F [Box p_0 [.slice a_x0_0 n_x0_0 c_x0_0, .int .i64 x0_1, .int .i64 x0_2]]) (hr_x0_0 : RdT (fun b => ¬ F b) w0 (rowT x0_0) (.slice a_x0_0 n_x0_0 c_x0_0)) :
    Calls Try.prog 90 #[.pointer (some ⟨p_0, 0, none⟩), .int .i64 x1] w0 fun e w => e = .returned (.int .i64 r0) ∧ St w0 F w [Box p_0 [.slice a_x0_0 n_x0_0 c_x0_0, .int .i64 x0_1', .int .i64 x0_2']] := by
  have HT0 := St.init hA
  obtain rfl := hr_x0_0.neq
  have HT : St w0 F w0 [Box p_0 [.slice a_x0_0 x0_0.length c_x0_0, .int .i64 x0_1, .int .i64 x0_2]] := St.init hA
  rw [m_spec_l1Below] at h
  refine calls_fr (n := 37) [.pointer (some ⟨p_0, 0, none⟩), .int .i64 x1] Try.func90 rfl rfl rfl (fun a HF => ?_)
  have HT : St w0 F w0 [Box p_0 [.slice a_x0_0 x0_0.length c_x0_0, .int .i64 x0_1, .int .i64 x0_2]] := HT
  refine wp_seq ?_
  refine wc_text ?_
  refine wc_assign HF nS rfl rfl rfl (fun a HF => ?_)
  refine wc_end ?_
  refine then_n ?_
  refine wp_seq ?_
  refine wp_seq ?_
  refine wc_text ?_
  refine wc_move HF nS rfl rfl rfl (fun a HF => ?_)
  refine wc_bin HF nS rfl rfl b_le rfl rfl (fun a HF => ?_)
  refine wc_end ?_
  refine then_n ?_
  by_cases hb1 : x1 ≤ 0
  have h := (if_pos hb1).symm.trans h
  refine wp_if (b' := true) HF rfl (decide_eq_true hb1) ?_
  refine wp_seq ?_
  refine wc_text ?_
  refine wc_assign HF nS rfl rfl rfl (fun a HF => ?_)
  refine wc_end ?_
  refine then_n ?_
  refine wp_ret ?_
  have hj1 := Option.some.inj h
  obtain ⟨hi1, hj2⟩ := Prod.mk.inj hj1
  subst hi1
  obtain ⟨hi2, hj3⟩ := Prod.mk.inj hj2
  subst hi2
  subst hj3
  refine then_r (?_)
  refine bp_ret HF (res_one rfl HF rfl) ?_
  exact ⟨rfl, HT⟩
  have h := (if_neg hb1).symm.trans h
  refine wp_if (b' := false) HF rfl (decide_eq_false hb1) ?_
  refine wp_skip ?_
  refine then_n ?_
  refine wp_seq ?_
  refine wp_seq ?_
  refine wc_text ?_
  refine wc_move HF nS rfl rfl rfl (fun a HF => ?_)
  refine wc_bin HF nS rfl rfl b_le rfl rfl (fun a HF => ?_)
  refine wc_end ?_
  refine then_n ?_
  by_cases hb2 : x1 ≤ 256
  have h := (if_pos hb2).symm.trans h
  refine wp_if (b' := true) HF rfl (decide_eq_true hb2) ?_
  refine wp_seq ?_
  refine wc_text ?_
  refine wc_move HF nS rfl rfl rfl (fun a HF => ?_)
  obtain ⟨y1, y2, y3, hx1, h⟩ := obs3 h
  obtain ⟨F1, hAF1, hFF1, hbackF1, hroF1, hownF1, hownAF1⟩ := St.handR2 (A := [Box p_0 [.slice a_x0_0 x0_0.length c_x0_0, .int .i64 x0_1, .int .i64 x0_2]]) HT
  refine wc_call HF cf116 rfl (w_spec_l1Byte fuel hx1 hAF1 (hroF1 hr_x0_0)) rfl rfl ?_
  rintro e w ⟨rfl, hE⟩
  have HT := hbackF1 _ _ hE
  have HT : St w0 F w [Box p_0 [.slice a_x0_0 x0_0.length c_x0_0, .int .i64 y2, .int .i64 y3]] := HT
  refine ⟨_, rfl, nS, fun a HF => ?_⟩
  refine wc_move HF nS rfl rfl rfl (fun a HF => ?_)
  obtain ⟨hg1, h⟩ := grd h
  refine wc_bin HF nS rfl rfl (b_rem hg1) rfl rfl (fun a HF => ?_)
  refine wc_assign HF nS rfl rfl rfl (fun a HF => ?_)
  refine wc_end ?_
  refine then_n ?_
  refine wp_ret ?_
  have hj4 := Option.some.inj h
  obtain ⟨hi4, hj5⟩ := Prod.mk.inj hj4
  subst hi4
  obtain ⟨hi5, hj6⟩ := Prod.mk.inj hj5
  subst hi5
  subst hj6
  refine then_r (?_)
  refine bp_ret HF (res_one rfl HF rfl) ?_
  exact ⟨rfl, HT⟩
  have h := (if_neg hb2).symm.trans h
  refine wp_if (b' := false) HF rfl (decide_eq_false hb2) ?_
  refine wp_skip ?_
  refine then_n ?_
  refine wp_seq ?_
  refine wc_text ?_
  refine wc_move HF nS rfl rfl rfl (fun a HF => ?_)
  obtain ⟨y4, y5, y6, hx2, h⟩ := obs3 h
  obtain ⟨F2, hAF2, hFF2, hbackF2, hroF2, hownF2, hownAF2⟩ := St.handR2 (A := [Box p_0 [.slice a_x0_0 x0_0.length c_x0_0, .int .i64 x0_1, .int .i64 x0_2]]) HT
  refine wc_call HF cf116 rfl (w_spec_l1Byte fuel hx2 hAF2 (hroF2 hr_x0_0)) rfl rfl ?_
  rintro e w ⟨rfl, hE⟩
  have HT := hbackF2 _ _ hE
  have HT : St w0 F w [Box p_0 [.slice a_x0_0 x0_0.length c_x0_0, .int .i64 y5, .int .i64 y6]] := HT
  refine ⟨_, rfl, nS, fun a HF => ?_⟩
  refine wc_assign HF nS rfl rfl rfl (fun a HF => ?_)
  refine wc_end ?_
  refine then_n ?_
  refine wp_seq ?_
  refine wc_text ?_
  refine wc_move HF nS rfl rfl rfl (fun a HF => ?_)
  obtain ⟨y7, y8, y9, hx3, h⟩ := obs3 h
  obtain ⟨F3, hAF3, hFF3, hbackF3, hroF3, hownF3, hownAF3⟩ := St.handR2 (A := [Box p_0 [.slice a_x0_0 x0_0.length c_x0_0, .int .i64 y5, .int .i64 y6]]) HT
  refine wc_call HF cf116 rfl (w_spec_l1Byte fuel hx3 hAF3 (hroF3 hr_x0_0)) rfl rfl ?_
  rintro e w ⟨rfl, hE⟩
  have HT := hbackF3 _ _ hE
  have HT : St w0 F w [Box p_0 [.slice a_x0_0 x0_0.length c_x0_0, .int .i64 y8, .int .i64 y9]] := HT
  refine ⟨_, rfl, nS, fun a HF => ?_⟩
  refine wc_assign HF nS rfl rfl rfl (fun a HF => ?_)
  refine wc_end ?_
  refine then_n ?_
  refine wp_seq ?_
  refine wc_text ?_
  refine wc_move HF nS rfl rfl rfl (fun a HF => ?_)
  obtain ⟨y10, y11, y12, hx4, h⟩ := obs3 h
  obtain ⟨F4, hAF4, hFF4, hbackF4, hroF4, hownF4, hownAF4⟩ := St.handR2 (A := [Box p_0 [.slice a_x0_0 x0_0.length c_x0_0, .int .i64 y8, .int .i64 y9]]) HT
  refine wc_call HF cf116 rfl (w_spec_l1Byte fuel hx4 hAF4 (hroF4 hr_x0_0)) rfl rfl ?_
  rintro e w ⟨rfl, hE⟩
  have HT := hbackF4 _ _ hE
  have HT : St w0 F w [Box p_0 [.slice a_x0_0 x0_0.length c_x0_0, .int .i64 y11, .int .i64 y12]] := HT
  refine ⟨_, rfl, nS, fun a HF => ?_⟩
  refine wc_assign HF nS rfl rfl rfl (fun a HF => ?_)
  refine wc_end ?_
  refine then_n ?_
  refine wp_seq ?_
  refine wc_text ?_
  refine wc_move HF nS rfl rfl rfl (fun a HF => ?_)
  obtain ⟨y13, y14, y15, hx5, h⟩ := obs3 h
  obtain ⟨F5, hAF5, hFF5, hbackF5, hroF5, hownF5, hownAF5⟩ := St.handR2 (A := [Box p_0 [.slice a_x0_0 x0_0.length c_x0_0, .int .i64 y11, .int .i64 y12]]) HT
  refine wc_call HF cf116 rfl (w_spec_l1Byte fuel hx5 hAF5 (hroF5 hr_x0_0)) rfl rfl ?_
  rintro e w ⟨rfl, hE⟩
  have HT := hbackF5 _ _ hE
  have HT : St w0 F w [Box p_0 [.slice a_x0_0 x0_0.length c_x0_0, .int .i64 y14, .int .i64 y15]] := HT
  refine ⟨_, rfl, nS, fun a HF => ?_⟩
  refine wc_assign HF nS rfl rfl rfl (fun a HF => ?_)
  refine wc_end ?_
  refine then_n ?_
  refine wp_seq ?_
  refine wc_text ?_
  refine wc_move HF nS rfl rfl rfl (fun a HF => ?_)
  obtain ⟨hg2, h⟩ := grd h
  refine wc_bin HF nS rfl rfl (b_mul hg2) rfl rfl (fun a HF => ?_)
  refine wc_move HF nS rfl rfl rfl (fun a HF => ?_)
  obtain ⟨hg3, h⟩ := grd h
  refine wc_bin HF nS rfl rfl (b_mul hg3) rfl rfl (fun a HF => ?_)
  obtain ⟨hg4, h⟩ := grd h
  refine wc_bin HF nS rfl rfl (b_add hg4) rfl rfl (fun a HF => ?_)
  refine wc_move HF nS rfl rfl rfl (fun a HF => ?_)
  obtain ⟨hg5, h⟩ := grd h
  refine wc_bin HF nS rfl rfl (b_mul hg5) rfl rfl (fun a HF => ?_)
  obtain ⟨hg6, h⟩ := grd h
  refine wc_bin HF nS rfl rfl (b_add hg6) rfl rfl (fun a HF => ?_)
  refine wc_move HF nS rfl rfl rfl (fun a HF => ?_)
  obtain ⟨hg7, h⟩ := grd h
  refine wc_bin HF nS rfl rfl (b_add hg7) rfl rfl (fun a HF => ?_)
  refine wc_move HF nS rfl rfl rfl (fun a HF => ?_)
  obtain ⟨hg8, h⟩ := grd h
  refine wc_bin HF nS rfl rfl (b_rem hg8) rfl rfl (fun a HF => ?_)
  refine wc_assign HF nS rfl rfl rfl (fun a HF => ?_)
  refine wc_end ?_
  refine then_n ?_
  refine wp_ret ?_
  have hj7 := Option.some.inj h
  obtain ⟨hi7, hj8⟩ := Prod.mk.inj hj7
  subst hi7
  obtain ⟨hi8, hj9⟩ := Prod.mk.inj hj8
  subst hi8
  subst hj9
  refine bp_ret HF (res_one rfl HF rfl) ?_
  exact ⟨rfl, HT⟩

def m_spec_l1New_L0 (fuel : Nat) (x0 : List UInt8) : Nat → Int → Int → Option Int
  | 0, _, _ => none
  | k1 + 1, z2, z3 =>
    if z3 < (x0.length : Int) then
      if z3 < 4000 then
        if in64 (z2 * 131) then
          (at? x0 z3).bind fun e1 =>
          if in64 ((z2 * 131) + (e1.toNat : Int)) then
            if in64 (((z2 * 131) + (e1.toNat : Int)) + 7) then
              if in64 (z3 + 1) then
                m_spec_l1New_L0 fuel x0 k1 (bits .and .i64 (((z2 * 131) + (e1.toNat : Int)) + 7) 1073741823) (z3 + 1)
              else none
            else none
          else none
        else none
      else
      some z2
    else
    some z2

def m_spec_l1New (fuel : Nat) (x0 : List UInt8) : Option (Int × Int) :=
  if in64 (10101 + (x0.length : Int)) then
    (m_spec_l1New_L0 fuel x0 fuel (10101 + (x0.length : Int)) 0).bind fun z1 =>
    some (0, z1)
  else none

set_option maxRecDepth 100000 in
set_option maxHeartbeats 4000000 in
theorem w_spec_l1New (fuel : Nat) {x0 : List UInt8} {a_x0 : Option Addr} {n_x0 c_x0 : Nat} {r0_1 : Int} {r0_2 : Int} {w0 : World} (h : m_spec_l1New fuel x0 = some (r0_1, r0_2)) (hr_x0 : RdT (fun b => ¬ False) w0 (rowT x0) (.slice a_x0 n_x0 c_x0)) :
    Calls Try.prog 84 #[.slice a_x0 n_x0 c_x0] w0 fun e w => ∃ q_r0, e = .returned (.pointer (some ⟨q_r0, 0, none⟩)) ∧ St w0 (fun _ => False) w [Box q_r0 [.slice a_x0 n_x0 c_x0, .int .i64 r0_1, .int .i64 r0_2]] := by
  obtain rfl := hr_x0.neq
  have HT : St w0 (fun _ => False) w0 [] := St.init0
  rw [m_spec_l1New] at h
  refine calls_fr (n := 32) [.slice a_x0 x0.length c_x0] Try.func84 rfl rfl rfl (fun a HF => ?_)
  have HT : St w0 (fun _ => False) w0 [] := HT
  refine wp_seq ?_
  refine wc_text ?_
  refine wc_assign HF nS rfl rfl rfl (fun a HF => ?_)
  refine wc_end ?_
  refine then_n ?_
  refine wp_seq ?_
  refine wc_text ?_
  refine wc_move HF nS rfl rfl rfl (fun a HF => ?_)
  refine wc_lenR HF nS Try.underlying79 rfl rfl rfl (fun a HF => ?_)
  obtain ⟨hg1, h⟩ := grd h
  refine wc_bin HF nS rfl rfl (b_add hg1) rfl rfl (fun a HF => ?_)
  refine wc_assign HF nS rfl rfl rfl (fun a HF => ?_)
  refine wc_end ?_
  refine then_n ?_
  obtain ⟨z1, hx1, h⟩ := obs h
  refine wp_cut (fun a w => Fr a 32 [(0, .slice a_x0 x0.length c_x0), (3, .int .i64 z1)] ∧ St w0 (fun _ => False) w []) ?_ ?_
  have hk1 := h
  have h := hx1
  refine wp_seq ?_
  refine wc_text ?_
  refine wc_assign HF nS rfl rfl rfl (fun a HF => ?_)
  refine wc_end ?_
  refine then_n ?_
  refine wp_block ?_
  refine wp_loopN (fun k1 a w => ∃ z2 z3, m_spec_l1New_L0 fuel x0 k1 z2 z3 = some z1 ∧ Fr a 32 [(0, .slice a_x0 x0.length c_x0), (3, .int .i64 z2), (4, .int .i64 z3)] ∧ St w0 (fun _ => False) w []) fuel ⟨10101 + (x0.length : Int), 0, h, (HF.keep (HF.keep (HF.keep HF.nil rfl) rfl) rfl), HT⟩ ?_
  rintro k1 a w ⟨z2, z3, h, HF, HT⟩
  rcases k1 with _ | k1
  cases h
  rw [m_spec_l1New_L0] at h
  refine ?_
  refine wp_seq ?_
  refine wp_seq ?_
  refine wc_text ?_
  refine wc_move HF nS rfl rfl rfl (fun a HF => ?_)
  refine wc_move HF nS rfl rfl rfl (fun a HF => ?_)
  refine wc_lenR HF nS Try.underlying79 rfl rfl rfl (fun a HF => ?_)
  refine wc_bin HF nS rfl rfl b_lt rfl rfl (fun a HF => ?_)
  refine wc_move HF nS rfl rfl rfl (fun a HF => ?_)
  by_cases hb1 : z3 < (x0.length : Int)
  have h := (if_pos hb1).symm.trans h
  refine wc_move HF nS rfl (HF.wy rfl rfl rfl rfl (decide_eq_true hb1)) rfl (fun a HF => ?_)
  refine wc_bin HF nS rfl rfl b_lt (HF.wy rfl rfl rfl rfl (decide_eq_true hb1)) rfl (fun a HF => ?_)
  refine wc_pick (b := true) HF nS rfl (decide_eq_true hb1) rfl rfl rfl (fun a HF => ?_)
  refine wc_end ?_
  refine then_n ?_
  by_cases hb2 : z3 < 4000
  have h := (if_pos hb2).symm.trans h
  refine wp_if (b' := true) HF rfl (decide_eq_true hb2) ?_
  refine wp_skip ?_
  refine then_n ?_
  refine wp_seq ?_
  refine wp_block ?_
  refine wc_text ?_
  refine wc_move HF nS rfl rfl rfl (fun a HF => ?_)
  obtain ⟨hg2, h⟩ := grd h
  refine wc_bin HF nS rfl rfl (b_mul hg2) rfl rfl (fun a HF => ?_)
  refine wc_move HF nS rfl rfl rfl (fun a HF => ?_)
  refine wc_move HF nS rfl rfl rfl (fun a HF => ?_)
  obtain ⟨e1, hx2, h⟩ := obs h
  obtain ⟨b1, o1, ha1⟩ := (HT.ro hr_x0).any.addr hx2
  refine wc_ixaddr HF nS el79 rfl ha1 ((HT.ro hr_x0).any).neq rfl hx2 rfl rfl (fun a HF => ?_)
  have hc1 := (HT.ro hr_x0).any.flatAt ha1 hx2
  refine wc_load HF rfl sc5 (hc1.get 0 rfl) rfl rfl (fun a HF => ?_)
  refine wc_cvu HF nS Try.underlying3 Try.underlying5 rfl rfl rfl (fun a HF => ?_)
  obtain ⟨hg3, h⟩ := grd h
  refine wc_bin HF nS rfl rfl (b_add hg3) rfl rfl (fun a HF => ?_)
  obtain ⟨hg4, h⟩ := grd h
  refine wc_bin HF nS rfl rfl (b_add hg4) rfl rfl (fun a HF => ?_)
  refine wc_bin HF nS rfl rfl b_and rfl rfl (fun a HF => ?_)
  refine wc_assign HF nS rfl rfl rfl (fun a HF => ?_)
  refine wc_end ?_
  refine blk_n ?_
  refine then_n ?_
  refine wc_text ?_
  refine wc_move HF nS rfl rfl rfl (fun a HF => ?_)
  obtain ⟨hg5, h⟩ := grd h
  refine wc_bin HF nS rfl rfl (b_add hg5) rfl rfl (fun a HF => ?_)
  refine wc_assign HF nS rfl rfl rfl (fun a HF => ?_)
  refine wc_end ?_
  exact then_n ⟨k1, Nat.lt_succ_self k1, bits .and .i64 (((z2 * 131) + (e1.toNat : Int)) + 7) 1073741823, z3 + 1, h, (HF.keep (HF.keep (HF.keep HF.nil rfl) rfl) rfl), HT⟩
  have h := (if_neg hb2).symm.trans h
  refine wp_if (b' := false) HF rfl (decide_eq_false hb2) ?_
  refine wp_exit ?_
  refine then_x (then_x (?_))
  refine blk_x ?_
  obtain rfl := Option.some.inj h
  exact then_n ⟨(HF.keep (HF.keep HF.nil rfl) rfl), HT⟩
  have h := (if_neg hb1).symm.trans h
  refine wc_skip HF nS (HF.wn rfl rfl rfl rfl (decide_eq_false hb1)) rfl (fun a HF => ?_)
  refine wc_skip HF nS (HF.wn rfl rfl rfl rfl (decide_eq_false hb1)) rfl (fun a HF => ?_)
  refine wc_pick (b := false) HF nS rfl (decide_eq_false hb1) rfl rfl rfl (fun a HF => ?_)
  refine wc_end ?_
  refine then_n ?_
  refine wp_if (b' := false) HF rfl rfl ?_
  refine wp_exit ?_
  refine then_x (then_x (?_))
  refine blk_x ?_
  obtain rfl := Option.some.inj h
  exact then_n ⟨(HF.keep (HF.keep HF.nil rfl) rfl), HT⟩
  rintro a w ⟨HF, HT⟩
  refine ?_
  refine wp_seq ?_
  refine wc_text ?_
  refine wc_move HF nS rfl rfl rfl (fun a HF => ?_)
  refine wc_move HF nS rfl rfl rfl (fun a HF => ?_)
  refine wc_build (cs := #[.slice a_x0 x0.length c_x0, .int .i64 0, .int .i64 z1]) HF nS bd142 rfl rfl rfl rfl (fun a HF => ?_)
  refine wc_box (cs := [.slice a_x0 x0.length c_x0, .int .i64 0, .int .i64 z1]) HF HT rfl rfl rfl rfl (fun p1 w HT hb => ⟨nS, fun a HF => ?_⟩)
  refine wc_assign HF nS rfl rfl rfl (fun a HF => ?_)
  refine wc_end ?_
  refine then_n ?_
  refine wp_ret ?_
  have hj1 := Option.some.inj h
  obtain ⟨hi1, hj2⟩ := Prod.mk.inj hj1
  subst hi1
  subst hj2
  refine bp_ret HF (res_one rfl HF rfl) ?_
  exact ⟨p1, rfl, HT⟩

def m_spec_l1Once (fuel : Nat) (x0_0 : List UInt8) (x0_1 : Int) (x0_2 : Int) (x1 : Int) : Option (Bool × Int × Int) :=
  bind3 (m_spec_l1Below fuel x0_0 x0_1 x0_2 x1) fun y1 y2 y3 =>
  some (decide (y1 = 0), y2, y3)

set_option maxRecDepth 100000 in
set_option maxHeartbeats 4000000 in
theorem w_spec_l1Once (fuel : Nat) {x0_0 : List UInt8} {x0_1 : Int} {x0_2 : Int} {x1 : Int} {a_x0_0 : Option Addr} {n_x0_0 c_x0_0 : Nat} {p_0 : Nat} {r0 : Bool} {x0_1' : Int} {x0_2' : Int} {F : Foot} {w0 : World} (h : m_spec_l1Once fuel x0_0 x0_1 x0_2 x1 = some (r0, x0_1', x0_2')) (hA : StF w0 F [Box p_0 [.slice a_x0_0 n_x0_0 c_x0_0, .int .i64 x0_1, .int .i64 x0_2]]) (hr_x0_0 : RdT (fun b => ¬ F b) w0 (rowT x0_0) (.slice a_x0_0 n_x0_0 c_x0_0)) :
    Calls Try.prog 86 #[.pointer (some ⟨p_0, 0, none⟩), .int .i64 x1] w0 fun e w => e = .returned (.bool r0) ∧ St w0 F w [Box p_0 [.slice a_x0_0 n_x0_0 c_x0_0, .int .i64 x0_1', .int .i64 x0_2']] := by
  have HT0 := St.init hA
  obtain rfl := hr_x0_0.neq
  have HT : St w0 F w0 [Box p_0 [.slice a_x0_0 x0_0.length c_x0_0, .int .i64 x0_1, .int .i64 x0_2]] := St.init hA
  rw [m_spec_l1Once] at h
  refine calls_fr (n := 9) [.pointer (some ⟨p_0, 0, none⟩), .int .i64 x1] Try.func86 rfl rfl rfl (fun a HF => ?_)
  have HT : St w0 F w0 [Box p_0 [.slice a_x0_0 x0_0.length c_x0_0, .int .i64 x0_1, .int .i64 x0_2]] := HT
  refine wp_seq ?_
  refine wc_text ?_
  refine wc_assign HF nS rfl rfl rfl (fun a HF => ?_)
  refine wc_end ?_
  refine then_n ?_
  refine wp_seq ?_
  refine wc_text ?_
  refine wc_move HF nS rfl rfl rfl (fun a HF => ?_)
  refine wc_move HF nS rfl rfl rfl (fun a HF => ?_)
  obtain ⟨y1, y2, y3, hx1, h⟩ := obs3 h
  obtain ⟨F1, hAF1, hFF1, hbackF1, hroF1, hownF1, hownAF1⟩ := St.handR2 (A := [Box p_0 [.slice a_x0_0 x0_0.length c_x0_0, .int .i64 x0_1, .int .i64 x0_2]]) HT
  refine wc_call HF cf90 rfl (w_spec_l1Below fuel hx1 hAF1 (hroF1 hr_x0_0)) rfl rfl ?_
  rintro e w ⟨rfl, hE⟩
  have HT := hbackF1 _ _ hE
  have HT : St w0 F w [Box p_0 [.slice a_x0_0 x0_0.length c_x0_0, .int .i64 y2, .int .i64 y3]] := HT
  refine ⟨_, rfl, nS, fun a HF => ?_⟩
  refine wc_bin HF nS rfl rfl b_eq rfl rfl (fun a HF => ?_)
  refine wc_assign HF nS rfl rfl rfl (fun a HF => ?_)
  refine wc_end ?_
  refine then_n ?_
  refine wp_ret ?_
  have hj1 := Option.some.inj h
  obtain ⟨hi1, hj2⟩ := Prod.mk.inj hj1
  subst hi1
  obtain ⟨hi2, hj3⟩ := Prod.mk.inj hj2
  subst hi2
  subst hj3
  refine bp_ret HF (res_one rfl HF rfl) ?_
  exact ⟨rfl, HT⟩

def m_spec_l1PickInt (fuel : Nat) (x0_0 : List UInt8) (x0_1 : Int) (x0_2 : Int) (x1 : List Int) : Option (Int × Int × Int) :=
  bind3 (m_spec_l1Below fuel x0_0 x0_1 x0_2 (x1.length : Int)) fun y1 y2 y3 =>
  (at? x1 y1).bind fun e1 =>
  some (e1, y2, y3)

set_option maxRecDepth 100000 in
set_option maxHeartbeats 4000000 in
theorem w_spec_l1PickInt (fuel : Nat) {x0_0 : List UInt8} {x0_1 : Int} {x0_2 : Int} {x1 : List Int} {a_x0_0 : Option Addr} {n_x0_0 c_x0_0 : Nat} {a_x1 : Option Addr} {n_x1 c_x1 : Nat} {p_0 : Nat} {r0 : Int} {x0_1' : Int} {x0_2' : Int} {F : Foot} {w0 : World} (h : m_spec_l1PickInt fuel x0_0 x0_1 x0_2 x1 = some (r0, x0_1', x0_2')) (hA : StF w0 F [Box p_0 [.slice a_x0_0 n_x0_0 c_x0_0, .int .i64 x0_1, .int .i64 x0_2]]) (hr_x0_0 : RdT (fun b => ¬ F b) w0 (rowT x0_0) (.slice a_x0_0 n_x0_0 c_x0_0)) (hr_x1 : RdT (fun b => ¬ F b) w0 (rowT x1) (.slice a_x1 n_x1 c_x1)) :
    Calls Try.prog 115 #[.pointer (some ⟨p_0, 0, none⟩), .slice a_x1 n_x1 c_x1] w0 fun e w => e = .returned (.int .i64 r0) ∧ St w0 F w [Box p_0 [.slice a_x0_0 n_x0_0 c_x0_0, .int .i64 x0_1', .int .i64 x0_2']] := by
  have HT0 := St.init hA
  obtain rfl := hr_x0_0.neq
  obtain rfl := hr_x1.neq
  have HT : St w0 F w0 [Box p_0 [.slice a_x0_0 x0_0.length c_x0_0, .int .i64 x0_1, .int .i64 x0_2]] := St.init hA
  rw [m_spec_l1PickInt] at h
  refine calls_fr (n := 12) [.pointer (some ⟨p_0, 0, none⟩), .slice a_x1 x1.length c_x1] Try.func115 rfl rfl rfl (fun a HF => ?_)
  have HT : St w0 F w0 [Box p_0 [.slice a_x0_0 x0_0.length c_x0_0, .int .i64 x0_1, .int .i64 x0_2]] := HT
  refine wp_seq ?_
  refine wc_text ?_
  refine wc_assign HF nS rfl rfl rfl (fun a HF => ?_)
  refine wc_end ?_
  refine then_n ?_
  refine wp_seq ?_
  refine wc_text ?_
  refine wc_move HF nS rfl rfl rfl (fun a HF => ?_)
  refine wc_move HF nS rfl rfl rfl (fun a HF => ?_)
  refine wc_move HF nS rfl rfl rfl (fun a HF => ?_)
  refine wc_lenR HF nS Try.underlying22 rfl rfl rfl (fun a HF => ?_)
  obtain ⟨y1, y2, y3, hx1, h⟩ := obs3 h
  obtain ⟨F1, hAF1, hFF1, hbackF1, hroF1, hownF1, hownAF1⟩ := St.handR2 (A := [Box p_0 [.slice a_x0_0 x0_0.length c_x0_0, .int .i64 x0_1, .int .i64 x0_2]]) HT
  refine wc_call HF cf90 rfl (w_spec_l1Below fuel hx1 hAF1 (hroF1 hr_x0_0)) rfl rfl ?_
  rintro e w ⟨rfl, hE⟩
  have HT := hbackF1 _ _ hE
  have HT : St w0 F w [Box p_0 [.slice a_x0_0 x0_0.length c_x0_0, .int .i64 y2, .int .i64 y3]] := HT
  refine ⟨_, rfl, nS, fun a HF => ?_⟩
  obtain ⟨e1, hx2, h⟩ := obs h
  obtain ⟨b1, o1, ha1⟩ := (HT.ro hr_x1).any.addr hx2
  refine wc_ixaddr HF nS el22 rfl ha1 ((HT.ro hr_x1).any).neq rfl hx2 rfl rfl (fun a HF => ?_)
  have hc1 := (HT.ro hr_x1).any.flatAt ha1 hx2
  refine wc_load HF rfl sc3 (hc1.get 0 rfl) rfl rfl (fun a HF => ?_)
  refine wc_assign HF nS rfl rfl rfl (fun a HF => ?_)
  refine wc_end ?_
  refine then_n ?_
  refine wp_ret ?_
  have hj1 := Option.some.inj h
  obtain ⟨hi1, hj2⟩ := Prod.mk.inj hj1
  subst hi1
  obtain ⟨hi2, hj3⟩ := Prod.mk.inj hj2
  subst hi2
  subst hj3
  refine bp_ret HF (res_one rfl HF rfl) ?_
  exact ⟨rfl, HT⟩

def m_spec_l3Draw (fuel : Nat) (x0_0 : List UInt8) (x0_1 : Int) (x0_2 : Int) : Option (Int × Int × Int) :=
  bind3 (m_spec_l1Once fuel x0_0 x0_1 x0_2 6) fun y1 y2 y3 =>
  if y1 = true then
    bind3 (m_spec_l1PickInt fuel x0_0 y2 y3 ([0, 65535, 65534, 256] : List Int)) fun y4 y5 y6 =>
    some (y4, y5, y6)
  else
  bind3 (m_spec_l1Below fuel x0_0 y2 y3 9) fun y7 y8 y9 =>
  some (y7, y8, y9)

set_option maxRecDepth 100000 in
set_option maxHeartbeats 4000000 in
theorem w_spec_l3Draw (fuel : Nat) {x0_0 : List UInt8} {x0_1 : Int} {x0_2 : Int} {a_x0_0 : Option Addr} {n_x0_0 c_x0_0 : Nat} {p_0 : Nat} {r0 : Int} {x0_1' : Int} {x0_2' : Int} {F : Foot} {w0 : World} (h : m_spec_l3Draw fuel x0_0 x0_1 x0_2 = some (r0, x0_1', x0_2')) (hA : StF w0 F [Box p_0 [.slice a_x0_0 n_x0_0 c_x0_0, .int .i64 x0_1, .int .i64 x0_2]]) (hr_x0_0 : RdT (fun b => ¬ F b) w0 (rowT x0_0) (.slice a_x0_0 n_x0_0 c_x0_0)) :
    Calls Try.prog 88 #[.pointer (some ⟨p_0, 0, none⟩)] w0 fun e w => e = .returned (.int .i64 r0) ∧ St w0 F w [Box p_0 [.slice a_x0_0 n_x0_0 c_x0_0, .int .i64 x0_1', .int .i64 x0_2']] := by
  have HT0 := St.init hA
  obtain rfl := hr_x0_0.neq
  have HT : St w0 F w0 [Box p_0 [.slice a_x0_0 x0_0.length c_x0_0, .int .i64 x0_1, .int .i64 x0_2]] := St.init hA
  rw [m_spec_l3Draw] at h
  refine calls_fr (n := 10) [.pointer (some ⟨p_0, 0, none⟩)] Try.func88 rfl rfl rfl (fun a HF => ?_)
  have HT : St w0 F w0 [Box p_0 [.slice a_x0_0 x0_0.length c_x0_0, .int .i64 x0_1, .int .i64 x0_2]] := HT
  refine wp_seq ?_
  refine wc_text ?_
  refine wc_assign HF nS rfl rfl rfl (fun a HF => ?_)
  refine wc_end ?_
  refine then_n ?_
  refine wp_seq ?_
  refine wp_seq ?_
  refine wc_text ?_
  refine wc_move HF nS rfl rfl rfl (fun a HF => ?_)
  obtain ⟨y1, y2, y3, hx1, h⟩ := obs3 h
  obtain ⟨F1, hAF1, hFF1, hbackF1, hroF1, hownF1, hownAF1⟩ := St.handR2 (A := [Box p_0 [.slice a_x0_0 x0_0.length c_x0_0, .int .i64 x0_1, .int .i64 x0_2]]) HT
  refine wc_call HF cf86 rfl (w_spec_l1Once fuel hx1 hAF1 (hroF1 hr_x0_0)) rfl rfl ?_
  rintro e w ⟨rfl, hE⟩
  have HT := hbackF1 _ _ hE
  have HT : St w0 F w [Box p_0 [.slice a_x0_0 x0_0.length c_x0_0, .int .i64 y2, .int .i64 y3]] := HT
  refine ⟨_, rfl, nS, fun a HF => ?_⟩
  refine wc_end ?_
  refine then_n ?_
  by_cases hb1 : y1 = true
  have h := (if_pos hb1).symm.trans h
  refine wp_if (b' := true) HF rfl hb1 ?_
  refine wp_seq ?_
  refine wc_text ?_
  refine wc_move HF nS rfl rfl rfl (fun a HF => ?_)
  refine wc_bslice (l := ([0, 65535, 65534, 256] : List Int)) (cs := [.int .i64 0, .int .i64 65535, .int .i64 65534, .int .i64 256]) (A := []) HF HT bs22_4 rfl rfl (gives_flat rfl) rfl (by decide) rfl rfl (fun p1 w HT hb  => ⟨nS, fun a HF => ?_⟩)
  obtain ⟨y4, y5, y6, hx2, h⟩ := obs3 h
  have HT := HT.p1
  obtain ⟨F2, hAF2, hFF2, hbackF2, hroF2, hownF2, hownAF2⟩ := St.handR2 (A := [Box p_0 [.slice a_x0_0 x0_0.length c_x0_0, .int .i64 y2, .int .i64 y3]]) HT
  refine wc_call HF cf115 rfl (w_spec_l1PickInt fuel hx2 hAF2 (hroF2 hr_x0_0) (hownF2 _ _ _ (List.mem_of_getElem? (i := 0) rfl))) rfl rfl ?_
  rintro e w ⟨rfl, hE⟩
  have HT := hbackF2 _ _ hE
  have HT : St w0 F w [Box p_0 [.slice a_x0_0 x0_0.length c_x0_0, .int .i64 y5, .int .i64 y6], Own 3 (rowT ([0, 65535, 65534, 256] : List Int)) (.slice (some ⟨p1, 0, none⟩) 4 4)] := HT
  refine ⟨_, rfl, nS, fun a HF => ?_⟩
  refine wc_assign HF nS rfl rfl rfl (fun a HF => ?_)
  refine wc_end ?_
  refine then_n ?_
  refine wp_ret ?_
  have hj1 := Option.some.inj h
  obtain ⟨hi1, hj2⟩ := Prod.mk.inj hj1
  subst hi1
  obtain ⟨hi2, hj3⟩ := Prod.mk.inj hj2
  subst hi2
  subst hj3
  refine then_r (?_)
  refine bp_ret HF (res_one rfl HF rfl) ?_
  have HT := HT.t1
  exact ⟨rfl, HT⟩
  have h := (if_neg hb1).symm.trans h
  refine wp_if (b' := false) HF rfl (Bool.eq_false_iff.2 hb1) ?_
  refine wp_skip ?_
  refine then_n ?_
  refine wp_seq ?_
  refine wc_text ?_
  refine wc_move HF nS rfl rfl rfl (fun a HF => ?_)
  obtain ⟨y7, y8, y9, hx3, h⟩ := obs3 h
  obtain ⟨F3, hAF3, hFF3, hbackF3, hroF3, hownF3, hownAF3⟩ := St.handR2 (A := [Box p_0 [.slice a_x0_0 x0_0.length c_x0_0, .int .i64 y2, .int .i64 y3]]) HT
  refine wc_call HF cf90 rfl (w_spec_l1Below fuel hx3 hAF3 (hroF3 hr_x0_0)) rfl rfl ?_
  rintro e w ⟨rfl, hE⟩
  have HT := hbackF3 _ _ hE
  have HT : St w0 F w [Box p_0 [.slice a_x0_0 x0_0.length c_x0_0, .int .i64 y8, .int .i64 y9]] := HT
  refine ⟨_, rfl, nS, fun a HF => ?_⟩
  refine wc_assign HF nS rfl rfl rfl (fun a HF => ?_)
  refine wc_end ?_
  refine then_n ?_
  refine wp_ret ?_
  have hj4 := Option.some.inj h
  obtain ⟨hi4, hj5⟩ := Prod.mk.inj hj4
  subst hi4
  obtain ⟨hi5, hj6⟩ := Prod.mk.inj hj5
  subst hi5
  subst hj6
  refine bp_ret HF (res_one rfl HF rfl) ?_
  exact ⟨rfl, HT⟩

def m_spec_l3DrawVals_L0 (fuel : Nat) (x0_0 : List UInt8) : Nat → Int → Int → (List Int) → Int → Option (List Int × Int × Int)
  | 0, _, _, _, _ => none
  | k1 + 1, z4, z5, z6, z7 =>
    if z7 < 8 then
      bind3 (m_spec_l3Draw fuel x0_0 z4 z5) fun y1 y2 y3 =>
      if z6.length + 1 ≤ 17179869184 then
        if in64 (z7 + 1) then
          m_spec_l3DrawVals_L0 fuel x0_0 k1 y2 y3 (z6 ++ ([y1] : List Int)) (z7 + 1)
        else none
      else none
    else
    some (z6, z4, z5)

def m_spec_l3DrawVals (fuel : Nat) (x0_0 : List UInt8) (x0_1 : Int) (x0_2 : Int) : Option (List Int × Int × Int) :=
  bind3 (m_spec_l3DrawVals_L0 fuel x0_0 fuel x0_1 x0_2 ([] : List Int) 0) fun z1 z2 z3 =>
  some (z1, z2, z3)

set_option maxRecDepth 100000 in
set_option maxHeartbeats 4000000 in
theorem w_spec_l3DrawVals (fuel : Nat) {x0_0 : List UInt8} {x0_1 : Int} {x0_2 : Int} {a_x0_0 : Option Addr} {n_x0_0 c_x0_0 : Nat} {p_0 : Nat} {r0 : List Int} {x0_1' : Int} {x0_2' : Int} {F : Foot} {w0 : World} (h : m_spec_l3DrawVals fuel x0_0 x0_1 x0_2 = some (r0, x0_1', x0_2')) (hA : StF w0 F [Box p_0 [.slice a_x0_0 n_x0_0 c_x0_0, .int .i64 x0_1, .int .i64 x0_2]]) (hr_x0_0 : RdT (fun b => ¬ F b) w0 (rowT x0_0) (.slice a_x0_0 n_x0_0 c_x0_0)) :
    Calls Try.prog 89 #[.pointer (some ⟨p_0, 0, none⟩)] w0 fun e w => ∃ a_r0 n_r0 c_r0, e = .returned (.slice a_r0 n_r0 c_r0) ∧ St w0 F w [Own 3 (rowT r0) (.slice a_r0 n_r0 c_r0), Box p_0 [.slice a_x0_0 n_x0_0 c_x0_0, .int .i64 x0_1', .int .i64 x0_2']] := by
  have HT0 := St.init hA
  obtain rfl := hr_x0_0.neq
  have HT : St w0 F w0 [Box p_0 [.slice a_x0_0 x0_0.length c_x0_0, .int .i64 x0_1, .int .i64 x0_2]] := St.init hA
  rw [m_spec_l3DrawVals] at h
  refine calls_fr (n := 16) [.pointer (some ⟨p_0, 0, none⟩)] Try.func89 rfl rfl rfl (fun a HF => ?_)
  have HT : St w0 F w0 [Box p_0 [.slice a_x0_0 x0_0.length c_x0_0, .int .i64 x0_1, .int .i64 x0_2]] := HT
  refine wp_seq ?_
  refine wc_text ?_
  refine wc_assign HF nS rfl rfl rfl (fun a HF => ?_)
  refine wc_end ?_
  refine then_n ?_
  refine wp_seq ?_
  refine wc_text ?_
  refine wc_bslice (l := ([] : List Int)) (cs := []) (A := []) HF HT bs22_0 rfl rfl (gives_flat rfl) rfl (by decide) rfl rfl (fun p1 w HT hb  => ⟨nS, fun a HF => ?_⟩)
  refine wc_assign HF nS rfl rfl rfl (fun a HF => ?_)
  refine wc_end ?_
  refine then_n ?_
  obtain ⟨z1, z2, z3, hx1, h⟩ := obs3 h
  refine wp_cut (fun a w => ∃ a1 n1 c1, Fr a 16 [(3, .slice a1 n1 c1)] ∧ St w0 F w [Own 3 (rowT z1) (.slice a1 n1 c1), Box p_0 [.slice a_x0_0 x0_0.length c_x0_0, .int .i64 z2, .int .i64 z3]]) ?_ ?_
  have hk1 := h
  have h := hx1
  refine wp_seq ?_
  refine wc_text ?_
  refine wc_assign HF nS rfl rfl rfl (fun a HF => ?_)
  refine wc_end ?_
  refine then_n ?_
  refine wp_block ?_
  have HT := HT.p1
  refine wp_loopN (fun k1 a w => ∃ z4 z5 z6 z7 a2 n2 c2, m_spec_l3DrawVals_L0 fuel x0_0 k1 z4 z5 z6 z7 = some (z1, z2, z3) ∧ Fr a 16 [(0, .pointer (some ⟨p_0, 0, none⟩)), (3, .slice a2 n2 c2), (4, .int .i64 z7)] ∧ St w0 F w [Box p_0 [.slice a_x0_0 x0_0.length c_x0_0, .int .i64 z4, .int .i64 z5], Own 3 (rowT z6) (.slice a2 n2 c2)]) fuel ⟨x0_1, x0_2, ([] : List Int), 0, (some ⟨p1, 0, none⟩), 0, 0, h, (HF.keep (HF.keep (HF.keep HF.nil rfl) rfl) rfl), HT⟩ ?_
  rintro k1 a w ⟨z4, z5, z6, z7, a2, n2, c2, h, HF, HT⟩
  rcases k1 with _ | k1
  cases h
  rw [m_spec_l3DrawVals_L0] at h
  obtain rfl := (HT.rdAt 1 rfl).neq
  refine ?_
  refine wp_seq ?_
  refine wp_seq ?_
  refine wc_text ?_
  refine wc_move HF nS rfl rfl rfl (fun a HF => ?_)
  refine wc_bin HF nS rfl rfl b_lt rfl rfl (fun a HF => ?_)
  refine wc_end ?_
  refine then_n ?_
  by_cases hb1 : z7 < 8
  have h := (if_pos hb1).symm.trans h
  refine wp_if (b' := true) HF rfl (decide_eq_true hb1) ?_
  refine wp_skip ?_
  refine then_n ?_
  refine wp_seq ?_
  refine wp_block ?_
  refine wc_text ?_
  refine wc_move HF nS rfl rfl rfl (fun a HF => ?_)
  refine wc_move HF nS rfl rfl rfl (fun a HF => ?_)
  obtain ⟨y1, y2, y3, hx2, h⟩ := obs3 h
  obtain ⟨F1, hAF1, hFF1, hbackF1, hroF1, hownF1, hownAF1⟩ := St.handR2 (A := [Box p_0 [.slice a_x0_0 x0_0.length c_x0_0, .int .i64 z4, .int .i64 z5]]) HT
  refine wc_call HF cf88 rfl (w_spec_l3Draw fuel hx2 hAF1 (hroF1 hr_x0_0)) rfl rfl ?_
  rintro e w ⟨rfl, hE⟩
  have HT := hbackF1 _ _ hE
  have HT : St w0 F w [Box p_0 [.slice a_x0_0 x0_0.length c_x0_0, .int .i64 y2, .int .i64 y3], Own 3 (rowT z6) (.slice a2 z6.length c2)] := HT
  refine ⟨_, rfl, nS, fun a HF => ?_⟩
  refine wc_bslice (l := ([y1] : List Int)) (cs := [.int .i64 y1]) (A := []) HF HT bs22_1 rfl rfl (gives_flat rfl) rfl (by decide) rfl rfl (fun p2 w HT hb  => ⟨nS, fun a HF => ?_⟩)
  obtain ⟨hg1, h⟩ := grd h
  have HT := HT.p2
  refine wc_append HF HT el22 rfl rfl (Nat.zero_lt_succ _) hg1 rfl rfl rfl (fun a3 c3 w HT => ⟨nS, fun a HF => ?_⟩)
  refine wc_assign HF nS rfl rfl rfl (fun a HF => ?_)
  refine wc_end ?_
  refine blk_n ?_
  refine then_n ?_
  refine wc_text ?_
  refine wc_move HF nS rfl rfl rfl (fun a HF => ?_)
  obtain ⟨hg2, h⟩ := grd h
  refine wc_bin HF nS rfl rfl (b_add hg2) rfl rfl (fun a HF => ?_)
  refine wc_assign HF nS rfl rfl rfl (fun a HF => ?_)
  refine wc_end ?_
  have HT := HT.p1
  exact then_n ⟨k1, Nat.lt_succ_self k1, y2, y3, z6 ++ ([y1] : List Int), z7 + 1, a3, (z6 ++ ([y1] : List Int)).length, c3, h, (HF.keep (HF.keep (HF.keep HF.nil rfl) rfl) rfl), HT⟩
  have h := (if_neg hb1).symm.trans h
  refine wp_if (b' := false) HF rfl (decide_eq_false hb1) ?_
  refine wp_exit ?_
  refine then_x (then_x (?_))
  refine blk_x ?_
  have HT := HT.p1
  have hj1 := Option.some.inj h
  obtain ⟨hi1, hj2⟩ := Prod.mk.inj hj1
  subst hi1
  obtain ⟨hi2, hj3⟩ := Prod.mk.inj hj2
  subst hi2
  subst hj3
  exact then_n ⟨a2, z6.length, c2, (HF.keep HF.nil rfl), HT⟩
  rintro a w ⟨a1, n1, c1, HF, HT⟩
  obtain rfl := (HT.rdAt 0 rfl).neq
  refine ?_
  refine wp_seq ?_
  refine wc_text ?_
  refine wc_move HF nS rfl rfl rfl (fun a HF => ?_)
  refine wc_assign HF nS rfl rfl rfl (fun a HF => ?_)
  refine wc_end ?_
  refine then_n ?_
  refine wp_ret ?_
  have hj4 := Option.some.inj h
  obtain ⟨hi4, hj5⟩ := Prod.mk.inj hj4
  subst hi4
  obtain ⟨hi5, hj6⟩ := Prod.mk.inj hj5
  subst hi5
  subst hj6
  refine bp_ret HF (res_one rfl HF rfl) ?_
  exact ⟨a1, z1.length, c1, rfl, HT⟩

def m_spec_l4DrawCell (fuel : Nat) (x0_0 : List UInt8) (x0_1 : Int) (x0_2 : Int) : Option (Int × Int × Int) :=
  bind3 (m_spec_l1Once fuel x0_0 x0_1 x0_2 8) fun y1 y2 y3 =>
  if y1 = true then
    bind3 (m_spec_l1Below fuel x0_0 y2 y3 8) fun y4 y5 y6 =>
    some (y4, y5, y6)
  else
  bind3 (m_spec_l1Below fuel x0_0 y2 y3 3) fun y7 y8 y9 =>
  some (y7, y8, y9)

set_option maxRecDepth 100000 in
set_option maxHeartbeats 4000000 in
theorem w_spec_l4DrawCell (fuel : Nat) {x0_0 : List UInt8} {x0_1 : Int} {x0_2 : Int} {a_x0_0 : Option Addr} {n_x0_0 c_x0_0 : Nat} {p_0 : Nat} {r0 : Int} {x0_1' : Int} {x0_2' : Int} {F : Foot} {w0 : World} (h : m_spec_l4DrawCell fuel x0_0 x0_1 x0_2 = some (r0, x0_1', x0_2')) (hA : StF w0 F [Box p_0 [.slice a_x0_0 n_x0_0 c_x0_0, .int .i64 x0_1, .int .i64 x0_2]]) (hr_x0_0 : RdT (fun b => ¬ F b) w0 (rowT x0_0) (.slice a_x0_0 n_x0_0 c_x0_0)) :
    Calls Try.prog 128 #[.pointer (some ⟨p_0, 0, none⟩)] w0 fun e w => e = .returned (.int .i64 r0) ∧ St w0 F w [Box p_0 [.slice a_x0_0 n_x0_0 c_x0_0, .int .i64 x0_1', .int .i64 x0_2']] := by
  have HT0 := St.init hA
  obtain rfl := hr_x0_0.neq
  have HT : St w0 F w0 [Box p_0 [.slice a_x0_0 x0_0.length c_x0_0, .int .i64 x0_1, .int .i64 x0_2]] := St.init hA
  rw [m_spec_l4DrawCell] at h
  refine calls_fr (n := 9) [.pointer (some ⟨p_0, 0, none⟩)] Try.func128 rfl rfl rfl (fun a HF => ?_)
  have HT : St w0 F w0 [Box p_0 [.slice a_x0_0 x0_0.length c_x0_0, .int .i64 x0_1, .int .i64 x0_2]] := HT
  refine wp_seq ?_
  refine wc_text ?_
  refine wc_assign HF nS rfl rfl rfl (fun a HF => ?_)
  refine wc_end ?_
  refine then_n ?_
  refine wp_seq ?_
  refine wp_seq ?_
  refine wc_text ?_
  refine wc_move HF nS rfl rfl rfl (fun a HF => ?_)
  obtain ⟨y1, y2, y3, hx1, h⟩ := obs3 h
  obtain ⟨F1, hAF1, hFF1, hbackF1, hroF1, hownF1, hownAF1⟩ := St.handR2 (A := [Box p_0 [.slice a_x0_0 x0_0.length c_x0_0, .int .i64 x0_1, .int .i64 x0_2]]) HT
  refine wc_call HF cf86 rfl (w_spec_l1Once fuel hx1 hAF1 (hroF1 hr_x0_0)) rfl rfl ?_
  rintro e w ⟨rfl, hE⟩
  have HT := hbackF1 _ _ hE
  have HT : St w0 F w [Box p_0 [.slice a_x0_0 x0_0.length c_x0_0, .int .i64 y2, .int .i64 y3]] := HT
  refine ⟨_, rfl, nS, fun a HF => ?_⟩
  refine wc_end ?_
  refine then_n ?_
  by_cases hb1 : y1 = true
  have h := (if_pos hb1).symm.trans h
  refine wp_if (b' := true) HF rfl hb1 ?_
  refine wp_seq ?_
  refine wc_text ?_
  refine wc_move HF nS rfl rfl rfl (fun a HF => ?_)
  obtain ⟨y4, y5, y6, hx2, h⟩ := obs3 h
  obtain ⟨F2, hAF2, hFF2, hbackF2, hroF2, hownF2, hownAF2⟩ := St.handR2 (A := [Box p_0 [.slice a_x0_0 x0_0.length c_x0_0, .int .i64 y2, .int .i64 y3]]) HT
  refine wc_call HF cf90 rfl (w_spec_l1Below fuel hx2 hAF2 (hroF2 hr_x0_0)) rfl rfl ?_
  rintro e w ⟨rfl, hE⟩
  have HT := hbackF2 _ _ hE
  have HT : St w0 F w [Box p_0 [.slice a_x0_0 x0_0.length c_x0_0, .int .i64 y5, .int .i64 y6]] := HT
  refine ⟨_, rfl, nS, fun a HF => ?_⟩
  refine wc_assign HF nS rfl rfl rfl (fun a HF => ?_)
  refine wc_end ?_
  refine then_n ?_
  refine wp_ret ?_
  have hj1 := Option.some.inj h
  obtain ⟨hi1, hj2⟩ := Prod.mk.inj hj1
  subst hi1
  obtain ⟨hi2, hj3⟩ := Prod.mk.inj hj2
  subst hi2
  subst hj3
  refine then_r (?_)
  refine bp_ret HF (res_one rfl HF rfl) ?_
  exact ⟨rfl, HT⟩
  have h := (if_neg hb1).symm.trans h
  refine wp_if (b' := false) HF rfl (Bool.eq_false_iff.2 hb1) ?_
  refine wp_skip ?_
  refine then_n ?_
  refine wp_seq ?_
  refine wc_text ?_
  refine wc_move HF nS rfl rfl rfl (fun a HF => ?_)
  obtain ⟨y7, y8, y9, hx3, h⟩ := obs3 h
  obtain ⟨F3, hAF3, hFF3, hbackF3, hroF3, hownF3, hownAF3⟩ := St.handR2 (A := [Box p_0 [.slice a_x0_0 x0_0.length c_x0_0, .int .i64 y2, .int .i64 y3]]) HT
  refine wc_call HF cf90 rfl (w_spec_l1Below fuel hx3 hAF3 (hroF3 hr_x0_0)) rfl rfl ?_
  rintro e w ⟨rfl, hE⟩
  have HT := hbackF3 _ _ hE
  have HT : St w0 F w [Box p_0 [.slice a_x0_0 x0_0.length c_x0_0, .int .i64 y8, .int .i64 y9]] := HT
  refine ⟨_, rfl, nS, fun a HF => ?_⟩
  refine wc_assign HF nS rfl rfl rfl (fun a HF => ?_)
  refine wc_end ?_
  refine then_n ?_
  refine wp_ret ?_
  have hj4 := Option.some.inj h
  obtain ⟨hi4, hj5⟩ := Prod.mk.inj hj4
  subst hi4
  obtain ⟨hi5, hj6⟩ := Prod.mk.inj hj5
  subst hi5
  subst hj6
  refine bp_ret HF (res_one rfl HF rfl) ?_
  exact ⟨rfl, HT⟩

def m_spec_l4DrawKey (fuel : Nat) (x0_0 : List UInt8) (x0_1 : Int) (x0_2 : Int) : Option (Int × Int × Int) :=
  bind3 (m_spec_l1Once fuel x0_0 x0_1 x0_2 4) fun y1 y2 y3 =>
  if y1 = true then
    bind3 (m_spec_l1Below fuel x0_0 y2 y3 8) fun y4 y5 y6 =>
    some (y4, y5, y6)
  else
  bind3 (m_spec_l1PickInt fuel x0_0 y2 y3 ([0, 4, 1] : List Int)) fun y7 y8 y9 =>
  some (y7, y8, y9)

set_option maxRecDepth 100000 in
set_option maxHeartbeats 4000000 in
theorem w_spec_l4DrawKey (fuel : Nat) {x0_0 : List UInt8} {x0_1 : Int} {x0_2 : Int} {a_x0_0 : Option Addr} {n_x0_0 c_x0_0 : Nat} {p_0 : Nat} {r0 : Int} {x0_1' : Int} {x0_2' : Int} {F : Foot} {w0 : World} (h : m_spec_l4DrawKey fuel x0_0 x0_1 x0_2 = some (r0, x0_1', x0_2')) (hA : StF w0 F [Box p_0 [.slice a_x0_0 n_x0_0 c_x0_0, .int .i64 x0_1, .int .i64 x0_2]]) (hr_x0_0 : RdT (fun b => ¬ F b) w0 (rowT x0_0) (.slice a_x0_0 n_x0_0 c_x0_0)) :
    Calls Try.prog 129 #[.pointer (some ⟨p_0, 0, none⟩)] w0 fun e w => e = .returned (.int .i64 r0) ∧ St w0 F w [Box p_0 [.slice a_x0_0 n_x0_0 c_x0_0, .int .i64 x0_1', .int .i64 x0_2']] := by
  have HT0 := St.init hA
  obtain rfl := hr_x0_0.neq
  have HT : St w0 F w0 [Box p_0 [.slice a_x0_0 x0_0.length c_x0_0, .int .i64 x0_1, .int .i64 x0_2]] := St.init hA
  rw [m_spec_l4DrawKey] at h
  refine calls_fr (n := 10) [.pointer (some ⟨p_0, 0, none⟩)] Try.func129 rfl rfl rfl (fun a HF => ?_)
  have HT : St w0 F w0 [Box p_0 [.slice a_x0_0 x0_0.length c_x0_0, .int .i64 x0_1, .int .i64 x0_2]] := HT
  refine wp_seq ?_
  refine wc_text ?_
  refine wc_assign HF nS rfl rfl rfl (fun a HF => ?_)
  refine wc_end ?_
  refine then_n ?_
  refine wp_seq ?_
  refine wp_seq ?_
  refine wc_text ?_
  refine wc_move HF nS rfl rfl rfl (fun a HF => ?_)
  obtain ⟨y1, y2, y3, hx1, h⟩ := obs3 h
  obtain ⟨F1, hAF1, hFF1, hbackF1, hroF1, hownF1, hownAF1⟩ := St.handR2 (A := [Box p_0 [.slice a_x0_0 x0_0.length c_x0_0, .int .i64 x0_1, .int .i64 x0_2]]) HT
  refine wc_call HF cf86 rfl (w_spec_l1Once fuel hx1 hAF1 (hroF1 hr_x0_0)) rfl rfl ?_
  rintro e w ⟨rfl, hE⟩
  have HT := hbackF1 _ _ hE
  have HT : St w0 F w [Box p_0 [.slice a_x0_0 x0_0.length c_x0_0, .int .i64 y2, .int .i64 y3]] := HT
  refine ⟨_, rfl, nS, fun a HF => ?_⟩
  refine wc_end ?_
  refine then_n ?_
  by_cases hb1 : y1 = true
  have h := (if_pos hb1).symm.trans h
  refine wp_if (b' := true) HF rfl hb1 ?_
  refine wp_seq ?_
  refine wc_text ?_
  refine wc_move HF nS rfl rfl rfl (fun a HF => ?_)
  obtain ⟨y4, y5, y6, hx2, h⟩ := obs3 h
  obtain ⟨F2, hAF2, hFF2, hbackF2, hroF2, hownF2, hownAF2⟩ := St.handR2 (A := [Box p_0 [.slice a_x0_0 x0_0.length c_x0_0, .int .i64 y2, .int .i64 y3]]) HT
  refine wc_call HF cf90 rfl (w_spec_l1Below fuel hx2 hAF2 (hroF2 hr_x0_0)) rfl rfl ?_
  rintro e w ⟨rfl, hE⟩
  have HT := hbackF2 _ _ hE
  have HT : St w0 F w [Box p_0 [.slice a_x0_0 x0_0.length c_x0_0, .int .i64 y5, .int .i64 y6]] := HT
  refine ⟨_, rfl, nS, fun a HF => ?_⟩
  refine wc_assign HF nS rfl rfl rfl (fun a HF => ?_)
  refine wc_end ?_
  refine then_n ?_
  refine wp_ret ?_
  have hj1 := Option.some.inj h
  obtain ⟨hi1, hj2⟩ := Prod.mk.inj hj1
  subst hi1
  obtain ⟨hi2, hj3⟩ := Prod.mk.inj hj2
  subst hi2
  subst hj3
  refine then_r (?_)
  refine bp_ret HF (res_one rfl HF rfl) ?_
  exact ⟨rfl, HT⟩
  have h := (if_neg hb1).symm.trans h
  refine wp_if (b' := false) HF rfl (Bool.eq_false_iff.2 hb1) ?_
  refine wp_skip ?_
  refine then_n ?_
  refine wp_seq ?_
  refine wc_text ?_
  refine wc_move HF nS rfl rfl rfl (fun a HF => ?_)
  refine wc_bslice (l := ([0, 4, 1] : List Int)) (cs := [.int .i64 0, .int .i64 4, .int .i64 1]) (A := []) HF HT bs22_3 rfl rfl (gives_flat rfl) rfl (by decide) rfl rfl (fun p1 w HT hb  => ⟨nS, fun a HF => ?_⟩)
  obtain ⟨y7, y8, y9, hx3, h⟩ := obs3 h
  have HT := HT.p1
  obtain ⟨F3, hAF3, hFF3, hbackF3, hroF3, hownF3, hownAF3⟩ := St.handR2 (A := [Box p_0 [.slice a_x0_0 x0_0.length c_x0_0, .int .i64 y2, .int .i64 y3]]) HT
  refine wc_call HF cf115 rfl (w_spec_l1PickInt fuel hx3 hAF3 (hroF3 hr_x0_0) (hownF3 _ _ _ (List.mem_of_getElem? (i := 0) rfl))) rfl rfl ?_
  rintro e w ⟨rfl, hE⟩
  have HT := hbackF3 _ _ hE
  have HT : St w0 F w [Box p_0 [.slice a_x0_0 x0_0.length c_x0_0, .int .i64 y8, .int .i64 y9], Own 3 (rowT ([0, 4, 1] : List Int)) (.slice (some ⟨p1, 0, none⟩) 3 3)] := HT
  refine ⟨_, rfl, nS, fun a HF => ?_⟩
  refine wc_assign HF nS rfl rfl rfl (fun a HF => ?_)
  refine wc_end ?_
  refine then_n ?_
  refine wp_ret ?_
  have hj4 := Option.some.inj h
  obtain ⟨hi4, hj5⟩ := Prod.mk.inj hj4
  subst hi4
  obtain ⟨hi5, hj6⟩ := Prod.mk.inj hj5
  subst hi5
  subst hj6
  refine bp_ret HF (res_one rfl HF rfl) ?_
  have HT := HT.t1
  exact ⟨rfl, HT⟩

def m_spec_l4DrawReg (fuel : Nat) (x0_0 : List UInt8) (x0_1 : Int) (x0_2 : Int) : Option (Int × Int × Int) :=
  bind3 (m_spec_l1Below fuel x0_0 x0_1 x0_2 4) fun y1 y2 y3 =>
  some (y1, y2, y3)

set_option maxRecDepth 100000 in
set_option maxHeartbeats 4000000 in
theorem w_spec_l4DrawReg (fuel : Nat) {x0_0 : List UInt8} {x0_1 : Int} {x0_2 : Int} {a_x0_0 : Option Addr} {n_x0_0 c_x0_0 : Nat} {p_0 : Nat} {r0 : Int} {x0_1' : Int} {x0_2' : Int} {F : Foot} {w0 : World} (h : m_spec_l4DrawReg fuel x0_0 x0_1 x0_2 = some (r0, x0_1', x0_2')) (hA : StF w0 F [Box p_0 [.slice a_x0_0 n_x0_0 c_x0_0, .int .i64 x0_1, .int .i64 x0_2]]) (hr_x0_0 : RdT (fun b => ¬ F b) w0 (rowT x0_0) (.slice a_x0_0 n_x0_0 c_x0_0)) :
    Calls Try.prog 127 #[.pointer (some ⟨p_0, 0, none⟩)] w0 fun e w => e = .returned (.int .i64 r0) ∧ St w0 F w [Box p_0 [.slice a_x0_0 n_x0_0 c_x0_0, .int .i64 x0_1', .int .i64 x0_2']] := by
  have HT0 := St.init hA
  obtain rfl := hr_x0_0.neq
  have HT : St w0 F w0 [Box p_0 [.slice a_x0_0 x0_0.length c_x0_0, .int .i64 x0_1, .int .i64 x0_2]] := St.init hA
  rw [m_spec_l4DrawReg] at h
  refine calls_fr (n := 5) [.pointer (some ⟨p_0, 0, none⟩)] Try.func127 rfl rfl rfl (fun a HF => ?_)
  have HT : St w0 F w0 [Box p_0 [.slice a_x0_0 x0_0.length c_x0_0, .int .i64 x0_1, .int .i64 x0_2]] := HT
  refine wp_seq ?_
  refine wc_text ?_
  refine wc_assign HF nS rfl rfl rfl (fun a HF => ?_)
  refine wc_end ?_
  refine then_n ?_
  refine wp_seq ?_
  refine wc_text ?_
  refine wc_move HF nS rfl rfl rfl (fun a HF => ?_)
  obtain ⟨y1, y2, y3, hx1, h⟩ := obs3 h
  obtain ⟨F1, hAF1, hFF1, hbackF1, hroF1, hownF1, hownAF1⟩ := St.handR2 (A := [Box p_0 [.slice a_x0_0 x0_0.length c_x0_0, .int .i64 x0_1, .int .i64 x0_2]]) HT
  refine wc_call HF cf90 rfl (w_spec_l1Below fuel hx1 hAF1 (hroF1 hr_x0_0)) rfl rfl ?_
  rintro e w ⟨rfl, hE⟩
  have HT := hbackF1 _ _ hE
  have HT : St w0 F w [Box p_0 [.slice a_x0_0 x0_0.length c_x0_0, .int .i64 y2, .int .i64 y3]] := HT
  refine ⟨_, rfl, nS, fun a HF => ?_⟩
  refine wc_assign HF nS rfl rfl rfl (fun a HF => ?_)
  refine wc_end ?_
  refine then_n ?_
  refine wp_ret ?_
  have hj1 := Option.some.inj h
  obtain ⟨hi1, hj2⟩ := Prod.mk.inj hj1
  subst hi1
  obtain ⟨hi2, hj3⟩ := Prod.mk.inj hj2
  subst hi2
  subst hj3
  refine bp_ret HF (res_one rfl HF rfl) ?_
  exact ⟨rfl, HT⟩

def m_spec_l4Plain (fuel : Nat) (x0_0 : List UInt8) (x0_1 : Int) (x0_2 : Int) (x1 : Int) : Option (Int × Int × Int × Int × Int × Int) :=
  bind5 (
    if x1 = 1 then
      bind3 (m_spec_l4DrawReg fuel x0_0 x0_1 x0_2) fun y1 y2 y3 =>
      bind3 (m_spec_l3Draw fuel x0_0 y2 y3) fun y4 y5 y6 =>
      some (y1, y4, 0, y5, y6)
    else
    (
      if x1 = 2 then
        some (decide (x1 = 2))
      else
      if x1 = 3 then
        some (decide (x1 = 3))
      else
      some (decide (x1 = 4))).bind fun z6 =>
    if z6 = true then
      bind3 (m_spec_l4DrawReg fuel x0_0 x0_1 x0_2) fun y7 y8 y9 =>
      bind3 (m_spec_l4DrawReg fuel x0_0 y8 y9) fun y10 y11 y12 =>
      bind3 (m_spec_l4DrawReg fuel x0_0 y11 y12) fun y13 y14 y15 =>
      some (y7, y10, y13, y14, y15)
    else
    if x1 = 5 then
      bind3 (m_spec_l4DrawReg fuel x0_0 x0_1 x0_2) fun y16 y17 y18 =>
      bind3 (m_spec_l4DrawCell fuel x0_0 y17 y18) fun y19 y20 y21 =>
      some (y16, y19, 0, y20, y21)
    else
    if x1 = 6 then
      bind3 (m_spec_l4DrawCell fuel x0_0 x0_1 x0_2) fun y22 y23 y24 =>
      bind3 (m_spec_l4DrawReg fuel x0_0 y23 y24) fun y25 y26 y27 =>
      some (y22, y25, 0, y26, y27)
    else
    if x1 = 7 then
      bind3 (m_spec_l4DrawReg fuel x0_0 x0_1 x0_2) fun y28 y29 y30 =>
      bind3 (m_spec_l1Below fuel x0_0 y29 y30 3) fun y31 y32 y33 =>
      if in64 (1 + y31) then
        some (y28, 1 + y31, 0, y32, y33)
      else none
    else
    (
      if x1 = 8 then
        some (decide (x1 = 8))
      else
      if x1 = 15 then
        some (decide (x1 = 15))
      else
      some (decide (x1 = 16))).bind fun z7 =>
    if z7 = true then
      bind3 (m_spec_l4DrawReg fuel x0_0 x0_1 x0_2) fun y34 y35 y36 =>
      some (y34, 0, 0, y35, y36)
    else
    if x1 = 12 then
      bind3 (m_spec_l4DrawKey fuel x0_0 x0_1 x0_2) fun y37 y38 y39 =>
      bind3 (m_spec_l4DrawReg fuel x0_0 y38 y39) fun y40 y41 y42 =>
      bind3 (m_spec_l4DrawReg fuel x0_0 y41 y42) fun y43 y44 y45 =>
      some (y37, y40, y43, y44, y45)
    else
    if x1 = 13 then
      bind3 (m_spec_l4DrawReg fuel x0_0 x0_1 x0_2) fun y46 y47 y48 =>
      bind3 (m_spec_l4DrawKey fuel x0_0 y47 y48) fun y49 y50 y51 =>
      some (y46, y49, 0, y50, y51)
    else
    if x1 = 14 then
      bind3 (m_spec_l4DrawKey fuel x0_0 x0_1 x0_2) fun y52 y53 y54 =>
      bind3 (m_spec_l4DrawReg fuel x0_0 y53 y54) fun y55 y56 y57 =>
      some (y52, y55, 0, y56, y57)
    else
    some (0, 0, 0, x0_1, x0_2)) fun z1 z2 z3 z4 z5 =>
  some (x1, z1, z2, z3, z4, z5)

set_option maxRecDepth 100000 in
set_option maxHeartbeats 4000000 in
theorem w_spec_l4Plain (fuel : Nat) {x0_0 : List UInt8} {x0_1 : Int} {x0_2 : Int} {x1 : Int} {a_x0_0 : Option Addr} {n_x0_0 c_x0_0 : Nat} {p_0 : Nat} {r0_0 : Int} {r0_1 : Int} {r0_2 : Int} {r0_3 : Int} {x0_1' : Int} {x0_2' : Int} {F : Foot} {w0 : World} (h : m_spec_l4Plain fuel x0_0 x0_1 x0_2 x1 = some (r0_0, r0_1, r0_2, r0_3, x0_1', x0_2')) (hA : StF w0 F [Box p_0 [.slice a_x0_0 n_x0_0 c_x0_0, .int .i64 x0_1, .int .i64 x0_2]]) (hr_x0_0 : RdT (fun b => ¬ F b) w0 (rowT x0_0) (.slice a_x0_0 n_x0_0 c_x0_0)) :
    Calls Try.prog 113 #[.pointer (some ⟨p_0, 0, none⟩), .int .i64 x1] w0 fun e w => e = .returned (.agg #[.int .i64 r0_0, .int .i64 r0_1, .int .i64 r0_2, .int .i64 r0_3]) ∧ St w0 F w [Box p_0 [.slice a_x0_0 n_x0_0 c_x0_0, .int .i64 x0_1', .int .i64 x0_2']] := by
  have HT0 := St.init hA
  obtain rfl := hr_x0_0.neq
  have HT : St w0 F w0 [Box p_0 [.slice a_x0_0 x0_0.length c_x0_0, .int .i64 x0_1, .int .i64 x0_2]] := St.init hA
  rw [m_spec_l4Plain] at h
  refine calls_fr (n := 90) [.pointer (some ⟨p_0, 0, none⟩), .int .i64 x1] Try.func113 rfl rfl rfl (fun a HF => ?_)
  have HT : St w0 F w0 [Box p_0 [.slice a_x0_0 x0_0.length c_x0_0, .int .i64 x0_1, .int .i64 x0_2]] := HT
  refine wp_seq ?_
  refine wc_text ?_
  refine wc_alloc (cs := [.int .i64 0, .int .i64 0, .int .i64 0, .int .i64 0]) HF HT zr85 rfl rfl rfl (fun p1 w HT hb => ⟨nS, fun a HF => ?_⟩)
  refine wc_end ?_
  refine then_n ?_
  refine wp_seq ?_
  refine wc_text ?_
  refine wc_move HF nS rfl rfl rfl (fun a HF => ?_)
  refine wc_build (cs := #[.int .i64 x1, .int .i64 0, .int .i64 0, .int .i64 0]) HF nS bd85 rfl rfl rfl rfl (fun a HF => ?_)
  refine wc_alloc (cs := [.int .i64 0, .int .i64 0, .int .i64 0, .int .i64 0]) HF HT zr85 rfl rfl rfl (fun p2 w HT hb => ⟨nS, fun a HF => ?_⟩)
  refine wc_storeB (cs' := [.int .i64 x1, .int .i64 0, .int .i64 0, .int .i64 0]) HF HT rfl rfl (fun w => (ag85 w).2) rfl rfl rfl rfl rfl (fun w HT => ⟨nS, ?_⟩)
  refine wc_end ?_
  refine then_n ?_
  obtain ⟨z1, z2, z3, z4, z5, hx1, h⟩ := obs5 h
  refine wp_cut (fun a w => Fr a 90 [(4, .pointer (some ⟨p1, 0, none⟩)), (5, .pointer (some ⟨p2, 0, none⟩))] ∧ St w0 F w [Box p1 [.int .i64 0, .int .i64 0, .int .i64 0, .int .i64 0], Box p2 [.int .i64 x1, .int .i64 z1, .int .i64 z2, .int .i64 z3], Box p_0 [.slice a_x0_0 x0_0.length c_x0_0, .int .i64 z4, .int .i64 z5]]) ?_ ?_
  have hk1 := h
  have h := hx1
  refine wp_seq ?_
  refine wc_text ?_
  refine wc_move HF nS rfl rfl rfl (fun a HF => ?_)
  refine wc_end ?_
  refine then_n ?_
  refine wp_block ?_
  refine wp_seq ?_
  refine wc_text ?_
  refine wc_bin HF nS rfl rfl b_eq rfl rfl (fun a HF => ?_)
  refine wc_assign HF nS rfl rfl rfl (fun a HF => ?_)
  refine wc_end ?_
  refine then_n ?_
  by_cases hb1 : x1 = 1
  have h := (if_pos hb1).symm.trans h
  refine wp_if (b' := true) HF rfl (decide_eq_true hb1) ?_
  refine wp_seq ?_
  refine wc_text ?_
  refine wc_move HF nS rfl rfl rfl (fun a HF => ?_)
  obtain ⟨y1, y2, y3, hx2, h⟩ := obs3 h
  have HT := HT.p2
  obtain ⟨F1, hAF1, hFF1, hbackF1, hroF1, hownF1, hownAF1⟩ := St.handR2 (A := [Box p_0 [.slice a_x0_0 x0_0.length c_x0_0, .int .i64 x0_1, .int .i64 x0_2]]) HT
  refine wc_call HF cf127 rfl (w_spec_l4DrawReg fuel hx2 hAF1 (hroF1 hr_x0_0)) rfl rfl ?_
  rintro e w ⟨rfl, hE⟩
  have HT := hbackF1 _ _ hE
  have HT : St w0 F w [Box p_0 [.slice a_x0_0 x0_0.length c_x0_0, .int .i64 y2, .int .i64 y3], Box p2 [.int .i64 x1, .int .i64 0, .int .i64 0, .int .i64 0], Box p1 [.int .i64 0, .int .i64 0, .int .i64 0, .int .i64 0]] := HT
  refine ⟨_, rfl, nS, fun a HF => ?_⟩
  refine wc_faddr HF nS rfl fl85_1 rfl rfl (fun a HF => ?_)
  have HT := HT.p1
  refine wc_storeB (cs' := [.int .i64 x1, .int .i64 y1, .int .i64 0, .int .i64 0]) HF HT rfl rfl (fun w => (sc3 w).2) rfl rfl rfl rfl rfl (fun w HT => ⟨nS, ?_⟩)
  refine wc_end ?_
  refine then_n ?_
  refine wc_text ?_
  refine wc_move HF nS rfl rfl rfl (fun a HF => ?_)
  obtain ⟨y4, y5, y6, hx3, h⟩ := obs3 h
  have HT := HT.p1
  obtain ⟨F2, hAF2, hFF2, hbackF2, hroF2, hownF2, hownAF2⟩ := St.handR2 (A := [Box p_0 [.slice a_x0_0 x0_0.length c_x0_0, .int .i64 y2, .int .i64 y3]]) HT
  refine wc_call HF cf88 rfl (w_spec_l3Draw fuel hx3 hAF2 (hroF2 hr_x0_0)) rfl rfl ?_
  rintro e w ⟨rfl, hE⟩
  have HT := hbackF2 _ _ hE
  have HT : St w0 F w [Box p_0 [.slice a_x0_0 x0_0.length c_x0_0, .int .i64 y5, .int .i64 y6], Box p2 [.int .i64 x1, .int .i64 y1, .int .i64 0, .int .i64 0], Box p1 [.int .i64 0, .int .i64 0, .int .i64 0, .int .i64 0]] := HT
  refine ⟨_, rfl, nS, fun a HF => ?_⟩
  refine wc_faddr HF nS rfl fl85_2 rfl rfl (fun a HF => ?_)
  have HT := HT.p1
  refine wc_storeB (cs' := [.int .i64 x1, .int .i64 y1, .int .i64 y4, .int .i64 0]) HF HT rfl rfl (fun w => (sc3 w).2) rfl rfl rfl rfl rfl (fun w HT => ⟨nS, ?_⟩)
  refine wc_end ?_
  refine blk_n ?_
  have HT := HT.p1.p1.p2
  have hj1 := Option.some.inj h
  obtain ⟨hi1, hj2⟩ := Prod.mk.inj hj1
  subst hi1
  obtain ⟨hi2, hj3⟩ := Prod.mk.inj hj2
  subst hi2
  obtain ⟨hi3, hj4⟩ := Prod.mk.inj hj3
  subst hi3
  obtain ⟨hi4, hj5⟩ := Prod.mk.inj hj4
  subst hi4
  subst hj5
  exact then_n ⟨(HF.keep (HF.keep HF.nil rfl) rfl), HT⟩
  have h := (if_neg hb1).symm.trans h
  refine wp_if (b' := false) HF rfl (decide_eq_false hb1) ?_
  obtain ⟨z6, hx4, h⟩ := obs h
  refine wp_cut (fun a w => Fr a 90 [(0, .pointer (some ⟨p_0, 0, none⟩)), (4, .pointer (some ⟨p1, 0, none⟩)), (5, .pointer (some ⟨p2, 0, none⟩)), (8, .int .i64 x1), (17, .bool z6)] ∧ St w0 F w [Box p_0 [.slice a_x0_0 x0_0.length c_x0_0, .int .i64 x0_1, .int .i64 x0_2], Box p1 [.int .i64 0, .int .i64 0, .int .i64 0, .int .i64 0], Box p2 [.int .i64 x1, .int .i64 0, .int .i64 0, .int .i64 0]]) ?_ ?_
  have hk2 := h
  have h := hx4
  refine wp_seq ?_
  refine wc_text ?_
  refine wc_bin HF nS rfl rfl b_eq rfl rfl (fun a HF => ?_)
  refine wc_assign HF nS rfl rfl rfl (fun a HF => ?_)
  refine wc_end ?_
  refine then_n ?_
  by_cases hb2 : x1 = 2
  have h := (if_pos hb2).symm.trans h
  refine wp_if (b' := true) HF rfl (decide_eq_true hb2) ?_
  refine wp_skip ?_
  have HT := HT.p1.p2
  obtain rfl := Option.some.inj h
  exact then_n ⟨(HF.keep (HF.keep (HF.keep (HF.keep (HF.keep HF.nil rfl) rfl) rfl) rfl) rfl), HT⟩
  have h := (if_neg hb2).symm.trans h
  refine wp_if (b' := false) HF rfl (decide_eq_false hb2) ?_
  refine wp_seq ?_
  refine wc_text ?_
  refine wc_bin HF nS rfl rfl b_eq rfl rfl (fun a HF => ?_)
  refine wc_assign HF nS rfl rfl rfl (fun a HF => ?_)
  refine wc_end ?_
  refine then_n ?_
  by_cases hb3 : x1 = 3
  have h := (if_pos hb3).symm.trans h
  refine wp_if (b' := true) HF rfl (decide_eq_true hb3) ?_
  refine wp_skip ?_
  have HT := HT.p1.p2
  obtain rfl := Option.some.inj h
  exact then_n ⟨(HF.keep (HF.keep (HF.keep (HF.keep (HF.keep HF.nil rfl) rfl) rfl) rfl) rfl), HT⟩
  have h := (if_neg hb3).symm.trans h
  refine wp_if (b' := false) HF rfl (decide_eq_false hb3) ?_
  refine wc_text ?_
  refine wc_bin HF nS rfl rfl b_eq rfl rfl (fun a HF => ?_)
  refine wc_assign HF nS rfl rfl rfl (fun a HF => ?_)
  refine wc_end ?_
  have HT := HT.p1.p2
  obtain rfl := Option.some.inj h
  exact then_n ⟨(HF.keep (HF.keep (HF.keep (HF.keep (HF.keep HF.nil rfl) rfl) rfl) rfl) rfl), HT⟩
  rintro a w ⟨HF, HT⟩
  refine ?_
  by_cases hb4 : z6 = true
  have h := (if_pos hb4).symm.trans h
  refine wp_if (b' := true) HF rfl hb4 ?_
  refine wp_seq ?_
  refine wc_text ?_
  refine wc_move HF nS rfl rfl rfl (fun a HF => ?_)
  obtain ⟨y7, y8, y9, hx5, h⟩ := obs3 h
  obtain ⟨F3, hAF3, hFF3, hbackF3, hroF3, hownF3, hownAF3⟩ := St.handR2 (A := [Box p_0 [.slice a_x0_0 x0_0.length c_x0_0, .int .i64 x0_1, .int .i64 x0_2]]) HT
  refine wc_call HF cf127 rfl (w_spec_l4DrawReg fuel hx5 hAF3 (hroF3 hr_x0_0)) rfl rfl ?_
  rintro e w ⟨rfl, hE⟩
  have HT := hbackF3 _ _ hE
  have HT : St w0 F w [Box p_0 [.slice a_x0_0 x0_0.length c_x0_0, .int .i64 y8, .int .i64 y9], Box p1 [.int .i64 0, .int .i64 0, .int .i64 0, .int .i64 0], Box p2 [.int .i64 x1, .int .i64 0, .int .i64 0, .int .i64 0]] := HT
  refine ⟨_, rfl, nS, fun a HF => ?_⟩
  refine wc_faddr HF nS rfl fl85_1 rfl rfl (fun a HF => ?_)
  have HT := HT.p2
  refine wc_storeB (cs' := [.int .i64 x1, .int .i64 y7, .int .i64 0, .int .i64 0]) HF HT rfl rfl (fun w => (sc3 w).2) rfl rfl rfl rfl rfl (fun w HT => ⟨nS, ?_⟩)
  refine wc_end ?_
  refine then_n ?_
  refine wp_seq ?_
  refine wc_text ?_
  refine wc_move HF nS rfl rfl rfl (fun a HF => ?_)
  obtain ⟨y10, y11, y12, hx6, h⟩ := obs3 h
  have HT := HT.p1
  obtain ⟨F4, hAF4, hFF4, hbackF4, hroF4, hownF4, hownAF4⟩ := St.handR2 (A := [Box p_0 [.slice a_x0_0 x0_0.length c_x0_0, .int .i64 y8, .int .i64 y9]]) HT
  refine wc_call HF cf127 rfl (w_spec_l4DrawReg fuel hx6 hAF4 (hroF4 hr_x0_0)) rfl rfl ?_
  rintro e w ⟨rfl, hE⟩
  have HT := hbackF4 _ _ hE
  have HT : St w0 F w [Box p_0 [.slice a_x0_0 x0_0.length c_x0_0, .int .i64 y11, .int .i64 y12], Box p2 [.int .i64 x1, .int .i64 y7, .int .i64 0, .int .i64 0], Box p1 [.int .i64 0, .int .i64 0, .int .i64 0, .int .i64 0]] := HT
  refine ⟨_, rfl, nS, fun a HF => ?_⟩
  refine wc_faddr HF nS rfl fl85_2 rfl rfl (fun a HF => ?_)
  have HT := HT.p1
  refine wc_storeB (cs' := [.int .i64 x1, .int .i64 y7, .int .i64 y10, .int .i64 0]) HF HT rfl rfl (fun w => (sc3 w).2) rfl rfl rfl rfl rfl (fun w HT => ⟨nS, ?_⟩)
  refine wc_end ?_
  refine then_n ?_
  refine wc_text ?_
  refine wc_move HF nS rfl rfl rfl (fun a HF => ?_)
  obtain ⟨y13, y14, y15, hx7, h⟩ := obs3 h
  have HT := HT.p1
  obtain ⟨F5, hAF5, hFF5, hbackF5, hroF5, hownF5, hownAF5⟩ := St.handR2 (A := [Box p_0 [.slice a_x0_0 x0_0.length c_x0_0, .int .i64 y11, .int .i64 y12]]) HT
  refine wc_call HF cf127 rfl (w_spec_l4DrawReg fuel hx7 hAF5 (hroF5 hr_x0_0)) rfl rfl ?_
  rintro e w ⟨rfl, hE⟩
  have HT := hbackF5 _ _ hE
  have HT : St w0 F w [Box p_0 [.slice a_x0_0 x0_0.length c_x0_0, .int .i64 y14, .int .i64 y15], Box p2 [.int .i64 x1, .int .i64 y7, .int .i64 y10, .int .i64 0], Box p1 [.int .i64 0, .int .i64 0, .int .i64 0, .int .i64 0]] := HT
  refine ⟨_, rfl, nS, fun a HF => ?_⟩
  refine wc_faddr HF nS rfl fl85_3 rfl rfl (fun a HF => ?_)
  have HT := HT.p1
  refine wc_storeB (cs' := [.int .i64 x1, .int .i64 y7, .int .i64 y10, .int .i64 y13]) HF HT rfl rfl (fun w => (sc3 w).2) rfl rfl rfl rfl rfl (fun w HT => ⟨nS, ?_⟩)
  refine wc_end ?_
  refine blk_n ?_
  have HT := HT.p1.p1.p2
  have hj6 := Option.some.inj h
  obtain ⟨hi6, hj7⟩ := Prod.mk.inj hj6
  subst hi6
  obtain ⟨hi7, hj8⟩ := Prod.mk.inj hj7
  subst hi7
  obtain ⟨hi8, hj9⟩ := Prod.mk.inj hj8
  subst hi8
  obtain ⟨hi9, hj10⟩ := Prod.mk.inj hj9
  subst hi9
  subst hj10
  exact then_n ⟨(HF.keep (HF.keep HF.nil rfl) rfl), HT⟩
  have h := (if_neg hb4).symm.trans h
  refine wp_if (b' := false) HF rfl (Bool.eq_false_iff.2 hb4) ?_
  refine wp_seq ?_
  refine wc_text ?_
  refine wc_bin HF nS rfl rfl b_eq rfl rfl (fun a HF => ?_)
  refine wc_assign HF nS rfl rfl rfl (fun a HF => ?_)
  refine wc_end ?_
  refine then_n ?_
  by_cases hb5 : x1 = 5
  have h := (if_pos hb5).symm.trans h
  refine wp_if (b' := true) HF rfl (decide_eq_true hb5) ?_
  refine wp_seq ?_
  refine wc_text ?_
  refine wc_move HF nS rfl rfl rfl (fun a HF => ?_)
  obtain ⟨y16, y17, y18, hx8, h⟩ := obs3 h
  obtain ⟨F6, hAF6, hFF6, hbackF6, hroF6, hownF6, hownAF6⟩ := St.handR2 (A := [Box p_0 [.slice a_x0_0 x0_0.length c_x0_0, .int .i64 x0_1, .int .i64 x0_2]]) HT
  refine wc_call HF cf127 rfl (w_spec_l4DrawReg fuel hx8 hAF6 (hroF6 hr_x0_0)) rfl rfl ?_
  rintro e w ⟨rfl, hE⟩
  have HT := hbackF6 _ _ hE
  have HT : St w0 F w [Box p_0 [.slice a_x0_0 x0_0.length c_x0_0, .int .i64 y17, .int .i64 y18], Box p1 [.int .i64 0, .int .i64 0, .int .i64 0, .int .i64 0], Box p2 [.int .i64 x1, .int .i64 0, .int .i64 0, .int .i64 0]] := HT
  refine ⟨_, rfl, nS, fun a HF => ?_⟩
  refine wc_faddr HF nS rfl fl85_1 rfl rfl (fun a HF => ?_)
  have HT := HT.p2
  refine wc_storeB (cs' := [.int .i64 x1, .int .i64 y16, .int .i64 0, .int .i64 0]) HF HT rfl rfl (fun w => (sc3 w).2) rfl rfl rfl rfl rfl (fun w HT => ⟨nS, ?_⟩)
  refine wc_end ?_
  refine then_n ?_
  refine wc_text ?_
  refine wc_move HF nS rfl rfl rfl (fun a HF => ?_)
  obtain ⟨y19, y20, y21, hx9, h⟩ := obs3 h
  have HT := HT.p1
  obtain ⟨F7, hAF7, hFF7, hbackF7, hroF7, hownF7, hownAF7⟩ := St.handR2 (A := [Box p_0 [.slice a_x0_0 x0_0.length c_x0_0, .int .i64 y17, .int .i64 y18]]) HT
  refine wc_call HF cf128 rfl (w_spec_l4DrawCell fuel hx9 hAF7 (hroF7 hr_x0_0)) rfl rfl ?_
  rintro e w ⟨rfl, hE⟩
  have HT := hbackF7 _ _ hE
  have HT : St w0 F w [Box p_0 [.slice a_x0_0 x0_0.length c_x0_0, .int .i64 y20, .int .i64 y21], Box p2 [.int .i64 x1, .int .i64 y16, .int .i64 0, .int .i64 0], Box p1 [.int .i64 0, .int .i64 0, .int .i64 0, .int .i64 0]] := HT
  refine ⟨_, rfl, nS, fun a HF => ?_⟩
  refine wc_faddr HF nS rfl fl85_2 rfl rfl (fun a HF => ?_)
  have HT := HT.p1
  refine wc_storeB (cs' := [.int .i64 x1, .int .i64 y16, .int .i64 y19, .int .i64 0]) HF HT rfl rfl (fun w => (sc3 w).2) rfl rfl rfl rfl rfl (fun w HT => ⟨nS, ?_⟩)
  refine wc_end ?_
  refine blk_n ?_
  have HT := HT.p1.p1.p2
  have hj11 := Option.some.inj h
  obtain ⟨hi11, hj12⟩ := Prod.mk.inj hj11
  subst hi11
  obtain ⟨hi12, hj13⟩ := Prod.mk.inj hj12
  subst hi12
  obtain ⟨hi13, hj14⟩ := Prod.mk.inj hj13
  subst hi13
  obtain ⟨hi14, hj15⟩ := Prod.mk.inj hj14
  subst hi14
  subst hj15
  exact then_n ⟨(HF.keep (HF.keep HF.nil rfl) rfl), HT⟩
  have h := (if_neg hb5).symm.trans h
  refine wp_if (b' := false) HF rfl (decide_eq_false hb5) ?_
  refine wp_seq ?_
  refine wc_text ?_
  refine wc_bin HF nS rfl rfl b_eq rfl rfl (fun a HF => ?_)
  refine wc_assign HF nS rfl rfl rfl (fun a HF => ?_)
  refine wc_end ?_
  refine then_n ?_
  by_cases hb6 : x1 = 6
  have h := (if_pos hb6).symm.trans h
  refine wp_if (b' := true) HF rfl (decide_eq_true hb6) ?_
  refine wp_seq ?_
  refine wc_text ?_
  refine wc_move HF nS rfl rfl rfl (fun a HF => ?_)
  obtain ⟨y22, y23, y24, hx10, h⟩ := obs3 h
  obtain ⟨F8, hAF8, hFF8, hbackF8, hroF8, hownF8, hownAF8⟩ := St.handR2 (A := [Box p_0 [.slice a_x0_0 x0_0.length c_x0_0, .int .i64 x0_1, .int .i64 x0_2]]) HT
  refine wc_call HF cf128 rfl (w_spec_l4DrawCell fuel hx10 hAF8 (hroF8 hr_x0_0)) rfl rfl ?_
  rintro e w ⟨rfl, hE⟩
  have HT := hbackF8 _ _ hE
  have HT : St w0 F w [Box p_0 [.slice a_x0_0 x0_0.length c_x0_0, .int .i64 y23, .int .i64 y24], Box p1 [.int .i64 0, .int .i64 0, .int .i64 0, .int .i64 0], Box p2 [.int .i64 x1, .int .i64 0, .int .i64 0, .int .i64 0]] := HT
  refine ⟨_, rfl, nS, fun a HF => ?_⟩
  refine wc_faddr HF nS rfl fl85_1 rfl rfl (fun a HF => ?_)
  have HT := HT.p2
  refine wc_storeB (cs' := [.int .i64 x1, .int .i64 y22, .int .i64 0, .int .i64 0]) HF HT rfl rfl (fun w => (sc3 w).2) rfl rfl rfl rfl rfl (fun w HT => ⟨nS, ?_⟩)
  refine wc_end ?_
  refine then_n ?_
  refine wc_text ?_
  refine wc_move HF nS rfl rfl rfl (fun a HF => ?_)
  obtain ⟨y25, y26, y27, hx11, h⟩ := obs3 h
  have HT := HT.p1
  obtain ⟨F9, hAF9, hFF9, hbackF9, hroF9, hownF9, hownAF9⟩ := St.handR2 (A := [Box p_0 [.slice a_x0_0 x0_0.length c_x0_0, .int .i64 y23, .int .i64 y24]]) HT
  refine wc_call HF cf127 rfl (w_spec_l4DrawReg fuel hx11 hAF9 (hroF9 hr_x0_0)) rfl rfl ?_
  rintro e w ⟨rfl, hE⟩
  have HT := hbackF9 _ _ hE
  have HT : St w0 F w [Box p_0 [.slice a_x0_0 x0_0.length c_x0_0, .int .i64 y26, .int .i64 y27], Box p2 [.int .i64 x1, .int .i64 y22, .int .i64 0, .int .i64 0], Box p1 [.int .i64 0, .int .i64 0, .int .i64 0, .int .i64 0]] := HT
  refine ⟨_, rfl, nS, fun a HF => ?_⟩
  refine wc_faddr HF nS rfl fl85_2 rfl rfl (fun a HF => ?_)
  have HT := HT.p1
  refine wc_storeB (cs' := [.int .i64 x1, .int .i64 y22, .int .i64 y25, .int .i64 0]) HF HT rfl rfl (fun w => (sc3 w).2) rfl rfl rfl rfl rfl (fun w HT => ⟨nS, ?_⟩)
  refine wc_end ?_
  refine blk_n ?_
  have HT := HT.p1.p1.p2
  have hj16 := Option.some.inj h
  obtain ⟨hi16, hj17⟩ := Prod.mk.inj hj16
  subst hi16
  obtain ⟨hi17, hj18⟩ := Prod.mk.inj hj17
  subst hi17
  obtain ⟨hi18, hj19⟩ := Prod.mk.inj hj18
  subst hi18
  obtain ⟨hi19, hj20⟩ := Prod.mk.inj hj19
  subst hi19
  subst hj20
  exact then_n ⟨(HF.keep (HF.keep HF.nil rfl) rfl), HT⟩
  have h := (if_neg hb6).symm.trans h
  refine wp_if (b' := false) HF rfl (decide_eq_false hb6) ?_
  refine wp_seq ?_
  refine wc_text ?_
  refine wc_bin HF nS rfl rfl b_eq rfl rfl (fun a HF => ?_)
  refine wc_assign HF nS rfl rfl rfl (fun a HF => ?_)
  refine wc_end ?_
  refine then_n ?_
  by_cases hb7 : x1 = 7
  have h := (if_pos hb7).symm.trans h
  refine wp_if (b' := true) HF rfl (decide_eq_true hb7) ?_
  refine wp_seq ?_
  refine wc_text ?_
  refine wc_move HF nS rfl rfl rfl (fun a HF => ?_)
  obtain ⟨y28, y29, y30, hx12, h⟩ := obs3 h
  obtain ⟨F10, hAF10, hFF10, hbackF10, hroF10, hownF10, hownAF10⟩ := St.handR2 (A := [Box p_0 [.slice a_x0_0 x0_0.length c_x0_0, .int .i64 x0_1, .int .i64 x0_2]]) HT
  refine wc_call HF cf127 rfl (w_spec_l4DrawReg fuel hx12 hAF10 (hroF10 hr_x0_0)) rfl rfl ?_
  rintro e w ⟨rfl, hE⟩
  have HT := hbackF10 _ _ hE
  have HT : St w0 F w [Box p_0 [.slice a_x0_0 x0_0.length c_x0_0, .int .i64 y29, .int .i64 y30], Box p1 [.int .i64 0, .int .i64 0, .int .i64 0, .int .i64 0], Box p2 [.int .i64 x1, .int .i64 0, .int .i64 0, .int .i64 0]] := HT
  refine ⟨_, rfl, nS, fun a HF => ?_⟩
  refine wc_faddr HF nS rfl fl85_1 rfl rfl (fun a HF => ?_)
  have HT := HT.p2
  refine wc_storeB (cs' := [.int .i64 x1, .int .i64 y28, .int .i64 0, .int .i64 0]) HF HT rfl rfl (fun w => (sc3 w).2) rfl rfl rfl rfl rfl (fun w HT => ⟨nS, ?_⟩)
  refine wc_end ?_
  refine then_n ?_
  refine wc_text ?_
  refine wc_move HF nS rfl rfl rfl (fun a HF => ?_)
  obtain ⟨y31, y32, y33, hx13, h⟩ := obs3 h
  have HT := HT.p1
  obtain ⟨F11, hAF11, hFF11, hbackF11, hroF11, hownF11, hownAF11⟩ := St.handR2 (A := [Box p_0 [.slice a_x0_0 x0_0.length c_x0_0, .int .i64 y29, .int .i64 y30]]) HT
  refine wc_call HF cf90 rfl (w_spec_l1Below fuel hx13 hAF11 (hroF11 hr_x0_0)) rfl rfl ?_
  rintro e w ⟨rfl, hE⟩
  have HT := hbackF11 _ _ hE
  have HT : St w0 F w [Box p_0 [.slice a_x0_0 x0_0.length c_x0_0, .int .i64 y32, .int .i64 y33], Box p2 [.int .i64 x1, .int .i64 y28, .int .i64 0, .int .i64 0], Box p1 [.int .i64 0, .int .i64 0, .int .i64 0, .int .i64 0]] := HT
  refine ⟨_, rfl, nS, fun a HF => ?_⟩
  obtain ⟨hg1, h⟩ := grd h
  refine wc_bin HF nS rfl rfl (b_add hg1) rfl rfl (fun a HF => ?_)
  refine wc_faddr HF nS rfl fl85_2 rfl rfl (fun a HF => ?_)
  have HT := HT.p1
  refine wc_storeB (cs' := [.int .i64 x1, .int .i64 y28, .int .i64 (1 + y31), .int .i64 0]) HF HT rfl rfl (fun w => (sc3 w).2) rfl rfl rfl rfl rfl (fun w HT => ⟨nS, ?_⟩)
  refine wc_end ?_
  refine blk_n ?_
  have HT := HT.p1.p1.p2
  have hj21 := Option.some.inj h
  obtain ⟨hi21, hj22⟩ := Prod.mk.inj hj21
  subst hi21
  obtain ⟨hi22, hj23⟩ := Prod.mk.inj hj22
  subst hi22
  obtain ⟨hi23, hj24⟩ := Prod.mk.inj hj23
  subst hi23
  obtain ⟨hi24, hj25⟩ := Prod.mk.inj hj24
  subst hi24
  subst hj25
  exact then_n ⟨(HF.keep (HF.keep HF.nil rfl) rfl), HT⟩
  have h := (if_neg hb7).symm.trans h
  refine wp_if (b' := false) HF rfl (decide_eq_false hb7) ?_
  obtain ⟨z7, hx14, h⟩ := obs h
  refine wp_cut (fun a w => Fr a 90 [(0, .pointer (some ⟨p_0, 0, none⟩)), (4, .pointer (some ⟨p1, 0, none⟩)), (5, .pointer (some ⟨p2, 0, none⟩)), (8, .int .i64 x1), (55, .bool z7)] ∧ St w0 F w [Box p_0 [.slice a_x0_0 x0_0.length c_x0_0, .int .i64 x0_1, .int .i64 x0_2], Box p1 [.int .i64 0, .int .i64 0, .int .i64 0, .int .i64 0], Box p2 [.int .i64 x1, .int .i64 0, .int .i64 0, .int .i64 0]]) ?_ ?_
  have hk2 := h
  have h := hx14
  refine wp_seq ?_
  refine wc_text ?_
  refine wc_bin HF nS rfl rfl b_eq rfl rfl (fun a HF => ?_)
  refine wc_assign HF nS rfl rfl rfl (fun a HF => ?_)
  refine wc_end ?_
  refine then_n ?_
  by_cases hb8 : x1 = 8
  have h := (if_pos hb8).symm.trans h
  refine wp_if (b' := true) HF rfl (decide_eq_true hb8) ?_
  refine wp_skip ?_
  obtain rfl := Option.some.inj h
  exact then_n ⟨(HF.keep (HF.keep (HF.keep (HF.keep (HF.keep HF.nil rfl) rfl) rfl) rfl) rfl), HT⟩
  have h := (if_neg hb8).symm.trans h
  refine wp_if (b' := false) HF rfl (decide_eq_false hb8) ?_
  refine wp_seq ?_
  refine wc_text ?_
  refine wc_bin HF nS rfl rfl b_eq rfl rfl (fun a HF => ?_)
  refine wc_assign HF nS rfl rfl rfl (fun a HF => ?_)
  refine wc_end ?_
  refine then_n ?_
  by_cases hb9 : x1 = 15
  have h := (if_pos hb9).symm.trans h
  refine wp_if (b' := true) HF rfl (decide_eq_true hb9) ?_
  refine wp_skip ?_
  obtain rfl := Option.some.inj h
  exact then_n ⟨(HF.keep (HF.keep (HF.keep (HF.keep (HF.keep HF.nil rfl) rfl) rfl) rfl) rfl), HT⟩
  have h := (if_neg hb9).symm.trans h
  refine wp_if (b' := false) HF rfl (decide_eq_false hb9) ?_
  refine wc_text ?_
  refine wc_bin HF nS rfl rfl b_eq rfl rfl (fun a HF => ?_)
  refine wc_assign HF nS rfl rfl rfl (fun a HF => ?_)
  refine wc_end ?_
  obtain rfl := Option.some.inj h
  exact then_n ⟨(HF.keep (HF.keep (HF.keep (HF.keep (HF.keep HF.nil rfl) rfl) rfl) rfl) rfl), HT⟩
  rintro a w ⟨HF, HT⟩
  refine ?_
  by_cases hb10 : z7 = true
  have h := (if_pos hb10).symm.trans h
  refine wp_if (b' := true) HF rfl hb10 ?_
  refine wc_text ?_
  refine wc_move HF nS rfl rfl rfl (fun a HF => ?_)
  obtain ⟨y34, y35, y36, hx15, h⟩ := obs3 h
  obtain ⟨F12, hAF12, hFF12, hbackF12, hroF12, hownF12, hownAF12⟩ := St.handR2 (A := [Box p_0 [.slice a_x0_0 x0_0.length c_x0_0, .int .i64 x0_1, .int .i64 x0_2]]) HT
  refine wc_call HF cf127 rfl (w_spec_l4DrawReg fuel hx15 hAF12 (hroF12 hr_x0_0)) rfl rfl ?_
  rintro e w ⟨rfl, hE⟩
  have HT := hbackF12 _ _ hE
  have HT : St w0 F w [Box p_0 [.slice a_x0_0 x0_0.length c_x0_0, .int .i64 y35, .int .i64 y36], Box p1 [.int .i64 0, .int .i64 0, .int .i64 0, .int .i64 0], Box p2 [.int .i64 x1, .int .i64 0, .int .i64 0, .int .i64 0]] := HT
  refine ⟨_, rfl, nS, fun a HF => ?_⟩
  refine wc_faddr HF nS rfl fl85_1 rfl rfl (fun a HF => ?_)
  have HT := HT.p2
  refine wc_storeB (cs' := [.int .i64 x1, .int .i64 y34, .int .i64 0, .int .i64 0]) HF HT rfl rfl (fun w => (sc3 w).2) rfl rfl rfl rfl rfl (fun w HT => ⟨nS, ?_⟩)
  refine wc_end ?_
  refine blk_n ?_
  have HT := HT.p1.p1.p2
  have hj26 := Option.some.inj h
  obtain ⟨hi26, hj27⟩ := Prod.mk.inj hj26
  subst hi26
  obtain ⟨hi27, hj28⟩ := Prod.mk.inj hj27
  subst hi27
  obtain ⟨hi28, hj29⟩ := Prod.mk.inj hj28
  subst hi28
  obtain ⟨hi29, hj30⟩ := Prod.mk.inj hj29
  subst hi29
  subst hj30
  exact then_n ⟨(HF.keep (HF.keep HF.nil rfl) rfl), HT⟩
  have h := (if_neg hb10).symm.trans h
  refine wp_if (b' := false) HF rfl (Bool.eq_false_iff.2 hb10) ?_
  refine wp_seq ?_
  refine wc_text ?_
  refine wc_bin HF nS rfl rfl b_eq rfl rfl (fun a HF => ?_)
  refine wc_assign HF nS rfl rfl rfl (fun a HF => ?_)
  refine wc_end ?_
  refine then_n ?_
  by_cases hb11 : x1 = 12
  have h := (if_pos hb11).symm.trans h
  refine wp_if (b' := true) HF rfl (decide_eq_true hb11) ?_
  refine wp_seq ?_
  refine wc_text ?_
  refine wc_move HF nS rfl rfl rfl (fun a HF => ?_)
  obtain ⟨y37, y38, y39, hx16, h⟩ := obs3 h
  obtain ⟨F13, hAF13, hFF13, hbackF13, hroF13, hownF13, hownAF13⟩ := St.handR2 (A := [Box p_0 [.slice a_x0_0 x0_0.length c_x0_0, .int .i64 x0_1, .int .i64 x0_2]]) HT
  refine wc_call HF cf129 rfl (w_spec_l4DrawKey fuel hx16 hAF13 (hroF13 hr_x0_0)) rfl rfl ?_
  rintro e w ⟨rfl, hE⟩
  have HT := hbackF13 _ _ hE
  have HT : St w0 F w [Box p_0 [.slice a_x0_0 x0_0.length c_x0_0, .int .i64 y38, .int .i64 y39], Box p1 [.int .i64 0, .int .i64 0, .int .i64 0, .int .i64 0], Box p2 [.int .i64 x1, .int .i64 0, .int .i64 0, .int .i64 0]] := HT
  refine ⟨_, rfl, nS, fun a HF => ?_⟩
  refine wc_faddr HF nS rfl fl85_1 rfl rfl (fun a HF => ?_)
  have HT := HT.p2
  refine wc_storeB (cs' := [.int .i64 x1, .int .i64 y37, .int .i64 0, .int .i64 0]) HF HT rfl rfl (fun w => (sc3 w).2) rfl rfl rfl rfl rfl (fun w HT => ⟨nS, ?_⟩)
  refine wc_end ?_
  refine then_n ?_
  refine wp_seq ?_
  refine wc_text ?_
  refine wc_move HF nS rfl rfl rfl (fun a HF => ?_)
  obtain ⟨y40, y41, y42, hx17, h⟩ := obs3 h
  have HT := HT.p1
  obtain ⟨F14, hAF14, hFF14, hbackF14, hroF14, hownF14, hownAF14⟩ := St.handR2 (A := [Box p_0 [.slice a_x0_0 x0_0.length c_x0_0, .int .i64 y38, .int .i64 y39]]) HT
  refine wc_call HF cf127 rfl (w_spec_l4DrawReg fuel hx17 hAF14 (hroF14 hr_x0_0)) rfl rfl ?_
  rintro e w ⟨rfl, hE⟩
  have HT := hbackF14 _ _ hE
  have HT : St w0 F w [Box p_0 [.slice a_x0_0 x0_0.length c_x0_0, .int .i64 y41, .int .i64 y42], Box p2 [.int .i64 x1, .int .i64 y37, .int .i64 0, .int .i64 0], Box p1 [.int .i64 0, .int .i64 0, .int .i64 0, .int .i64 0]] := HT
  refine ⟨_, rfl, nS, fun a HF => ?_⟩
  refine wc_faddr HF nS rfl fl85_2 rfl rfl (fun a HF => ?_)
  have HT := HT.p1
  refine wc_storeB (cs' := [.int .i64 x1, .int .i64 y37, .int .i64 y40, .int .i64 0]) HF HT rfl rfl (fun w => (sc3 w).2) rfl rfl rfl rfl rfl (fun w HT => ⟨nS, ?_⟩)
  refine wc_end ?_
  refine then_n ?_
  refine wc_text ?_
  refine wc_move HF nS rfl rfl rfl (fun a HF => ?_)
  obtain ⟨y43, y44, y45, hx18, h⟩ := obs3 h
  have HT := HT.p1
  obtain ⟨F15, hAF15, hFF15, hbackF15, hroF15, hownF15, hownAF15⟩ := St.handR2 (A := [Box p_0 [.slice a_x0_0 x0_0.length c_x0_0, .int .i64 y41, .int .i64 y42]]) HT
  refine wc_call HF cf127 rfl (w_spec_l4DrawReg fuel hx18 hAF15 (hroF15 hr_x0_0)) rfl rfl ?_
  rintro e w ⟨rfl, hE⟩
  have HT := hbackF15 _ _ hE
  have HT : St w0 F w [Box p_0 [.slice a_x0_0 x0_0.length c_x0_0, .int .i64 y44, .int .i64 y45], Box p2 [.int .i64 x1, .int .i64 y37, .int .i64 y40, .int .i64 0], Box p1 [.int .i64 0, .int .i64 0, .int .i64 0, .int .i64 0]] := HT
  refine ⟨_, rfl, nS, fun a HF => ?_⟩
  refine wc_faddr HF nS rfl fl85_3 rfl rfl (fun a HF => ?_)
  have HT := HT.p1
  refine wc_storeB (cs' := [.int .i64 x1, .int .i64 y37, .int .i64 y40, .int .i64 y43]) HF HT rfl rfl (fun w => (sc3 w).2) rfl rfl rfl rfl rfl (fun w HT => ⟨nS, ?_⟩)
  refine wc_end ?_
  refine blk_n ?_
  have HT := HT.p1.p1.p2
  have hj31 := Option.some.inj h
  obtain ⟨hi31, hj32⟩ := Prod.mk.inj hj31
  subst hi31
  obtain ⟨hi32, hj33⟩ := Prod.mk.inj hj32
  subst hi32
  obtain ⟨hi33, hj34⟩ := Prod.mk.inj hj33
  subst hi33
  obtain ⟨hi34, hj35⟩ := Prod.mk.inj hj34
  subst hi34
  subst hj35
  exact then_n ⟨(HF.keep (HF.keep HF.nil rfl) rfl), HT⟩
  have h := (if_neg hb11).symm.trans h
  refine wp_if (b' := false) HF rfl (decide_eq_false hb11) ?_
  refine wp_seq ?_
  refine wc_text ?_
  refine wc_bin HF nS rfl rfl b_eq rfl rfl (fun a HF => ?_)
  refine wc_assign HF nS rfl rfl rfl (fun a HF => ?_)
  refine wc_end ?_
  refine then_n ?_
  by_cases hb12 : x1 = 13
  have h := (if_pos hb12).symm.trans h
  refine wp_if (b' := true) HF rfl (decide_eq_true hb12) ?_
  refine wp_seq ?_
  refine wc_text ?_
  refine wc_move HF nS rfl rfl rfl (fun a HF => ?_)
  obtain ⟨y46, y47, y48, hx19, h⟩ := obs3 h
  obtain ⟨F16, hAF16, hFF16, hbackF16, hroF16, hownF16, hownAF16⟩ := St.handR2 (A := [Box p_0 [.slice a_x0_0 x0_0.length c_x0_0, .int .i64 x0_1, .int .i64 x0_2]]) HT
  refine wc_call HF cf127 rfl (w_spec_l4DrawReg fuel hx19 hAF16 (hroF16 hr_x0_0)) rfl rfl ?_
  rintro e w ⟨rfl, hE⟩
  have HT := hbackF16 _ _ hE
  have HT : St w0 F w [Box p_0 [.slice a_x0_0 x0_0.length c_x0_0, .int .i64 y47, .int .i64 y48], Box p1 [.int .i64 0, .int .i64 0, .int .i64 0, .int .i64 0], Box p2 [.int .i64 x1, .int .i64 0, .int .i64 0, .int .i64 0]] := HT
  refine ⟨_, rfl, nS, fun a HF => ?_⟩
  refine wc_faddr HF nS rfl fl85_1 rfl rfl (fun a HF => ?_)
  have HT := HT.p2
  refine wc_storeB (cs' := [.int .i64 x1, .int .i64 y46, .int .i64 0, .int .i64 0]) HF HT rfl rfl (fun w => (sc3 w).2) rfl rfl rfl rfl rfl (fun w HT => ⟨nS, ?_⟩)
  refine wc_end ?_
  refine then_n ?_
  refine wc_text ?_
  refine wc_move HF nS rfl rfl rfl (fun a HF => ?_)
  obtain ⟨y49, y50, y51, hx20, h⟩ := obs3 h
  have HT := HT.p1
  obtain ⟨F17, hAF17, hFF17, hbackF17, hroF17, hownF17, hownAF17⟩ := St.handR2 (A := [Box p_0 [.slice a_x0_0 x0_0.length c_x0_0, .int .i64 y47, .int .i64 y48]]) HT
  refine wc_call HF cf129 rfl (w_spec_l4DrawKey fuel hx20 hAF17 (hroF17 hr_x0_0)) rfl rfl ?_
  rintro e w ⟨rfl, hE⟩
  have HT := hbackF17 _ _ hE
  have HT : St w0 F w [Box p_0 [.slice a_x0_0 x0_0.length c_x0_0, .int .i64 y50, .int .i64 y51], Box p2 [.int .i64 x1, .int .i64 y46, .int .i64 0, .int .i64 0], Box p1 [.int .i64 0, .int .i64 0, .int .i64 0, .int .i64 0]] := HT
  refine ⟨_, rfl, nS, fun a HF => ?_⟩
  refine wc_faddr HF nS rfl fl85_2 rfl rfl (fun a HF => ?_)
  have HT := HT.p1
  refine wc_storeB (cs' := [.int .i64 x1, .int .i64 y46, .int .i64 y49, .int .i64 0]) HF HT rfl rfl (fun w => (sc3 w).2) rfl rfl rfl rfl rfl (fun w HT => ⟨nS, ?_⟩)
  refine wc_end ?_
  refine blk_n ?_
  have HT := HT.p1.p1.p2
  have hj36 := Option.some.inj h
  obtain ⟨hi36, hj37⟩ := Prod.mk.inj hj36
  subst hi36
  obtain ⟨hi37, hj38⟩ := Prod.mk.inj hj37
  subst hi37
  obtain ⟨hi38, hj39⟩ := Prod.mk.inj hj38
  subst hi38
  obtain ⟨hi39, hj40⟩ := Prod.mk.inj hj39
  subst hi39
  subst hj40
  exact then_n ⟨(HF.keep (HF.keep HF.nil rfl) rfl), HT⟩
  have h := (if_neg hb12).symm.trans h
  refine wp_if (b' := false) HF rfl (decide_eq_false hb12) ?_
  refine wp_seq ?_
  refine wc_text ?_
  refine wc_bin HF nS rfl rfl b_eq rfl rfl (fun a HF => ?_)
  refine wc_assign HF nS rfl rfl rfl (fun a HF => ?_)
  refine wc_end ?_
  refine then_n ?_
  by_cases hb13 : x1 = 14
  have h := (if_pos hb13).symm.trans h
  refine wp_if (b' := true) HF rfl (decide_eq_true hb13) ?_
  refine wp_seq ?_
  refine wc_text ?_
  refine wc_move HF nS rfl rfl rfl (fun a HF => ?_)
  obtain ⟨y52, y53, y54, hx21, h⟩ := obs3 h
  obtain ⟨F18, hAF18, hFF18, hbackF18, hroF18, hownF18, hownAF18⟩ := St.handR2 (A := [Box p_0 [.slice a_x0_0 x0_0.length c_x0_0, .int .i64 x0_1, .int .i64 x0_2]]) HT
  refine wc_call HF cf129 rfl (w_spec_l4DrawKey fuel hx21 hAF18 (hroF18 hr_x0_0)) rfl rfl ?_
  rintro e w ⟨rfl, hE⟩
  have HT := hbackF18 _ _ hE
  have HT : St w0 F w [Box p_0 [.slice a_x0_0 x0_0.length c_x0_0, .int .i64 y53, .int .i64 y54], Box p1 [.int .i64 0, .int .i64 0, .int .i64 0, .int .i64 0], Box p2 [.int .i64 x1, .int .i64 0, .int .i64 0, .int .i64 0]] := HT
  refine ⟨_, rfl, nS, fun a HF => ?_⟩
  refine wc_faddr HF nS rfl fl85_1 rfl rfl (fun a HF => ?_)
  have HT := HT.p2
  refine wc_storeB (cs' := [.int .i64 x1, .int .i64 y52, .int .i64 0, .int .i64 0]) HF HT rfl rfl (fun w => (sc3 w).2) rfl rfl rfl rfl rfl (fun w HT => ⟨nS, ?_⟩)
  refine wc_end ?_
  refine then_n ?_
  refine wc_text ?_
  refine wc_move HF nS rfl rfl rfl (fun a HF => ?_)
  obtain ⟨y55, y56, y57, hx22, h⟩ := obs3 h
  have HT := HT.p1
  obtain ⟨F19, hAF19, hFF19, hbackF19, hroF19, hownF19, hownAF19⟩ := St.handR2 (A := [Box p_0 [.slice a_x0_0 x0_0.length c_x0_0, .int .i64 y53, .int .i64 y54]]) HT
  refine wc_call HF cf127 rfl (w_spec_l4DrawReg fuel hx22 hAF19 (hroF19 hr_x0_0)) rfl rfl ?_
  rintro e w ⟨rfl, hE⟩
  have HT := hbackF19 _ _ hE
  have HT : St w0 F w [Box p_0 [.slice a_x0_0 x0_0.length c_x0_0, .int .i64 y56, .int .i64 y57], Box p2 [.int .i64 x1, .int .i64 y52, .int .i64 0, .int .i64 0], Box p1 [.int .i64 0, .int .i64 0, .int .i64 0, .int .i64 0]] := HT
  refine ⟨_, rfl, nS, fun a HF => ?_⟩
  refine wc_faddr HF nS rfl fl85_2 rfl rfl (fun a HF => ?_)
  have HT := HT.p1
  refine wc_storeB (cs' := [.int .i64 x1, .int .i64 y52, .int .i64 y55, .int .i64 0]) HF HT rfl rfl (fun w => (sc3 w).2) rfl rfl rfl rfl rfl (fun w HT => ⟨nS, ?_⟩)
  refine wc_end ?_
  refine blk_n ?_
  have HT := HT.p1.p1.p2
  have hj41 := Option.some.inj h
  obtain ⟨hi41, hj42⟩ := Prod.mk.inj hj41
  subst hi41
  obtain ⟨hi42, hj43⟩ := Prod.mk.inj hj42
  subst hi42
  obtain ⟨hi43, hj44⟩ := Prod.mk.inj hj43
  subst hi43
  obtain ⟨hi44, hj45⟩ := Prod.mk.inj hj44
  subst hi44
  subst hj45
  exact then_n ⟨(HF.keep (HF.keep HF.nil rfl) rfl), HT⟩
  have h := (if_neg hb13).symm.trans h
  refine wp_if (b' := false) HF rfl (decide_eq_false hb13) ?_
  refine wp_skip ?_
  refine blk_n ?_
  have HT := HT.p2.p2
  have hj46 := Option.some.inj h
  obtain ⟨hi46, hj47⟩ := Prod.mk.inj hj46
  subst hi46
  obtain ⟨hi47, hj48⟩ := Prod.mk.inj hj47
  subst hi47
  obtain ⟨hi48, hj49⟩ := Prod.mk.inj hj48
  subst hi48
  obtain ⟨hi49, hj50⟩ := Prod.mk.inj hj49
  subst hi49
  subst hj50
  exact then_n ⟨(HF.keep (HF.keep HF.nil rfl) rfl), HT⟩
  rintro a w ⟨HF, HT⟩
  refine ?_
  refine wp_seq ?_
  refine wc_text ?_
  refine wc_loadA (vs := [.int .i64 x1, .int .i64 z1, .int .i64 z2, .int .i64 z3]) HF rfl ag85 rfl ((HT.boxAt 1 rfl).part 0 4) rfl rfl (fun a HF => ?_)
  refine wc_storeB (cs' := [.int .i64 x1, .int .i64 z1, .int .i64 z2, .int .i64 z3]) HF HT rfl rfl (fun w => (ag85 w).2) rfl rfl rfl rfl rfl (fun w HT => ⟨nS, ?_⟩)
  refine wc_end ?_
  refine then_n ?_
  refine wp_ret ?_
  have hj51 := Option.some.inj h
  obtain ⟨hi51, hj52⟩ := Prod.mk.inj hj51
  subst hi51
  obtain ⟨hi52, hj53⟩ := Prod.mk.inj hj52
  subst hi52
  obtain ⟨hi53, hj54⟩ := Prod.mk.inj hj53
  subst hi53
  obtain ⟨hi54, hj55⟩ := Prod.mk.inj hj54
  subst hi54
  obtain ⟨hi55, hj56⟩ := Prod.mk.inj hj55
  subst hi55
  subst hj56
  refine bp_ret HF (res_cell (vs := [.int .i64 x1, .int .i64 z1, .int .i64 z2, .int .i64 z3]) rfl HF rfl ag85 rfl (HT.boxAt 0 rfl)) ?_
  have HT := HT.p2.t1
  exact ⟨rfl, HT⟩
end Go.Proofs.Ytknghnmcckjjbaa
