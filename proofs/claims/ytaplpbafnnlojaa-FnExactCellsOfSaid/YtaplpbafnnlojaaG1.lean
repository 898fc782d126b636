/- Walks of functions, by program: laws.szRowS, laws.toRow, laws.toRowS, spec.l1In, spec.l3Cell, spec.l3Val, spec.RowsOk, impl.within, impl.isCell, impl.isValue, impl.RowsOk, laws.eqRow, laws.eqRowS, laws.FnExactRowsOk, spec.Last, impl.Last, laws.FnExactLast, spec.Cut, impl.copyRows, impl.Cut, laws.markRowS, laws.heldRowS, laws.FnExactCut, spec.Net, impl.Net, laws.FnExactNet, laws.toIntS, spec.l3Vals, spec.Overlay, impl.areValues, impl.copyInts, impl.Overlay, laws.eqIntS, laws.markIntS, laws.heldIntS. -/
import Derived.Test.YtaplpbafnnlojaaTy
namespace Go.Proofs.Ytaplpbafnnlojaa
open Go Go.RowKit
set_option linter.unusedVariables false
set_option linter.unusedSimpArgs false
def m_laws_szRowS (fuel : Nat) (x0 : List I2) (x1 : Int) : Option Int :=
  if in64 (x1 - (x0.length : Int)) then
    if (x1 - (x0.length : Int)) < 0 then
      some (-1)
    else
      some (x1 - (x0.length : Int))
  else none

set_option maxRecDepth 100000 in
set_option maxHeartbeats 4000000 in
theorem w_laws_szRowS (fuel : Nat) {x0 : List I2} {x1 : Int} {a_x0 : Option Addr} {n_x0 c_x0 : Nat} {r0 : Int} {w0 : World} (h : m_laws_szRowS fuel x0 x1 = some r0) (hr_x0 : RdT (fun b => ¬ False) w0 (rowT x0) (.slice a_x0 n_x0 c_x0)) :
    Calls Try.prog 9 #[.slice a_x0 n_x0 c_x0, .int .i64 x1] w0 fun e w => e = .returned (.int .i64 r0) ∧ St w0 (fun _ => False) w [] := by
  obtain rfl := hr_x0.neq
  have HT : St w0 (fun _ => False) w0 [] := St.init0
  rw [m_laws_szRowS] at h
  refine calls_fr (n := 12) [.slice a_x0 x0.length c_x0, .int .i64 x1] Try.func9 rfl rfl rfl (fun a HF => ?_)
  have HT : St w0 (fun _ => False) w0 [] := HT
  refine wp_seq ?_
  refine wc_text ?_
  refine wc_assign HF nS rfl rfl rfl (fun a HF => ?_)
  refine wc_end ?_
  refine then_n ?_
  refine wp_seq ?_
  refine wc_text ?_
  refine wc_move HF nS rfl rfl rfl (fun a HF => ?_)
  refine wc_move HF nS rfl rfl rfl (fun a HF => ?_)
  refine wc_lenR HF nS Try.underlying22 rfl rfl rfl (fun a HF => ?_)
  obtain ⟨hg1, h⟩ := grd h
  refine wc_bin HF nS rfl rfl (b_sub hg1) rfl rfl (fun a HF => ?_)
  refine wc_assign HF nS rfl rfl rfl (fun a HF => ?_)
  refine wc_end ?_
  refine then_n ?_
  refine wp_seq ?_
  refine wp_seq ?_
  refine wc_text ?_
  refine wc_move HF nS rfl rfl rfl (fun a HF => ?_)
  refine wc_bin HF nS rfl rfl b_lt rfl rfl (fun a HF => ?_)
  refine wc_end ?_
  refine then_n ?_
  by_cases hb1 : (x1 - (x0.length : Int)) < 0
  · have h := (if_pos hb1).symm.trans h
    refine wp_if (b' := true) HF rfl (decide_eq_true hb1) ?_
    refine wp_seq ?_
    refine wc_text ?_
    refine wc_assign HF nS rfl rfl rfl (fun a HF => ?_)
    refine wc_end ?_
    refine then_n ?_
    refine wp_ret ?_
    obtain rfl := Option.some.inj h
    refine then_r (?_)
    refine bp_ret HF (res_one rfl HF rfl) ?_
    exact ⟨rfl, HT⟩
  · have h := (if_neg hb1).symm.trans h
    refine wp_if (b' := false) HF rfl (decide_eq_false hb1) ?_
    refine wp_skip ?_
    refine then_n ?_
    refine wp_seq ?_
    refine wc_text ?_
    refine wc_move HF nS rfl rfl rfl (fun a HF => ?_)
    refine wc_assign HF nS rfl rfl rfl (fun a HF => ?_)
    refine wc_end ?_
    refine then_n ?_
    refine wp_ret ?_
    obtain rfl := Option.some.inj h
    refine bp_ret HF (res_one rfl HF rfl) ?_
    exact ⟨rfl, HT⟩

def m_laws_toRow (fuel : Nat) (x0_0 : Int) (x0_1 : Int) : Option (Int × Int) :=
  some (x0_0, x0_1)

set_option maxRecDepth 100000 in
set_option maxHeartbeats 4000000 in
theorem w_laws_toRow (fuel : Nat) {x0_0 : Int} {x0_1 : Int} {r0_0 : Int} {r0_1 : Int} {w0 : World} (h : m_laws_toRow fuel x0_0 x0_1 = some (r0_0, r0_1)) :
    Calls Try.prog 32 #[.agg #[.int .i64 x0_0, .int .i64 x0_1]] w0 fun e w => e = .returned (.agg #[.int .i64 r0_0, .int .i64 r0_1]) ∧ St w0 (fun _ => False) w [] := by
  have HT : St w0 (fun _ => False) w0 [] := St.init0
  rw [m_laws_toRow] at h
  refine calls_fr (n := 11) [.agg #[.int .i64 x0_0, .int .i64 x0_1]] Try.func32 rfl rfl rfl (fun a HF => ?_)
  have HT : St w0 (fun _ => False) w0 [] := HT
  refine wp_seq ?_
  refine wc_text ?_
  refine wc_box (cs := [.int .i64 x0_0, .int .i64 x0_1]) HF HT rfl rfl rfl rfl (fun p1 w HT hb => ⟨nS, fun a HF => ?_⟩)
  refine wc_alloc (cs := [.int .i64 0, .int .i64 0]) HF HT zr44 rfl rfl rfl (fun p2 w HT hb => ⟨nS, fun a HF => ?_⟩)
  refine wc_end ?_
  refine then_n ?_
  refine wp_seq ?_
  refine wc_text ?_
  refine wc_alloc (cs := [.int .i64 0, .int .i64 0]) HF HT zr44 rfl rfl rfl (fun p3 w HT hb => ⟨nS, fun a HF => ?_⟩)
  refine wc_end ?_
  refine then_n ?_
  refine wp_seq ?_
  refine wc_text ?_
  refine wc_faddr HF nS rfl fl46_0 rfl rfl (fun a HF => ?_)
  refine wc_load HF rfl sc3 ((HT.boxAt 2 rfl).get 0 rfl) rfl rfl (fun a HF => ?_)
  refine wc_faddr HF nS rfl fl44_0 rfl rfl (fun a HF => ?_)
  refine wc_storeB (cs' := [.int .i64 x0_0, .int .i64 0]) HF HT rfl rfl (fun w => (sc3 w).2) rfl rfl rfl rfl rfl (fun w HT => ⟨nS, ?_⟩)
  refine wc_end ?_
  refine then_n ?_
  refine wp_seq ?_
  refine wc_text ?_
  refine wc_faddr HF nS rfl fl46_1 rfl rfl (fun a HF => ?_)
  refine wc_load HF rfl sc3 ((HT.boxAt 2 rfl).get 1 rfl) rfl rfl (fun a HF => ?_)
  refine wc_faddr HF nS rfl fl44_1 rfl rfl (fun a HF => ?_)
  refine wc_storeB (cs' := [.int .i64 x0_0, .int .i64 x0_1]) HF HT rfl rfl (fun w => (sc3 w).2) rfl rfl rfl rfl rfl (fun w HT => ⟨nS, ?_⟩)
  refine wc_end ?_
  refine then_n ?_
  refine wp_seq ?_
  refine wc_text ?_
  refine wc_loadA (vs := [.int .i64 x0_0, .int .i64 x0_1]) HF rfl ag44 rfl ((HT.boxAt 0 rfl).part 0 2) rfl rfl (fun a HF => ?_)
  have HT : St w0 (fun _ => False) w [Box p2 [.int .i64 0, .int .i64 0], Box p3 [.int .i64 x0_0, .int .i64 x0_1], Box p1 [.int .i64 x0_0, .int .i64 x0_1]] := HT.pick 1
  refine wc_storeB (cs' := [.int .i64 x0_0, .int .i64 x0_1]) HF HT rfl rfl (fun w => (ag44 w).2) rfl rfl rfl rfl rfl (fun w HT => ⟨nS, ?_⟩)
  refine wc_end ?_
  refine then_n ?_
  refine wp_ret ?_
  have hj1 := Option.some.inj h
  obtain ⟨hi1, hj2⟩ := Prod.mk.inj hj1
  subst hi1
  subst hj2
  refine bp_ret HF (res_cell (vs := [.int .i64 x0_0, .int .i64 x0_1]) rfl HF rfl ag44 rfl (HT.boxAt 0 rfl)) ?_
  have HT : St w0 (fun _ => False) w [] := HT.take 0
  exact ⟨rfl, HT⟩

def m_laws_toRowS_L0 (fuel : Nat) (x0 : List I2) : Nat → (List I2) → Int → Option (List I2)
  | 0, _, _ => none
  | k1 + 1, z2, z3 =>
    if z3 < (x0.length : Int) then
      (at? x0 z3).bind fun e1 =>
      bind2 (m_laws_toRow fuel e1.a e1.b) fun y1 y2 =>
      (at? z2 z3).bind fun e2 =>
      if in64 (z3 + 1) then
        m_laws_toRowS_L0 fuel x0 k1 (z2.set z3.toNat (⟨y1, y2⟩ : I2)) (z3 + 1)
      else none
    else
      some z2

def m_laws_toRowS (fuel : Nat) (x0 : List I2) : Option (List I2) :=
  if 0 ≤ ((x0.length : Int) : Int) ∧ (x0.length : Int) ≤ 1048576 then
    (m_laws_toRowS_L0 fuel x0 fuel (List.replicate ((x0.length : Int) : Int).toNat ((⟨0, 0⟩ : I2) : I2)) 0).bind fun z1 =>
    some z1
  else none

set_option maxRecDepth 100000 in
set_option maxHeartbeats 4000000 in
theorem w_laws_toRowS (fuel : Nat) {x0 : List I2} {a_x0 : Option Addr} {n_x0 c_x0 : Nat} {r0 : List I2} {w0 : World} (h : m_laws_toRowS fuel x0 = some r0) (hr_x0 : RdT (fun b => ¬ False) w0 (rowT x0) (.slice a_x0 n_x0 c_x0)) :
    Calls Try.prog 11 #[.slice a_x0 n_x0 c_x0] w0 fun e w => ∃ a_r0 n_r0 c_r0, e = .returned (.slice a_r0 n_r0 c_r0) ∧ St w0 (fun _ => False) w [Own 44 (rowT r0) (.slice a_r0 n_r0 c_r0)] := by
  obtain rfl := hr_x0.neq
  have HT : St w0 (fun _ => False) w0 [] := St.init0
  rw [m_laws_toRowS] at h
  refine calls_fr (n := 23) [.slice a_x0 x0.length c_x0] Try.func11 rfl rfl rfl (fun a HF => ?_)
  have HT : St w0 (fun _ => False) w0 [] := HT
  refine wp_seq ?_
  refine wc_text ?_
  refine wc_assign HF nS rfl rfl rfl (fun a HF => ?_)
  refine wc_end ?_
  refine then_n ?_
  refine wp_seq ?_
  refine wc_text ?_
  refine wc_move HF nS rfl rfl rfl (fun a HF => ?_)
  refine wc_lenR HF nS Try.underlying22 rfl rfl rfl (fun a HF => ?_)
  obtain ⟨hg1, h⟩ := grd h
  refine wc_make (x := ((⟨0, 0⟩ : I2) : I2)) HF HT el25 rfl rfl hg1 rfl rfl rfl rfl (fun p1 w HT hb => ⟨nS, fun a HF => ?_⟩)
  refine wc_assign HF nS rfl rfl rfl (fun a HF => ?_)
  refine wc_end ?_
  refine then_n ?_
  obtain ⟨z1, hx1, h⟩ := obs h
  refine wp_cut (fun a w => ∃ a1 n1 c1, Fr a 23 [(3, .slice a1 n1 c1)] ∧ St w0 (fun _ => False) w [Own 44 (rowT z1) (.slice a1 n1 c1)]) ?_ ?_
  · have hk1 := h
    have h := hx1
    refine wp_seq ?_
    refine wc_text ?_
    refine wc_assign HF nS rfl rfl rfl (fun a HF => ?_)
    refine wc_end ?_
    refine then_n ?_
    refine wp_block ?_
    refine wp_loopN (fun k1 a w => ∃ z2 z3 a2 n2 c2, m_laws_toRowS_L0 fuel x0 k1 z2 z3 = some z1 ∧ Fr a 23 [(0, .slice a_x0 x0.length c_x0), (3, .slice a2 n2 c2), (4, .int .i64 z3)] ∧ St w0 (fun _ => False) w [Own 44 (rowT z2) (.slice a2 n2 c2)]) fuel ⟨List.replicate ((x0.length : Int) : Int).toNat ((⟨0, 0⟩ : I2) : I2), 0, (some ⟨p1, 0, none⟩), (List.replicate ((x0.length : Int) : Int).toNat ((⟨0, 0⟩ : I2) : I2)).length, (List.replicate ((x0.length : Int) : Int).toNat ((⟨0, 0⟩ : I2) : I2)).length, h, (HF.keep (HF.keep (HF.keep HF.nil rfl) rfl) rfl), HT⟩ ?_
    rintro k1 a w ⟨z2, z3, a2, n2, c2, h, HF, HT⟩
    cases k1 with
    | zero => cases h
    | succ k1 =>
      rw [m_laws_toRowS_L0] at h
      obtain rfl := (HT.rdAt 0 rfl).neq
      refine ?_
      refine wp_seq ?_
      refine wp_seq ?_
      refine wc_text ?_
      refine wc_move HF nS rfl rfl rfl (fun a HF => ?_)
      refine wc_move HF nS rfl rfl rfl (fun a HF => ?_)
      refine wc_lenR HF nS Try.underlying22 rfl rfl rfl (fun a HF => ?_)
      refine wc_bin HF nS rfl rfl b_lt rfl rfl (fun a HF => ?_)
      refine wc_end ?_
      refine then_n ?_
      by_cases hb1 : z3 < (x0.length : Int)
      · have h := (if_pos hb1).symm.trans h
        refine wp_if (b' := true) HF rfl (decide_eq_true hb1) ?_
        refine wp_skip ?_
        refine then_n ?_
        refine wp_seq ?_
        refine wp_block ?_
        refine wc_text ?_
        refine wc_move HF nS rfl rfl rfl (fun a HF => ?_)
        refine wc_move HF nS rfl rfl rfl (fun a HF => ?_)
        refine wc_move HF nS rfl rfl rfl (fun a HF => ?_)
        refine wc_move HF nS rfl rfl rfl (fun a HF => ?_)
        obtain ⟨e1, hx2, h⟩ := obs h
        obtain ⟨b1, o1, ha1⟩ := (HT.ro hr_x0).any.addr hx2
        refine wc_ixaddr HF nS el22 rfl ha1 ((HT.ro hr_x0).any).neq rfl hx2 rfl rfl (fun a HF => ?_)
        have hc1 := (HT.ro hr_x0).any.flatAt ha1 hx2
        refine wc_loadA (vs := [.int .i64 e1.a, .int .i64 e1.b]) HF rfl ag46 rfl (hc1.part 0 2) rfl rfl (fun a HF => ?_)
        obtain ⟨y1, y2, hx3, h⟩ := obs2 h
        refine wc_call HF cf32 rfl (w_laws_toRow fuel hx3) rfl rfl ?_
        rintro e w ⟨rfl, hE⟩
        have hb := hE.below
        have HT := HT.pure hE
        have HT : St w0 (fun _ => False) w [Own 44 (rowT z2) (.slice a2 z2.length c2)] := HT
        refine ⟨_, rfl, nS, fun a HF => ?_⟩
        obtain ⟨e2, hx4, h⟩ := obs h
        obtain ⟨b2, o2, ha2⟩ := (HT.rdAt 0 rfl).addr hx4
        refine wc_ixaddr HF nS el25 rfl ha2 ((HT.rdAt 0 rfl)).neq rfl hx4 rfl rfl (fun a HF => ?_)
        refine wc_storeR (i := z3) (j := 0) (x' := (⟨y1, y2⟩ : I2)) HF HT ha2 rfl rfl (fun w => (ag44 w).2) rfl rfl hx4 rfl rfl rfl rfl (fun w HT => ⟨nS, ?_⟩)
        refine wc_end ?_
        refine blk_n ?_
        refine then_n ?_
        refine wc_text ?_
        refine wc_move HF nS rfl rfl rfl (fun a HF => ?_)
        obtain ⟨hg2, h⟩ := grd h
        refine wc_bin HF nS rfl rfl (b_add hg2) rfl rfl (fun a HF => ?_)
        refine wc_assign HF nS rfl rfl rfl (fun a HF => ?_)
        refine wc_end ?_
        exact then_n ⟨k1, Nat.lt_succ_self k1, z2.set z3.toNat (⟨y1, y2⟩ : I2), z3 + 1, a2, z2.length, c2, h, (HF.keep (HF.keep (HF.keep HF.nil rfl) rfl) rfl), HT⟩
      · have h := (if_neg hb1).symm.trans h
        refine wp_if (b' := false) HF rfl (decide_eq_false hb1) ?_
        refine wp_exit ?_
        refine then_x (then_x (?_))
        refine blk_x ?_
        obtain rfl := Option.some.inj h
        exact then_n ⟨a2, z2.length, c2, (HF.keep HF.nil rfl), HT⟩
  · rintro a w ⟨a1, n1, c1, HF, HT⟩
    obtain rfl := (HT.rdAt 0 rfl).neq
    refine ?_
    refine wp_seq ?_
    refine wc_text ?_
    refine wc_move HF nS rfl rfl rfl (fun a HF => ?_)
    refine wc_assign HF nS rfl rfl rfl (fun a HF => ?_)
    refine wc_end ?_
    refine then_n ?_
    refine wp_ret ?_
    obtain rfl := Option.some.inj h
    refine bp_ret HF (res_one rfl HF rfl) ?_
    exact ⟨a1, z1.length, c1, rfl, HT⟩

def m_spec_l1In (fuel : Nat) (x0 : Int) (x1 : Int) (x2 : Int) : Option Bool :=
  if x1 ≤ x0 then
    some (decide (x0 ≤ x2))
  else
    some false

set_option maxRecDepth 100000 in
set_option maxHeartbeats 4000000 in
theorem w_spec_l1In (fuel : Nat) {x0 : Int} {x1 : Int} {x2 : Int} {r0 : Bool} {w0 : World} (h : m_spec_l1In fuel x0 x1 x2 = some r0) :
    Calls Try.prog 40 #[.int .i64 x0, .int .i64 x1, .int .i64 x2] w0 fun e w => e = .returned (.bool r0) ∧ St w0 (fun _ => False) w [] := by
  have HT : St w0 (fun _ => False) w0 [] := St.init0
  rw [m_spec_l1In] at h
  refine calls_fr (n := 15) [.int .i64 x0, .int .i64 x1, .int .i64 x2] Try.func40 rfl rfl rfl (fun a HF => ?_)
  have HT : St w0 (fun _ => False) w0 [] := HT
  refine wp_seq ?_
  refine wc_text ?_
  refine wc_assign HF nS rfl rfl rfl (fun a HF => ?_)
  refine wc_end ?_
  refine then_n ?_
  refine wp_seq ?_
  refine wc_text ?_
  refine wc_move HF nS rfl rfl rfl (fun a HF => ?_)
  refine wc_move HF nS rfl rfl rfl (fun a HF => ?_)
  refine wc_bin HF nS rfl rfl b_ge rfl rfl (fun a HF => ?_)
  refine wc_move HF nS rfl rfl rfl (fun a HF => ?_)
  by_cases hb1 : x1 ≤ x0
  · have h := (if_pos hb1).symm.trans h
    refine wc_move HF nS rfl (HF.wy rfl rfl rfl rfl (decide_eq_true hb1)) rfl (fun a HF => ?_)
    refine wc_move HF nS rfl (HF.wy rfl rfl rfl rfl (decide_eq_true hb1)) rfl (fun a HF => ?_)
    refine wc_bin HF nS rfl rfl b_le (HF.wy rfl rfl rfl rfl (decide_eq_true hb1)) rfl (fun a HF => ?_)
    refine wc_pick (b := true) HF nS rfl (decide_eq_true hb1) rfl rfl rfl (fun a HF => ?_)
    refine wc_assign HF nS rfl rfl rfl (fun a HF => ?_)
    refine wc_end ?_
    refine then_n ?_
    refine wp_ret ?_
    obtain rfl := Option.some.inj h
    refine bp_ret HF (res_one rfl HF rfl) ?_
    exact ⟨rfl, HT⟩
  · have h := (if_neg hb1).symm.trans h
    refine wc_skip HF nS (HF.wn rfl rfl rfl rfl (decide_eq_false hb1)) rfl (fun a HF => ?_)
    refine wc_skip HF nS (HF.wn rfl rfl rfl rfl (decide_eq_false hb1)) rfl (fun a HF => ?_)
    refine wc_skip HF nS (HF.wn rfl rfl rfl rfl (decide_eq_false hb1)) rfl (fun a HF => ?_)
    refine wc_pick (b := false) HF nS rfl (decide_eq_false hb1) rfl rfl rfl (fun a HF => ?_)
    refine wc_assign HF nS rfl rfl rfl (fun a HF => ?_)
    refine wc_end ?_
    refine then_n ?_
    refine wp_ret ?_
    obtain rfl := Option.some.inj h
    refine bp_ret HF (res_one rfl HF rfl) ?_
    exact ⟨rfl, HT⟩

def m_spec_l3Cell (fuel : Nat) (x0 : Int) : Option Bool :=
  (m_spec_l1In fuel x0 0 7).bind fun y1 =>
  some y1

set_option maxRecDepth 100000 in
set_option maxHeartbeats 4000000 in
theorem w_spec_l3Cell (fuel : Nat) {x0 : Int} {r0 : Bool} {w0 : World} (h : m_spec_l3Cell fuel x0 = some r0) :
    Calls Try.prog 30 #[.int .i64 x0] w0 fun e w => e = .returned (.bool r0) ∧ St w0 (fun _ => False) w [] := by
  have HT : St w0 (fun _ => False) w0 [] := St.init0
  rw [m_spec_l3Cell] at h
  refine calls_fr (n := 5) [.int .i64 x0] Try.func30 rfl rfl rfl (fun a HF => ?_)
  have HT : St w0 (fun _ => False) w0 [] := HT
  refine wp_seq ?_
  refine wc_text ?_
  refine wc_assign HF nS rfl rfl rfl (fun a HF => ?_)
  refine wc_end ?_
  refine then_n ?_
  refine wp_seq ?_
  refine wc_text ?_
  refine wc_move HF nS rfl rfl rfl (fun a HF => ?_)
  obtain ⟨y1, hx1, h⟩ := obs h
  refine wc_call HF cf40 rfl (w_spec_l1In fuel hx1) rfl rfl ?_
  rintro e w ⟨rfl, hE⟩
  have hb := hE.below
  have HT := HT.pure hE
  have HT : St w0 (fun _ => False) w [] := HT
  refine ⟨_, rfl, nS, fun a HF => ?_⟩
  refine wc_assign HF nS rfl rfl rfl (fun a HF => ?_)
  refine wc_end ?_
  refine then_n ?_
  refine wp_ret ?_
  obtain rfl := Option.some.inj h
  refine bp_ret HF (res_one rfl HF rfl) ?_
  exact ⟨rfl, HT⟩

def m_spec_l3Val (fuel : Nat) (x0 : Int) : Option Bool :=
  (m_spec_l1In fuel x0 0 65535).bind fun y1 =>
  some y1

set_option maxRecDepth 100000 in
set_option maxHeartbeats 4000000 in
theorem w_spec_l3Val (fuel : Nat) {x0 : Int} {r0 : Bool} {w0 : World} (h : m_spec_l3Val fuel x0 = some r0) :
    Calls Try.prog 31 #[.int .i64 x0] w0 fun e w => e = .returned (.bool r0) ∧ St w0 (fun _ => False) w [] := by
  have HT : St w0 (fun _ => False) w0 [] := St.init0
  rw [m_spec_l3Val] at h
  refine calls_fr (n := 5) [.int .i64 x0] Try.func31 rfl rfl rfl (fun a HF => ?_)
  have HT : St w0 (fun _ => False) w0 [] := HT
  refine wp_seq ?_
  refine wc_text ?_
  refine wc_assign HF nS rfl rfl rfl (fun a HF => ?_)
  refine wc_end ?_
  refine then_n ?_
  refine wp_seq ?_
  refine wc_text ?_
  refine wc_move HF nS rfl rfl rfl (fun a HF => ?_)
  obtain ⟨y1, hx1, h⟩ := obs h
  refine wc_call HF cf40 rfl (w_spec_l1In fuel hx1) rfl rfl ?_
  rintro e w ⟨rfl, hE⟩
  have hb := hE.below
  have HT := HT.pure hE
  have HT : St w0 (fun _ => False) w [] := HT
  refine ⟨_, rfl, nS, fun a HF => ?_⟩
  refine wc_assign HF nS rfl rfl rfl (fun a HF => ?_)
  refine wc_end ?_
  refine then_n ?_
  refine wp_ret ?_
  obtain rfl := Option.some.inj h
  refine bp_ret HF (res_one rfl HF rfl) ?_
  exact ⟨rfl, HT⟩

def m_spec_RowsOk_L0 (fuel : Nat) (x0 : List I2) : Nat → Int → Option (Lp Unit Bool)
  | 0, _ => none
  | k1 + 1, z1 =>
    if z1 < (x0.length : Int) then
      (at? x0 z1).bind fun e1 =>
      (m_spec_l3Cell fuel e1.a).bind fun y1 =>
      if y1 = true then
        (m_spec_l3Val fuel e1.b).bind fun y2 =>
        if y2 = true then
          if in64 (z1 + 1) then
            m_spec_RowsOk_L0 fuel x0 k1 (z1 + 1)
          else none
        else
          some (.ret false)
      else
        some (.ret false)
    else
      some (.brk ())

def m_spec_RowsOk (fuel : Nat) (x0 : List I2) : Option Bool :=
  if 300 < (x0.length : Int) then
    some false
  else
    (m_spec_RowsOk_L0 fuel x0 fuel 0).bind <| contL <| un1 fun _ =>
    some true

set_option maxRecDepth 100000 in
set_option maxHeartbeats 4000000 in
theorem w_spec_RowsOk (fuel : Nat) {x0 : List I2} {a_x0 : Option Addr} {n_x0 c_x0 : Nat} {r0 : Bool} {w0 : World} (h : m_spec_RowsOk fuel x0 = some r0) (hr_x0 : RdT (fun b => ¬ False) w0 (rowT x0) (.slice a_x0 n_x0 c_x0)) :
    Calls Try.prog 10 #[.slice a_x0 n_x0 c_x0] w0 fun e w => e = .returned (.bool r0) ∧ St w0 (fun _ => False) w [] := by
  obtain rfl := hr_x0.neq
  have HT : St w0 (fun _ => False) w0 [] := St.init0
  rw [m_spec_RowsOk] at h
  refine calls_fr (n := 29) [.slice a_x0 x0.length c_x0] Try.func10 rfl rfl rfl (fun a HF => ?_)
  have HT : St w0 (fun _ => False) w0 [] := HT
  refine wp_seq ?_
  refine wc_text ?_
  refine wc_assign HF nS rfl rfl rfl (fun a HF => ?_)
  refine wc_end ?_
  refine then_n ?_
  refine wp_seq ?_
  refine wp_seq ?_
  refine wc_text ?_
  refine wc_move HF nS rfl rfl rfl (fun a HF => ?_)
  refine wc_lenR HF nS Try.underlying25 rfl rfl rfl (fun a HF => ?_)
  refine wc_bin HF nS rfl rfl b_gt rfl rfl (fun a HF => ?_)
  refine wc_end ?_
  refine then_n ?_
  by_cases hb1 : 300 < (x0.length : Int)
  · have h := (if_pos hb1).symm.trans h
    refine wp_if (b' := true) HF rfl (decide_eq_true hb1) ?_
    refine wp_seq ?_
    refine wc_text ?_
    refine wc_assign HF nS rfl rfl rfl (fun a HF => ?_)
    refine wc_end ?_
    refine then_n ?_
    refine wp_ret ?_
    obtain rfl := Option.some.inj h
    refine then_r (?_)
    refine bp_ret HF (res_one rfl HF rfl) ?_
    exact ⟨rfl, HT⟩
  · have h := (if_neg hb1).symm.trans h
    refine wp_if (b' := false) HF rfl (decide_eq_false hb1) ?_
    refine wp_skip ?_
    refine then_n ?_
    obtain ⟨q1, hx1, h⟩ := obs h
    refine wp_cut (fun a w => q1 = .brk () ∧ Fr a 29 [] ∧ St w0 (fun _ => False) w []) ?_ ?_
    · have hk1 := h
      have h := hx1
      refine wp_seq ?_
      refine wc_text ?_
      refine wc_assign HF nS rfl rfl rfl (fun a HF => ?_)
      refine wc_end ?_
      refine then_n ?_
      refine wp_block ?_
      refine wp_loopN (fun k1 a w => ∃ z1, m_spec_RowsOk_L0 fuel x0 k1 z1 = some q1 ∧ Fr a 29 [(0, .slice a_x0 x0.length c_x0), (3, .int .i64 z1)] ∧ St w0 (fun _ => False) w []) fuel ⟨0, h, (HF.keep (HF.keep HF.nil rfl) rfl), HT⟩ ?_
      rintro k1 a w ⟨z1, h, HF, HT⟩
      cases k1 with
      | zero => cases h
      | succ k1 =>
        rw [m_spec_RowsOk_L0] at h
        refine ?_
        refine wp_seq ?_
        refine wp_seq ?_
        refine wc_text ?_
        refine wc_move HF nS rfl rfl rfl (fun a HF => ?_)
        refine wc_move HF nS rfl rfl rfl (fun a HF => ?_)
        refine wc_lenR HF nS Try.underlying25 rfl rfl rfl (fun a HF => ?_)
        refine wc_bin HF nS rfl rfl b_lt rfl rfl (fun a HF => ?_)
        refine wc_end ?_
        refine then_n ?_
        by_cases hb2 : z1 < (x0.length : Int)
        · have h := (if_pos hb2).symm.trans h
          refine wp_if (b' := true) HF rfl (decide_eq_true hb2) ?_
          refine wp_skip ?_
          refine then_n ?_
          refine wp_seq ?_
          refine wp_block ?_
          refine wp_seq ?_
          refine wc_text ?_
          refine wc_move HF nS rfl rfl rfl (fun a HF => ?_)
          refine wc_move HF nS rfl rfl rfl (fun a HF => ?_)
          obtain ⟨e1, hx2, h⟩ := obs h
          obtain ⟨b1, o1, ha1⟩ := (HT.ro hr_x0).any.addr hx2
          refine wc_ixaddr HF nS el25 rfl ha1 ((HT.ro hr_x0).any).neq rfl hx2 rfl rfl (fun a HF => ?_)
          refine wc_faddr HF nS rfl fl44_0 rfl rfl (fun a HF => ?_)
          have hc1 := (HT.ro hr_x0).any.flatAt ha1 hx2
          refine wc_load HF rfl sc3 (hc1.get 0 rfl) rfl rfl (fun a HF => ?_)
          obtain ⟨y1, hx3, h⟩ := obs h
          refine wc_call HF cf30 rfl (w_spec_l3Cell fuel hx3) rfl rfl ?_
          rintro e w ⟨rfl, hE⟩
          have hb := hE.below
          have HT := HT.pure hE
          have HT : St w0 (fun _ => False) w [] := HT
          refine ⟨_, rfl, nS, fun a HF => ?_⟩
          refine wc_not HF nS rfl rfl rfl (fun a HF => ?_)
          refine wc_move HF nS rfl rfl rfl (fun a HF => ?_)
          by_cases hb3 : y1 = true
          · have h := (if_pos hb3).symm.trans h
            refine wc_move HF nS rfl (HF.wy rfl rfl rfl rfl (notT hb3)) rfl (fun a HF => ?_)
            refine wc_move HF nS rfl (HF.wy rfl rfl rfl rfl (notT hb3)) rfl (fun a HF => ?_)
            refine wc_ixaddr HF nS el25 rfl ha1 ((HT.ro hr_x0).any).neq rfl hx2 (HF.wy rfl rfl rfl rfl (notT hb3)) rfl (fun a HF => ?_)
            refine wc_faddr HF nS rfl fl44_1 (HF.wy rfl rfl rfl rfl (notT hb3)) rfl (fun a HF => ?_)
            have hc2 := (HT.ro hr_x0).any.flatAt ha1 hx2
            refine wc_load HF rfl sc3 (hc2.get 1 rfl) (HF.wy rfl rfl rfl rfl (notT hb3)) rfl (fun a HF => ?_)
            obtain ⟨y2, hx4, h⟩ := obs h
            refine wc_call HF cf31 rfl (w_spec_l3Val fuel hx4) (HF.wy rfl rfl rfl rfl (notT hb3)) rfl ?_
            rintro e w ⟨rfl, hE⟩
            have hb := hE.below
            have HT := HT.pure hE
            have HT : St w0 (fun _ => False) w [] := HT
            refine ⟨_, rfl, nS, fun a HF => ?_⟩
            refine wc_not HF nS rfl (HF.wy rfl rfl rfl rfl (notT hb3)) rfl (fun a HF => ?_)
            refine wc_pick (b := false) HF nS rfl (notT hb3) rfl rfl rfl (fun a HF => ?_)
            refine wc_end ?_
            refine then_n ?_
            by_cases hb4 : y2 = true
            · have h := (if_pos hb4).symm.trans h
              refine wp_if (b' := false) HF rfl (notT hb4) ?_
              refine wp_skip ?_
              refine blk_n ?_
              refine then_n ?_
              refine wc_text ?_
              refine wc_move HF nS rfl rfl rfl (fun a HF => ?_)
              obtain ⟨hg1, h⟩ := grd h
              refine wc_bin HF nS rfl rfl (b_add hg1) rfl rfl (fun a HF => ?_)
              refine wc_assign HF nS rfl rfl rfl (fun a HF => ?_)
              refine wc_end ?_
              exact then_n ⟨k1, Nat.lt_succ_self k1, z1 + 1, h, (HF.keep (HF.keep HF.nil rfl) rfl), HT⟩
            · have h := (if_neg hb4).symm.trans h
              refine wp_if (b' := true) HF rfl (notF (Bool.eq_false_iff.2 hb4)) ?_
              refine wp_seq ?_
              refine wc_text ?_
              refine wc_assign HF nS rfl rfl rfl (fun a HF => ?_)
              refine wc_end ?_
              refine then_n ?_
              refine wp_ret ?_
              obtain rfl := Option.some.inj h
              have h := retL hk1
              obtain rfl := Option.some.inj h
              refine blk_r (then_r (then_r (blk_r (then_r (?_)))))
              refine bp_ret HF (res_one rfl HF rfl) ?_
              exact ⟨rfl, HT⟩
          · have h := (if_neg hb3).symm.trans h
            refine wc_skip HF nS (HF.wn rfl rfl rfl rfl (notF (Bool.eq_false_iff.2 hb3))) rfl (fun a HF => ?_)
            refine wc_skip HF nS (HF.wn rfl rfl rfl rfl (notF (Bool.eq_false_iff.2 hb3))) rfl (fun a HF => ?_)
            refine wc_skip HF nS (HF.wn rfl rfl rfl rfl (notF (Bool.eq_false_iff.2 hb3))) rfl (fun a HF => ?_)
            refine wc_skip HF nS (HF.wn rfl rfl rfl rfl (notF (Bool.eq_false_iff.2 hb3))) rfl (fun a HF => ?_)
            refine wc_skip HF nS (HF.wn rfl rfl rfl rfl (notF (Bool.eq_false_iff.2 hb3))) rfl (fun a HF => ?_)
            refine wc_skip HF nS (HF.wn rfl rfl rfl rfl (notF (Bool.eq_false_iff.2 hb3))) rfl (fun a HF => ?_)
            refine wc_skip HF nS (HF.wn rfl rfl rfl rfl (notF (Bool.eq_false_iff.2 hb3))) rfl (fun a HF => ?_)
            refine wc_pick (b := true) HF nS rfl (notF (Bool.eq_false_iff.2 hb3)) rfl rfl rfl (fun a HF => ?_)
            refine wc_end ?_
            refine then_n ?_
            refine wp_if (b' := true) HF rfl rfl ?_
            refine wp_seq ?_
            refine wc_text ?_
            refine wc_assign HF nS rfl rfl rfl (fun a HF => ?_)
            refine wc_end ?_
            refine then_n ?_
            refine wp_ret ?_
            obtain rfl := Option.some.inj h
            have h := retL hk1
            obtain rfl := Option.some.inj h
            refine blk_r (then_r (then_r (blk_r (then_r (?_)))))
            refine bp_ret HF (res_one rfl HF rfl) ?_
            exact ⟨rfl, HT⟩
        · have h := (if_neg hb2).symm.trans h
          refine wp_if (b' := false) HF rfl (decide_eq_false hb2) ?_
          refine wp_exit ?_
          refine then_x (then_x (?_))
          refine blk_x ?_
          exact then_n ⟨(Option.some.inj h).symm, HF.nil, HT⟩
    · rintro a w ⟨rfl, HF, HT⟩
      have h := brkL1 h
      refine ?_
      refine wp_seq ?_
      refine wc_text ?_
      refine wc_assign HF nS rfl rfl rfl (fun a HF => ?_)
      refine wc_end ?_
      refine then_n ?_
      refine wp_ret ?_
      obtain rfl := Option.some.inj h
      refine bp_ret HF (res_one rfl HF rfl) ?_
      exact ⟨rfl, HT⟩

def m_impl_within (fuel : Nat) (x0 : Int) (x1 : Int) (x2 : Int) : Option Bool :=
  if x1 ≤ x0 then
    some (decide (x0 ≤ x2))
  else
    some false

set_option maxRecDepth 100000 in
set_option maxHeartbeats 4000000 in
theorem w_impl_within (fuel : Nat) {x0 : Int} {x1 : Int} {x2 : Int} {r0 : Bool} {w0 : World} (h : m_impl_within fuel x0 x1 x2 = some r0) :
    Calls Try.prog 41 #[.int .i64 x0, .int .i64 x1, .int .i64 x2] w0 fun e w => e = .returned (.bool r0) ∧ St w0 (fun _ => False) w [] := by
  have HT : St w0 (fun _ => False) w0 [] := St.init0
  rw [m_impl_within] at h
  refine calls_fr (n := 15) [.int .i64 x0, .int .i64 x1, .int .i64 x2] Try.func41 rfl rfl rfl (fun a HF => ?_)
  have HT : St w0 (fun _ => False) w0 [] := HT
  refine wp_seq ?_
  refine wc_text ?_
  refine wc_assign HF nS rfl rfl rfl (fun a HF => ?_)
  refine wc_end ?_
  refine then_n ?_
  refine wp_seq ?_
  refine wc_text ?_
  refine wc_move HF nS rfl rfl rfl (fun a HF => ?_)
  refine wc_move HF nS rfl rfl rfl (fun a HF => ?_)
  refine wc_bin HF nS rfl rfl b_ge rfl rfl (fun a HF => ?_)
  refine wc_move HF nS rfl rfl rfl (fun a HF => ?_)
  by_cases hb1 : x1 ≤ x0
  · have h := (if_pos hb1).symm.trans h
    refine wc_move HF nS rfl (HF.wy rfl rfl rfl rfl (decide_eq_true hb1)) rfl (fun a HF => ?_)
    refine wc_move HF nS rfl (HF.wy rfl rfl rfl rfl (decide_eq_true hb1)) rfl (fun a HF => ?_)
    refine wc_bin HF nS rfl rfl b_le (HF.wy rfl rfl rfl rfl (decide_eq_true hb1)) rfl (fun a HF => ?_)
    refine wc_pick (b := true) HF nS rfl (decide_eq_true hb1) rfl rfl rfl (fun a HF => ?_)
    refine wc_assign HF nS rfl rfl rfl (fun a HF => ?_)
    refine wc_end ?_
    refine then_n ?_
    refine wp_ret ?_
    obtain rfl := Option.some.inj h
    refine bp_ret HF (res_one rfl HF rfl) ?_
    exact ⟨rfl, HT⟩
  · have h := (if_neg hb1).symm.trans h
    refine wc_skip HF nS (HF.wn rfl rfl rfl rfl (decide_eq_false hb1)) rfl (fun a HF => ?_)
    refine wc_skip HF nS (HF.wn rfl rfl rfl rfl (decide_eq_false hb1)) rfl (fun a HF => ?_)
    refine wc_skip HF nS (HF.wn rfl rfl rfl rfl (decide_eq_false hb1)) rfl (fun a HF => ?_)
    refine wc_pick (b := false) HF nS rfl (decide_eq_false hb1) rfl rfl rfl (fun a HF => ?_)
    refine wc_assign HF nS rfl rfl rfl (fun a HF => ?_)
    refine wc_end ?_
    refine then_n ?_
    refine wp_ret ?_
    obtain rfl := Option.some.inj h
    refine bp_ret HF (res_one rfl HF rfl) ?_
    exact ⟨rfl, HT⟩

def m_impl_isCell (fuel : Nat) (x0 : Int) : Option Bool :=
  (m_impl_within fuel x0 0 7).bind fun y1 =>
  some y1

set_option maxRecDepth 100000 in
set_option maxHeartbeats 4000000 in
theorem w_impl_isCell (fuel : Nat) {x0 : Int} {r0 : Bool} {w0 : World} (h : m_impl_isCell fuel x0 = some r0) :
    Calls Try.prog 33 #[.int .i64 x0] w0 fun e w => e = .returned (.bool r0) ∧ St w0 (fun _ => False) w [] := by
  have HT : St w0 (fun _ => False) w0 [] := St.init0
  rw [m_impl_isCell] at h
  refine calls_fr (n := 5) [.int .i64 x0] Try.func33 rfl rfl rfl (fun a HF => ?_)
  have HT : St w0 (fun _ => False) w0 [] := HT
  refine wp_seq ?_
  refine wc_text ?_
  refine wc_assign HF nS rfl rfl rfl (fun a HF => ?_)
  refine wc_end ?_
  refine then_n ?_
  refine wp_seq ?_
  refine wc_text ?_
  refine wc_move HF nS rfl rfl rfl (fun a HF => ?_)
  obtain ⟨y1, hx1, h⟩ := obs h
  refine wc_call HF cf41 rfl (w_impl_within fuel hx1) rfl rfl ?_
  rintro e w ⟨rfl, hE⟩
  have hb := hE.below
  have HT := HT.pure hE
  have HT : St w0 (fun _ => False) w [] := HT
  refine ⟨_, rfl, nS, fun a HF => ?_⟩
  refine wc_assign HF nS rfl rfl rfl (fun a HF => ?_)
  refine wc_end ?_
  refine then_n ?_
  refine wp_ret ?_
  obtain rfl := Option.some.inj h
  refine bp_ret HF (res_one rfl HF rfl) ?_
  exact ⟨rfl, HT⟩

def m_impl_isValue (fuel : Nat) (x0 : Int) : Option Bool :=
  (m_impl_within fuel x0 0 65535).bind fun y1 =>
  some y1

set_option maxRecDepth 100000 in
set_option maxHeartbeats 4000000 in
theorem w_impl_isValue (fuel : Nat) {x0 : Int} {r0 : Bool} {w0 : World} (h : m_impl_isValue fuel x0 = some r0) :
    Calls Try.prog 34 #[.int .i64 x0] w0 fun e w => e = .returned (.bool r0) ∧ St w0 (fun _ => False) w [] := by
  have HT : St w0 (fun _ => False) w0 [] := St.init0
  rw [m_impl_isValue] at h
  refine calls_fr (n := 5) [.int .i64 x0] Try.func34 rfl rfl rfl (fun a HF => ?_)
  have HT : St w0 (fun _ => False) w0 [] := HT
  refine wp_seq ?_
  refine wc_text ?_
  refine wc_assign HF nS rfl rfl rfl (fun a HF => ?_)
  refine wc_end ?_
  refine then_n ?_
  refine wp_seq ?_
  refine wc_text ?_
  refine wc_move HF nS rfl rfl rfl (fun a HF => ?_)
  obtain ⟨y1, hx1, h⟩ := obs h
  refine wc_call HF cf41 rfl (w_impl_within fuel hx1) rfl rfl ?_
  rintro e w ⟨rfl, hE⟩
  have hb := hE.below
  have HT := HT.pure hE
  have HT : St w0 (fun _ => False) w [] := HT
  refine ⟨_, rfl, nS, fun a HF => ?_⟩
  refine wc_assign HF nS rfl rfl rfl (fun a HF => ?_)
  refine wc_end ?_
  refine then_n ?_
  refine wp_ret ?_
  obtain rfl := Option.some.inj h
  refine bp_ret HF (res_one rfl HF rfl) ?_
  exact ⟨rfl, HT⟩

def m_impl_RowsOk_L0 (fuel : Nat) (x0 : List I2) : Nat → Int → Option (Lp Unit Bool)
  | 0, _ => none
  | k1 + 1, z1 =>
    if z1 < (x0.length : Int) then
      (at? x0 z1).bind fun e1 =>
      (m_impl_isCell fuel e1.a).bind fun y1 =>
      if y1 = true then
        (m_impl_isValue fuel e1.b).bind fun y2 =>
        if y2 = true then
          if in64 (z1 + 1) then
            m_impl_RowsOk_L0 fuel x0 k1 (z1 + 1)
          else none
        else
          some (.ret false)
      else
        some (.ret false)
    else
      some (.brk ())

def m_impl_RowsOk (fuel : Nat) (x0 : List I2) : Option Bool :=
  (m_impl_RowsOk_L0 fuel x0 fuel 0).bind <| contL <| un1 fun _ =>
  some (decide ((x0.length : Int) ≤ 300))

set_option maxRecDepth 100000 in
set_option maxHeartbeats 4000000 in
theorem w_impl_RowsOk (fuel : Nat) {x0 : List I2} {a_x0 : Option Addr} {n_x0 c_x0 : Nat} {r0 : Bool} {w0 : World} (h : m_impl_RowsOk fuel x0 = some r0) (hr_x0 : RdT (fun b => ¬ False) w0 (rowT x0) (.slice a_x0 n_x0 c_x0)) :
    Calls Try.prog 12 #[.slice a_x0 n_x0 c_x0] w0 fun e w => e = .returned (.bool r0) ∧ St w0 (fun _ => False) w [] := by
  obtain rfl := hr_x0.neq
  have HT : St w0 (fun _ => False) w0 [] := St.init0
  rw [m_impl_RowsOk] at h
  refine calls_fr (n := 25) [.slice a_x0 x0.length c_x0] Try.func12 rfl rfl rfl (fun a HF => ?_)
  have HT : St w0 (fun _ => False) w0 [] := HT
  refine wp_seq ?_
  refine wc_text ?_
  refine wc_assign HF nS rfl rfl rfl (fun a HF => ?_)
  refine wc_end ?_
  refine then_n ?_
  obtain ⟨q1, hx1, h⟩ := obs h
  refine wp_cut (fun a w => q1 = .brk () ∧ Fr a 25 [(0, .slice a_x0 x0.length c_x0)] ∧ St w0 (fun _ => False) w []) ?_ ?_
  · have hk1 := h
    have h := hx1
    refine wp_seq ?_
    refine wc_text ?_
    refine wc_move HF nS rfl rfl rfl (fun a HF => ?_)
    refine wc_lenR HF nS Try.underlying25 rfl rfl rfl (fun a HF => ?_)
    refine wc_move HF nS rfl rfl rfl (fun a HF => ?_)
    refine wc_end ?_
    refine then_n ?_
    refine wp_block ?_
    refine wp_loopN (fun k1 a w => ∃ z1, m_impl_RowsOk_L0 fuel x0 k1 z1 = some q1 ∧ Fr a 25 [(0, .slice a_x0 x0.length c_x0), (5, .slice a_x0 x0.length c_x0), (6, .int .i64 (x0.length : Int)), (7, .int .i64 z1)] ∧ St w0 (fun _ => False) w []) fuel ⟨0, h, (HF.keep (HF.keep (HF.keep (HF.keep HF.nil rfl) rfl) rfl) rfl), HT⟩ ?_
    rintro k1 a w ⟨z1, h, HF, HT⟩
    cases k1 with
    | zero => cases h
    | succ k1 =>
      rw [m_impl_RowsOk_L0] at h
      refine ?_
      refine wp_seq ?_
      refine wc_text ?_
      refine wc_bin HF nS rfl rfl b_lt rfl rfl (fun a HF => ?_)
      refine wc_end ?_
      refine then_n ?_
      refine wp_seq ?_
      by_cases hb1 : z1 < (x0.length : Int)
      · have h := (if_pos hb1).symm.trans h
        refine wp_if (b' := true) HF rfl (decide_eq_true hb1) ?_
        refine wp_skip ?_
        refine then_n ?_
        refine wp_seq ?_
        refine wp_block ?_
        refine wp_seq ?_
        refine wc_text ?_
        obtain ⟨e1, hx2, h⟩ := obs h
        obtain ⟨b1, o1, ha1⟩ := (HT.ro hr_x0).any.addr hx2
        refine wc_ixaddr HF nS el25 rfl ha1 ((HT.ro hr_x0).any).neq rfl hx2 rfl rfl (fun a HF => ?_)
        have hc1 := (HT.ro hr_x0).any.flatAt ha1 hx2
        refine wc_loadA (vs := [.int .i64 e1.a, .int .i64 e1.b]) HF rfl ag44 rfl (hc1.part 0 2) rfl rfl (fun a HF => ?_)
        refine wc_alloc (cs := [.int .i64 0, .int .i64 0]) HF HT zr44 rfl rfl rfl (fun p1 w HT hb => ⟨nS, fun a HF => ?_⟩)
        refine wc_storeB (cs' := [.int .i64 e1.a, .int .i64 e1.b]) HF HT rfl rfl (fun w => (ag44 w).2) rfl rfl rfl rfl rfl (fun w HT => ⟨nS, ?_⟩)
        refine wc_end ?_
        refine then_n ?_
        refine wp_seq ?_
        refine wc_text ?_
        refine wc_faddr HF nS rfl fl44_0 rfl rfl (fun a HF => ?_)
        refine wc_load HF rfl sc3 ((HT.boxAt 0 rfl).get 0 rfl) rfl rfl (fun a HF => ?_)
        obtain ⟨y1, hx3, h⟩ := obs h
        refine wc_call HF cf33 rfl (w_impl_isCell fuel hx3) rfl rfl ?_
        rintro e w ⟨rfl, hE⟩
        have hb := hE.below
        have HT := HT.pure hE
        have HT : St w0 (fun _ => False) w [Box p1 [.int .i64 e1.a, .int .i64 e1.b]] := HT
        refine ⟨_, rfl, nS, fun a HF => ?_⟩
        refine wc_not HF nS rfl rfl rfl (fun a HF => ?_)
        refine wc_move HF nS rfl rfl rfl (fun a HF => ?_)
        by_cases hb2 : y1 = true
        · have h := (if_pos hb2).symm.trans h
          refine wc_faddr HF nS rfl fl44_1 (HF.wy rfl rfl rfl rfl (notT hb2)) rfl (fun a HF => ?_)
          refine wc_load HF rfl sc3 ((HT.boxAt 0 rfl).get 1 rfl) (HF.wy rfl rfl rfl rfl (notT hb2)) rfl (fun a HF => ?_)
          obtain ⟨y2, hx4, h⟩ := obs h
          refine wc_call HF cf34 rfl (w_impl_isValue fuel hx4) (HF.wy rfl rfl rfl rfl (notT hb2)) rfl ?_
          rintro e w ⟨rfl, hE⟩
          have hb := hE.below
          have HT := HT.pure hE
          have HT : St w0 (fun _ => False) w [Box p1 [.int .i64 e1.a, .int .i64 e1.b]] := HT
          refine ⟨_, rfl, nS, fun a HF => ?_⟩
          refine wc_not HF nS rfl (HF.wy rfl rfl rfl rfl (notT hb2)) rfl (fun a HF => ?_)
          refine wc_pick (b := false) HF nS rfl (notT hb2) rfl rfl rfl (fun a HF => ?_)
          refine wc_end ?_
          refine then_n ?_
          by_cases hb3 : y2 = true
          · have h := (if_pos hb3).symm.trans h
            refine wp_if (b' := false) HF rfl (notT hb3) ?_
            refine wp_skip ?_
            refine blk_n ?_
            refine then_n ?_
            refine wc_text ?_
            obtain ⟨hg1, h⟩ := grd h
            refine wc_bin HF nS rfl rfl (b_add hg1) rfl rfl (fun a HF => ?_)
            refine wc_move HF nS rfl rfl rfl (fun a HF => ?_)
            refine wc_end ?_
            have HT : St w0 (fun _ => False) w [] := HT.take 0
            exact then_n ⟨k1, Nat.lt_succ_self k1, z1 + 1, h, (HF.keep (HF.keep (HF.keep (HF.keep HF.nil rfl) rfl) rfl) rfl), HT⟩
          · have h := (if_neg hb3).symm.trans h
            refine wp_if (b' := true) HF rfl (notF (Bool.eq_false_iff.2 hb3)) ?_
            refine wp_seq ?_
            refine wc_text ?_
            refine wc_assign HF nS rfl rfl rfl (fun a HF => ?_)
            refine wc_end ?_
            refine then_n ?_
            refine wp_ret ?_
            obtain rfl := Option.some.inj h
            have h := retL hk1
            obtain rfl := Option.some.inj h
            refine blk_r (then_r (then_r (blk_r (then_r (?_)))))
            refine bp_ret HF (res_one rfl HF rfl) ?_
            have HT : St w0 (fun _ => False) w [] := HT.take 0
            exact ⟨rfl, HT⟩
        · have h := (if_neg hb2).symm.trans h
          refine wc_skip HF nS (HF.wn rfl rfl rfl rfl (notF (Bool.eq_false_iff.2 hb2))) rfl (fun a HF => ?_)
          refine wc_skip HF nS (HF.wn rfl rfl rfl rfl (notF (Bool.eq_false_iff.2 hb2))) rfl (fun a HF => ?_)
          refine wc_skip HF nS (HF.wn rfl rfl rfl rfl (notF (Bool.eq_false_iff.2 hb2))) rfl (fun a HF => ?_)
          refine wc_skip HF nS (HF.wn rfl rfl rfl rfl (notF (Bool.eq_false_iff.2 hb2))) rfl (fun a HF => ?_)
          refine wc_pick (b := true) HF nS rfl (notF (Bool.eq_false_iff.2 hb2)) rfl rfl rfl (fun a HF => ?_)
          refine wc_end ?_
          refine then_n ?_
          refine wp_if (b' := true) HF rfl rfl ?_
          refine wp_seq ?_
          refine wc_text ?_
          refine wc_assign HF nS rfl rfl rfl (fun a HF => ?_)
          refine wc_end ?_
          refine then_n ?_
          refine wp_ret ?_
          obtain rfl := Option.some.inj h
          have h := retL hk1
          obtain rfl := Option.some.inj h
          refine blk_r (then_r (then_r (blk_r (then_r (?_)))))
          refine bp_ret HF (res_one rfl HF rfl) ?_
          have HT : St w0 (fun _ => False) w [] := HT.take 0
          exact ⟨rfl, HT⟩
      · have h := (if_neg hb1).symm.trans h
        refine wp_if (b' := false) HF rfl (decide_eq_false hb1) ?_
        refine wp_exit ?_
        refine then_x (then_x (?_))
        refine blk_x ?_
        exact then_n ⟨(Option.some.inj h).symm, (HF.keep HF.nil rfl), HT⟩
  · rintro a w ⟨rfl, HF, HT⟩
    have h := brkL1 h
    refine ?_
    refine wp_seq ?_
    refine wc_text ?_
    refine wc_move HF nS rfl rfl rfl (fun a HF => ?_)
    refine wc_lenR HF nS Try.underlying25 rfl rfl rfl (fun a HF => ?_)
    refine wc_bin HF nS rfl rfl b_le rfl rfl (fun a HF => ?_)
    refine wc_assign HF nS rfl rfl rfl (fun a HF => ?_)
    refine wc_end ?_
    refine then_n ?_
    refine wp_ret ?_
    obtain rfl := Option.some.inj h
    refine bp_ret HF (res_one rfl HF rfl) ?_
    exact ⟨rfl, HT⟩

def m_laws_eqRow (fuel : Nat) (x0_0 : Int) (x0_1 : Int) (x1_0 : Int) (x1_1 : Int) : Option Bool :=
  if x0_0 = x1_0 then
    if x0_1 = x1_1 then
      some true
    else
      some false
  else
    some false

set_option maxRecDepth 100000 in
set_option maxHeartbeats 4000000 in
theorem w_laws_eqRow (fuel : Nat) {x0_0 : Int} {x0_1 : Int} {x1_0 : Int} {x1_1 : Int} {r0 : Bool} {w0 : World} (h : m_laws_eqRow fuel x0_0 x0_1 x1_0 x1_1 = some r0) :
    Calls Try.prog 35 #[.agg #[.int .i64 x0_0, .int .i64 x0_1], .agg #[.int .i64 x1_0, .int .i64 x1_1]] w0 fun e w => e = .returned (.bool r0) ∧ St w0 (fun _ => False) w [] := by
  have HT : St w0 (fun _ => False) w0 [] := St.init0
  rw [m_laws_eqRow] at h
  refine calls_fr (n := 15) [.agg #[.int .i64 x0_0, .int .i64 x0_1], .agg #[.int .i64 x1_0, .int .i64 x1_1]] Try.func35 rfl rfl rfl (fun a HF => ?_)
  have HT : St w0 (fun _ => False) w0 [] := HT
  refine wp_seq ?_
  refine wc_text ?_
  refine wc_box (cs := [.int .i64 x0_0, .int .i64 x0_1]) HF HT rfl rfl rfl rfl (fun p1 w HT hb => ⟨nS, fun a HF => ?_⟩)
  refine wc_box (cs := [.int .i64 x1_0, .int .i64 x1_1]) HF HT rfl rfl rfl rfl (fun p2 w HT hb => ⟨nS, fun a HF => ?_⟩)
  refine wc_assign HF nS rfl rfl rfl (fun a HF => ?_)
  refine wc_end ?_
  refine then_n ?_
  refine wp_seq ?_
  refine wp_seq ?_
  refine wc_text ?_
  refine wc_faddr HF nS rfl fl44_0 rfl rfl (fun a HF => ?_)
  refine wc_load HF rfl sc3 ((HT.boxAt 1 rfl).get 0 rfl) rfl rfl (fun a HF => ?_)
  refine wc_faddr HF nS rfl fl44_0 rfl rfl (fun a HF => ?_)
  refine wc_load HF rfl sc3 ((HT.boxAt 0 rfl).get 0 rfl) rfl rfl (fun a HF => ?_)
  refine wc_bin HF nS rfl rfl b_ne rfl rfl (fun a HF => ?_)
  refine wc_end ?_
  refine then_n ?_
  by_cases hb1 : x0_0 = x1_0
  · have h := (if_pos hb1).symm.trans h
    refine wp_if (b' := false) HF rfl (notT (decide_eq_true hb1)) ?_
    refine wp_skip ?_
    refine then_n ?_
    refine wp_seq ?_
    refine wp_seq ?_
    refine wc_text ?_
    refine wc_faddr HF nS rfl fl44_1 rfl rfl (fun a HF => ?_)
    refine wc_load HF rfl sc3 ((HT.boxAt 1 rfl).get 1 rfl) rfl rfl (fun a HF => ?_)
    refine wc_faddr HF nS rfl fl44_1 rfl rfl (fun a HF => ?_)
    refine wc_load HF rfl sc3 ((HT.boxAt 0 rfl).get 1 rfl) rfl rfl (fun a HF => ?_)
    refine wc_bin HF nS rfl rfl b_ne rfl rfl (fun a HF => ?_)
    refine wc_end ?_
    refine then_n ?_
    by_cases hb2 : x0_1 = x1_1
    · have h := (if_pos hb2).symm.trans h
      refine wp_if (b' := false) HF rfl (notT (decide_eq_true hb2)) ?_
      refine wp_skip ?_
      refine then_n ?_
      refine wp_seq ?_
      refine wc_text ?_
      refine wc_assign HF nS rfl rfl rfl (fun a HF => ?_)
      refine wc_end ?_
      refine then_n ?_
      refine wp_ret ?_
      obtain rfl := Option.some.inj h
      refine bp_ret HF (res_one rfl HF rfl) ?_
      have HT : St w0 (fun _ => False) w [] := HT.take 0
      exact ⟨rfl, HT⟩
    · have h := (if_neg hb2).symm.trans h
      refine wp_if (b' := true) HF rfl (notF (decide_eq_false hb2)) ?_
      refine wp_seq ?_
      refine wc_text ?_
      refine wc_assign HF nS rfl rfl rfl (fun a HF => ?_)
      refine wc_end ?_
      refine then_n ?_
      refine wp_ret ?_
      obtain rfl := Option.some.inj h
      refine then_r (?_)
      refine bp_ret HF (res_one rfl HF rfl) ?_
      have HT : St w0 (fun _ => False) w [] := HT.take 0
      exact ⟨rfl, HT⟩
  · have h := (if_neg hb1).symm.trans h
    refine wp_if (b' := true) HF rfl (notF (decide_eq_false hb1)) ?_
    refine wp_seq ?_
    refine wc_text ?_
    refine wc_assign HF nS rfl rfl rfl (fun a HF => ?_)
    refine wc_end ?_
    refine then_n ?_
    refine wp_ret ?_
    obtain rfl := Option.some.inj h
    refine then_r (?_)
    refine bp_ret HF (res_one rfl HF rfl) ?_
    have HT : St w0 (fun _ => False) w [] := HT.take 0
    exact ⟨rfl, HT⟩

def m_laws_eqRowS_L0 (fuel : Nat) (x0 : List I2) (x1 : List I2) : Nat → Int → Option (Lp Unit Bool)
  | 0, _ => none
  | k1 + 1, z1 =>
    if z1 < (x0.length : Int) then
      (at? x0 z1).bind fun e1 =>
      (at? x1 z1).bind fun e2 =>
      (m_laws_eqRow fuel e1.a e1.b e2.a e2.b).bind fun y1 =>
      if y1 = true then
        if in64 (z1 + 1) then
          m_laws_eqRowS_L0 fuel x0 x1 k1 (z1 + 1)
        else none
      else
        some (.ret false)
    else
      some (.brk ())

def m_laws_eqRowS (fuel : Nat) (x0 : List I2) (x1 : List I2) : Option Bool :=
  if (x0.length : Int) = (x1.length : Int) then
    (m_laws_eqRowS_L0 fuel x0 x1 fuel 0).bind <| contL <| un1 fun _ =>
    some true
  else
    some false

set_option maxRecDepth 100000 in
set_option maxHeartbeats 4000000 in
theorem w_laws_eqRowS (fuel : Nat) {x0 : List I2} {x1 : List I2} {a_x0 : Option Addr} {n_x0 c_x0 : Nat} {a_x1 : Option Addr} {n_x1 c_x1 : Nat} {r0 : Bool} {w0 : World} (h : m_laws_eqRowS fuel x0 x1 = some r0) (hr_x0 : RdT (fun b => ¬ False) w0 (rowT x0) (.slice a_x0 n_x0 c_x0)) (hr_x1 : RdT (fun b => ¬ False) w0 (rowT x1) (.slice a_x1 n_x1 c_x1)) :
    Calls Try.prog 13 #[.slice a_x0 n_x0 c_x0, .slice a_x1 n_x1 c_x1] w0 fun e w => e = .returned (.bool r0) ∧ St w0 (fun _ => False) w [] := by
  obtain rfl := hr_x0.neq
  obtain rfl := hr_x1.neq
  have HT : St w0 (fun _ => False) w0 [] := St.init0
  rw [m_laws_eqRowS] at h
  refine calls_fr (n := 27) [.slice a_x0 x0.length c_x0, .slice a_x1 x1.length c_x1] Try.func13 rfl rfl rfl (fun a HF => ?_)
  have HT : St w0 (fun _ => False) w0 [] := HT
  refine wp_seq ?_
  refine wc_text ?_
  refine wc_assign HF nS rfl rfl rfl (fun a HF => ?_)
  refine wc_end ?_
  refine then_n ?_
  refine wp_seq ?_
  refine wp_seq ?_
  refine wc_text ?_
  refine wc_move HF nS rfl rfl rfl (fun a HF => ?_)
  refine wc_lenR HF nS Try.underlying25 rfl rfl rfl (fun a HF => ?_)
  refine wc_move HF nS rfl rfl rfl (fun a HF => ?_)
  refine wc_lenR HF nS Try.underlying25 rfl rfl rfl (fun a HF => ?_)
  refine wc_bin HF nS rfl rfl b_ne rfl rfl (fun a HF => ?_)
  refine wc_end ?_
  refine then_n ?_
  by_cases hb1 : (x0.length : Int) = (x1.length : Int)
  · have h := (if_pos hb1).symm.trans h
    refine wp_if (b' := false) HF rfl (notT (decide_eq_true hb1)) ?_
    refine wp_skip ?_
    refine then_n ?_
    obtain ⟨q1, hx1, h⟩ := obs h
    refine wp_cut (fun a w => q1 = .brk () ∧ Fr a 27 [] ∧ St w0 (fun _ => False) w []) ?_ ?_
    · have hk1 := h
      have h := hx1
      refine wp_seq ?_
      refine wc_text ?_
      refine wc_assign HF nS rfl rfl rfl (fun a HF => ?_)
      refine wc_end ?_
      refine then_n ?_
      refine wp_block ?_
      refine wp_loopN (fun k1 a w => ∃ z1, m_laws_eqRowS_L0 fuel x0 x1 k1 z1 = some q1 ∧ Fr a 27 [(0, .slice a_x0 x0.length c_x0), (1, .slice a_x1 x1.length c_x1), (5, .int .i64 z1)] ∧ St w0 (fun _ => False) w []) fuel ⟨0, h, (HF.keep (HF.keep (HF.keep HF.nil rfl) rfl) rfl), HT⟩ ?_
      rintro k1 a w ⟨z1, h, HF, HT⟩
      cases k1 with
      | zero => cases h
      | succ k1 =>
        rw [m_laws_eqRowS_L0] at h
        refine ?_
        refine wp_seq ?_
        refine wp_seq ?_
        refine wc_text ?_
        refine wc_move HF nS rfl rfl rfl (fun a HF => ?_)
        refine wc_move HF nS rfl rfl rfl (fun a HF => ?_)
        refine wc_lenR HF nS Try.underlying25 rfl rfl rfl (fun a HF => ?_)
        refine wc_bin HF nS rfl rfl b_lt rfl rfl (fun a HF => ?_)
        refine wc_end ?_
        refine then_n ?_
        by_cases hb2 : z1 < (x0.length : Int)
        · have h := (if_pos hb2).symm.trans h
          refine wp_if (b' := true) HF rfl (decide_eq_true hb2) ?_
          refine wp_skip ?_
          refine then_n ?_
          refine wp_seq ?_
          refine wp_block ?_
          refine wp_seq ?_
          refine wp_region_can [(0, true), (1, true), (2, true), (3, true), (4, true), (5, true), (6, true), (7, true), (8, true), (9, true)] (fun w' => True) (by kernel_rfl) (by kernel_rfl) ?_
          have HT : St w0 (fun _ => False) w.drew [] := HT.drew
          refine wc_move HF nS rfl rfl rfl (fun a HF => ?_)
          refine wc_move HF nS rfl rfl rfl (fun a HF => ?_)
          obtain ⟨e1, hx2, h⟩ := obs h
          obtain ⟨b1, o1, ha1⟩ := (HT.ro hr_x0).any.addr hx2
          refine wc_ixaddr HF nS el25 rfl ha1 ((HT.ro hr_x0).any).neq rfl hx2 rfl rfl (fun a HF => ?_)
          have hc1 := (HT.ro hr_x0).any.flatAt ha1 hx2
          refine wc_loadA (vs := [.int .i64 e1.a, .int .i64 e1.b]) HF rfl ag44 rfl (hc1.part 0 2) rfl rfl (fun a HF => ?_)
          refine wc_move HF nS rfl rfl rfl (fun a HF => ?_)
          refine wc_move HF nS rfl rfl rfl (fun a HF => ?_)
          obtain ⟨e2, hx3, h⟩ := obs h
          obtain ⟨b2, o2, ha2⟩ := (HT.ro hr_x1).any.addr hx3
          refine wc_ixaddr HF nS el25 rfl ha2 ((HT.ro hr_x1).any).neq rfl hx3 rfl rfl (fun a HF => ?_)
          have hc2 := (HT.ro hr_x1).any.flatAt ha2 hx3
          refine wc_loadA (vs := [.int .i64 e2.a, .int .i64 e2.b]) HF rfl ag44 rfl (hc2.part 0 2) rfl rfl (fun a HF => ?_)
          obtain ⟨y1, hx4, h⟩ := obs h
          refine wc_call HF cf35 rfl (w_laws_eqRow fuel hx4) rfl rfl ?_
          rintro e w ⟨rfl, hE⟩
          have hb := hE.below
          have HT := HT.pure hE
          have HT : St w0 (fun _ => False) w [] := HT
          refine ⟨_, rfl, nS, fun a HF => ?_⟩
          refine wc_not HF nS rfl rfl rfl (fun a HF => ?_)
          refine wc_endN ?_
          refine then_n ?_
          by_cases hb3 : y1 = true
          · have h := (if_pos hb3).symm.trans h
            refine wp_if (b' := false) HF rfl (notT hb3) ?_
            refine wp_skip ?_
            refine blk_n ?_
            refine then_n ?_
            refine wc_text ?_
            refine wc_move HF nS rfl rfl rfl (fun a HF => ?_)
            obtain ⟨hg1, h⟩ := grd h
            refine wc_bin HF nS rfl rfl (b_add hg1) rfl rfl (fun a HF => ?_)
            refine wc_assign HF nS rfl rfl rfl (fun a HF => ?_)
            refine wc_end ?_
            exact then_n ⟨k1, Nat.lt_succ_self k1, z1 + 1, h, (HF.keep (HF.keep (HF.keep HF.nil rfl) rfl) rfl), HT⟩
          · have h := (if_neg hb3).symm.trans h
            refine wp_if (b' := true) HF rfl (notF (Bool.eq_false_iff.2 hb3)) ?_
            refine wp_seq ?_
            refine wc_text ?_
            refine wc_assign HF nS rfl rfl rfl (fun a HF => ?_)
            refine wc_end ?_
            refine then_n ?_
            refine wp_ret ?_
            obtain rfl := Option.some.inj h
            have h := retL hk1
            obtain rfl := Option.some.inj h
            refine blk_r (then_r (then_r (blk_r (then_r (?_)))))
            refine bp_ret HF (res_one rfl HF rfl) ?_
            exact ⟨rfl, HT⟩
        · have h := (if_neg hb2).symm.trans h
          refine wp_if (b' := false) HF rfl (decide_eq_false hb2) ?_
          refine wp_exit ?_
          refine then_x (then_x (?_))
          refine blk_x ?_
          exact then_n ⟨(Option.some.inj h).symm, HF.nil, HT⟩
    · rintro a w ⟨rfl, HF, HT⟩
      have h := brkL1 h
      refine ?_
      refine wp_seq ?_
      refine wc_text ?_
      refine wc_assign HF nS rfl rfl rfl (fun a HF => ?_)
      refine wc_end ?_
      refine then_n ?_
      refine wp_ret ?_
      obtain rfl := Option.some.inj h
      refine bp_ret HF (res_one rfl HF rfl) ?_
      exact ⟨rfl, HT⟩
  · have h := (if_neg hb1).symm.trans h
    refine wp_if (b' := true) HF rfl (notF (decide_eq_false hb1)) ?_
    refine wp_seq ?_
    refine wc_text ?_
    refine wc_assign HF nS rfl rfl rfl (fun a HF => ?_)
    refine wc_end ?_
    refine then_n ?_
    refine wp_ret ?_
    obtain rfl := Option.some.inj h
    refine then_r (?_)
    refine bp_ret HF (res_one rfl HF rfl) ?_
    exact ⟨rfl, HT⟩

def m_laws_FnExactRowsOk (fuel : Nat) (x0 : List I2) : Option Bool :=
  (m_laws_szRowS fuel x0 1048576).bind fun y1 =>
  if y1 < 0 then
    some true
  else
    (m_laws_toRowS fuel x0).bind fun y2 =>
    (m_spec_RowsOk fuel y2).bind fun y3 =>
    (m_laws_toRowS fuel x0).bind fun y4 =>
    (m_impl_RowsOk fuel y4).bind fun y5 =>
    if (y5 == y3) = true then
      (m_laws_toRowS fuel x0).bind fun y6 =>
      (m_laws_eqRowS fuel y4 y6).bind fun y7 =>
      if y7 = true then
        some true
      else
        some false
    else
      some false

set_option maxRecDepth 100000 in
set_option maxHeartbeats 4000000 in
theorem w_laws_FnExactRowsOk (fuel : Nat) {x0 : List I2} {a_x0 : Option Addr} {n_x0 c_x0 : Nat} {r0 : Bool} {w0 : World} (h : m_laws_FnExactRowsOk fuel x0 = some r0) (hr_x0 : RdT (fun b => ¬ False) w0 (rowT x0) (.slice a_x0 n_x0 c_x0)) :
    Calls Try.prog 3 #[.slice a_x0 n_x0 c_x0] w0 fun e w => e = .returned (.bool r0) ∧ St w0 (fun _ => False) w [] := by
  obtain rfl := hr_x0.neq
  have HT : St w0 (fun _ => False) w0 [] := St.init0
  rw [m_laws_FnExactRowsOk] at h
  refine calls_fr (n := 27) [.slice a_x0 x0.length c_x0] Try.func3 rfl rfl rfl (fun a HF => ?_)
  have HT : St w0 (fun _ => False) w0 [] := HT
  refine wp_seq ?_
  refine wc_text ?_
  refine wc_assign HF nS rfl rfl rfl (fun a HF => ?_)
  refine wc_end ?_
  refine then_n ?_
  refine wp_seq ?_
  refine wc_text ?_
  refine wc_assign HF nS rfl rfl rfl (fun a HF => ?_)
  refine wc_end ?_
  refine then_n ?_
  refine wp_seq ?_
  refine wc_text ?_
  refine wc_move HF nS rfl rfl rfl (fun a HF => ?_)
  refine wc_move HF nS rfl rfl rfl (fun a HF => ?_)
  obtain ⟨y1, hx1, h⟩ := obs h
  refine wc_call HF cf9 rfl (w_laws_szRowS fuel hx1 (HT.ro hr_x0).any) rfl rfl ?_
  rintro e w ⟨rfl, hE⟩
  have hb := hE.below
  have HT := HT.pure hE
  have HT : St w0 (fun _ => False) w [] := HT
  refine ⟨_, rfl, nS, fun a HF => ?_⟩
  refine wc_assign HF nS rfl rfl rfl (fun a HF => ?_)
  refine wc_end ?_
  refine then_n ?_
  refine wp_seq ?_
  refine wp_seq ?_
  refine wc_text ?_
  refine wc_move HF nS rfl rfl rfl (fun a HF => ?_)
  refine wc_bin HF nS rfl rfl b_lt rfl rfl (fun a HF => ?_)
  refine wc_end ?_
  refine then_n ?_
  by_cases hb1 : y1 < 0
  · have h := (if_pos hb1).symm.trans h
    refine wp_if (b' := true) HF rfl (decide_eq_true hb1) ?_
    refine wp_seq ?_
    refine wc_text ?_
    refine wc_assign HF nS rfl rfl rfl (fun a HF => ?_)
    refine wc_end ?_
    refine then_n ?_
    refine wp_ret ?_
    obtain rfl := Option.some.inj h
    refine then_r (?_)
    refine bp_ret HF (res_one rfl HF rfl) ?_
    exact ⟨rfl, HT⟩
  · have h := (if_neg hb1).symm.trans h
    refine wp_if (b' := false) HF rfl (decide_eq_false hb1) ?_
    refine wp_skip ?_
    refine then_n ?_
    refine wp_seq ?_
    refine wc_text ?_
    refine wc_move HF nS rfl rfl rfl (fun a HF => ?_)
    obtain ⟨y2, hx2, h⟩ := obs h
    refine wc_call HF cf11 rfl (w_laws_toRowS fuel hx2 (HT.ro hr_x0).any) rfl rfl ?_
    rintro e w ⟨a1, n1, c1, rfl, hE⟩
    have hb := hE.below
    have HT := HT.pure hE
    obtain rfl := (HT.rdAt 0 rfl).neq
    have HT : St w0 (fun _ => False) w [Own 44 (rowT y2) (.slice a1 y2.length c1)] := HT
    refine ⟨_, rfl, nS, fun a HF => ?_⟩
    obtain ⟨y3, hx3, h⟩ := obs h
    refine wc_call HF cf10 rfl (w_spec_RowsOk fuel hx3 (HT.rdAt 0 rfl)) rfl rfl ?_
    rintro e w ⟨rfl, hE⟩
    have hb := hE.below
    have HT := HT.pure hE
    have HT : St w0 (fun _ => False) w [Own 44 (rowT y2) (.slice a1 y2.length c1)] := HT
    refine ⟨_, rfl, nS, fun a HF => ?_⟩
    refine wc_assign HF nS rfl rfl rfl (fun a HF => ?_)
    refine wc_end ?_
    refine then_n ?_
    refine wp_seq ?_
    refine wc_text ?_
    refine wc_move HF nS rfl rfl rfl (fun a HF => ?_)
    obtain ⟨y4, hx4, h⟩ := obs h
    refine wc_call HF cf11 rfl (w_laws_toRowS fuel hx4 (HT.ro hr_x0).any) rfl rfl ?_
    rintro e w ⟨a2, n2, c2, rfl, hE⟩
    have hb := hE.below
    have HT := HT.pure hE
    obtain rfl := (HT.rdAt 0 rfl).neq
    have HT : St w0 (fun _ => False) w [Own 44 (rowT y4) (.slice a2 y4.length c2), Own 44 (rowT y2) (.slice a1 y2.length c1)] := HT
    refine ⟨_, rfl, nS, fun a HF => ?_⟩
    refine wc_assign HF nS rfl rfl rfl (fun a HF => ?_)
    refine wc_end ?_
    refine then_n ?_
    refine wp_seq ?_
    refine wc_text ?_
    refine wc_move HF nS rfl rfl rfl (fun a HF => ?_)
    obtain ⟨y5, hx5, h⟩ := obs h
    refine wc_call HF cf12 rfl (w_impl_RowsOk fuel hx5 (HT.rdAt 0 rfl)) rfl rfl ?_
    rintro e w ⟨rfl, hE⟩
    have hb := hE.below
    have HT := HT.pure hE
    have HT : St w0 (fun _ => False) w [Own 44 (rowT y4) (.slice a2 y4.length c2), Own 44 (rowT y2) (.slice a1 y2.length c1)] := HT
    refine ⟨_, rfl, nS, fun a HF => ?_⟩
    refine wc_assign HF nS rfl rfl rfl (fun a HF => ?_)
    refine wc_end ?_
    refine then_n ?_
    refine wp_seq ?_
    refine wp_seq ?_
    refine wc_text ?_
    refine wc_move HF nS rfl rfl rfl (fun a HF => ?_)
    refine wc_move HF nS rfl rfl rfl (fun a HF => ?_)
    refine wc_bin HF nS rfl rfl (b_bne Try.underlying4) rfl rfl (fun a HF => ?_)
    refine wc_end ?_
    refine then_n ?_
    by_cases hb2 : (y5 == y3) = true
    · have h := (if_pos hb2).symm.trans h
      refine wp_if (b' := false) HF rfl (notT hb2) ?_
      refine wp_skip ?_
      refine then_n ?_
      refine wp_seq ?_
      refine wp_seq ?_
      refine wc_text ?_
      refine wc_move HF nS rfl rfl rfl (fun a HF => ?_)
      refine wc_move HF nS rfl rfl rfl (fun a HF => ?_)
      obtain ⟨y6, hx6, h⟩ := obs h
      refine wc_call HF cf11 rfl (w_laws_toRowS fuel hx6 (HT.ro hr_x0).any) rfl rfl ?_
      rintro e w ⟨a3, n3, c3, rfl, hE⟩
      have hb := hE.below
      have HT := HT.pure hE
      obtain rfl := (HT.rdAt 0 rfl).neq
      have HT : St w0 (fun _ => False) w [Own 44 (rowT y6) (.slice a3 y6.length c3), Own 44 (rowT y4) (.slice a2 y4.length c2), Own 44 (rowT y2) (.slice a1 y2.length c1)] := HT
      refine ⟨_, rfl, nS, fun a HF => ?_⟩
      obtain ⟨y7, hx7, h⟩ := obs h
      refine wc_call HF cf13 rfl (w_laws_eqRowS fuel hx7 (HT.rdAt 1 rfl) (HT.rdAt 0 rfl)) rfl rfl ?_
      rintro e w ⟨rfl, hE⟩
      have hb := hE.below
      have HT := HT.pure hE
      have HT : St w0 (fun _ => False) w [Own 44 (rowT y6) (.slice a3 y6.length c3), Own 44 (rowT y4) (.slice a2 y4.length c2), Own 44 (rowT y2) (.slice a1 y2.length c1)] := HT
      refine ⟨_, rfl, nS, fun a HF => ?_⟩
      refine wc_not HF nS rfl rfl rfl (fun a HF => ?_)
      refine wc_end ?_
      refine then_n ?_
      by_cases hb3 : y7 = true
      · have h := (if_pos hb3).symm.trans h
        refine wp_if (b' := false) HF rfl (notT hb3) ?_
        refine wp_skip ?_
        refine then_n ?_
        refine wp_seq ?_
        refine wc_text ?_
        refine wc_assign HF nS rfl rfl rfl (fun a HF => ?_)
        refine wc_end ?_
        refine then_n ?_
        refine wp_ret ?_
        obtain rfl := Option.some.inj h
        refine bp_ret HF (res_one rfl HF rfl) ?_
        have HT : St w0 (fun _ => False) w [] := HT.take 0
        exact ⟨rfl, HT⟩
      · have h := (if_neg hb3).symm.trans h
        refine wp_if (b' := true) HF rfl (notF (Bool.eq_false_iff.2 hb3)) ?_
        refine wp_seq ?_
        refine wc_text ?_
        refine wc_assign HF nS rfl rfl rfl (fun a HF => ?_)
        refine wc_end ?_
        refine then_n ?_
        refine wp_ret ?_
        obtain rfl := Option.some.inj h
        refine then_r (?_)
        refine bp_ret HF (res_one rfl HF rfl) ?_
        have HT : St w0 (fun _ => False) w [] := HT.take 0
        exact ⟨rfl, HT⟩
    · have h := (if_neg hb2).symm.trans h
      refine wp_if (b' := true) HF rfl (notF (Bool.eq_false_iff.2 hb2)) ?_
      refine wp_seq ?_
      refine wc_text ?_
      refine wc_assign HF nS rfl rfl rfl (fun a HF => ?_)
      refine wc_end ?_
      refine then_n ?_
      refine wp_ret ?_
      obtain rfl := Option.some.inj h
      refine then_r (?_)
      refine bp_ret HF (res_one rfl HF rfl) ?_
      have HT : St w0 (fun _ => False) w [] := HT.take 0
      exact ⟨rfl, HT⟩

def m_spec_Last_L0 (fuel : Nat) (x0 : List I2) (x1 : Int) : Nat → Int → Option (Lp Unit (Int × Bool))
  | 0, _ => none
  | k1 + 1, z1 =>
    if 0 ≤ z1 then
      (at? x0 z1).bind fun e1 =>
      if e1.a = x1 then
        some (.ret (e1.b, true))
      else
        if in64 (z1 - 1) then
          m_spec_Last_L0 fuel x0 x1 k1 (z1 - 1)
        else none
    else
      some (.brk ())

def m_spec_Last (fuel : Nat) (x0 : List I2) (x1 : Int) : Option (Int × Bool) :=
  (m_spec_RowsOk fuel x0).bind fun y1 =>
  if y1 = true then
    (
      if in64 ((x0.length : Int) - 1) then
        m_spec_Last_L0 fuel x0 x1 fuel ((x0.length : Int) - 1)
      else none).bind <| contL <| un1 fun _ =>
    some (0, false)
  else
    some (0, false)

set_option maxRecDepth 100000 in
set_option maxHeartbeats 4000000 in
theorem w_spec_Last (fuel : Nat) {x0 : List I2} {x1 : Int} {a_x0 : Option Addr} {n_x0 c_x0 : Nat} {r0 : Int} {r1 : Bool} {w0 : World} (h : m_spec_Last fuel x0 x1 = some (r0, r1)) (hr_x0 : RdT (fun b => ¬ False) w0 (rowT x0) (.slice a_x0 n_x0 c_x0)) :
    Calls Try.prog 14 #[.slice a_x0 n_x0 c_x0, .int .i64 x1] w0 fun e w => e = .returned (.tuple #[.int .i64 r0, .bool r1]) ∧ St w0 (fun _ => False) w [] := by
  obtain rfl := hr_x0.neq
  have HT : St w0 (fun _ => False) w0 [] := St.init0
  rw [m_spec_Last] at h
  refine calls_fr (n := 29) [.slice a_x0 x0.length c_x0, .int .i64 x1] Try.func14 rfl rfl rfl (fun a HF => ?_)
  have HT : St w0 (fun _ => False) w0 [] := HT
  refine wp_seq ?_
  refine wc_text ?_
  refine wc_assign HF nS rfl rfl rfl (fun a HF => ?_)
  refine wc_assign HF nS rfl rfl rfl (fun a HF => ?_)
  refine wc_end ?_
  refine then_n ?_
  refine wp_seq ?_
  refine wp_seq ?_
  refine wc_text ?_
  refine wc_move HF nS rfl rfl rfl (fun a HF => ?_)
  obtain ⟨y1, hx1, h⟩ := obs h
  refine wc_call HF cf10 rfl (w_spec_RowsOk fuel hx1 (HT.ro hr_x0).any) rfl rfl ?_
  rintro e w ⟨rfl, hE⟩
  have hb := hE.below
  have HT := HT.pure hE
  have HT : St w0 (fun _ => False) w [] := HT
  refine ⟨_, rfl, nS, fun a HF => ?_⟩
  refine wc_not HF nS rfl rfl rfl (fun a HF => ?_)
  refine wc_end ?_
  refine then_n ?_
  by_cases hb1 : y1 = true
  · have h := (if_pos hb1).symm.trans h
    refine wp_if (b' := false) HF rfl (notT hb1) ?_
    refine wp_skip ?_
    refine then_n ?_
    obtain ⟨q1, hx2, h⟩ := obs h
    refine wp_cut (fun a w => q1 = .brk () ∧ Fr a 29 [] ∧ St w0 (fun _ => False) w []) ?_ ?_
    · have hk1 := h
      have h := hx2
      refine wp_seq ?_
      refine wc_text ?_
      refine wc_move HF nS rfl rfl rfl (fun a HF => ?_)
      refine wc_lenR HF nS Try.underlying25 rfl rfl rfl (fun a HF => ?_)
      obtain ⟨hg1, h⟩ := grd h
      refine wc_bin HF nS rfl rfl (b_sub hg1) rfl rfl (fun a HF => ?_)
      refine wc_assign HF nS rfl rfl rfl (fun a HF => ?_)
      refine wc_end ?_
      refine then_n ?_
      refine wp_block ?_
      refine wp_loopN (fun k1 a w => ∃ z1, m_spec_Last_L0 fuel x0 x1 k1 z1 = some q1 ∧ Fr a 29 [(0, .slice a_x0 x0.length c_x0), (1, .int .i64 x1), (6, .int .i64 z1)] ∧ St w0 (fun _ => False) w []) fuel ⟨(x0.length : Int) - 1, h, (HF.keep (HF.keep (HF.keep HF.nil rfl) rfl) rfl), HT⟩ ?_
      rintro k1 a w ⟨z1, h, HF, HT⟩
      cases k1 with
      | zero => cases h
      | succ k1 =>
        rw [m_spec_Last_L0] at h
        refine ?_
        refine wp_seq ?_
        refine wp_seq ?_
        refine wc_text ?_
        refine wc_move HF nS rfl rfl rfl (fun a HF => ?_)
        refine wc_bin HF nS rfl rfl b_ge rfl rfl (fun a HF => ?_)
        refine wc_end ?_
        refine then_n ?_
        by_cases hb2 : 0 ≤ z1
        · have h := (if_pos hb2).symm.trans h
          refine wp_if (b' := true) HF rfl (decide_eq_true hb2) ?_
          refine wp_skip ?_
          refine then_n ?_
          refine wp_seq ?_
          refine wp_block ?_
          refine wp_seq ?_
          refine wc_text ?_
          refine wc_move HF nS rfl rfl rfl (fun a HF => ?_)
          refine wc_move HF nS rfl rfl rfl (fun a HF => ?_)
          obtain ⟨e1, hx3, h⟩ := obs h
          obtain ⟨b1, o1, ha1⟩ := (HT.ro hr_x0).any.addr hx3
          refine wc_ixaddr HF nS el25 rfl ha1 ((HT.ro hr_x0).any).neq rfl hx3 rfl rfl (fun a HF => ?_)
          refine wc_faddr HF nS rfl fl44_0 rfl rfl (fun a HF => ?_)
          have hc1 := (HT.ro hr_x0).any.flatAt ha1 hx3
          refine wc_load HF rfl sc3 (hc1.get 0 rfl) rfl rfl (fun a HF => ?_)
          refine wc_move HF nS rfl rfl rfl (fun a HF => ?_)
          refine wc_bin HF nS rfl rfl b_eq rfl rfl (fun a HF => ?_)
          refine wc_end ?_
          refine then_n ?_
          by_cases hb3 : e1.a = x1
          · have h := (if_pos hb3).symm.trans h
            refine wp_if (b' := true) HF rfl (decide_eq_true hb3) ?_
            refine wp_seq ?_
            refine wc_text ?_
            refine wc_move HF nS rfl rfl rfl (fun a HF => ?_)
            refine wc_move HF nS rfl rfl rfl (fun a HF => ?_)
            refine wc_ixaddr HF nS el25 rfl ha1 ((HT.ro hr_x0).any).neq rfl hx3 rfl rfl (fun a HF => ?_)
            refine wc_faddr HF nS rfl fl44_1 rfl rfl (fun a HF => ?_)
            have hc2 := (HT.ro hr_x0).any.flatAt ha1 hx3
            refine wc_load HF rfl sc3 (hc2.get 1 rfl) rfl rfl (fun a HF => ?_)
            refine wc_assign HF nS rfl rfl rfl (fun a HF => ?_)
            refine wc_assign HF nS rfl rfl rfl (fun a HF => ?_)
            refine wc_end ?_
            refine then_n ?_
            refine wp_ret ?_
            obtain rfl := Option.some.inj h
            have h := retL hk1
            have hj1 := Option.some.inj h
            obtain ⟨hi1, hj2⟩ := Prod.mk.inj hj1
            subst hi1
            subst hj2
            refine blk_r (then_r (then_r (blk_r (then_r (?_)))))
            refine bp_ret HF (res_two rfl HF rfl rfl) ?_
            exact ⟨rfl, HT⟩
          · have h := (if_neg hb3).symm.trans h
            refine wp_if (b' := false) HF rfl (decide_eq_false hb3) ?_
            refine wp_skip ?_
            refine blk_n ?_
            refine then_n ?_
            refine wc_text ?_
            refine wc_move HF nS rfl rfl rfl (fun a HF => ?_)
            obtain ⟨hg2, h⟩ := grd h
            refine wc_bin HF nS rfl rfl (b_sub hg2) rfl rfl (fun a HF => ?_)
            refine wc_assign HF nS rfl rfl rfl (fun a HF => ?_)
            refine wc_end ?_
            exact then_n ⟨k1, Nat.lt_succ_self k1, z1 - 1, h, (HF.keep (HF.keep (HF.keep HF.nil rfl) rfl) rfl), HT⟩
        · have h := (if_neg hb2).symm.trans h
          refine wp_if (b' := false) HF rfl (decide_eq_false hb2) ?_
          refine wp_exit ?_
          refine then_x (then_x (?_))
          refine blk_x ?_
          exact then_n ⟨(Option.some.inj h).symm, HF.nil, HT⟩
    · rintro a w ⟨rfl, HF, HT⟩
      have h := brkL1 h
      refine ?_
      refine wp_seq ?_
      refine wc_text ?_
      refine wc_assign HF nS rfl rfl rfl (fun a HF => ?_)
      refine wc_assign HF nS rfl rfl rfl (fun a HF => ?_)
      refine wc_end ?_
      refine then_n ?_
      refine wp_ret ?_
      have hj3 := Option.some.inj h
      obtain ⟨hi3, hj4⟩ := Prod.mk.inj hj3
      subst hi3
      subst hj4
      refine bp_ret HF (res_two rfl HF rfl rfl) ?_
      exact ⟨rfl, HT⟩
  · have h := (if_neg hb1).symm.trans h
    refine wp_if (b' := true) HF rfl (notF (Bool.eq_false_iff.2 hb1)) ?_
    refine wp_seq ?_
    refine wc_text ?_
    refine wc_assign HF nS rfl rfl rfl (fun a HF => ?_)
    refine wc_assign HF nS rfl rfl rfl (fun a HF => ?_)
    refine wc_end ?_
    refine then_n ?_
    refine wp_ret ?_
    have hj5 := Option.some.inj h
    obtain ⟨hi5, hj6⟩ := Prod.mk.inj hj5
    subst hi5
    subst hj6
    refine then_r (?_)
    refine bp_ret HF (res_two rfl HF rfl rfl) ?_
    exact ⟨rfl, HT⟩

def m_impl_Last_L0 (fuel : Nat) (x0 : List I2) (x1 : Int) : Nat → Int → Option (Lp Unit (Int × Bool))
  | 0, _ => none
  | k1 + 1, z1 =>
    if 0 ≤ z1 then
      (at? x0 z1).bind fun e1 =>
      if e1.a = x1 then
        some (.ret (e1.b, true))
      else
        if in64 (z1 - 1) then
          m_impl_Last_L0 fuel x0 x1 k1 (z1 - 1)
        else none
    else
      some (.brk ())

def m_impl_Last (fuel : Nat) (x0 : List I2) (x1 : Int) : Option (Int × Bool) :=
  (m_impl_RowsOk fuel x0).bind fun y1 =>
  if y1 = true then
    (
      if in64 ((x0.length : Int) - 1) then
        m_impl_Last_L0 fuel x0 x1 fuel ((x0.length : Int) - 1)
      else none).bind <| contL <| un1 fun _ =>
    some (0, false)
  else
    some (0, false)

set_option maxRecDepth 100000 in
set_option maxHeartbeats 4000000 in
theorem w_impl_Last (fuel : Nat) {x0 : List I2} {x1 : Int} {a_x0 : Option Addr} {n_x0 c_x0 : Nat} {r0 : Int} {r1 : Bool} {w0 : World} (h : m_impl_Last fuel x0 x1 = some (r0, r1)) (hr_x0 : RdT (fun b => ¬ False) w0 (rowT x0) (.slice a_x0 n_x0 c_x0)) :
    Calls Try.prog 15 #[.slice a_x0 n_x0 c_x0, .int .i64 x1] w0 fun e w => e = .returned (.tuple #[.int .i64 r0, .bool r1]) ∧ St w0 (fun _ => False) w [] := by
  obtain rfl := hr_x0.neq
  have HT : St w0 (fun _ => False) w0 [] := St.init0
  rw [m_impl_Last] at h
  refine calls_fr (n := 29) [.slice a_x0 x0.length c_x0, .int .i64 x1] Try.func15 rfl rfl rfl (fun a HF => ?_)
  have HT : St w0 (fun _ => False) w0 [] := HT
  refine wp_seq ?_
  refine wc_text ?_
  refine wc_assign HF nS rfl rfl rfl (fun a HF => ?_)
  refine wc_assign HF nS rfl rfl rfl (fun a HF => ?_)
  refine wc_end ?_
  refine then_n ?_
  refine wp_seq ?_
  refine wp_seq ?_
  refine wc_text ?_
  refine wc_move HF nS rfl rfl rfl (fun a HF => ?_)
  obtain ⟨y1, hx1, h⟩ := obs h
  refine wc_call HF cf12 rfl (w_impl_RowsOk fuel hx1 (HT.ro hr_x0).any) rfl rfl ?_
  rintro e w ⟨rfl, hE⟩
  have hb := hE.below
  have HT := HT.pure hE
  have HT : St w0 (fun _ => False) w [] := HT
  refine ⟨_, rfl, nS, fun a HF => ?_⟩
  refine wc_not HF nS rfl rfl rfl (fun a HF => ?_)
  refine wc_end ?_
  refine then_n ?_
  by_cases hb1 : y1 = true
  · have h := (if_pos hb1).symm.trans h
    refine wp_if (b' := false) HF rfl (notT hb1) ?_
    refine wp_skip ?_
    refine then_n ?_
    obtain ⟨q1, hx2, h⟩ := obs h
    refine wp_cut (fun a w => q1 = .brk () ∧ Fr a 29 [] ∧ St w0 (fun _ => False) w []) ?_ ?_
    · have hk1 := h
      have h := hx2
      refine wp_seq ?_
      refine wc_text ?_
      refine wc_move HF nS rfl rfl rfl (fun a HF => ?_)
      refine wc_lenR HF nS Try.underlying25 rfl rfl rfl (fun a HF => ?_)
      obtain ⟨hg1, h⟩ := grd h
      refine wc_bin HF nS rfl rfl (b_sub hg1) rfl rfl (fun a HF => ?_)
      refine wc_assign HF nS rfl rfl rfl (fun a HF => ?_)
      refine wc_end ?_
      refine then_n ?_
      refine wp_block ?_
      refine wp_loopN (fun k1 a w => ∃ z1, m_impl_Last_L0 fuel x0 x1 k1 z1 = some q1 ∧ Fr a 29 [(0, .slice a_x0 x0.length c_x0), (1, .int .i64 x1), (6, .int .i64 z1)] ∧ St w0 (fun _ => False) w []) fuel ⟨(x0.length : Int) - 1, h, (HF.keep (HF.keep (HF.keep HF.nil rfl) rfl) rfl), HT⟩ ?_
      rintro k1 a w ⟨z1, h, HF, HT⟩
      cases k1 with
      | zero => cases h
      | succ k1 =>
        rw [m_impl_Last_L0] at h
        refine ?_
        refine wp_seq ?_
        refine wp_seq ?_
        refine wc_text ?_
        refine wc_move HF nS rfl rfl rfl (fun a HF => ?_)
        refine wc_bin HF nS rfl rfl b_ge rfl rfl (fun a HF => ?_)
        refine wc_end ?_
        refine then_n ?_
        by_cases hb2 : 0 ≤ z1
        · have h := (if_pos hb2).symm.trans h
          refine wp_if (b' := true) HF rfl (decide_eq_true hb2) ?_
          refine wp_skip ?_
          refine then_n ?_
          refine wp_seq ?_
          refine wp_block ?_
          refine wp_seq ?_
          refine wc_text ?_
          refine wc_move HF nS rfl rfl rfl (fun a HF => ?_)
          refine wc_move HF nS rfl rfl rfl (fun a HF => ?_)
          obtain ⟨e1, hx3, h⟩ := obs h
          obtain ⟨b1, o1, ha1⟩ := (HT.ro hr_x0).any.addr hx3
          refine wc_ixaddr HF nS el25 rfl ha1 ((HT.ro hr_x0).any).neq rfl hx3 rfl rfl (fun a HF => ?_)
          refine wc_faddr HF nS rfl fl44_0 rfl rfl (fun a HF => ?_)
          have hc1 := (HT.ro hr_x0).any.flatAt ha1 hx3
          refine wc_load HF rfl sc3 (hc1.get 0 rfl) rfl rfl (fun a HF => ?_)
          refine wc_move HF nS rfl rfl rfl (fun a HF => ?_)
          refine wc_bin HF nS rfl rfl b_eq rfl rfl (fun a HF => ?_)
          refine wc_end ?_
          refine then_n ?_
          by_cases hb3 : e1.a = x1
          · have h := (if_pos hb3).symm.trans h
            refine wp_if (b' := true) HF rfl (decide_eq_true hb3) ?_
            refine wp_seq ?_
            refine wc_text ?_
            refine wc_move HF nS rfl rfl rfl (fun a HF => ?_)
            refine wc_move HF nS rfl rfl rfl (fun a HF => ?_)
            refine wc_ixaddr HF nS el25 rfl ha1 ((HT.ro hr_x0).any).neq rfl hx3 rfl rfl (fun a HF => ?_)
            refine wc_faddr HF nS rfl fl44_1 rfl rfl (fun a HF => ?_)
            have hc2 := (HT.ro hr_x0).any.flatAt ha1 hx3
            refine wc_load HF rfl sc3 (hc2.get 1 rfl) rfl rfl (fun a HF => ?_)
            refine wc_assign HF nS rfl rfl rfl (fun a HF => ?_)
            refine wc_assign HF nS rfl rfl rfl (fun a HF => ?_)
            refine wc_end ?_
            refine then_n ?_
            refine wp_ret ?_
            obtain rfl := Option.some.inj h
            have h := retL hk1
            have hj1 := Option.some.inj h
            obtain ⟨hi1, hj2⟩ := Prod.mk.inj hj1
            subst hi1
            subst hj2
            refine blk_r (then_r (then_r (blk_r (then_r (?_)))))
            refine bp_ret HF (res_two rfl HF rfl rfl) ?_
            exact ⟨rfl, HT⟩
          · have h := (if_neg hb3).symm.trans h
            refine wp_if (b' := false) HF rfl (decide_eq_false hb3) ?_
            refine wp_skip ?_
            refine blk_n ?_
            refine then_n ?_
            refine wc_text ?_
            refine wc_move HF nS rfl rfl rfl (fun a HF => ?_)
            obtain ⟨hg2, h⟩ := grd h
            refine wc_bin HF nS rfl rfl (b_sub hg2) rfl rfl (fun a HF => ?_)
            refine wc_assign HF nS rfl rfl rfl (fun a HF => ?_)
            refine wc_end ?_
            exact then_n ⟨k1, Nat.lt_succ_self k1, z1 - 1, h, (HF.keep (HF.keep (HF.keep HF.nil rfl) rfl) rfl), HT⟩
        · have h := (if_neg hb2).symm.trans h
          refine wp_if (b' := false) HF rfl (decide_eq_false hb2) ?_
          refine wp_exit ?_
          refine then_x (then_x (?_))
          refine blk_x ?_
          exact then_n ⟨(Option.some.inj h).symm, HF.nil, HT⟩
    · rintro a w ⟨rfl, HF, HT⟩
      have h := brkL1 h
      refine ?_
      refine wp_seq ?_
      refine wc_text ?_
      refine wc_assign HF nS rfl rfl rfl (fun a HF => ?_)
      refine wc_assign HF nS rfl rfl rfl (fun a HF => ?_)
      refine wc_end ?_
      refine then_n ?_
      refine wp_ret ?_
      have hj3 := Option.some.inj h
      obtain ⟨hi3, hj4⟩ := Prod.mk.inj hj3
      subst hi3
      subst hj4
      refine bp_ret HF (res_two rfl HF rfl rfl) ?_
      exact ⟨rfl, HT⟩
  · have h := (if_neg hb1).symm.trans h
    refine wp_if (b' := true) HF rfl (notF (Bool.eq_false_iff.2 hb1)) ?_
    refine wp_seq ?_
    refine wc_text ?_
    refine wc_assign HF nS rfl rfl rfl (fun a HF => ?_)
    refine wc_assign HF nS rfl rfl rfl (fun a HF => ?_)
    refine wc_end ?_
    refine then_n ?_
    refine wp_ret ?_
    have hj5 := Option.some.inj h
    obtain ⟨hi5, hj6⟩ := Prod.mk.inj hj5
    subst hi5
    subst hj6
    refine then_r (?_)
    refine bp_ret HF (res_two rfl HF rfl rfl) ?_
    exact ⟨rfl, HT⟩

def m_laws_FnExactLast (fuel : Nat) (x0 : List I2) (x1 : Int) : Option Bool :=
  (m_laws_szRowS fuel x0 1048576).bind fun y1 =>
  if y1 < 0 then
    some true
  else
    (m_laws_toRowS fuel x0).bind fun y2 =>
    bind2 (m_spec_Last fuel y2 x1) fun y3 y4 =>
    (m_laws_toRowS fuel x0).bind fun y5 =>
    bind2 (m_impl_Last fuel y5 x1) fun y6 y7 =>
    if y6 = y3 then
      if (y7 == y4) = true then
        (m_laws_toRowS fuel x0).bind fun y8 =>
        (m_laws_eqRowS fuel y5 y8).bind fun y9 =>
        if y9 = true then
          some true
        else
          some false
      else
        some false
    else
      some false

set_option maxRecDepth 100000 in
set_option maxHeartbeats 4000000 in
theorem w_laws_FnExactLast (fuel : Nat) {x0 : List I2} {x1 : Int} {a_x0 : Option Addr} {n_x0 c_x0 : Nat} {r0 : Bool} {w0 : World} (h : m_laws_FnExactLast fuel x0 x1 = some r0) (hr_x0 : RdT (fun b => ¬ False) w0 (rowT x0) (.slice a_x0 n_x0 c_x0)) :
    Calls Try.prog 4 #[.slice a_x0 n_x0 c_x0, .int .i64 x1] w0 fun e w => e = .returned (.bool r0) ∧ St w0 (fun _ => False) w [] := by
  obtain rfl := hr_x0.neq
  have HT : St w0 (fun _ => False) w0 [] := St.init0
  rw [m_laws_FnExactLast] at h
  refine calls_fr (n := 44) [.slice a_x0 x0.length c_x0, .int .i64 x1] Try.func4 rfl rfl rfl (fun a HF => ?_)
  have HT : St w0 (fun _ => False) w0 [] := HT
  refine wp_seq ?_
  refine wc_text ?_
  refine wc_assign HF nS rfl rfl rfl (fun a HF => ?_)
  refine wc_end ?_
  refine then_n ?_
  refine wp_seq ?_
  refine wc_text ?_
  refine wc_assign HF nS rfl rfl rfl (fun a HF => ?_)
  refine wc_end ?_
  refine then_n ?_
  refine wp_seq ?_
  refine wc_text ?_
  refine wc_move HF nS rfl rfl rfl (fun a HF => ?_)
  refine wc_move HF nS rfl rfl rfl (fun a HF => ?_)
  obtain ⟨y1, hx1, h⟩ := obs h
  refine wc_call HF cf9 rfl (w_laws_szRowS fuel hx1 (HT.ro hr_x0).any) rfl rfl ?_
  rintro e w ⟨rfl, hE⟩
  have hb := hE.below
  have HT := HT.pure hE
  have HT : St w0 (fun _ => False) w [] := HT
  refine ⟨_, rfl, nS, fun a HF => ?_⟩
  refine wc_assign HF nS rfl rfl rfl (fun a HF => ?_)
  refine wc_end ?_
  refine then_n ?_
  refine wp_seq ?_
  refine wp_seq ?_
  refine wc_text ?_
  refine wc_move HF nS rfl rfl rfl (fun a HF => ?_)
  refine wc_bin HF nS rfl rfl b_lt rfl rfl (fun a HF => ?_)
  refine wc_end ?_
  refine then_n ?_
  by_cases hb1 : y1 < 0
  · have h := (if_pos hb1).symm.trans h
    refine wp_if (b' := true) HF rfl (decide_eq_true hb1) ?_
    refine wp_seq ?_
    refine wc_text ?_
    refine wc_assign HF nS rfl rfl rfl (fun a HF => ?_)
    refine wc_end ?_
    refine then_n ?_
    refine wp_ret ?_
    obtain rfl := Option.some.inj h
    refine then_r (?_)
    refine bp_ret HF (res_one rfl HF rfl) ?_
    exact ⟨rfl, HT⟩
  · have h := (if_neg hb1).symm.trans h
    refine wp_if (b' := false) HF rfl (decide_eq_false hb1) ?_
    refine wp_skip ?_
    refine then_n ?_
    refine wp_seq ?_
    refine wc_text ?_
    refine wc_move HF nS rfl rfl rfl (fun a HF => ?_)
    obtain ⟨y2, hx2, h⟩ := obs h
    refine wc_call HF cf11 rfl (w_laws_toRowS fuel hx2 (HT.ro hr_x0).any) rfl rfl ?_
    rintro e w ⟨a1, n1, c1, rfl, hE⟩
    have hb := hE.below
    have HT := HT.pure hE
    obtain rfl := (HT.rdAt 0 rfl).neq
    have HT : St w0 (fun _ => False) w [Own 44 (rowT y2) (.slice a1 y2.length c1)] := HT
    refine ⟨_, rfl, nS, fun a HF => ?_⟩
    refine wc_move HF nS rfl rfl rfl (fun a HF => ?_)
    obtain ⟨y3, y4, hx3, h⟩ := obs2 h
    refine wc_call HF cf14 rfl (w_spec_Last fuel hx3 (HT.rdAt 0 rfl)) rfl rfl ?_
    rintro e w ⟨rfl, hE⟩
    have hb := hE.below
    have HT := HT.pure hE
    have HT : St w0 (fun _ => False) w [Own 44 (rowT y2) (.slice a1 y2.length c1)] := HT
    refine ⟨_, rfl, nS, fun a HF => ?_⟩
    refine wc_move HF nS rfl rfl rfl (fun a HF => ?_)
    refine wc_extract (v := .int .i64 y3) HF nS rfl rfl rfl rfl (fun a HF => ?_)
    refine wc_extract (v := .bool y4) HF nS rfl rfl rfl rfl (fun a HF => ?_)
    refine wc_assign HF nS rfl rfl rfl (fun a HF => ?_)
    refine wc_assign HF nS rfl rfl rfl (fun a HF => ?_)
    refine wc_end ?_
    refine then_n ?_
    refine wp_seq ?_
    refine wc_text ?_
    refine wc_move HF nS rfl rfl rfl (fun a HF => ?_)
    obtain ⟨y5, hx4, h⟩ := obs h
    refine wc_call HF cf11 rfl (w_laws_toRowS fuel hx4 (HT.ro hr_x0).any) rfl rfl ?_
    rintro e w ⟨a2, n2, c2, rfl, hE⟩
    have hb := hE.below
    have HT := HT.pure hE
    obtain rfl := (HT.rdAt 0 rfl).neq
    have HT : St w0 (fun _ => False) w [Own 44 (rowT y5) (.slice a2 y5.length c2), Own 44 (rowT y2) (.slice a1 y2.length c1)] := HT
    refine ⟨_, rfl, nS, fun a HF => ?_⟩
    refine wc_assign HF nS rfl rfl rfl (fun a HF => ?_)
    refine wc_end ?_
    refine then_n ?_
    refine wp_seq ?_
    refine wc_text ?_
    refine wc_move HF nS rfl rfl rfl (fun a HF => ?_)
    refine wc_move HF nS rfl rfl rfl (fun a HF => ?_)
    obtain ⟨y6, y7, hx5, h⟩ := obs2 h
    refine wc_call HF cf15 rfl (w_impl_Last fuel hx5 (HT.rdAt 0 rfl)) rfl rfl ?_
    rintro e w ⟨rfl, hE⟩
    have hb := hE.below
    have HT := HT.pure hE
    have HT : St w0 (fun _ => False) w [Own 44 (rowT y5) (.slice a2 y5.length c2), Own 44 (rowT y2) (.slice a1 y2.length c1)] := HT
    refine ⟨_, rfl, nS, fun a HF => ?_⟩
    refine wc_move HF nS rfl rfl rfl (fun a HF => ?_)
    refine wc_extract (v := .int .i64 y6) HF nS rfl rfl rfl rfl (fun a HF => ?_)
    refine wc_extract (v := .bool y7) HF nS rfl rfl rfl rfl (fun a HF => ?_)
    refine wc_assign HF nS rfl rfl rfl (fun a HF => ?_)
    refine wc_assign HF nS rfl rfl rfl (fun a HF => ?_)
    refine wc_end ?_
    refine then_n ?_
    refine wp_seq ?_
    refine wp_seq ?_
    refine wc_text ?_
    refine wc_move HF nS rfl rfl rfl (fun a HF => ?_)
    refine wc_move HF nS rfl rfl rfl (fun a HF => ?_)
    refine wc_bin HF nS rfl rfl b_ne rfl rfl (fun a HF => ?_)
    refine wc_move HF nS rfl rfl rfl (fun a HF => ?_)
    by_cases hb2 : y6 = y3
    · have h := (if_pos hb2).symm.trans h
      refine wc_move HF nS rfl (HF.wy rfl rfl rfl rfl (notT (decide_eq_true hb2))) rfl (fun a HF => ?_)
      refine wc_move HF nS rfl (HF.wy rfl rfl rfl rfl (notT (decide_eq_true hb2))) rfl (fun a HF => ?_)
      refine wc_bin HF nS rfl rfl (b_bne Try.underlying4) (HF.wy rfl rfl rfl rfl (notT (decide_eq_true hb2))) rfl (fun a HF => ?_)
      refine wc_pick (b := false) HF nS rfl (notT (decide_eq_true hb2)) rfl rfl rfl (fun a HF => ?_)
      refine wc_end ?_
      refine then_n ?_
      by_cases hb3 : (y7 == y4) = true
      · have h := (if_pos hb3).symm.trans h
        refine wp_if (b' := false) HF rfl (notT hb3) ?_
        refine wp_skip ?_
        refine then_n ?_
        refine wp_seq ?_
        refine wp_seq ?_
        refine wc_text ?_
        refine wc_move HF nS rfl rfl rfl (fun a HF => ?_)
        refine wc_move HF nS rfl rfl rfl (fun a HF => ?_)
        obtain ⟨y8, hx6, h⟩ := obs h
        refine wc_call HF cf11 rfl (w_laws_toRowS fuel hx6 (HT.ro hr_x0).any) rfl rfl ?_
        rintro e w ⟨a3, n3, c3, rfl, hE⟩
        have hb := hE.below
        have HT := HT.pure hE
        obtain rfl := (HT.rdAt 0 rfl).neq
        have HT : St w0 (fun _ => False) w [Own 44 (rowT y8) (.slice a3 y8.length c3), Own 44 (rowT y5) (.slice a2 y5.length c2), Own 44 (rowT y2) (.slice a1 y2.length c1)] := HT
        refine ⟨_, rfl, nS, fun a HF => ?_⟩
        obtain ⟨y9, hx7, h⟩ := obs h
        refine wc_call HF cf13 rfl (w_laws_eqRowS fuel hx7 (HT.rdAt 1 rfl) (HT.rdAt 0 rfl)) rfl rfl ?_
        rintro e w ⟨rfl, hE⟩
        have hb := hE.below
        have HT := HT.pure hE
        have HT : St w0 (fun _ => False) w [Own 44 (rowT y8) (.slice a3 y8.length c3), Own 44 (rowT y5) (.slice a2 y5.length c2), Own 44 (rowT y2) (.slice a1 y2.length c1)] := HT
        refine ⟨_, rfl, nS, fun a HF => ?_⟩
        refine wc_not HF nS rfl rfl rfl (fun a HF => ?_)
        refine wc_end ?_
        refine then_n ?_
        by_cases hb4 : y9 = true
        · have h := (if_pos hb4).symm.trans h
          refine wp_if (b' := false) HF rfl (notT hb4) ?_
          refine wp_skip ?_
          refine then_n ?_
          refine wp_seq ?_
          refine wc_text ?_
          refine wc_assign HF nS rfl rfl rfl (fun a HF => ?_)
          refine wc_end ?_
          refine then_n ?_
          refine wp_ret ?_
          obtain rfl := Option.some.inj h
          refine bp_ret HF (res_one rfl HF rfl) ?_
          have HT : St w0 (fun _ => False) w [] := HT.take 0
          exact ⟨rfl, HT⟩
        · have h := (if_neg hb4).symm.trans h
          refine wp_if (b' := true) HF rfl (notF (Bool.eq_false_iff.2 hb4)) ?_
          refine wp_seq ?_
          refine wc_text ?_
          refine wc_assign HF nS rfl rfl rfl (fun a HF => ?_)
          refine wc_end ?_
          refine then_n ?_
          refine wp_ret ?_
          obtain rfl := Option.some.inj h
          refine then_r (?_)
          refine bp_ret HF (res_one rfl HF rfl) ?_
          have HT : St w0 (fun _ => False) w [] := HT.take 0
          exact ⟨rfl, HT⟩
      · have h := (if_neg hb3).symm.trans h
        refine wp_if (b' := true) HF rfl (notF (Bool.eq_false_iff.2 hb3)) ?_
        refine wp_seq ?_
        refine wc_text ?_
        refine wc_assign HF nS rfl rfl rfl (fun a HF => ?_)
        refine wc_end ?_
        refine then_n ?_
        refine wp_ret ?_
        obtain rfl := Option.some.inj h
        refine then_r (?_)
        refine bp_ret HF (res_one rfl HF rfl) ?_
        have HT : St w0 (fun _ => False) w [] := HT.take 0
        exact ⟨rfl, HT⟩
    · have h := (if_neg hb2).symm.trans h
      refine wc_skip HF nS (HF.wn rfl rfl rfl rfl (notF (decide_eq_false hb2))) rfl (fun a HF => ?_)
      refine wc_skip HF nS (HF.wn rfl rfl rfl rfl (notF (decide_eq_false hb2))) rfl (fun a HF => ?_)
      refine wc_skip HF nS (HF.wn rfl rfl rfl rfl (notF (decide_eq_false hb2))) rfl (fun a HF => ?_)
      refine wc_pick (b := true) HF nS rfl (notF (decide_eq_false hb2)) rfl rfl rfl (fun a HF => ?_)
      refine wc_end ?_
      refine then_n ?_
      refine wp_if (b' := true) HF rfl rfl ?_
      refine wp_seq ?_
      refine wc_text ?_
      refine wc_assign HF nS rfl rfl rfl (fun a HF => ?_)
      refine wc_end ?_
      refine then_n ?_
      refine wp_ret ?_
      obtain rfl := Option.some.inj h
      refine then_r (?_)
      refine bp_ret HF (res_one rfl HF rfl) ?_
      have HT : St w0 (fun _ => False) w [] := HT.take 0
      exact ⟨rfl, HT⟩

def m_spec_Cut (fuel : Nat) (x0 : List I2) (x1 : Int) : Option (List I2) :=
  (m_spec_RowsOk fuel x0).bind fun y1 =>
  if y1 = true then
    if x1 ≤ 0 then
      some ([] : List I2)
    else
      (
        if (x0.length : Int) < x1 then
          some (x0.length : Int)
        else
          some x1).bind fun z1 =>
      if 0 ≤ (0 : Int) ∧ (0 : Int) ≤ z1 ∧ z1 ≤ (x0.length : Int) then
        if ([] : List I2).length + (subl x0 0 z1).length ≤ 17179869184 then
          some (([] : List I2) ++ (subl x0 0 z1))
        else none
      else none
  else
    some ([] : List I2)

set_option maxRecDepth 100000 in
set_option maxHeartbeats 4000000 in
theorem w_spec_Cut (fuel : Nat) {x0 : List I2} {x1 : Int} {a_x0 : Option Addr} {n_x0 c_x0 : Nat} {r0 : List I2} {w0 : World} (h : m_spec_Cut fuel x0 x1 = some r0) (hr_x0 : RdT (fun b => ¬ False) w0 (rowT x0) (.slice a_x0 n_x0 c_x0)) :
    Calls Try.prog 16 #[.slice a_x0 n_x0 c_x0, .int .i64 x1] w0 fun e w => ∃ a_r0 n_r0 c_r0, e = .returned (.slice a_r0 n_r0 c_r0) ∧ St w0 (fun _ => False) w [Own 44 (rowT r0) (.slice a_r0 n_r0 c_r0)] := by
  obtain rfl := hr_x0.neq
  have HT : St w0 (fun _ => False) w0 [] := St.init0
  rw [m_spec_Cut] at h
  refine calls_fr (n := 24) [.slice a_x0 x0.length c_x0, .int .i64 x1] Try.func16 rfl rfl rfl (fun a HF => ?_)
  have HT : St w0 (fun _ => False) w0 [] := HT
  refine wp_seq ?_
  refine wc_text ?_
  refine wc_assign HF nS rfl rfl rfl (fun a HF => ?_)
  refine wc_end ?_
  refine then_n ?_
  refine wp_seq ?_
  refine wp_seq ?_
  refine wc_text ?_
  refine wc_move HF nS rfl rfl rfl (fun a HF => ?_)
  obtain ⟨y1, hx1, h⟩ := obs h
  refine wc_call HF cf10 rfl (w_spec_RowsOk fuel hx1 (HT.ro hr_x0).any) rfl rfl ?_
  rintro e w ⟨rfl, hE⟩
  have hb := hE.below
  have HT := HT.pure hE
  have HT : St w0 (fun _ => False) w [] := HT
  refine ⟨_, rfl, nS, fun a HF => ?_⟩
  refine wc_not HF nS rfl rfl rfl (fun a HF => ?_)
  refine wc_move HF nS rfl rfl rfl (fun a HF => ?_)
  by_cases hb1 : y1 = true
  · have h := (if_pos hb1).symm.trans h
    refine wc_move HF nS rfl (HF.wy rfl rfl rfl rfl (notT hb1)) rfl (fun a HF => ?_)
    refine wc_bin HF nS rfl rfl b_le (HF.wy rfl rfl rfl rfl (notT hb1)) rfl (fun a HF => ?_)
    refine wc_pick (b := false) HF nS rfl (notT hb1) rfl rfl rfl (fun a HF => ?_)
    refine wc_end ?_
    refine then_n ?_
    by_cases hb2 : x1 ≤ 0
    · have h := (if_pos hb2).symm.trans h
      refine wp_if (b' := true) HF rfl (decide_eq_true hb2) ?_
      refine wp_seq ?_
      refine wc_text ?_
      refine wc_bslice (l := (([] : List I2) : List I2)) (cs := []) (A := []) HF HT bs25_0 rfl rfl (gives_flat rfl) rfl (by decide) rfl rfl (fun p1 w HT hb => ⟨nS, fun a HF => ?_⟩)
      refine wc_assign HF nS rfl rfl rfl (fun a HF => ?_)
      refine wc_end ?_
      refine then_n ?_
      refine wp_ret ?_
      obtain rfl := Option.some.inj h
      refine then_r (?_)
      refine bp_ret HF (res_one rfl HF rfl) ?_
      exact ⟨(some ⟨p1, 0, none⟩), 0, 0, rfl, HT⟩
    · have h := (if_neg hb2).symm.trans h
      refine wp_if (b' := false) HF rfl (decide_eq_false hb2) ?_
      refine wp_skip ?_
      refine then_n ?_
      obtain ⟨z1, hx2, h⟩ := obs h
      refine wp_cut (fun a w => Fr a 24 [(0, .slice a_x0 x0.length c_x0), (1, .int .i64 z1)] ∧ St w0 (fun _ => False) w []) ?_ ?_
      · have hk1 := h
        have h := hx2
        refine wp_seq ?_
        refine wc_text ?_
        refine wc_move HF nS rfl rfl rfl (fun a HF => ?_)
        refine wc_move HF nS rfl rfl rfl (fun a HF => ?_)
        refine wc_lenR HF nS Try.underlying25 rfl rfl rfl (fun a HF => ?_)
        refine wc_bin HF nS rfl rfl b_gt rfl rfl (fun a HF => ?_)
        refine wc_end ?_
        refine then_n ?_
        by_cases hb3 : (x0.length : Int) < x1
        · have h := (if_pos hb3).symm.trans h
          refine wp_if (b' := true) HF rfl (decide_eq_true hb3) ?_
          refine wc_text ?_
          refine wc_move HF nS rfl rfl rfl (fun a HF => ?_)
          refine wc_lenR HF nS Try.underlying25 rfl rfl rfl (fun a HF => ?_)
          refine wc_assign HF nS rfl rfl rfl (fun a HF => ?_)
          refine wc_end ?_
          obtain rfl := Option.some.inj h
          exact then_n ⟨(HF.keep (HF.keep HF.nil rfl) rfl), HT⟩
        · have h := (if_neg hb3).symm.trans h
          refine wp_if (b' := false) HF rfl (decide_eq_false hb3) ?_
          refine wp_skip ?_
          obtain rfl := Option.some.inj h
          exact then_n ⟨(HF.keep (HF.keep HF.nil rfl) rfl), HT⟩
      · rintro a w ⟨HF, HT⟩
        refine ?_
        refine wp_seq ?_
        refine wc_text ?_
        refine wc_bslice (l := (([] : List I2) : List I2)) (cs := []) (A := []) HF HT bs25_0 rfl rfl (gives_flat rfl) rfl (by decide) rfl rfl (fun p2 w HT hb => ⟨nS, fun a HF => ?_⟩)
        refine wc_move HF nS rfl rfl rfl (fun a HF => ?_)
        refine wc_move HF nS rfl rfl rfl (fun a HF => ?_)
        obtain ⟨hg1, h⟩ := grd h
        obtain ⟨a1, c1, hr1, hcut⟩ := RdT.cutI hr_x0 (hg1 : 0 ≤ (0 : Int) ∧ (0 : Int) ≤ z1 ∧ z1 ≤ (x0.length : Int))
        refine wc_slrH HF nS el25 rfl rfl hcut rfl rfl (fun a HF => ?_)
        obtain ⟨hg2, h⟩ := grd h
        refine wc_appendR HF HT (HT.ro hr1).any el25 rfl rfl hg2 rfl rfl rfl (fun a2 c2 w HT => ⟨nS, fun a HF => ?_⟩)
        refine wc_assign HF nS rfl rfl rfl (fun a HF => ?_)
        refine wc_end ?_
        refine then_n ?_
        refine wp_ret ?_
        obtain rfl := Option.some.inj h
        refine bp_ret HF (res_one rfl HF rfl) ?_
        exact ⟨a2, (([] : List I2) ++ (subl x0 0 z1)).length, c2, rfl, HT⟩
  · have h := (if_neg hb1).symm.trans h
    refine wc_skip HF nS (HF.wn rfl rfl rfl rfl (notF (Bool.eq_false_iff.2 hb1))) rfl (fun a HF => ?_)
    refine wc_skip HF nS (HF.wn rfl rfl rfl rfl (notF (Bool.eq_false_iff.2 hb1))) rfl (fun a HF => ?_)
    refine wc_pick (b := true) HF nS rfl (notF (Bool.eq_false_iff.2 hb1)) rfl rfl rfl (fun a HF => ?_)
    refine wc_end ?_
    refine then_n ?_
    refine wp_if (b' := true) HF rfl rfl ?_
    refine wp_seq ?_
    refine wc_text ?_
    refine wc_bslice (l := (([] : List I2) : List I2)) (cs := []) (A := []) HF HT bs25_0 rfl rfl (gives_flat rfl) rfl (by decide) rfl rfl (fun p3 w HT hb => ⟨nS, fun a HF => ?_⟩)
    refine wc_assign HF nS rfl rfl rfl (fun a HF => ?_)
    refine wc_end ?_
    refine then_n ?_
    refine wp_ret ?_
    obtain rfl := Option.some.inj h
    refine then_r (?_)
    refine bp_ret HF (res_one rfl HF rfl) ?_
    exact ⟨(some ⟨p3, 0, none⟩), 0, 0, rfl, HT⟩

def m_impl_copyRows (fuel : Nat) (x0 : List I2) : Option (List I2) :=
  if ([] : List I2).length + x0.length ≤ 17179869184 then
    some (([] : List I2) ++ x0)
  else none

set_option maxRecDepth 100000 in
set_option maxHeartbeats 4000000 in
theorem w_impl_copyRows (fuel : Nat) {x0 : List I2} {a_x0 : Option Addr} {n_x0 c_x0 : Nat} {r0 : List I2} {w0 : World} (h : m_impl_copyRows fuel x0 = some r0) (hr_x0 : RdT (fun b => ¬ False) w0 (rowT x0) (.slice a_x0 n_x0 c_x0)) :
    Calls Try.prog 36 #[.slice a_x0 n_x0 c_x0] w0 fun e w => ∃ a_r0 n_r0 c_r0, e = .returned (.slice a_r0 n_r0 c_r0) ∧ St w0 (fun _ => False) w [Own 44 (rowT r0) (.slice a_r0 n_r0 c_r0)] := by
  obtain rfl := hr_x0.neq
  have HT : St w0 (fun _ => False) w0 [] := St.init0
  rw [m_impl_copyRows] at h
  refine calls_fr (n := 5) [.slice a_x0 x0.length c_x0] Try.func36 rfl rfl rfl (fun a HF => ?_)
  have HT : St w0 (fun _ => False) w0 [] := HT
  refine wp_seq ?_
  refine wc_text ?_
  refine wc_assign HF nS rfl rfl rfl (fun a HF => ?_)
  refine wc_end ?_
  refine then_n ?_
  refine wp_seq ?_
  refine wc_text ?_
  refine wc_move HF nS rfl rfl rfl (fun a HF => ?_)
  have HT : St w0 (fun _ => False) w0 [Own 44 (rowT ([] : List I2)) (.slice none 0 0)] := HT.nilrow 44
  obtain ⟨hg1, h⟩ := grd h
  refine wc_appendR HF HT (HT.ro hr_x0).any el25 rfl rfl hg1 rfl rfl rfl (fun a1 c1 w HT => ⟨nS, fun a HF => ?_⟩)
  refine wc_assign HF nS rfl rfl rfl (fun a HF => ?_)
  refine wc_end ?_
  refine then_n ?_
  refine wp_ret ?_
  obtain rfl := Option.some.inj h
  refine bp_ret HF (res_one rfl HF rfl) ?_
  exact ⟨a1, (([] : List I2) ++ x0).length, c1, rfl, HT⟩

def m_impl_Cut (fuel : Nat) (x0 : List I2) (x1 : Int) : Option (List I2) :=
  if x1 ≤ 0 then
    some ([] : List I2)
  else
    (m_impl_RowsOk fuel x0).bind fun y1 =>
    if y1 = true then
      if 0 ≤ (0 : Int) ∧ (0 : Int) ≤ (if (x0.length : Int) < x1 then (x0.length : Int) else x1) ∧ (if (x0.length : Int) < x1 then (x0.length : Int) else x1) ≤ (x0.length : Int) then
        (m_impl_copyRows fuel (subl x0 0 (if (x0.length : Int) < x1 then (x0.length : Int) else x1))).bind fun y2 =>
        some y2
      else none
    else
      some ([] : List I2)

set_option maxRecDepth 100000 in
set_option maxHeartbeats 4000000 in
theorem w_impl_Cut (fuel : Nat) {x0 : List I2} {x1 : Int} {a_x0 : Option Addr} {n_x0 c_x0 : Nat} {r0 : List I2} {w0 : World} (h : m_impl_Cut fuel x0 x1 = some r0) (hr_x0 : RdT (fun b => ¬ False) w0 (rowT x0) (.slice a_x0 n_x0 c_x0)) :
    Calls Try.prog 17 #[.slice a_x0 n_x0 c_x0, .int .i64 x1] w0 fun e w => ∃ a_r0 n_r0 c_r0, e = .returned (.slice a_r0 n_r0 c_r0) ∧ St w0 (fun _ => False) w [Own 44 (rowT r0) (.slice a_r0 n_r0 c_r0)] := by
  obtain rfl := hr_x0.neq
  have HT : St w0 (fun _ => False) w0 [] := St.init0
  rw [m_impl_Cut] at h
  refine calls_fr (n := 19) [.slice a_x0 x0.length c_x0, .int .i64 x1] Try.func17 rfl rfl rfl (fun a HF => ?_)
  have HT : St w0 (fun _ => False) w0 [] := HT
  refine wp_seq ?_
  refine wc_text ?_
  refine wc_assign HF nS rfl rfl rfl (fun a HF => ?_)
  refine wc_end ?_
  refine then_n ?_
  refine wp_seq ?_
  refine wp_seq ?_
  refine wc_text ?_
  refine wc_move HF nS rfl rfl rfl (fun a HF => ?_)
  refine wc_bin HF nS rfl rfl b_le rfl rfl (fun a HF => ?_)
  refine wc_move HF nS rfl rfl rfl (fun a HF => ?_)
  by_cases hb1 : x1 ≤ 0
  · have h := (if_pos hb1).symm.trans h
    refine wc_skip HF nS (HF.wn rfl rfl rfl rfl (decide_eq_true hb1)) rfl (fun a HF => ?_)
    refine wc_skip HF nS (HF.wn rfl rfl rfl rfl (decide_eq_true hb1)) rfl (fun a HF => ?_)
    refine wc_skip HF nS (HF.wn rfl rfl rfl rfl (decide_eq_true hb1)) rfl (fun a HF => ?_)
    refine wc_pick (b := true) HF nS rfl (decide_eq_true hb1) rfl rfl rfl (fun a HF => ?_)
    refine wc_end ?_
    refine then_n ?_
    refine wp_if (b' := true) HF rfl rfl ?_
    refine wp_seq ?_
    refine wc_text ?_
    refine wc_assign HF nS rfl rfl rfl (fun a HF => ?_)
    refine wc_end ?_
    refine then_n ?_
    refine wp_ret ?_
    have HT : St w0 (fun _ => False) w0 [Own 44 (rowT ([] : List I2)) (.slice none 0 0)] := HT.nilrow 44
    obtain rfl := Option.some.inj h
    refine then_r (?_)
    refine bp_ret HF (res_one rfl HF rfl) ?_
    exact ⟨none, 0, 0, rfl, HT⟩
  · have h := (if_neg hb1).symm.trans h
    refine wc_move HF nS rfl (HF.wy rfl rfl rfl rfl (decide_eq_false hb1)) rfl (fun a HF => ?_)
    obtain ⟨y1, hx1, h⟩ := obs h
    refine wc_call HF cf12 rfl (w_impl_RowsOk fuel hx1 (HT.ro hr_x0).any) (HF.wy rfl rfl rfl rfl (decide_eq_false hb1)) rfl ?_
    rintro e w ⟨rfl, hE⟩
    have hb := hE.below
    have HT := HT.pure hE
    have HT : St w0 (fun _ => False) w [] := HT
    refine ⟨_, rfl, nS, fun a HF => ?_⟩
    refine wc_not HF nS rfl (HF.wy rfl rfl rfl rfl (decide_eq_false hb1)) rfl (fun a HF => ?_)
    refine wc_pick (b := false) HF nS rfl (decide_eq_false hb1) rfl rfl rfl (fun a HF => ?_)
    refine wc_end ?_
    refine then_n ?_
    by_cases hb2 : y1 = true
    · have h := (if_pos hb2).symm.trans h
      refine wp_if (b' := false) HF rfl (notT hb2) ?_
      refine wp_skip ?_
      refine then_n ?_
      refine wp_seq ?_
      refine wc_text ?_
      refine wc_move HF nS rfl rfl rfl (fun a HF => ?_)
      refine wc_move HF nS rfl rfl rfl (fun a HF => ?_)
      refine wc_move HF nS rfl rfl rfl (fun a HF => ?_)
      refine wc_lenR HF nS Try.underlying25 rfl rfl rfl (fun a HF => ?_)
      refine wc_min HF nS rfl rfl rfl rfl (fun a HF => ?_)
      obtain ⟨hg1, h⟩ := grd h
      obtain ⟨a1, c1, hr1, hcut⟩ := RdT.cutI hr_x0 (hg1 : 0 ≤ (0 : Int) ∧ (0 : Int) ≤ (if (x0.length : Int) < x1 then (x0.length : Int) else x1) ∧ (if (x0.length : Int) < x1 then (x0.length : Int) else x1) ≤ (x0.length : Int))
      refine wc_slrH HF nS el25 rfl rfl hcut rfl rfl (fun a HF => ?_)
      obtain ⟨y2, hx2, h⟩ := obs h
      refine wc_call HF cf36 rfl (w_impl_copyRows fuel hx2 (HT.ro hr1).any) rfl rfl ?_
      rintro e w ⟨a2, n2, c2, rfl, hE⟩
      have hb := hE.below
      have HT := HT.pure hE
      obtain rfl := (HT.rdAt 0 rfl).neq
      have HT : St w0 (fun _ => False) w [Own 44 (rowT y2) (.slice a2 y2.length c2)] := HT
      refine ⟨_, rfl, nS, fun a HF => ?_⟩
      refine wc_assign HF nS rfl rfl rfl (fun a HF => ?_)
      refine wc_end ?_
      refine then_n ?_
      refine wp_ret ?_
      obtain rfl := Option.some.inj h
      refine bp_ret HF (res_one rfl HF rfl) ?_
      exact ⟨a2, y2.length, c2, rfl, HT⟩
    · have h := (if_neg hb2).symm.trans h
      refine wp_if (b' := true) HF rfl (notF (Bool.eq_false_iff.2 hb2)) ?_
      refine wp_seq ?_
      refine wc_text ?_
      refine wc_assign HF nS rfl rfl rfl (fun a HF => ?_)
      refine wc_end ?_
      refine then_n ?_
      refine wp_ret ?_
      have HT : St w0 (fun _ => False) w [Own 44 (rowT ([] : List I2)) (.slice none 0 0)] := HT.nilrow 44
      obtain rfl := Option.some.inj h
      refine then_r (?_)
      refine bp_ret HF (res_one rfl HF rfl) ?_
      exact ⟨none, 0, 0, rfl, HT⟩

def m_laws_markRowS_L0 (fuel : Nat) (x0 : List I2) : Nat → (List I2) → Int → Int → Option (Int × List I2)
  | 0, _, _, _ => none
  | k1 + 1, z3, z4, z5 =>
    if z5 < (x0.length : Int) then
      (at? z3 z5).bind fun e1 =>
      if in64 (z4 + 1) then
        (at? (z3.set z5.toNat (⟨z4, e1.b⟩ : I2)) z5).bind fun e2 =>
        if in64 ((z4 + 1) + 1) then
          if in64 (z5 + 1) then
            m_laws_markRowS_L0 fuel x0 k1 ((z3.set z5.toNat (⟨z4, e1.b⟩ : I2)).set z5.toNat (⟨e2.a, z4 + 1⟩ : I2)) ((z4 + 1) + 1) (z5 + 1)
          else none
        else none
      else none
    else
      some (z4, z3)

def m_laws_markRowS (fuel : Nat) (x0 : List I2) (x1 : Int) : Option (Int × List I2) :=
  bind2 (m_laws_markRowS_L0 fuel x0 fuel x0 x1 0) fun z1 z2 =>
  some (z1, z2)

set_option maxRecDepth 100000 in
set_option maxHeartbeats 4000000 in
theorem w_laws_markRowS (fuel : Nat) {x0 : List I2} {x1 : Int} {a_x0 : Option Addr} {n_x0 c_x0 : Nat} {r0 : Int} {x0' : List I2} {w0 : World} {F : Foot} (h : m_laws_markRowS fuel x0 x1 = some (r0, x0')) (hA : StF w0 F [Own 44 (rowT x0) (.slice a_x0 n_x0 c_x0)]) :
    Calls Try.prog 18 #[.slice a_x0 n_x0 c_x0, .int .i64 x1] w0 fun e w => e = .returned (.int .i64 r0) ∧ St w0 F w [Own 44 (rowT x0') (.slice a_x0 n_x0 c_x0)] := by
  have HT0 := St.init hA
  obtain rfl := (HT0.rdAt 0 rfl).neq
  have HT : St w0 F w0 [Own 44 (rowT x0) (.slice a_x0 x0.length c_x0)] := St.init hA
  rw [m_laws_markRowS] at h
  refine calls_fr (n := 27) [.slice a_x0 x0.length c_x0, .int .i64 x1] Try.func18 rfl rfl rfl (fun a HF => ?_)
  have HT : St w0 F w0 [Own 44 (rowT x0) (.slice a_x0 x0.length c_x0)] := HT
  refine wp_seq ?_
  refine wc_text ?_
  refine wc_assign HF nS rfl rfl rfl (fun a HF => ?_)
  refine wc_end ?_
  refine then_n ?_
  obtain ⟨z1, z2, hx1, h⟩ := obs2 h
  refine wp_cut (fun a w => Fr a 27 [(1, .int .i64 z1)] ∧ St w0 F w [Own 44 (rowT z2) (.slice a_x0 x0.length c_x0)]) ?_ ?_
  · have hk1 := h
    have h := hx1
    refine wp_seq ?_
    refine wc_text ?_
    refine wc_assign HF nS rfl rfl rfl (fun a HF => ?_)
    refine wc_end ?_
    refine then_n ?_
    refine wp_block ?_
    refine wp_loopN (fun k1 a w => ∃ z3 z4 z5, m_laws_markRowS_L0 fuel x0 k1 z3 z4 z5 = some (z1, z2) ∧ Fr a 27 [(0, .slice a_x0 x0.length c_x0), (1, .int .i64 z4), (5, .int .i64 z5)] ∧ St w0 F w [Own 44 (rowT z3) (.slice a_x0 x0.length c_x0)]) fuel ⟨x0, x1, 0, h, (HF.keep (HF.keep (HF.keep HF.nil rfl) rfl) rfl), HT⟩ ?_
    rintro k1 a w ⟨z3, z4, z5, h, HF, HT⟩
    cases k1 with
    | zero => cases h
    | succ k1 =>
      rw [m_laws_markRowS_L0] at h
      refine ?_
      refine wp_seq ?_
      refine wp_seq ?_
      refine wc_text ?_
      refine wc_move HF nS rfl rfl rfl (fun a HF => ?_)
      refine wc_move HF nS rfl rfl rfl (fun a HF => ?_)
      refine wc_lenR HF nS Try.underlying25 rfl rfl rfl (fun a HF => ?_)
      refine wc_bin HF nS rfl rfl b_lt rfl rfl (fun a HF => ?_)
      refine wc_end ?_
      refine then_n ?_
      by_cases hb1 : z5 < (x0.length : Int)
      · have h := (if_pos hb1).symm.trans h
        refine wp_if (b' := true) HF rfl (decide_eq_true hb1) ?_
        refine wp_skip ?_
        refine then_n ?_
        refine wp_seq ?_
        refine wp_block ?_
        refine wp_seq ?_
        refine wc_text ?_
        refine wc_move HF nS rfl rfl rfl (fun a HF => ?_)
        refine wc_move HF nS rfl rfl rfl (fun a HF => ?_)
        refine wc_move HF nS rfl rfl rfl (fun a HF => ?_)
        obtain ⟨e1, hx2, h⟩ := obs h
        obtain ⟨b1, o1, ha1⟩ := (HT.rdAt 0 rfl).addr hx2
        refine wc_ixaddr HF nS el25 rfl ha1 ((HT.rdAt 0 rfl)).neq rfl hx2 rfl rfl (fun a HF => ?_)
        refine wc_faddr HF nS rfl fl44_0 rfl rfl (fun a HF => ?_)
        refine wc_storeR (i := z5) (j := 0) (x' := (⟨z4, e1.b⟩ : I2)) HF HT ha1 rfl rfl (fun w => (sc3 w).2) rfl rfl hx2 rfl rfl rfl rfl (fun w HT => ⟨nS, ?_⟩)
        refine wc_end ?_
        refine then_n ?_
        refine wp_seq ?_
        refine wc_text ?_
        refine wc_move HF nS rfl rfl rfl (fun a HF => ?_)
        obtain ⟨hg1, h⟩ := grd h
        refine wc_bin HF nS rfl rfl (b_add hg1) rfl rfl (fun a HF => ?_)
        refine wc_assign HF nS rfl rfl rfl (fun a HF => ?_)
        refine wc_end ?_
        refine then_n ?_
        refine wp_seq ?_
        refine wc_text ?_
        refine wc_move HF nS rfl rfl rfl (fun a HF => ?_)
        refine wc_move HF nS rfl rfl rfl (fun a HF => ?_)
        refine wc_move HF nS rfl rfl rfl (fun a HF => ?_)
        obtain ⟨e2, hx3, h⟩ := obs h
        refine wc_ixaddr HF nS el25 rfl ha1 ((HT.rdAt 0 rfl)).neq rfl hx3 rfl rfl (fun a HF => ?_)
        refine wc_faddr HF nS rfl fl44_1 rfl rfl (fun a HF => ?_)
        refine wc_storeR (i := z5) (j := 1) (x' := (⟨e2.a, z4 + 1⟩ : I2)) HF HT ha1 rfl rfl (fun w => (sc3 w).2) rfl rfl hx3 rfl rfl rfl rfl (fun w HT => ⟨nS, ?_⟩)
        refine wc_end ?_
        refine then_n ?_
        refine wc_text ?_
        refine wc_move HF nS rfl rfl rfl (fun a HF => ?_)
        obtain ⟨hg2, h⟩ := grd h
        refine wc_bin HF nS rfl rfl (b_add hg2) rfl rfl (fun a HF => ?_)
        refine wc_assign HF nS rfl rfl rfl (fun a HF => ?_)
        refine wc_end ?_
        refine blk_n ?_
        refine then_n ?_
        refine wc_text ?_
        refine wc_move HF nS rfl rfl rfl (fun a HF => ?_)
        obtain ⟨hg3, h⟩ := grd h
        refine wc_bin HF nS rfl rfl (b_add hg3) rfl rfl (fun a HF => ?_)
        refine wc_assign HF nS rfl rfl rfl (fun a HF => ?_)
        refine wc_end ?_
        exact then_n ⟨k1, Nat.lt_succ_self k1, (z3.set z5.toNat (⟨z4, e1.b⟩ : I2)).set z5.toNat (⟨e2.a, z4 + 1⟩ : I2), (z4 + 1) + 1, z5 + 1, h, (HF.keep (HF.keep (HF.keep HF.nil rfl) rfl) rfl), HT⟩
      · have h := (if_neg hb1).symm.trans h
        refine wp_if (b' := false) HF rfl (decide_eq_false hb1) ?_
        refine wp_exit ?_
        refine then_x (then_x (?_))
        refine blk_x ?_
        have hj1 := Option.some.inj h
        obtain ⟨hi1, hj2⟩ := Prod.mk.inj hj1
        subst hi1
        subst hj2
        exact then_n ⟨(HF.keep HF.nil rfl), HT⟩
  · rintro a w ⟨HF, HT⟩
    refine ?_
    refine wp_seq ?_
    refine wc_text ?_
    refine wc_move HF nS rfl rfl rfl (fun a HF => ?_)
    refine wc_assign HF nS rfl rfl rfl (fun a HF => ?_)
    refine wc_end ?_
    refine then_n ?_
    refine wp_ret ?_
    have hj3 := Option.some.inj h
    obtain ⟨hi3, hj4⟩ := Prod.mk.inj hj3
    subst hi3
    subst hj4
    refine bp_ret HF (res_one rfl HF rfl) ?_
    exact ⟨rfl, HT⟩

def m_laws_heldRowS_L0 (fuel : Nat) (x0 : List I2) : Nat → Int → Int → Option (Lp Int Int)
  | 0, _, _ => none
  | k1 + 1, z2, z3 =>
    if z3 < (x0.length : Int) then
      (at? x0 z3).bind fun e1 =>
      if e1.a = z2 then
        if in64 (z2 + 1) then
          if e1.b = (z2 + 1) then
            if in64 ((z2 + 1) + 1) then
              if in64 (z3 + 1) then
                m_laws_heldRowS_L0 fuel x0 k1 ((z2 + 1) + 1) (z3 + 1)
              else none
            else none
          else
            some (.ret (-1))
        else none
      else
        some (.ret (-1))
    else
      some (.brk z2)

def m_laws_heldRowS (fuel : Nat) (x0 : List I2) (x1 : Int) : Option Int :=
  (m_laws_heldRowS_L0 fuel x0 fuel x1 0).bind <| contL <| un1 fun z1 =>
  some z1

set_option maxRecDepth 100000 in
set_option maxHeartbeats 4000000 in
theorem w_laws_heldRowS (fuel : Nat) {x0 : List I2} {x1 : Int} {a_x0 : Option Addr} {n_x0 c_x0 : Nat} {r0 : Int} {w0 : World} (h : m_laws_heldRowS fuel x0 x1 = some r0) (hr_x0 : RdT (fun b => ¬ False) w0 (rowT x0) (.slice a_x0 n_x0 c_x0)) :
    Calls Try.prog 19 #[.slice a_x0 n_x0 c_x0, .int .i64 x1] w0 fun e w => e = .returned (.int .i64 r0) ∧ St w0 (fun _ => False) w [] := by
  obtain rfl := hr_x0.neq
  have HT : St w0 (fun _ => False) w0 [] := St.init0
  rw [m_laws_heldRowS] at h
  refine calls_fr (n := 31) [.slice a_x0 x0.length c_x0, .int .i64 x1] Try.func19 rfl rfl rfl (fun a HF => ?_)
  have HT : St w0 (fun _ => False) w0 [] := HT
  refine wp_seq ?_
  refine wc_text ?_
  refine wc_assign HF nS rfl rfl rfl (fun a HF => ?_)
  refine wc_end ?_
  refine then_n ?_
  obtain ⟨q1, hx1, h⟩ := obs h
  refine wp_cut (fun a w => ∃ z1, q1 = .brk z1 ∧ Fr a 31 [(1, .int .i64 z1)] ∧ St w0 (fun _ => False) w []) ?_ ?_
  · have hk1 := h
    have h := hx1
    refine wp_seq ?_
    refine wc_text ?_
    refine wc_assign HF nS rfl rfl rfl (fun a HF => ?_)
    refine wc_end ?_
    refine then_n ?_
    refine wp_block ?_
    refine wp_loopN (fun k1 a w => ∃ z2 z3, m_laws_heldRowS_L0 fuel x0 k1 z2 z3 = some q1 ∧ Fr a 31 [(0, .slice a_x0 x0.length c_x0), (1, .int .i64 z2), (5, .int .i64 z3)] ∧ St w0 (fun _ => False) w []) fuel ⟨x1, 0, h, (HF.keep (HF.keep (HF.keep HF.nil rfl) rfl) rfl), HT⟩ ?_
    rintro k1 a w ⟨z2, z3, h, HF, HT⟩
    cases k1 with
    | zero => cases h
    | succ k1 =>
      rw [m_laws_heldRowS_L0] at h
      refine ?_
      refine wp_seq ?_
      refine wp_seq ?_
      refine wc_text ?_
      refine wc_move HF nS rfl rfl rfl (fun a HF => ?_)
      refine wc_move HF nS rfl rfl rfl (fun a HF => ?_)
      refine wc_lenR HF nS Try.underlying25 rfl rfl rfl (fun a HF => ?_)
      refine wc_bin HF nS rfl rfl b_lt rfl rfl (fun a HF => ?_)
      refine wc_end ?_
      refine then_n ?_
      by_cases hb1 : z3 < (x0.length : Int)
      · have h := (if_pos hb1).symm.trans h
        refine wp_if (b' := true) HF rfl (decide_eq_true hb1) ?_
        refine wp_skip ?_
        refine then_n ?_
        refine wp_seq ?_
        refine wp_block ?_
        refine wp_seq ?_
        refine wp_seq ?_
        refine wc_text ?_
        refine wc_move HF nS rfl rfl rfl (fun a HF => ?_)
        refine wc_move HF nS rfl rfl rfl (fun a HF => ?_)
        obtain ⟨e1, hx2, h⟩ := obs h
        obtain ⟨b1, o1, ha1⟩ := (HT.ro hr_x0).any.addr hx2
        refine wc_ixaddr HF nS el25 rfl ha1 ((HT.ro hr_x0).any).neq rfl hx2 rfl rfl (fun a HF => ?_)
        refine wc_faddr HF nS rfl fl44_0 rfl rfl (fun a HF => ?_)
        have hc1 := (HT.ro hr_x0).any.flatAt ha1 hx2
        refine wc_load HF rfl sc3 (hc1.get 0 rfl) rfl rfl (fun a HF => ?_)
        refine wc_move HF nS rfl rfl rfl (fun a HF => ?_)
        refine wc_bin HF nS rfl rfl b_ne rfl rfl (fun a HF => ?_)
        refine wc_end ?_
        refine then_n ?_
        by_cases hb2 : e1.a = z2
        · have h := (if_pos hb2).symm.trans h
          refine wp_if (b' := false) HF rfl (notT (decide_eq_true hb2)) ?_
          refine wp_skip ?_
          refine then_n ?_
          refine wp_seq ?_
          refine wc_text ?_
          refine wc_move HF nS rfl rfl rfl (fun a HF => ?_)
          obtain ⟨hg1, h⟩ := grd h
          refine wc_bin HF nS rfl rfl (b_add hg1) rfl rfl (fun a HF => ?_)
          refine wc_assign HF nS rfl rfl rfl (fun a HF => ?_)
          refine wc_end ?_
          refine then_n ?_
          refine wp_seq ?_
          refine wp_seq ?_
          refine wc_text ?_
          refine wc_move HF nS rfl rfl rfl (fun a HF => ?_)
          refine wc_move HF nS rfl rfl rfl (fun a HF => ?_)
          refine wc_ixaddr HF nS el25 rfl ha1 ((HT.ro hr_x0).any).neq rfl hx2 rfl rfl (fun a HF => ?_)
          refine wc_faddr HF nS rfl fl44_1 rfl rfl (fun a HF => ?_)
          have hc2 := (HT.ro hr_x0).any.flatAt ha1 hx2
          refine wc_load HF rfl sc3 (hc2.get 1 rfl) rfl rfl (fun a HF => ?_)
          refine wc_move HF nS rfl rfl rfl (fun a HF => ?_)
          refine wc_bin HF nS rfl rfl b_ne rfl rfl (fun a HF => ?_)
          refine wc_end ?_
          refine then_n ?_
          by_cases hb3 : e1.b = (z2 + 1)
          · have h := (if_pos hb3).symm.trans h
            refine wp_if (b' := false) HF rfl (notT (decide_eq_true hb3)) ?_
            refine wp_skip ?_
            refine then_n ?_
            refine wc_text ?_
            refine wc_move HF nS rfl rfl rfl (fun a HF => ?_)
            obtain ⟨hg2, h⟩ := grd h
            refine wc_bin HF nS rfl rfl (b_add hg2) rfl rfl (fun a HF => ?_)
            refine wc_assign HF nS rfl rfl rfl (fun a HF => ?_)
            refine wc_end ?_
            refine blk_n ?_
            refine then_n ?_
            refine wc_text ?_
            refine wc_move HF nS rfl rfl rfl (fun a HF => ?_)
            obtain ⟨hg3, h⟩ := grd h
            refine wc_bin HF nS rfl rfl (b_add hg3) rfl rfl (fun a HF => ?_)
            refine wc_assign HF nS rfl rfl rfl (fun a HF => ?_)
            refine wc_end ?_
            exact then_n ⟨k1, Nat.lt_succ_self k1, (z2 + 1) + 1, z3 + 1, h, (HF.keep (HF.keep (HF.keep HF.nil rfl) rfl) rfl), HT⟩
          · have h := (if_neg hb3).symm.trans h
            refine wp_if (b' := true) HF rfl (notF (decide_eq_false hb3)) ?_
            refine wp_seq ?_
            refine wc_text ?_
            refine wc_assign HF nS rfl rfl rfl (fun a HF => ?_)
            refine wc_end ?_
            refine then_n ?_
            refine wp_ret ?_
            obtain rfl := Option.some.inj h
            have h := retL hk1
            obtain rfl := Option.some.inj h
            refine then_r (blk_r (then_r (then_r (blk_r (then_r (?_))))))
            refine bp_ret HF (res_one rfl HF rfl) ?_
            exact ⟨rfl, HT⟩
        · have h := (if_neg hb2).symm.trans h
          refine wp_if (b' := true) HF rfl (notF (decide_eq_false hb2)) ?_
          refine wp_seq ?_
          refine wc_text ?_
          refine wc_assign HF nS rfl rfl rfl (fun a HF => ?_)
          refine wc_end ?_
          refine then_n ?_
          refine wp_ret ?_
          obtain rfl := Option.some.inj h
          have h := retL hk1
          obtain rfl := Option.some.inj h
          refine then_r (blk_r (then_r (then_r (blk_r (then_r (?_))))))
          refine bp_ret HF (res_one rfl HF rfl) ?_
          exact ⟨rfl, HT⟩
      · have h := (if_neg hb1).symm.trans h
        refine wp_if (b' := false) HF rfl (decide_eq_false hb1) ?_
        refine wp_exit ?_
        refine then_x (then_x (?_))
        refine blk_x ?_
        exact then_n ⟨z2, (Option.some.inj h).symm, (HF.keep HF.nil rfl), HT⟩
  · rintro a w ⟨z1, rfl, HF, HT⟩
    have h := brkL1 h
    refine ?_
    refine wp_seq ?_
    refine wc_text ?_
    refine wc_move HF nS rfl rfl rfl (fun a HF => ?_)
    refine wc_assign HF nS rfl rfl rfl (fun a HF => ?_)
    refine wc_end ?_
    refine then_n ?_
    refine wp_ret ?_
    obtain rfl := Option.some.inj h
    refine bp_ret HF (res_one rfl HF rfl) ?_
    exact ⟨rfl, HT⟩

def m_laws_FnExactCut (fuel : Nat) (x0 : List I2) (x1 : Int) : Option Bool :=
  (m_laws_szRowS fuel x0 1048576).bind fun y1 =>
  if y1 < 0 then
    some true
  else
    (m_laws_toRowS fuel x0).bind fun y2 =>
    (m_spec_Cut fuel y2 x1).bind fun y3 =>
    (m_laws_toRowS fuel x0).bind fun y4 =>
    (m_impl_Cut fuel y4 x1).bind fun y5 =>
    (m_laws_eqRowS fuel y5 y3).bind fun y6 =>
    if y6 = true then
      (m_laws_toRowS fuel x0).bind fun y7 =>
      (m_laws_eqRowS fuel y4 y7).bind fun y8 =>
      if y8 = true then
        bind2 (m_laws_markRowS fuel y4 1) fun y9 y10 =>
        if y9 < 0 then
          some false
        else
          (m_laws_eqRowS fuel y5 y3).bind fun y11 =>
          if y11 = true then
            bind2 (m_laws_markRowS fuel y5 1) fun y12 y13 =>
            (m_laws_heldRowS fuel y13 1).bind fun y14 =>
            if y14 < 0 then
              some false
            else
              if y14 = y12 then
                (m_laws_toRowS fuel x0).bind fun y15 =>
                (m_impl_Cut fuel y15 x1).bind fun y16 =>
                (m_laws_eqRowS fuel y16 y3).bind fun y17 =>
                if y17 = true then
                  (m_laws_heldRowS fuel y13 1).bind fun y18 =>
                  if y18 < 0 then
                    some false
                  else
                    if y18 = y12 then
                      some true
                    else
                      some false
                else
                  some false
              else
                some false
          else
            some false
      else
        some false
    else
      some false

set_option maxRecDepth 100000 in
set_option maxHeartbeats 4000000 in
theorem w_laws_FnExactCut (fuel : Nat) {x0 : List I2} {x1 : Int} {a_x0 : Option Addr} {n_x0 c_x0 : Nat} {r0 : Bool} {w0 : World} (h : m_laws_FnExactCut fuel x0 x1 = some r0) (hr_x0 : RdT (fun b => ¬ False) w0 (rowT x0) (.slice a_x0 n_x0 c_x0)) :
    Calls Try.prog 5 #[.slice a_x0 n_x0 c_x0, .int .i64 x1] w0 fun e w => e = .returned (.bool r0) ∧ St w0 (fun _ => False) w [] := by
  obtain rfl := hr_x0.neq
  have HT : St w0 (fun _ => False) w0 [] := St.init0
  rw [m_laws_FnExactCut] at h
  refine calls_fr (n := 74) [.slice a_x0 x0.length c_x0, .int .i64 x1] Try.func5 rfl rfl rfl (fun a HF => ?_)
  have HT : St w0 (fun _ => False) w0 [] := HT
  refine wp_seq ?_
  refine wc_text ?_
  refine wc_assign HF nS rfl rfl rfl (fun a HF => ?_)
  refine wc_end ?_
  refine then_n ?_
  refine wp_seq ?_
  refine wc_text ?_
  refine wc_assign HF nS rfl rfl rfl (fun a HF => ?_)
  refine wc_end ?_
  refine then_n ?_
  refine wp_seq ?_
  refine wc_text ?_
  refine wc_move HF nS rfl rfl rfl (fun a HF => ?_)
  refine wc_move HF nS rfl rfl rfl (fun a HF => ?_)
  obtain ⟨y1, hx1, h⟩ := obs h
  refine wc_call HF cf9 rfl (w_laws_szRowS fuel hx1 (HT.ro hr_x0).any) rfl rfl ?_
  rintro e w ⟨rfl, hE⟩
  have hb := hE.below
  have HT := HT.pure hE
  have HT : St w0 (fun _ => False) w [] := HT
  refine ⟨_, rfl, nS, fun a HF => ?_⟩
  refine wc_assign HF nS rfl rfl rfl (fun a HF => ?_)
  refine wc_end ?_
  refine then_n ?_
  refine wp_seq ?_
  refine wp_seq ?_
  refine wc_text ?_
  refine wc_move HF nS rfl rfl rfl (fun a HF => ?_)
  refine wc_bin HF nS rfl rfl b_lt rfl rfl (fun a HF => ?_)
  refine wc_end ?_
  refine then_n ?_
  by_cases hb1 : y1 < 0
  · have h := (if_pos hb1).symm.trans h
    refine wp_if (b' := true) HF rfl (decide_eq_true hb1) ?_
    refine wp_seq ?_
    refine wc_text ?_
    refine wc_assign HF nS rfl rfl rfl (fun a HF => ?_)
    refine wc_end ?_
    refine then_n ?_
    refine wp_ret ?_
    obtain rfl := Option.some.inj h
    refine then_r (?_)
    refine bp_ret HF (res_one rfl HF rfl) ?_
    exact ⟨rfl, HT⟩
  · have h := (if_neg hb1).symm.trans h
    refine wp_if (b' := false) HF rfl (decide_eq_false hb1) ?_
    refine wp_skip ?_
    refine then_n ?_
    refine wp_seq ?_
    refine wc_text ?_
    refine wc_move HF nS rfl rfl rfl (fun a HF => ?_)
    obtain ⟨y2, hx2, h⟩ := obs h
    refine wc_call HF cf11 rfl (w_laws_toRowS fuel hx2 (HT.ro hr_x0).any) rfl rfl ?_
    rintro e w ⟨a1, n1, c1, rfl, hE⟩
    have hb := hE.below
    have HT := HT.pure hE
    obtain rfl := (HT.rdAt 0 rfl).neq
    have HT : St w0 (fun _ => False) w [Own 44 (rowT y2) (.slice a1 y2.length c1)] := HT
    refine ⟨_, rfl, nS, fun a HF => ?_⟩
    refine wc_move HF nS rfl rfl rfl (fun a HF => ?_)
    obtain ⟨y3, hx3, h⟩ := obs h
    refine wc_call HF cf16 rfl (w_spec_Cut fuel hx3 (HT.rdAt 0 rfl)) rfl rfl ?_
    rintro e w ⟨a2, n2, c2, rfl, hE⟩
    have hb := hE.below
    have HT := HT.pure hE
    obtain rfl := (HT.rdAt 0 rfl).neq
    have HT : St w0 (fun _ => False) w [Own 44 (rowT y3) (.slice a2 y3.length c2), Own 44 (rowT y2) (.slice a1 y2.length c1)] := HT
    refine ⟨_, rfl, nS, fun a HF => ?_⟩
    refine wc_assign HF nS rfl rfl rfl (fun a HF => ?_)
    refine wc_end ?_
    refine then_n ?_
    refine wp_seq ?_
    refine wc_text ?_
    refine wc_move HF nS rfl rfl rfl (fun a HF => ?_)
    obtain ⟨y4, hx4, h⟩ := obs h
    refine wc_call HF cf11 rfl (w_laws_toRowS fuel hx4 (HT.ro hr_x0).any) rfl rfl ?_
    rintro e w ⟨a3, n3, c3, rfl, hE⟩
    have hb := hE.below
    have HT := HT.pure hE
    obtain rfl := (HT.rdAt 0 rfl).neq
    have HT : St w0 (fun _ => False) w [Own 44 (rowT y4) (.slice a3 y4.length c3), Own 44 (rowT y3) (.slice a2 y3.length c2), Own 44 (rowT y2) (.slice a1 y2.length c1)] := HT
    refine ⟨_, rfl, nS, fun a HF => ?_⟩
    refine wc_assign HF nS rfl rfl rfl (fun a HF => ?_)
    refine wc_end ?_
    refine then_n ?_
    refine wp_seq ?_
    refine wc_text ?_
    refine wc_move HF nS rfl rfl rfl (fun a HF => ?_)
    refine wc_move HF nS rfl rfl rfl (fun a HF => ?_)
    obtain ⟨y5, hx5, h⟩ := obs h
    refine wc_call HF cf17 rfl (w_impl_Cut fuel hx5 (HT.rdAt 0 rfl)) rfl rfl ?_
    rintro e w ⟨a4, n4, c4, rfl, hE⟩
    have hb := hE.below
    have HT := HT.pure hE
    obtain rfl := (HT.rdAt 0 rfl).neq
    have HT : St w0 (fun _ => False) w [Own 44 (rowT y5) (.slice a4 y5.length c4), Own 44 (rowT y4) (.slice a3 y4.length c3), Own 44 (rowT y3) (.slice a2 y3.length c2), Own 44 (rowT y2) (.slice a1 y2.length c1)] := HT
    refine ⟨_, rfl, nS, fun a HF => ?_⟩
    refine wc_assign HF nS rfl rfl rfl (fun a HF => ?_)
    refine wc_end ?_
    refine then_n ?_
    refine wp_seq ?_
    refine wp_seq ?_
    refine wc_text ?_
    refine wc_move HF nS rfl rfl rfl (fun a HF => ?_)
    refine wc_move HF nS rfl rfl rfl (fun a HF => ?_)
    obtain ⟨y6, hx6, h⟩ := obs h
    refine wc_call HF cf13 rfl (w_laws_eqRowS fuel hx6 (HT.rdAt 0 rfl) (HT.rdAt 2 rfl)) rfl rfl ?_
    rintro e w ⟨rfl, hE⟩
    have hb := hE.below
    have HT := HT.pure hE
    have HT : St w0 (fun _ => False) w [Own 44 (rowT y5) (.slice a4 y5.length c4), Own 44 (rowT y4) (.slice a3 y4.length c3), Own 44 (rowT y3) (.slice a2 y3.length c2), Own 44 (rowT y2) (.slice a1 y2.length c1)] := HT
    refine ⟨_, rfl, nS, fun a HF => ?_⟩
    refine wc_not HF nS rfl rfl rfl (fun a HF => ?_)
    refine wc_end ?_
    refine then_n ?_
    by_cases hb2 : y6 = true
    · have h := (if_pos hb2).symm.trans h
      refine wp_if (b' := false) HF rfl (notT hb2) ?_
      refine wp_skip ?_
      refine then_n ?_
      refine wp_seq ?_
      refine wp_seq ?_
      refine wc_text ?_
      refine wc_move HF nS rfl rfl rfl (fun a HF => ?_)
      refine wc_move HF nS rfl rfl rfl (fun a HF => ?_)
      obtain ⟨y7, hx7, h⟩ := obs h
      refine wc_call HF cf11 rfl (w_laws_toRowS fuel hx7 (HT.ro hr_x0).any) rfl rfl ?_
      rintro e w ⟨a5, n5, c5, rfl, hE⟩
      have hb := hE.below
      have HT := HT.pure hE
      obtain rfl := (HT.rdAt 0 rfl).neq
      have HT : St w0 (fun _ => False) w [Own 44 (rowT y7) (.slice a5 y7.length c5), Own 44 (rowT y5) (.slice a4 y5.length c4), Own 44 (rowT y4) (.slice a3 y4.length c3), Own 44 (rowT y3) (.slice a2 y3.length c2), Own 44 (rowT y2) (.slice a1 y2.length c1)] := HT
      refine ⟨_, rfl, nS, fun a HF => ?_⟩
      obtain ⟨y8, hx8, h⟩ := obs h
      refine wc_call HF cf13 rfl (w_laws_eqRowS fuel hx8 (HT.rdAt 2 rfl) (HT.rdAt 0 rfl)) rfl rfl ?_
      rintro e w ⟨rfl, hE⟩
      have hb := hE.below
      have HT := HT.pure hE
      have HT : St w0 (fun _ => False) w [Own 44 (rowT y7) (.slice a5 y7.length c5), Own 44 (rowT y5) (.slice a4 y5.length c4), Own 44 (rowT y4) (.slice a3 y4.length c3), Own 44 (rowT y3) (.slice a2 y3.length c2), Own 44 (rowT y2) (.slice a1 y2.length c1)] := HT
      refine ⟨_, rfl, nS, fun a HF => ?_⟩
      refine wc_not HF nS rfl rfl rfl (fun a HF => ?_)
      refine wc_end ?_
      refine then_n ?_
      by_cases hb3 : y8 = true
      · have h := (if_pos hb3).symm.trans h
        refine wp_if (b' := false) HF rfl (notT hb3) ?_
        refine wp_skip ?_
        refine then_n ?_
        refine wp_seq ?_
        refine wc_text ?_
        refine wc_assign HF nS rfl rfl rfl (fun a HF => ?_)
        refine wc_end ?_
        refine then_n ?_
        refine wp_seq ?_
        refine wc_text ?_
        refine wc_move HF nS rfl rfl rfl (fun a HF => ?_)
        refine wc_move HF nS rfl rfl rfl (fun a HF => ?_)
        obtain ⟨y9, y10, hx9, h⟩ := obs2 h
        have HT : St w0 (fun _ => False) w [Own 44 (rowT y4) (.slice a3 y4.length c3), Own 44 (rowT y7) (.slice a5 y7.length c5), Own 44 (rowT y5) (.slice a4 y5.length c4), Own 44 (rowT y3) (.slice a2 y3.length c2), Own 44 (rowT y2) (.slice a1 y2.length c1)] := HT.pick 2
        obtain ⟨F1, hAF1, hFF1, hbackF1, hroF1, hownF1⟩ := St.handR (A := [Own 44 (rowT y4) (.slice a3 y4.length c3)]) HT
        refine wc_call HF cf18 rfl (w_laws_markRowS fuel hx9 hAF1) rfl rfl ?_
        rintro e w ⟨rfl, hE⟩
        have HT := hbackF1 _ _ hE
        have HT : St w0 (fun _ => False) w [Own 44 (rowT y10) (.slice a3 y4.length c3), Own 44 (rowT y7) (.slice a5 y7.length c5), Own 44 (rowT y5) (.slice a4 y5.length c4), Own 44 (rowT y3) (.slice a2 y3.length c2), Own 44 (rowT y2) (.slice a1 y2.length c1)] := HT
        refine ⟨_, rfl, nS, fun a HF => ?_⟩
        refine wc_assign HF nS rfl rfl rfl (fun a HF => ?_)
        refine wc_end ?_
        refine then_n ?_
        refine wp_seq ?_
        refine wp_seq ?_
        refine wc_text ?_
        refine wc_move HF nS rfl rfl rfl (fun a HF => ?_)
        refine wc_bin HF nS rfl rfl b_lt rfl rfl (fun a HF => ?_)
        refine wc_move HF nS rfl rfl rfl (fun a HF => ?_)
        by_cases hb4 : y9 < 0
        · have h := (if_pos hb4).symm.trans h
          refine wc_skip HF nS (HF.wn rfl rfl rfl rfl (decide_eq_true hb4)) rfl (fun a HF => ?_)
          refine wc_skip HF nS (HF.wn rfl rfl rfl rfl (decide_eq_true hb4)) rfl (fun a HF => ?_)
          refine wc_skip HF nS (HF.wn rfl rfl rfl rfl (decide_eq_true hb4)) rfl (fun a HF => ?_)
          refine wc_skip HF nS (HF.wn rfl rfl rfl rfl (decide_eq_true hb4)) rfl (fun a HF => ?_)
          refine wc_pick (b := true) HF nS rfl (decide_eq_true hb4) rfl rfl rfl (fun a HF => ?_)
          refine wc_end ?_
          refine then_n ?_
          refine wp_if (b' := true) HF rfl rfl ?_
          refine wp_seq ?_
          refine wc_text ?_
          refine wc_assign HF nS rfl rfl rfl (fun a HF => ?_)
          refine wc_end ?_
          refine then_n ?_
          refine wp_ret ?_
          obtain rfl := Option.some.inj h
          refine then_r (?_)
          refine bp_ret HF (res_one rfl HF rfl) ?_
          have HT : St w0 (fun _ => False) w [] := HT.take 0
          exact ⟨rfl, HT⟩
        · have h := (if_neg hb4).symm.trans h
          refine wc_move HF nS rfl (HF.wy rfl rfl rfl rfl (decide_eq_false hb4)) rfl (fun a HF => ?_)
          refine wc_move HF nS rfl (HF.wy rfl rfl rfl rfl (decide_eq_false hb4)) rfl (fun a HF => ?_)
          obtain ⟨y11, hx10, h⟩ := obs h
          refine wc_call HF cf13 rfl (w_laws_eqRowS fuel hx10 (HT.rdAt 2 rfl) (HT.rdAt 3 rfl)) (HF.wy rfl rfl rfl rfl (decide_eq_false hb4)) rfl ?_
          rintro e w ⟨rfl, hE⟩
          have hb := hE.below
          have HT := HT.pure hE
          have HT : St w0 (fun _ => False) w [Own 44 (rowT y10) (.slice a3 y4.length c3), Own 44 (rowT y7) (.slice a5 y7.length c5), Own 44 (rowT y5) (.slice a4 y5.length c4), Own 44 (rowT y3) (.slice a2 y3.length c2), Own 44 (rowT y2) (.slice a1 y2.length c1)] := HT
          refine ⟨_, rfl, nS, fun a HF => ?_⟩
          refine wc_not HF nS rfl (HF.wy rfl rfl rfl rfl (decide_eq_false hb4)) rfl (fun a HF => ?_)
          refine wc_pick (b := false) HF nS rfl (decide_eq_false hb4) rfl rfl rfl (fun a HF => ?_)
          refine wc_end ?_
          refine then_n ?_
          by_cases hb5 : y11 = true
          · have h := (if_pos hb5).symm.trans h
            refine wp_if (b' := false) HF rfl (notT hb5) ?_
            refine wp_skip ?_
            refine then_n ?_
            refine wp_seq ?_
            refine wc_text ?_
            refine wc_assign HF nS rfl rfl rfl (fun a HF => ?_)
            refine wc_end ?_
            refine then_n ?_
            refine wp_seq ?_
            refine wc_text ?_
            refine wc_move HF nS rfl rfl rfl (fun a HF => ?_)
            refine wc_move HF nS rfl rfl rfl (fun a HF => ?_)
            obtain ⟨y12, y13, hx11, h⟩ := obs2 h
            have HT : St w0 (fun _ => False) w [Own 44 (rowT y5) (.slice a4 y5.length c4), Own 44 (rowT y10) (.slice a3 y4.length c3), Own 44 (rowT y7) (.slice a5 y7.length c5), Own 44 (rowT y3) (.slice a2 y3.length c2), Own 44 (rowT y2) (.slice a1 y2.length c1)] := HT.pick 2
            obtain ⟨F2, hAF2, hFF2, hbackF2, hroF2, hownF2⟩ := St.handR (A := [Own 44 (rowT y5) (.slice a4 y5.length c4)]) HT
            refine wc_call HF cf18 rfl (w_laws_markRowS fuel hx11 hAF2) rfl rfl ?_
            rintro e w ⟨rfl, hE⟩
            have HT := hbackF2 _ _ hE
            have HT : St w0 (fun _ => False) w [Own 44 (rowT y13) (.slice a4 y5.length c4), Own 44 (rowT y10) (.slice a3 y4.length c3), Own 44 (rowT y7) (.slice a5 y7.length c5), Own 44 (rowT y3) (.slice a2 y3.length c2), Own 44 (rowT y2) (.slice a1 y2.length c1)] := HT
            refine ⟨_, rfl, nS, fun a HF => ?_⟩
            refine wc_assign HF nS rfl rfl rfl (fun a HF => ?_)
            refine wc_end ?_
            refine then_n ?_
            refine wp_seq ?_
            refine wc_text ?_
            refine wc_assign HF nS rfl rfl rfl (fun a HF => ?_)
            refine wc_end ?_
            refine then_n ?_
            refine wp_seq ?_
            refine wc_text ?_
            refine wc_move HF nS rfl rfl rfl (fun a HF => ?_)
            refine wc_move HF nS rfl rfl rfl (fun a HF => ?_)
            obtain ⟨y14, hx12, h⟩ := obs h
            refine wc_call HF cf19 rfl (w_laws_heldRowS fuel hx12 (HT.rdAt 0 rfl)) rfl rfl ?_
            rintro e w ⟨rfl, hE⟩
            have hb := hE.below
            have HT := HT.pure hE
            have HT : St w0 (fun _ => False) w [Own 44 (rowT y13) (.slice a4 y5.length c4), Own 44 (rowT y10) (.slice a3 y4.length c3), Own 44 (rowT y7) (.slice a5 y7.length c5), Own 44 (rowT y3) (.slice a2 y3.length c2), Own 44 (rowT y2) (.slice a1 y2.length c1)] := HT
            refine ⟨_, rfl, nS, fun a HF => ?_⟩
            refine wc_assign HF nS rfl rfl rfl (fun a HF => ?_)
            refine wc_end ?_
            refine then_n ?_
            refine wp_seq ?_
            refine wp_seq ?_
            refine wc_text ?_
            refine wc_move HF nS rfl rfl rfl (fun a HF => ?_)
            refine wc_bin HF nS rfl rfl b_lt rfl rfl (fun a HF => ?_)
            refine wc_end ?_
            refine then_n ?_
            by_cases hb6 : y14 < 0
            · have h := (if_pos hb6).symm.trans h
              refine wp_if (b' := true) HF rfl (decide_eq_true hb6) ?_
              refine wp_seq ?_
              refine wc_text ?_
              refine wc_assign HF nS rfl rfl rfl (fun a HF => ?_)
              refine wc_end ?_
              refine then_n ?_
              refine wp_ret ?_
              obtain rfl := Option.some.inj h
              refine then_r (?_)
              refine bp_ret HF (res_one rfl HF rfl) ?_
              have HT : St w0 (fun _ => False) w [] := HT.take 0
              exact ⟨rfl, HT⟩
            · have h := (if_neg hb6).symm.trans h
              refine wp_if (b' := false) HF rfl (decide_eq_false hb6) ?_
              refine wp_skip ?_
              refine then_n ?_
              refine wp_seq ?_
              refine wp_seq ?_
              refine wc_text ?_
              refine wc_move HF nS rfl rfl rfl (fun a HF => ?_)
              refine wc_move HF nS rfl rfl rfl (fun a HF => ?_)
              refine wc_bin HF nS rfl rfl b_ne rfl rfl (fun a HF => ?_)
              refine wc_end ?_
              refine then_n ?_
              by_cases hb7 : y14 = y12
              · have h := (if_pos hb7).symm.trans h
                refine wp_if (b' := false) HF rfl (notT (decide_eq_true hb7)) ?_
                refine wp_skip ?_
                refine then_n ?_
                refine wp_seq ?_
                refine wc_text ?_
                refine wc_move HF nS rfl rfl rfl (fun a HF => ?_)
                obtain ⟨y15, hx13, h⟩ := obs h
                refine wc_call HF cf11 rfl (w_laws_toRowS fuel hx13 (HT.ro hr_x0).any) rfl rfl ?_
                rintro e w ⟨a6, n6, c6, rfl, hE⟩
                have hb := hE.below
                have HT := HT.pure hE
                obtain rfl := (HT.rdAt 0 rfl).neq
                have HT : St w0 (fun _ => False) w [Own 44 (rowT y15) (.slice a6 y15.length c6), Own 44 (rowT y13) (.slice a4 y5.length c4), Own 44 (rowT y10) (.slice a3 y4.length c3), Own 44 (rowT y7) (.slice a5 y7.length c5), Own 44 (rowT y3) (.slice a2 y3.length c2), Own 44 (rowT y2) (.slice a1 y2.length c1)] := HT
                refine ⟨_, rfl, nS, fun a HF => ?_⟩
                refine wc_move HF nS rfl rfl rfl (fun a HF => ?_)
                obtain ⟨y16, hx14, h⟩ := obs h
                refine wc_call HF cf17 rfl (w_impl_Cut fuel hx14 (HT.rdAt 0 rfl)) rfl rfl ?_
                rintro e w ⟨a7, n7, c7, rfl, hE⟩
                have hb := hE.below
                have HT := HT.pure hE
                obtain rfl := (HT.rdAt 0 rfl).neq
                have HT : St w0 (fun _ => False) w [Own 44 (rowT y16) (.slice a7 y16.length c7), Own 44 (rowT y15) (.slice a6 y15.length c6), Own 44 (rowT y13) (.slice a4 y5.length c4), Own 44 (rowT y10) (.slice a3 y4.length c3), Own 44 (rowT y7) (.slice a5 y7.length c5), Own 44 (rowT y3) (.slice a2 y3.length c2), Own 44 (rowT y2) (.slice a1 y2.length c1)] := HT
                refine ⟨_, rfl, nS, fun a HF => ?_⟩
                refine wc_assign HF nS rfl rfl rfl (fun a HF => ?_)
                refine wc_end ?_
                refine then_n ?_
                refine wp_seq ?_
                refine wp_seq ?_
                refine wc_text ?_
                refine wc_move HF nS rfl rfl rfl (fun a HF => ?_)
                refine wc_move HF nS rfl rfl rfl (fun a HF => ?_)
                obtain ⟨y17, hx15, h⟩ := obs h
                refine wc_call HF cf13 rfl (w_laws_eqRowS fuel hx15 (HT.rdAt 0 rfl) (HT.rdAt 5 rfl)) rfl rfl ?_
                rintro e w ⟨rfl, hE⟩
                have hb := hE.below
                have HT := HT.pure hE
                have HT : St w0 (fun _ => False) w [Own 44 (rowT y16) (.slice a7 y16.length c7), Own 44 (rowT y15) (.slice a6 y15.length c6), Own 44 (rowT y13) (.slice a4 y5.length c4), Own 44 (rowT y10) (.slice a3 y4.length c3), Own 44 (rowT y7) (.slice a5 y7.length c5), Own 44 (rowT y3) (.slice a2 y3.length c2), Own 44 (rowT y2) (.slice a1 y2.length c1)] := HT
                refine ⟨_, rfl, nS, fun a HF => ?_⟩
                refine wc_not HF nS rfl rfl rfl (fun a HF => ?_)
                refine wc_end ?_
                refine then_n ?_
                by_cases hb8 : y17 = true
                · have h := (if_pos hb8).symm.trans h
                  refine wp_if (b' := false) HF rfl (notT hb8) ?_
                  refine wp_skip ?_
                  refine then_n ?_
                  refine wp_seq ?_
                  refine wc_text ?_
                  refine wc_assign HF nS rfl rfl rfl (fun a HF => ?_)
                  refine wc_end ?_
                  refine then_n ?_
                  refine wp_seq ?_
                  refine wc_text ?_
                  refine wc_move HF nS rfl rfl rfl (fun a HF => ?_)
                  refine wc_move HF nS rfl rfl rfl (fun a HF => ?_)
                  obtain ⟨y18, hx16, h⟩ := obs h
                  refine wc_call HF cf19 rfl (w_laws_heldRowS fuel hx16 (HT.rdAt 2 rfl)) rfl rfl ?_
                  rintro e w ⟨rfl, hE⟩
                  have hb := hE.below
                  have HT := HT.pure hE
                  have HT : St w0 (fun _ => False) w [Own 44 (rowT y16) (.slice a7 y16.length c7), Own 44 (rowT y15) (.slice a6 y15.length c6), Own 44 (rowT y13) (.slice a4 y5.length c4), Own 44 (rowT y10) (.slice a3 y4.length c3), Own 44 (rowT y7) (.slice a5 y7.length c5), Own 44 (rowT y3) (.slice a2 y3.length c2), Own 44 (rowT y2) (.slice a1 y2.length c1)] := HT
                  refine ⟨_, rfl, nS, fun a HF => ?_⟩
                  refine wc_assign HF nS rfl rfl rfl (fun a HF => ?_)
                  refine wc_end ?_
                  refine then_n ?_
                  refine wp_seq ?_
                  refine wp_seq ?_
                  refine wc_text ?_
                  refine wc_move HF nS rfl rfl rfl (fun a HF => ?_)
                  refine wc_bin HF nS rfl rfl b_lt rfl rfl (fun a HF => ?_)
                  refine wc_end ?_
                  refine then_n ?_
                  by_cases hb9 : y18 < 0
                  · have h := (if_pos hb9).symm.trans h
                    refine wp_if (b' := true) HF rfl (decide_eq_true hb9) ?_
                    refine wp_seq ?_
                    refine wc_text ?_
                    refine wc_assign HF nS rfl rfl rfl (fun a HF => ?_)
                    refine wc_end ?_
                    refine then_n ?_
                    refine wp_ret ?_
                    obtain rfl := Option.some.inj h
                    refine then_r (?_)
                    refine bp_ret HF (res_one rfl HF rfl) ?_
                    have HT : St w0 (fun _ => False) w [] := HT.take 0
                    exact ⟨rfl, HT⟩
                  · have h := (if_neg hb9).symm.trans h
                    refine wp_if (b' := false) HF rfl (decide_eq_false hb9) ?_
                    refine wp_skip ?_
                    refine then_n ?_
                    refine wp_seq ?_
                    refine wp_seq ?_
                    refine wc_text ?_
                    refine wc_move HF nS rfl rfl rfl (fun a HF => ?_)
                    refine wc_move HF nS rfl rfl rfl (fun a HF => ?_)
                    refine wc_bin HF nS rfl rfl b_ne rfl rfl (fun a HF => ?_)
                    refine wc_end ?_
                    refine then_n ?_
                    by_cases hb10 : y18 = y12
                    · have h := (if_pos hb10).symm.trans h
                      refine wp_if (b' := false) HF rfl (notT (decide_eq_true hb10)) ?_
                      refine wp_skip ?_
                      refine then_n ?_
                      refine wp_seq ?_
                      refine wc_text ?_
                      refine wc_assign HF nS rfl rfl rfl (fun a HF => ?_)
                      refine wc_end ?_
                      refine then_n ?_
                      refine wp_ret ?_
                      obtain rfl := Option.some.inj h
                      refine bp_ret HF (res_one rfl HF rfl) ?_
                      have HT : St w0 (fun _ => False) w [] := HT.take 0
                      exact ⟨rfl, HT⟩
                    · have h := (if_neg hb10).symm.trans h
                      refine wp_if (b' := true) HF rfl (notF (decide_eq_false hb10)) ?_
                      refine wp_seq ?_
                      refine wc_text ?_
                      refine wc_assign HF nS rfl rfl rfl (fun a HF => ?_)
                      refine wc_end ?_
                      refine then_n ?_
                      refine wp_ret ?_
                      obtain rfl := Option.some.inj h
                      refine then_r (?_)
                      refine bp_ret HF (res_one rfl HF rfl) ?_
                      have HT : St w0 (fun _ => False) w [] := HT.take 0
                      exact ⟨rfl, HT⟩
                · have h := (if_neg hb8).symm.trans h
                  refine wp_if (b' := true) HF rfl (notF (Bool.eq_false_iff.2 hb8)) ?_
                  refine wp_seq ?_
                  refine wc_text ?_
                  refine wc_assign HF nS rfl rfl rfl (fun a HF => ?_)
                  refine wc_end ?_
                  refine then_n ?_
                  refine wp_ret ?_
                  obtain rfl := Option.some.inj h
                  refine then_r (?_)
                  refine bp_ret HF (res_one rfl HF rfl) ?_
                  have HT : St w0 (fun _ => False) w [] := HT.take 0
                  exact ⟨rfl, HT⟩
              · have h := (if_neg hb7).symm.trans h
                refine wp_if (b' := true) HF rfl (notF (decide_eq_false hb7)) ?_
                refine wp_seq ?_
                refine wc_text ?_
                refine wc_assign HF nS rfl rfl rfl (fun a HF => ?_)
                refine wc_end ?_
                refine then_n ?_
                refine wp_ret ?_
                obtain rfl := Option.some.inj h
                refine then_r (?_)
                refine bp_ret HF (res_one rfl HF rfl) ?_
                have HT : St w0 (fun _ => False) w [] := HT.take 0
                exact ⟨rfl, HT⟩
          · have h := (if_neg hb5).symm.trans h
            refine wp_if (b' := true) HF rfl (notF (Bool.eq_false_iff.2 hb5)) ?_
            refine wp_seq ?_
            refine wc_text ?_
            refine wc_assign HF nS rfl rfl rfl (fun a HF => ?_)
            refine wc_end ?_
            refine then_n ?_
            refine wp_ret ?_
            obtain rfl := Option.some.inj h
            refine then_r (?_)
            refine bp_ret HF (res_one rfl HF rfl) ?_
            have HT : St w0 (fun _ => False) w [] := HT.take 0
            exact ⟨rfl, HT⟩
      · have h := (if_neg hb3).symm.trans h
        refine wp_if (b' := true) HF rfl (notF (Bool.eq_false_iff.2 hb3)) ?_
        refine wp_seq ?_
        refine wc_text ?_
        refine wc_assign HF nS rfl rfl rfl (fun a HF => ?_)
        refine wc_end ?_
        refine then_n ?_
        refine wp_ret ?_
        obtain rfl := Option.some.inj h
        refine then_r (?_)
        refine bp_ret HF (res_one rfl HF rfl) ?_
        have HT : St w0 (fun _ => False) w [] := HT.take 0
        exact ⟨rfl, HT⟩
    · have h := (if_neg hb2).symm.trans h
      refine wp_if (b' := true) HF rfl (notF (Bool.eq_false_iff.2 hb2)) ?_
      refine wp_seq ?_
      refine wc_text ?_
      refine wc_assign HF nS rfl rfl rfl (fun a HF => ?_)
      refine wc_end ?_
      refine then_n ?_
      refine wp_ret ?_
      obtain rfl := Option.some.inj h
      refine then_r (?_)
      refine bp_ret HF (res_one rfl HF rfl) ?_
      have HT : St w0 (fun _ => False) w [] := HT.take 0
      exact ⟨rfl, HT⟩

def m_spec_Net_L0 (fuel : Nat) (x0 : List I2) : Nat → (List I2) → Int → Option (List I2)
  | 0, _, _ => none
  | k1 + 1, z2, z3 =>
    if z3 < 8 then
      (
        bind2 (m_spec_Last fuel x0 z3) fun y1 y2 =>
        if y2 = true then
          if z2.length + 1 ≤ 17179869184 then
            some (z2 ++ [(⟨z3, y1⟩ : I2)])
          else none
        else
          some z2).bind fun z4 =>
      if in64 (z3 + 1) then
        m_spec_Net_L0 fuel x0 k1 z4 (z3 + 1)
      else none
    else
      some z2

def m_spec_Net (fuel : Nat) (x0 : List I2) : Option (List I2) :=
  (m_spec_Net_L0 fuel x0 fuel ([] : List I2) 0).bind fun z1 =>
  some z1

set_option maxRecDepth 100000 in
set_option maxHeartbeats 4000000 in
theorem w_spec_Net (fuel : Nat) {x0 : List I2} {a_x0 : Option Addr} {n_x0 c_x0 : Nat} {r0 : List I2} {w0 : World} (h : m_spec_Net fuel x0 = some r0) (hr_x0 : RdT (fun b => ¬ False) w0 (rowT x0) (.slice a_x0 n_x0 c_x0)) :
    Calls Try.prog 20 #[.slice a_x0 n_x0 c_x0] w0 fun e w => ∃ a_r0 n_r0 c_r0, e = .returned (.slice a_r0 n_r0 c_r0) ∧ St w0 (fun _ => False) w [Own 44 (rowT r0) (.slice a_r0 n_r0 c_r0)] := by
  obtain rfl := hr_x0.neq
  have HT : St w0 (fun _ => False) w0 [] := St.init0
  rw [m_spec_Net] at h
  refine calls_fr (n := 26) [.slice a_x0 x0.length c_x0] Try.func20 rfl rfl rfl (fun a HF => ?_)
  have HT : St w0 (fun _ => False) w0 [] := HT
  refine wp_seq ?_
  refine wc_text ?_
  refine wc_assign HF nS rfl rfl rfl (fun a HF => ?_)
  refine wc_end ?_
  refine then_n ?_
  refine wp_seq ?_
  refine wc_text ?_
  refine wc_bslice (l := (([] : List I2) : List I2)) (cs := []) (A := []) HF HT bs25_0 rfl rfl (gives_flat rfl) rfl (by decide) rfl rfl (fun p1 w HT hb => ⟨nS, fun a HF => ?_⟩)
  refine wc_assign HF nS rfl rfl rfl (fun a HF => ?_)
  refine wc_end ?_
  refine then_n ?_
  obtain ⟨z1, hx1, h⟩ := obs h
  refine wp_cut (fun a w => ∃ a1 n1 c1, Fr a 26 [(3, .slice a1 n1 c1)] ∧ St w0 (fun _ => False) w [Own 44 (rowT z1) (.slice a1 n1 c1)]) ?_ ?_
  · have hk1 := h
    have h := hx1
    refine wp_seq ?_
    refine wc_text ?_
    refine wc_assign HF nS rfl rfl rfl (fun a HF => ?_)
    refine wc_end ?_
    refine then_n ?_
    refine wp_block ?_
    refine wp_loopN (fun k1 a w => ∃ z2 z3 a2 n2 c2, m_spec_Net_L0 fuel x0 k1 z2 z3 = some z1 ∧ Fr a 26 [(0, .slice a_x0 x0.length c_x0), (3, .slice a2 n2 c2), (4, .int .i64 z3)] ∧ St w0 (fun _ => False) w [Own 44 (rowT z2) (.slice a2 n2 c2)]) fuel ⟨([] : List I2), 0, (some ⟨p1, 0, none⟩), 0, 0, h, (HF.keep (HF.keep (HF.keep HF.nil rfl) rfl) rfl), HT⟩ ?_
    rintro k1 a w ⟨z2, z3, a2, n2, c2, h, HF, HT⟩
    cases k1 with
    | zero => cases h
    | succ k1 =>
      rw [m_spec_Net_L0] at h
      obtain rfl := (HT.rdAt 0 rfl).neq
      refine ?_
      refine wp_seq ?_
      refine wp_seq ?_
      refine wc_text ?_
      refine wc_move HF nS rfl rfl rfl (fun a HF => ?_)
      refine wc_bin HF nS rfl rfl b_lt rfl rfl (fun a HF => ?_)
      refine wc_end ?_
      refine then_n ?_
      by_cases hb1 : z3 < 8
      · have h := (if_pos hb1).symm.trans h
        refine wp_if (b' := true) HF rfl (decide_eq_true hb1) ?_
        refine wp_skip ?_
        refine then_n ?_
        obtain ⟨z4, hx2, h⟩ := obs h
        refine wp_cut (fun a w => ∃ a3 n3 c3, Fr a 26 [(0, .slice a_x0 x0.length c_x0), (3, .slice a3 n3 c3), (4, .int .i64 z3)] ∧ St w0 (fun _ => False) w [Own 44 (rowT z4) (.slice a3 n3 c3)]) ?_ ?_
        · have hk2 := h
          have h := hx2
          refine wp_block ?_
          refine wp_seq ?_
          refine wc_text ?_
          refine wc_move HF nS rfl rfl rfl (fun a HF => ?_)
          refine wc_move HF nS rfl rfl rfl (fun a HF => ?_)
          obtain ⟨y1, y2, hx3, h⟩ := obs2 h
          refine wc_call HF cf14 rfl (w_spec_Last fuel hx3 (HT.ro hr_x0).any) rfl rfl ?_
          rintro e w ⟨rfl, hE⟩
          have hb := hE.below
          have HT := HT.pure hE
          have HT : St w0 (fun _ => False) w [Own 44 (rowT z2) (.slice a2 z2.length c2)] := HT
          refine ⟨_, rfl, nS, fun a HF => ?_⟩
          refine wc_move HF nS rfl rfl rfl (fun a HF => ?_)
          refine wc_extract (v := .int .i64 y1) HF nS rfl rfl rfl rfl (fun a HF => ?_)
          refine wc_extract (v := .bool y2) HF nS rfl rfl rfl rfl (fun a HF => ?_)
          refine wc_assign HF nS rfl rfl rfl (fun a HF => ?_)
          refine wc_assign HF nS rfl rfl rfl (fun a HF => ?_)
          refine wc_end ?_
          refine then_n ?_
          refine wp_seq ?_
          refine wc_text ?_
          refine wc_move HF nS rfl rfl rfl (fun a HF => ?_)
          refine wc_end ?_
          refine then_n ?_
          by_cases hb2 : y2 = true
          · have h := (if_pos hb2).symm.trans h
            refine wp_if (b' := true) HF rfl hb2 ?_
            refine wc_text ?_
            refine wc_move HF nS rfl rfl rfl (fun a HF => ?_)
            refine wc_move HF nS rfl rfl rfl (fun a HF => ?_)
            refine wc_move HF nS rfl rfl rfl (fun a HF => ?_)
            refine wc_build (cs := #[.int .i64 z3, .int .i64 y1]) HF nS bd44 rfl rfl rfl rfl (fun a HF => ?_)
            refine wc_bslice (l := ([(⟨z3, y1⟩ : I2)] : List I2)) (cs := [.int .i64 z3, .int .i64 y1]) (A := []) HF HT bs25_1 rfl rfl (gives_flat rfl) rfl (by decide) rfl rfl (fun p2 w HT hb => ⟨nS, fun a HF => ?_⟩)
            obtain ⟨hg1, h⟩ := grd h
            have HT : St w0 (fun _ => False) w [Own 44 (rowT z2) (.slice a2 z2.length c2), Own 44 (rowT ([(⟨z3, y1⟩ : I2)])) (.slice (some ⟨p2, 0, none⟩) 1 1)] := HT.pick 1
            refine wc_append HF HT el25 rfl rfl (Nat.zero_lt_succ _) hg1 rfl rfl rfl (fun a4 c4 w HT => ⟨nS, fun a HF => ?_⟩)
            refine wc_assign HF nS rfl rfl rfl (fun a HF => ?_)
            refine wc_end ?_
            refine blk_n ?_
            obtain rfl := Option.some.inj h
            exact then_n ⟨a4, (z2 ++ [(⟨z3, y1⟩ : I2)]).length, c4, (HF.keep (HF.keep (HF.keep HF.nil rfl) rfl) rfl), HT⟩
          · have h := (if_neg hb2).symm.trans h
            refine wp_if (b' := false) HF rfl (Bool.eq_false_iff.2 hb2) ?_
            refine wp_skip ?_
            refine blk_n ?_
            obtain rfl := Option.some.inj h
            exact then_n ⟨a2, z2.length, c2, (HF.keep (HF.keep (HF.keep HF.nil rfl) rfl) rfl), HT⟩
        · rintro a w ⟨a3, n3, c3, HF, HT⟩
          obtain rfl := (HT.rdAt 0 rfl).neq
          refine ?_
          refine wc_text ?_
          refine wc_move HF nS rfl rfl rfl (fun a HF => ?_)
          obtain ⟨hg2, h⟩ := grd h
          refine wc_bin HF nS rfl rfl (b_add hg2) rfl rfl (fun a HF => ?_)
          refine wc_assign HF nS rfl rfl rfl (fun a HF => ?_)
          refine wc_end ?_
          exact then_n ⟨k1, Nat.lt_succ_self k1, z4, z3 + 1, a3, z4.length, c3, h, (HF.keep (HF.keep (HF.keep HF.nil rfl) rfl) rfl), HT⟩
      · have h := (if_neg hb1).symm.trans h
        refine wp_if (b' := false) HF rfl (decide_eq_false hb1) ?_
        refine wp_exit ?_
        refine then_x (then_x (?_))
        refine blk_x ?_
        obtain rfl := Option.some.inj h
        exact then_n ⟨a2, z2.length, c2, (HF.keep HF.nil rfl), HT⟩
  · rintro a w ⟨a1, n1, c1, HF, HT⟩
    obtain rfl := (HT.rdAt 0 rfl).neq
    refine ?_
    refine wp_seq ?_
    refine wc_text ?_
    refine wc_move HF nS rfl rfl rfl (fun a HF => ?_)
    refine wc_assign HF nS rfl rfl rfl (fun a HF => ?_)
    refine wc_end ?_
    refine then_n ?_
    refine wp_ret ?_
    obtain rfl := Option.some.inj h
    refine bp_ret HF (res_one rfl HF rfl) ?_
    exact ⟨a1, z1.length, c1, rfl, HT⟩

def m_impl_Net_L0 (fuel : Nat) (x0 : List I2) : Nat → (List I2) → Int → Option (List I2)
  | 0, _, _ => none
  | k1 + 1, z2, z3 =>
    if z3 < 8 then
      (
        bind2 (m_impl_Last fuel x0 z3) fun y2 y3 =>
        if y3 = true then
          if z2.length + 1 ≤ 17179869184 then
            some (z2 ++ [(⟨z3, y2⟩ : I2)])
          else none
        else
          some z2).bind fun z4 =>
      if in64 (z3 + 1) then
        m_impl_Net_L0 fuel x0 k1 z4 (z3 + 1)
      else none
    else
      some z2

def m_impl_Net (fuel : Nat) (x0 : List I2) : Option (List I2) :=
  (m_impl_RowsOk fuel x0).bind fun y1 =>
  if y1 = true then
    (m_impl_Net_L0 fuel x0 fuel ([] : List I2) 0).bind fun z1 =>
    some z1
  else
    some ([] : List I2)

set_option maxRecDepth 100000 in
set_option maxHeartbeats 4000000 in
theorem w_impl_Net (fuel : Nat) {x0 : List I2} {a_x0 : Option Addr} {n_x0 c_x0 : Nat} {r0 : List I2} {w0 : World} (h : m_impl_Net fuel x0 = some r0) (hr_x0 : RdT (fun b => ¬ False) w0 (rowT x0) (.slice a_x0 n_x0 c_x0)) :
    Calls Try.prog 21 #[.slice a_x0 n_x0 c_x0] w0 fun e w => ∃ a_r0 n_r0 c_r0, e = .returned (.slice a_r0 n_r0 c_r0) ∧ St w0 (fun _ => False) w [Own 44 (rowT r0) (.slice a_r0 n_r0 c_r0)] := by
  obtain rfl := hr_x0.neq
  have HT : St w0 (fun _ => False) w0 [] := St.init0
  rw [m_impl_Net] at h
  refine calls_fr (n := 29) [.slice a_x0 x0.length c_x0] Try.func21 rfl rfl rfl (fun a HF => ?_)
  have HT : St w0 (fun _ => False) w0 [] := HT
  refine wp_seq ?_
  refine wc_text ?_
  refine wc_assign HF nS rfl rfl rfl (fun a HF => ?_)
  refine wc_end ?_
  refine then_n ?_
  refine wp_seq ?_
  refine wp_seq ?_
  refine wc_text ?_
  refine wc_move HF nS rfl rfl rfl (fun a HF => ?_)
  obtain ⟨y1, hx1, h⟩ := obs h
  refine wc_call HF cf12 rfl (w_impl_RowsOk fuel hx1 (HT.ro hr_x0).any) rfl rfl ?_
  rintro e w ⟨rfl, hE⟩
  have hb := hE.below
  have HT := HT.pure hE
  have HT : St w0 (fun _ => False) w [] := HT
  refine ⟨_, rfl, nS, fun a HF => ?_⟩
  refine wc_not HF nS rfl rfl rfl (fun a HF => ?_)
  refine wc_end ?_
  refine then_n ?_
  by_cases hb1 : y1 = true
  · have h := (if_pos hb1).symm.trans h
    refine wp_if (b' := false) HF rfl (notT hb1) ?_
    refine wp_skip ?_
    refine then_n ?_
    refine wp_seq ?_
    refine wc_text ?_
    refine wc_bslice (l := (([] : List I2) : List I2)) (cs := []) (A := []) HF HT bs25_0 rfl rfl (gives_flat rfl) rfl (by decide) rfl rfl (fun p1 w HT hb => ⟨nS, fun a HF => ?_⟩)
    refine wc_assign HF nS rfl rfl rfl (fun a HF => ?_)
    refine wc_end ?_
    refine then_n ?_
    obtain ⟨z1, hx2, h⟩ := obs h
    refine wp_cut (fun a w => ∃ a1 n1 c1, Fr a 29 [(3, .slice a1 n1 c1)] ∧ St w0 (fun _ => False) w [Own 44 (rowT z1) (.slice a1 n1 c1)]) ?_ ?_
    · have hk1 := h
      have h := hx2
      refine wp_seq ?_
      refine wc_text ?_
      refine wc_move HF nS rfl rfl rfl (fun a HF => ?_)
      refine wc_end ?_
      refine then_n ?_
      refine wp_block ?_
      refine wp_loopN (fun k1 a w => ∃ z2 z3 a2 n2 c2, m_impl_Net_L0 fuel x0 k1 z2 z3 = some z1 ∧ Fr a 29 [(0, .slice a_x0 x0.length c_x0), (3, .slice a2 n2 c2), (11, .int .i64 z3)] ∧ St w0 (fun _ => False) w [Own 44 (rowT z2) (.slice a2 n2 c2)]) fuel ⟨([] : List I2), 0, (some ⟨p1, 0, none⟩), 0, 0, h, (HF.keep (HF.keep (HF.keep HF.nil rfl) rfl) rfl), HT⟩ ?_
      rintro k1 a w ⟨z2, z3, a2, n2, c2, h, HF, HT⟩
      cases k1 with
      | zero => cases h
      | succ k1 =>
        rw [m_impl_Net_L0] at h
        obtain rfl := (HT.rdAt 0 rfl).neq
        refine ?_
        refine wp_seq ?_
        refine wc_text ?_
        refine wc_bin HF nS rfl rfl b_lt rfl rfl (fun a HF => ?_)
        refine wc_end ?_
        refine then_n ?_
        refine wp_seq ?_
        by_cases hb2 : z3 < 8
        · have h := (if_pos hb2).symm.trans h
          refine wp_if (b' := true) HF rfl (decide_eq_true hb2) ?_
          refine wp_skip ?_
          refine then_n ?_
          obtain ⟨z4, hx3, h⟩ := obs h
          refine wp_cut (fun a w => ∃ a3 n3 c3, Fr a 29 [(0, .slice a_x0 x0.length c_x0), (3, .slice a3 n3 c3), (11, .int .i64 z3)] ∧ St w0 (fun _ => False) w [Own 44 (rowT z4) (.slice a3 n3 c3)]) ?_ ?_
          · have hk2 := h
            have h := hx3
            refine wp_block ?_
            refine wp_seq ?_
            refine wc_text ?_
            refine wc_move HF nS rfl rfl rfl (fun a HF => ?_)
            refine wc_assign HF nS rfl rfl rfl (fun a HF => ?_)
            refine wc_end ?_
            refine then_n ?_
            refine wp_seq ?_
            refine wc_text ?_
            refine wc_move HF nS rfl rfl rfl (fun a HF => ?_)
            refine wc_move HF nS rfl rfl rfl (fun a HF => ?_)
            obtain ⟨y2, y3, hx4, h⟩ := obs2 h
            refine wc_call HF cf15 rfl (w_impl_Last fuel hx4 (HT.ro hr_x0).any) rfl rfl ?_
            rintro e w ⟨rfl, hE⟩
            have hb := hE.below
            have HT := HT.pure hE
            have HT : St w0 (fun _ => False) w [Own 44 (rowT z2) (.slice a2 z2.length c2)] := HT
            refine ⟨_, rfl, nS, fun a HF => ?_⟩
            refine wc_move HF nS rfl rfl rfl (fun a HF => ?_)
            refine wc_extract (v := .int .i64 y2) HF nS rfl rfl rfl rfl (fun a HF => ?_)
            refine wc_extract (v := .bool y3) HF nS rfl rfl rfl rfl (fun a HF => ?_)
            refine wc_assign HF nS rfl rfl rfl (fun a HF => ?_)
            refine wc_assign HF nS rfl rfl rfl (fun a HF => ?_)
            refine wc_end ?_
            refine then_n ?_
            refine wp_seq ?_
            refine wc_text ?_
            refine wc_move HF nS rfl rfl rfl (fun a HF => ?_)
            refine wc_end ?_
            refine then_n ?_
            by_cases hb3 : y3 = true
            · have h := (if_pos hb3).symm.trans h
              refine wp_if (b' := true) HF rfl hb3 ?_
              refine wc_text ?_
              refine wc_move HF nS rfl rfl rfl (fun a HF => ?_)
              refine wc_move HF nS rfl rfl rfl (fun a HF => ?_)
              refine wc_move HF nS rfl rfl rfl (fun a HF => ?_)
              refine wc_build (cs := #[.int .i64 z3, .int .i64 y2]) HF nS bd44 rfl rfl rfl rfl (fun a HF => ?_)
              refine wc_bslice (l := ([(⟨z3, y2⟩ : I2)] : List I2)) (cs := [.int .i64 z3, .int .i64 y2]) (A := []) HF HT bs25_1 rfl rfl (gives_flat rfl) rfl (by decide) rfl rfl (fun p2 w HT hb => ⟨nS, fun a HF => ?_⟩)
              obtain ⟨hg1, h⟩ := grd h
              have HT : St w0 (fun _ => False) w [Own 44 (rowT z2) (.slice a2 z2.length c2), Own 44 (rowT ([(⟨z3, y2⟩ : I2)])) (.slice (some ⟨p2, 0, none⟩) 1 1)] := HT.pick 1
              refine wc_append HF HT el25 rfl rfl (Nat.zero_lt_succ _) hg1 rfl rfl rfl (fun a4 c4 w HT => ⟨nS, fun a HF => ?_⟩)
              refine wc_assign HF nS rfl rfl rfl (fun a HF => ?_)
              refine wc_end ?_
              refine blk_n ?_
              obtain rfl := Option.some.inj h
              exact then_n ⟨a4, (z2 ++ [(⟨z3, y2⟩ : I2)]).length, c4, (HF.keep (HF.keep (HF.keep HF.nil rfl) rfl) rfl), HT⟩
            · have h := (if_neg hb3).symm.trans h
              refine wp_if (b' := false) HF rfl (Bool.eq_false_iff.2 hb3) ?_
              refine wp_skip ?_
              refine blk_n ?_
              obtain rfl := Option.some.inj h
              exact then_n ⟨a2, z2.length, c2, (HF.keep (HF.keep (HF.keep HF.nil rfl) rfl) rfl), HT⟩
          · rintro a w ⟨a3, n3, c3, HF, HT⟩
            obtain rfl := (HT.rdAt 0 rfl).neq
            refine ?_
            refine wc_text ?_
            obtain ⟨hg2, h⟩ := grd h
            refine wc_bin HF nS rfl rfl (b_add hg2) rfl rfl (fun a HF => ?_)
            refine wc_move HF nS rfl rfl rfl (fun a HF => ?_)
            refine wc_end ?_
            exact then_n ⟨k1, Nat.lt_succ_self k1, z4, z3 + 1, a3, z4.length, c3, h, (HF.keep (HF.keep (HF.keep HF.nil rfl) rfl) rfl), HT⟩
        · have h := (if_neg hb2).symm.trans h
          refine wp_if (b' := false) HF rfl (decide_eq_false hb2) ?_
          refine wp_exit ?_
          refine then_x (then_x (?_))
          refine blk_x ?_
          obtain rfl := Option.some.inj h
          exact then_n ⟨a2, z2.length, c2, (HF.keep HF.nil rfl), HT⟩
    · rintro a w ⟨a1, n1, c1, HF, HT⟩
      obtain rfl := (HT.rdAt 0 rfl).neq
      refine ?_
      refine wp_seq ?_
      refine wc_text ?_
      refine wc_move HF nS rfl rfl rfl (fun a HF => ?_)
      refine wc_assign HF nS rfl rfl rfl (fun a HF => ?_)
      refine wc_end ?_
      refine then_n ?_
      refine wp_ret ?_
      obtain rfl := Option.some.inj h
      refine bp_ret HF (res_one rfl HF rfl) ?_
      exact ⟨a1, z1.length, c1, rfl, HT⟩
  · have h := (if_neg hb1).symm.trans h
    refine wp_if (b' := true) HF rfl (notF (Bool.eq_false_iff.2 hb1)) ?_
    refine wp_seq ?_
    refine wc_text ?_
    refine wc_assign HF nS rfl rfl rfl (fun a HF => ?_)
    refine wc_end ?_
    refine then_n ?_
    refine wp_ret ?_
    have HT : St w0 (fun _ => False) w [Own 44 (rowT ([] : List I2)) (.slice none 0 0)] := HT.nilrow 44
    obtain rfl := Option.some.inj h
    refine then_r (?_)
    refine bp_ret HF (res_one rfl HF rfl) ?_
    exact ⟨none, 0, 0, rfl, HT⟩

def m_laws_FnExactNet (fuel : Nat) (x0 : List I2) : Option Bool :=
  (m_laws_szRowS fuel x0 1048576).bind fun y1 =>
  if y1 < 0 then
    some true
  else
    (m_laws_toRowS fuel x0).bind fun y2 =>
    (m_spec_Net fuel y2).bind fun y3 =>
    (m_laws_toRowS fuel x0).bind fun y4 =>
    (m_impl_Net fuel y4).bind fun y5 =>
    (m_laws_eqRowS fuel y5 y3).bind fun y6 =>
    if y6 = true then
      (m_laws_toRowS fuel x0).bind fun y7 =>
      (m_laws_eqRowS fuel y4 y7).bind fun y8 =>
      if y8 = true then
        bind2 (m_laws_markRowS fuel y4 1) fun y9 y10 =>
        if y9 < 0 then
          some false
        else
          (m_laws_eqRowS fuel y5 y3).bind fun y11 =>
          if y11 = true then
            bind2 (m_laws_markRowS fuel y5 1) fun y12 y13 =>
            (m_laws_heldRowS fuel y13 1).bind fun y14 =>
            if y14 < 0 then
              some false
            else
              if y14 = y12 then
                (m_laws_toRowS fuel x0).bind fun y15 =>
                (m_impl_Net fuel y15).bind fun y16 =>
                (m_laws_eqRowS fuel y16 y3).bind fun y17 =>
                if y17 = true then
                  (m_laws_heldRowS fuel y13 1).bind fun y18 =>
                  if y18 < 0 then
                    some false
                  else
                    if y18 = y12 then
                      some true
                    else
                      some false
                else
                  some false
              else
                some false
          else
            some false
      else
        some false
    else
      some false

set_option maxRecDepth 100000 in
set_option maxHeartbeats 4000000 in
theorem w_laws_FnExactNet (fuel : Nat) {x0 : List I2} {a_x0 : Option Addr} {n_x0 c_x0 : Nat} {r0 : Bool} {w0 : World} (h : m_laws_FnExactNet fuel x0 = some r0) (hr_x0 : RdT (fun b => ¬ False) w0 (rowT x0) (.slice a_x0 n_x0 c_x0)) :
    Calls Try.prog 6 #[.slice a_x0 n_x0 c_x0] w0 fun e w => e = .returned (.bool r0) ∧ St w0 (fun _ => False) w [] := by
  obtain rfl := hr_x0.neq
  have HT : St w0 (fun _ => False) w0 [] := St.init0
  rw [m_laws_FnExactNet] at h
  refine calls_fr (n := 69) [.slice a_x0 x0.length c_x0] Try.func6 rfl rfl rfl (fun a HF => ?_)
  have HT : St w0 (fun _ => False) w0 [] := HT
  refine wp_seq ?_
  refine wc_text ?_
  refine wc_assign HF nS rfl rfl rfl (fun a HF => ?_)
  refine wc_end ?_
  refine then_n ?_
  refine wp_seq ?_
  refine wc_text ?_
  refine wc_assign HF nS rfl rfl rfl (fun a HF => ?_)
  refine wc_end ?_
  refine then_n ?_
  refine wp_seq ?_
  refine wc_text ?_
  refine wc_move HF nS rfl rfl rfl (fun a HF => ?_)
  refine wc_move HF nS rfl rfl rfl (fun a HF => ?_)
  obtain ⟨y1, hx1, h⟩ := obs h
  refine wc_call HF cf9 rfl (w_laws_szRowS fuel hx1 (HT.ro hr_x0).any) rfl rfl ?_
  rintro e w ⟨rfl, hE⟩
  have hb := hE.below
  have HT := HT.pure hE
  have HT : St w0 (fun _ => False) w [] := HT
  refine ⟨_, rfl, nS, fun a HF => ?_⟩
  refine wc_assign HF nS rfl rfl rfl (fun a HF => ?_)
  refine wc_end ?_
  refine then_n ?_
  refine wp_seq ?_
  refine wp_seq ?_
  refine wc_text ?_
  refine wc_move HF nS rfl rfl rfl (fun a HF => ?_)
  refine wc_bin HF nS rfl rfl b_lt rfl rfl (fun a HF => ?_)
  refine wc_end ?_
  refine then_n ?_
  by_cases hb1 : y1 < 0
  · have h := (if_pos hb1).symm.trans h
    refine wp_if (b' := true) HF rfl (decide_eq_true hb1) ?_
    refine wp_seq ?_
    refine wc_text ?_
    refine wc_assign HF nS rfl rfl rfl (fun a HF => ?_)
    refine wc_end ?_
    refine then_n ?_
    refine wp_ret ?_
    obtain rfl := Option.some.inj h
    refine then_r (?_)
    refine bp_ret HF (res_one rfl HF rfl) ?_
    exact ⟨rfl, HT⟩
  · have h := (if_neg hb1).symm.trans h
    refine wp_if (b' := false) HF rfl (decide_eq_false hb1) ?_
    refine wp_skip ?_
    refine then_n ?_
    refine wp_seq ?_
    refine wc_text ?_
    refine wc_move HF nS rfl rfl rfl (fun a HF => ?_)
    obtain ⟨y2, hx2, h⟩ := obs h
    refine wc_call HF cf11 rfl (w_laws_toRowS fuel hx2 (HT.ro hr_x0).any) rfl rfl ?_
    rintro e w ⟨a1, n1, c1, rfl, hE⟩
    have hb := hE.below
    have HT := HT.pure hE
    obtain rfl := (HT.rdAt 0 rfl).neq
    have HT : St w0 (fun _ => False) w [Own 44 (rowT y2) (.slice a1 y2.length c1)] := HT
    refine ⟨_, rfl, nS, fun a HF => ?_⟩
    obtain ⟨y3, hx3, h⟩ := obs h
    refine wc_call HF cf20 rfl (w_spec_Net fuel hx3 (HT.rdAt 0 rfl)) rfl rfl ?_
    rintro e w ⟨a2, n2, c2, rfl, hE⟩
    have hb := hE.below
    have HT := HT.pure hE
    obtain rfl := (HT.rdAt 0 rfl).neq
    have HT : St w0 (fun _ => False) w [Own 44 (rowT y3) (.slice a2 y3.length c2), Own 44 (rowT y2) (.slice a1 y2.length c1)] := HT
    refine ⟨_, rfl, nS, fun a HF => ?_⟩
    refine wc_assign HF nS rfl rfl rfl (fun a HF => ?_)
    refine wc_end ?_
    refine then_n ?_
    refine wp_seq ?_
    refine wc_text ?_
    refine wc_move HF nS rfl rfl rfl (fun a HF => ?_)
    obtain ⟨y4, hx4, h⟩ := obs h
    refine wc_call HF cf11 rfl (w_laws_toRowS fuel hx4 (HT.ro hr_x0).any) rfl rfl ?_
    rintro e w ⟨a3, n3, c3, rfl, hE⟩
    have hb := hE.below
    have HT := HT.pure hE
    obtain rfl := (HT.rdAt 0 rfl).neq
    have HT : St w0 (fun _ => False) w [Own 44 (rowT y4) (.slice a3 y4.length c3), Own 44 (rowT y3) (.slice a2 y3.length c2), Own 44 (rowT y2) (.slice a1 y2.length c1)] := HT
    refine ⟨_, rfl, nS, fun a HF => ?_⟩
    refine wc_assign HF nS rfl rfl rfl (fun a HF => ?_)
    refine wc_end ?_
    refine then_n ?_
    refine wp_seq ?_
    refine wc_text ?_
    refine wc_move HF nS rfl rfl rfl (fun a HF => ?_)
    obtain ⟨y5, hx5, h⟩ := obs h
    refine wc_call HF cf21 rfl (w_impl_Net fuel hx5 (HT.rdAt 0 rfl)) rfl rfl ?_
    rintro e w ⟨a4, n4, c4, rfl, hE⟩
    have hb := hE.below
    have HT := HT.pure hE
    obtain rfl := (HT.rdAt 0 rfl).neq
    have HT : St w0 (fun _ => False) w [Own 44 (rowT y5) (.slice a4 y5.length c4), Own 44 (rowT y4) (.slice a3 y4.length c3), Own 44 (rowT y3) (.slice a2 y3.length c2), Own 44 (rowT y2) (.slice a1 y2.length c1)] := HT
    refine ⟨_, rfl, nS, fun a HF => ?_⟩
    refine wc_assign HF nS rfl rfl rfl (fun a HF => ?_)
    refine wc_end ?_
    refine then_n ?_
    refine wp_seq ?_
    refine wp_seq ?_
    refine wc_text ?_
    refine wc_move HF nS rfl rfl rfl (fun a HF => ?_)
    refine wc_move HF nS rfl rfl rfl (fun a HF => ?_)
    obtain ⟨y6, hx6, h⟩ := obs h
    refine wc_call HF cf13 rfl (w_laws_eqRowS fuel hx6 (HT.rdAt 0 rfl) (HT.rdAt 2 rfl)) rfl rfl ?_
    rintro e w ⟨rfl, hE⟩
    have hb := hE.below
    have HT := HT.pure hE
    have HT : St w0 (fun _ => False) w [Own 44 (rowT y5) (.slice a4 y5.length c4), Own 44 (rowT y4) (.slice a3 y4.length c3), Own 44 (rowT y3) (.slice a2 y3.length c2), Own 44 (rowT y2) (.slice a1 y2.length c1)] := HT
    refine ⟨_, rfl, nS, fun a HF => ?_⟩
    refine wc_not HF nS rfl rfl rfl (fun a HF => ?_)
    refine wc_end ?_
    refine then_n ?_
    by_cases hb2 : y6 = true
    · have h := (if_pos hb2).symm.trans h
      refine wp_if (b' := false) HF rfl (notT hb2) ?_
      refine wp_skip ?_
      refine then_n ?_
      refine wp_seq ?_
      refine wp_seq ?_
      refine wc_text ?_
      refine wc_move HF nS rfl rfl rfl (fun a HF => ?_)
      refine wc_move HF nS rfl rfl rfl (fun a HF => ?_)
      obtain ⟨y7, hx7, h⟩ := obs h
      refine wc_call HF cf11 rfl (w_laws_toRowS fuel hx7 (HT.ro hr_x0).any) rfl rfl ?_
      rintro e w ⟨a5, n5, c5, rfl, hE⟩
      have hb := hE.below
      have HT := HT.pure hE
      obtain rfl := (HT.rdAt 0 rfl).neq
      have HT : St w0 (fun _ => False) w [Own 44 (rowT y7) (.slice a5 y7.length c5), Own 44 (rowT y5) (.slice a4 y5.length c4), Own 44 (rowT y4) (.slice a3 y4.length c3), Own 44 (rowT y3) (.slice a2 y3.length c2), Own 44 (rowT y2) (.slice a1 y2.length c1)] := HT
      refine ⟨_, rfl, nS, fun a HF => ?_⟩
      obtain ⟨y8, hx8, h⟩ := obs h
      refine wc_call HF cf13 rfl (w_laws_eqRowS fuel hx8 (HT.rdAt 2 rfl) (HT.rdAt 0 rfl)) rfl rfl ?_
      rintro e w ⟨rfl, hE⟩
      have hb := hE.below
      have HT := HT.pure hE
      have HT : St w0 (fun _ => False) w [Own 44 (rowT y7) (.slice a5 y7.length c5), Own 44 (rowT y5) (.slice a4 y5.length c4), Own 44 (rowT y4) (.slice a3 y4.length c3), Own 44 (rowT y3) (.slice a2 y3.length c2), Own 44 (rowT y2) (.slice a1 y2.length c1)] := HT
      refine ⟨_, rfl, nS, fun a HF => ?_⟩
      refine wc_not HF nS rfl rfl rfl (fun a HF => ?_)
      refine wc_end ?_
      refine then_n ?_
      by_cases hb3 : y8 = true
      · have h := (if_pos hb3).symm.trans h
        refine wp_if (b' := false) HF rfl (notT hb3) ?_
        refine wp_skip ?_
        refine then_n ?_
        refine wp_seq ?_
        refine wc_text ?_
        refine wc_assign HF nS rfl rfl rfl (fun a HF => ?_)
        refine wc_end ?_
        refine then_n ?_
        refine wp_seq ?_
        refine wc_text ?_
        refine wc_move HF nS rfl rfl rfl (fun a HF => ?_)
        refine wc_move HF nS rfl rfl rfl (fun a HF => ?_)
        obtain ⟨y9, y10, hx9, h⟩ := obs2 h
        have HT : St w0 (fun _ => False) w [Own 44 (rowT y4) (.slice a3 y4.length c3), Own 44 (rowT y7) (.slice a5 y7.length c5), Own 44 (rowT y5) (.slice a4 y5.length c4), Own 44 (rowT y3) (.slice a2 y3.length c2), Own 44 (rowT y2) (.slice a1 y2.length c1)] := HT.pick 2
        obtain ⟨F1, hAF1, hFF1, hbackF1, hroF1, hownF1⟩ := St.handR (A := [Own 44 (rowT y4) (.slice a3 y4.length c3)]) HT
        refine wc_call HF cf18 rfl (w_laws_markRowS fuel hx9 hAF1) rfl rfl ?_
        rintro e w ⟨rfl, hE⟩
        have HT := hbackF1 _ _ hE
        have HT : St w0 (fun _ => False) w [Own 44 (rowT y10) (.slice a3 y4.length c3), Own 44 (rowT y7) (.slice a5 y7.length c5), Own 44 (rowT y5) (.slice a4 y5.length c4), Own 44 (rowT y3) (.slice a2 y3.length c2), Own 44 (rowT y2) (.slice a1 y2.length c1)] := HT
        refine ⟨_, rfl, nS, fun a HF => ?_⟩
        refine wc_assign HF nS rfl rfl rfl (fun a HF => ?_)
        refine wc_end ?_
        refine then_n ?_
        refine wp_seq ?_
        refine wp_seq ?_
        refine wc_text ?_
        refine wc_move HF nS rfl rfl rfl (fun a HF => ?_)
        refine wc_bin HF nS rfl rfl b_lt rfl rfl (fun a HF => ?_)
        refine wc_move HF nS rfl rfl rfl (fun a HF => ?_)
        by_cases hb4 : y9 < 0
        · have h := (if_pos hb4).symm.trans h
          refine wc_skip HF nS (HF.wn rfl rfl rfl rfl (decide_eq_true hb4)) rfl (fun a HF => ?_)
          refine wc_skip HF nS (HF.wn rfl rfl rfl rfl (decide_eq_true hb4)) rfl (fun a HF => ?_)
          refine wc_skip HF nS (HF.wn rfl rfl rfl rfl (decide_eq_true hb4)) rfl (fun a HF => ?_)
          refine wc_skip HF nS (HF.wn rfl rfl rfl rfl (decide_eq_true hb4)) rfl (fun a HF => ?_)
          refine wc_pick (b := true) HF nS rfl (decide_eq_true hb4) rfl rfl rfl (fun a HF => ?_)
          refine wc_end ?_
          refine then_n ?_
          refine wp_if (b' := true) HF rfl rfl ?_
          refine wp_seq ?_
          refine wc_text ?_
          refine wc_assign HF nS rfl rfl rfl (fun a HF => ?_)
          refine wc_end ?_
          refine then_n ?_
          refine wp_ret ?_
          obtain rfl := Option.some.inj h
          refine then_r (?_)
          refine bp_ret HF (res_one rfl HF rfl) ?_
          have HT : St w0 (fun _ => False) w [] := HT.take 0
          exact ⟨rfl, HT⟩
        · have h := (if_neg hb4).symm.trans h
          refine wc_move HF nS rfl (HF.wy rfl rfl rfl rfl (decide_eq_false hb4)) rfl (fun a HF => ?_)
          refine wc_move HF nS rfl (HF.wy rfl rfl rfl rfl (decide_eq_false hb4)) rfl (fun a HF => ?_)
          obtain ⟨y11, hx10, h⟩ := obs h
          refine wc_call HF cf13 rfl (w_laws_eqRowS fuel hx10 (HT.rdAt 2 rfl) (HT.rdAt 3 rfl)) (HF.wy rfl rfl rfl rfl (decide_eq_false hb4)) rfl ?_
          rintro e w ⟨rfl, hE⟩
          have hb := hE.below
          have HT := HT.pure hE
          have HT : St w0 (fun _ => False) w [Own 44 (rowT y10) (.slice a3 y4.length c3), Own 44 (rowT y7) (.slice a5 y7.length c5), Own 44 (rowT y5) (.slice a4 y5.length c4), Own 44 (rowT y3) (.slice a2 y3.length c2), Own 44 (rowT y2) (.slice a1 y2.length c1)] := HT
          refine ⟨_, rfl, nS, fun a HF => ?_⟩
          refine wc_not HF nS rfl (HF.wy rfl rfl rfl rfl (decide_eq_false hb4)) rfl (fun a HF => ?_)
          refine wc_pick (b := false) HF nS rfl (decide_eq_false hb4) rfl rfl rfl (fun a HF => ?_)
          refine wc_end ?_
          refine then_n ?_
          by_cases hb5 : y11 = true
          · have h := (if_pos hb5).symm.trans h
            refine wp_if (b' := false) HF rfl (notT hb5) ?_
            refine wp_skip ?_
            refine then_n ?_
            refine wp_seq ?_
            refine wc_text ?_
            refine wc_assign HF nS rfl rfl rfl (fun a HF => ?_)
            refine wc_end ?_
            refine then_n ?_
            refine wp_seq ?_
            refine wc_text ?_
            refine wc_move HF nS rfl rfl rfl (fun a HF => ?_)
            refine wc_move HF nS rfl rfl rfl (fun a HF => ?_)
            obtain ⟨y12, y13, hx11, h⟩ := obs2 h
            have HT : St w0 (fun _ => False) w [Own 44 (rowT y5) (.slice a4 y5.length c4), Own 44 (rowT y10) (.slice a3 y4.length c3), Own 44 (rowT y7) (.slice a5 y7.length c5), Own 44 (rowT y3) (.slice a2 y3.length c2), Own 44 (rowT y2) (.slice a1 y2.length c1)] := HT.pick 2
            obtain ⟨F2, hAF2, hFF2, hbackF2, hroF2, hownF2⟩ := St.handR (A := [Own 44 (rowT y5) (.slice a4 y5.length c4)]) HT
            refine wc_call HF cf18 rfl (w_laws_markRowS fuel hx11 hAF2) rfl rfl ?_
            rintro e w ⟨rfl, hE⟩
            have HT := hbackF2 _ _ hE
            have HT : St w0 (fun _ => False) w [Own 44 (rowT y13) (.slice a4 y5.length c4), Own 44 (rowT y10) (.slice a3 y4.length c3), Own 44 (rowT y7) (.slice a5 y7.length c5), Own 44 (rowT y3) (.slice a2 y3.length c2), Own 44 (rowT y2) (.slice a1 y2.length c1)] := HT
            refine ⟨_, rfl, nS, fun a HF => ?_⟩
            refine wc_assign HF nS rfl rfl rfl (fun a HF => ?_)
            refine wc_end ?_
            refine then_n ?_
            refine wp_seq ?_
            refine wc_text ?_
            refine wc_assign HF nS rfl rfl rfl (fun a HF => ?_)
            refine wc_end ?_
            refine then_n ?_
            refine wp_seq ?_
            refine wc_text ?_
            refine wc_move HF nS rfl rfl rfl (fun a HF => ?_)
            refine wc_move HF nS rfl rfl rfl (fun a HF => ?_)
            obtain ⟨y14, hx12, h⟩ := obs h
            refine wc_call HF cf19 rfl (w_laws_heldRowS fuel hx12 (HT.rdAt 0 rfl)) rfl rfl ?_
            rintro e w ⟨rfl, hE⟩
            have hb := hE.below
            have HT := HT.pure hE
            have HT : St w0 (fun _ => False) w [Own 44 (rowT y13) (.slice a4 y5.length c4), Own 44 (rowT y10) (.slice a3 y4.length c3), Own 44 (rowT y7) (.slice a5 y7.length c5), Own 44 (rowT y3) (.slice a2 y3.length c2), Own 44 (rowT y2) (.slice a1 y2.length c1)] := HT
            refine ⟨_, rfl, nS, fun a HF => ?_⟩
            refine wc_assign HF nS rfl rfl rfl (fun a HF => ?_)
            refine wc_end ?_
            refine then_n ?_
            refine wp_seq ?_
            refine wp_seq ?_
            refine wc_text ?_
            refine wc_move HF nS rfl rfl rfl (fun a HF => ?_)
            refine wc_bin HF nS rfl rfl b_lt rfl rfl (fun a HF => ?_)
            refine wc_end ?_
            refine then_n ?_
            by_cases hb6 : y14 < 0
            · have h := (if_pos hb6).symm.trans h
              refine wp_if (b' := true) HF rfl (decide_eq_true hb6) ?_
              refine wp_seq ?_
              refine wc_text ?_
              refine wc_assign HF nS rfl rfl rfl (fun a HF => ?_)
              refine wc_end ?_
              refine then_n ?_
              refine wp_ret ?_
              obtain rfl := Option.some.inj h
              refine then_r (?_)
              refine bp_ret HF (res_one rfl HF rfl) ?_
              have HT : St w0 (fun _ => False) w [] := HT.take 0
              exact ⟨rfl, HT⟩
            · have h := (if_neg hb6).symm.trans h
              refine wp_if (b' := false) HF rfl (decide_eq_false hb6) ?_
              refine wp_skip ?_
              refine then_n ?_
              refine wp_seq ?_
              refine wp_seq ?_
              refine wc_text ?_
              refine wc_move HF nS rfl rfl rfl (fun a HF => ?_)
              refine wc_move HF nS rfl rfl rfl (fun a HF => ?_)
              refine wc_bin HF nS rfl rfl b_ne rfl rfl (fun a HF => ?_)
              refine wc_end ?_
              refine then_n ?_
              by_cases hb7 : y14 = y12
              · have h := (if_pos hb7).symm.trans h
                refine wp_if (b' := false) HF rfl (notT (decide_eq_true hb7)) ?_
                refine wp_skip ?_
                refine then_n ?_
                refine wp_seq ?_
                refine wc_text ?_
                refine wc_move HF nS rfl rfl rfl (fun a HF => ?_)
                obtain ⟨y15, hx13, h⟩ := obs h
                refine wc_call HF cf11 rfl (w_laws_toRowS fuel hx13 (HT.ro hr_x0).any) rfl rfl ?_
                rintro e w ⟨a6, n6, c6, rfl, hE⟩
                have hb := hE.below
                have HT := HT.pure hE
                obtain rfl := (HT.rdAt 0 rfl).neq
                have HT : St w0 (fun _ => False) w [Own 44 (rowT y15) (.slice a6 y15.length c6), Own 44 (rowT y13) (.slice a4 y5.length c4), Own 44 (rowT y10) (.slice a3 y4.length c3), Own 44 (rowT y7) (.slice a5 y7.length c5), Own 44 (rowT y3) (.slice a2 y3.length c2), Own 44 (rowT y2) (.slice a1 y2.length c1)] := HT
                refine ⟨_, rfl, nS, fun a HF => ?_⟩
                obtain ⟨y16, hx14, h⟩ := obs h
                refine wc_call HF cf21 rfl (w_impl_Net fuel hx14 (HT.rdAt 0 rfl)) rfl rfl ?_
                rintro e w ⟨a7, n7, c7, rfl, hE⟩
                have hb := hE.below
                have HT := HT.pure hE
                obtain rfl := (HT.rdAt 0 rfl).neq
                have HT : St w0 (fun _ => False) w [Own 44 (rowT y16) (.slice a7 y16.length c7), Own 44 (rowT y15) (.slice a6 y15.length c6), Own 44 (rowT y13) (.slice a4 y5.length c4), Own 44 (rowT y10) (.slice a3 y4.length c3), Own 44 (rowT y7) (.slice a5 y7.length c5), Own 44 (rowT y3) (.slice a2 y3.length c2), Own 44 (rowT y2) (.slice a1 y2.length c1)] := HT
                refine ⟨_, rfl, nS, fun a HF => ?_⟩
                refine wc_assign HF nS rfl rfl rfl (fun a HF => ?_)
                refine wc_end ?_
                refine then_n ?_
                refine wp_seq ?_
                refine wp_seq ?_
                refine wc_text ?_
                refine wc_move HF nS rfl rfl rfl (fun a HF => ?_)
                refine wc_move HF nS rfl rfl rfl (fun a HF => ?_)
                obtain ⟨y17, hx15, h⟩ := obs h
                refine wc_call HF cf13 rfl (w_laws_eqRowS fuel hx15 (HT.rdAt 0 rfl) (HT.rdAt 5 rfl)) rfl rfl ?_
                rintro e w ⟨rfl, hE⟩
                have hb := hE.below
                have HT := HT.pure hE
                have HT : St w0 (fun _ => False) w [Own 44 (rowT y16) (.slice a7 y16.length c7), Own 44 (rowT y15) (.slice a6 y15.length c6), Own 44 (rowT y13) (.slice a4 y5.length c4), Own 44 (rowT y10) (.slice a3 y4.length c3), Own 44 (rowT y7) (.slice a5 y7.length c5), Own 44 (rowT y3) (.slice a2 y3.length c2), Own 44 (rowT y2) (.slice a1 y2.length c1)] := HT
                refine ⟨_, rfl, nS, fun a HF => ?_⟩
                refine wc_not HF nS rfl rfl rfl (fun a HF => ?_)
                refine wc_end ?_
                refine then_n ?_
                by_cases hb8 : y17 = true
                · have h := (if_pos hb8).symm.trans h
                  refine wp_if (b' := false) HF rfl (notT hb8) ?_
                  refine wp_skip ?_
                  refine then_n ?_
                  refine wp_seq ?_
                  refine wc_text ?_
                  refine wc_assign HF nS rfl rfl rfl (fun a HF => ?_)
                  refine wc_end ?_
                  refine then_n ?_
                  refine wp_seq ?_
                  refine wc_text ?_
                  refine wc_move HF nS rfl rfl rfl (fun a HF => ?_)
                  refine wc_move HF nS rfl rfl rfl (fun a HF => ?_)
                  obtain ⟨y18, hx16, h⟩ := obs h
                  refine wc_call HF cf19 rfl (w_laws_heldRowS fuel hx16 (HT.rdAt 2 rfl)) rfl rfl ?_
                  rintro e w ⟨rfl, hE⟩
                  have hb := hE.below
                  have HT := HT.pure hE
                  have HT : St w0 (fun _ => False) w [Own 44 (rowT y16) (.slice a7 y16.length c7), Own 44 (rowT y15) (.slice a6 y15.length c6), Own 44 (rowT y13) (.slice a4 y5.length c4), Own 44 (rowT y10) (.slice a3 y4.length c3), Own 44 (rowT y7) (.slice a5 y7.length c5), Own 44 (rowT y3) (.slice a2 y3.length c2), Own 44 (rowT y2) (.slice a1 y2.length c1)] := HT
                  refine ⟨_, rfl, nS, fun a HF => ?_⟩
                  refine wc_assign HF nS rfl rfl rfl (fun a HF => ?_)
                  refine wc_end ?_
                  refine then_n ?_
                  refine wp_seq ?_
                  refine wp_seq ?_
                  refine wc_text ?_
                  refine wc_move HF nS rfl rfl rfl (fun a HF => ?_)
                  refine wc_bin HF nS rfl rfl b_lt rfl rfl (fun a HF => ?_)
                  refine wc_end ?_
                  refine then_n ?_
                  by_cases hb9 : y18 < 0
                  · have h := (if_pos hb9).symm.trans h
                    refine wp_if (b' := true) HF rfl (decide_eq_true hb9) ?_
                    refine wp_seq ?_
                    refine wc_text ?_
                    refine wc_assign HF nS rfl rfl rfl (fun a HF => ?_)
                    refine wc_end ?_
                    refine then_n ?_
                    refine wp_ret ?_
                    obtain rfl := Option.some.inj h
                    refine then_r (?_)
                    refine bp_ret HF (res_one rfl HF rfl) ?_
                    have HT : St w0 (fun _ => False) w [] := HT.take 0
                    exact ⟨rfl, HT⟩
                  · have h := (if_neg hb9).symm.trans h
                    refine wp_if (b' := false) HF rfl (decide_eq_false hb9) ?_
                    refine wp_skip ?_
                    refine then_n ?_
                    refine wp_seq ?_
                    refine wp_seq ?_
                    refine wc_text ?_
                    refine wc_move HF nS rfl rfl rfl (fun a HF => ?_)
                    refine wc_move HF nS rfl rfl rfl (fun a HF => ?_)
                    refine wc_bin HF nS rfl rfl b_ne rfl rfl (fun a HF => ?_)
                    refine wc_end ?_
                    refine then_n ?_
                    by_cases hb10 : y18 = y12
                    · have h := (if_pos hb10).symm.trans h
                      refine wp_if (b' := false) HF rfl (notT (decide_eq_true hb10)) ?_
                      refine wp_skip ?_
                      refine then_n ?_
                      refine wp_seq ?_
                      refine wc_text ?_
                      refine wc_assign HF nS rfl rfl rfl (fun a HF => ?_)
                      refine wc_end ?_
                      refine then_n ?_
                      refine wp_ret ?_
                      obtain rfl := Option.some.inj h
                      refine bp_ret HF (res_one rfl HF rfl) ?_
                      have HT : St w0 (fun _ => False) w [] := HT.take 0
                      exact ⟨rfl, HT⟩
                    · have h := (if_neg hb10).symm.trans h
                      refine wp_if (b' := true) HF rfl (notF (decide_eq_false hb10)) ?_
                      refine wp_seq ?_
                      refine wc_text ?_
                      refine wc_assign HF nS rfl rfl rfl (fun a HF => ?_)
                      refine wc_end ?_
                      refine then_n ?_
                      refine wp_ret ?_
                      obtain rfl := Option.some.inj h
                      refine then_r (?_)
                      refine bp_ret HF (res_one rfl HF rfl) ?_
                      have HT : St w0 (fun _ => False) w [] := HT.take 0
                      exact ⟨rfl, HT⟩
                · have h := (if_neg hb8).symm.trans h
                  refine wp_if (b' := true) HF rfl (notF (Bool.eq_false_iff.2 hb8)) ?_
                  refine wp_seq ?_
                  refine wc_text ?_
                  refine wc_assign HF nS rfl rfl rfl (fun a HF => ?_)
                  refine wc_end ?_
                  refine then_n ?_
                  refine wp_ret ?_
                  obtain rfl := Option.some.inj h
                  refine then_r (?_)
                  refine bp_ret HF (res_one rfl HF rfl) ?_
                  have HT : St w0 (fun _ => False) w [] := HT.take 0
                  exact ⟨rfl, HT⟩
              · have h := (if_neg hb7).symm.trans h
                refine wp_if (b' := true) HF rfl (notF (decide_eq_false hb7)) ?_
                refine wp_seq ?_
                refine wc_text ?_
                refine wc_assign HF nS rfl rfl rfl (fun a HF => ?_)
                refine wc_end ?_
                refine then_n ?_
                refine wp_ret ?_
                obtain rfl := Option.some.inj h
                refine then_r (?_)
                refine bp_ret HF (res_one rfl HF rfl) ?_
                have HT : St w0 (fun _ => False) w [] := HT.take 0
                exact ⟨rfl, HT⟩
          · have h := (if_neg hb5).symm.trans h
            refine wp_if (b' := true) HF rfl (notF (Bool.eq_false_iff.2 hb5)) ?_
            refine wp_seq ?_
            refine wc_text ?_
            refine wc_assign HF nS rfl rfl rfl (fun a HF => ?_)
            refine wc_end ?_
            refine then_n ?_
            refine wp_ret ?_
            obtain rfl := Option.some.inj h
            refine then_r (?_)
            refine bp_ret HF (res_one rfl HF rfl) ?_
            have HT : St w0 (fun _ => False) w [] := HT.take 0
            exact ⟨rfl, HT⟩
      · have h := (if_neg hb3).symm.trans h
        refine wp_if (b' := true) HF rfl (notF (Bool.eq_false_iff.2 hb3)) ?_
        refine wp_seq ?_
        refine wc_text ?_
        refine wc_assign HF nS rfl rfl rfl (fun a HF => ?_)
        refine wc_end ?_
        refine then_n ?_
        refine wp_ret ?_
        obtain rfl := Option.some.inj h
        refine then_r (?_)
        refine bp_ret HF (res_one rfl HF rfl) ?_
        have HT : St w0 (fun _ => False) w [] := HT.take 0
        exact ⟨rfl, HT⟩
    · have h := (if_neg hb2).symm.trans h
      refine wp_if (b' := true) HF rfl (notF (Bool.eq_false_iff.2 hb2)) ?_
      refine wp_seq ?_
      refine wc_text ?_
      refine wc_assign HF nS rfl rfl rfl (fun a HF => ?_)
      refine wc_end ?_
      refine then_n ?_
      refine wp_ret ?_
      obtain rfl := Option.some.inj h
      refine then_r (?_)
      refine bp_ret HF (res_one rfl HF rfl) ?_
      have HT : St w0 (fun _ => False) w [] := HT.take 0
      exact ⟨rfl, HT⟩

def m_laws_toIntS_L0 (fuel : Nat) (x0 : List Int) : Nat → (List Int) → Int → Option (List Int)
  | 0, _, _ => none
  | k1 + 1, z2, z3 =>
    if z3 < (x0.length : Int) then
      (at? x0 z3).bind fun e1 =>
      (at? z2 z3).bind fun e2 =>
      if in64 (z3 + 1) then
        m_laws_toIntS_L0 fuel x0 k1 (z2.set z3.toNat e1) (z3 + 1)
      else none
    else
      some z2

def m_laws_toIntS (fuel : Nat) (x0 : List Int) : Option (List Int) :=
  if 0 ≤ ((x0.length : Int) : Int) ∧ (x0.length : Int) ≤ 1048576 then
    (m_laws_toIntS_L0 fuel x0 fuel (List.replicate ((x0.length : Int) : Int).toNat (0 : Int)) 0).bind fun z1 =>
    some z1
  else none

set_option maxRecDepth 100000 in
set_option maxHeartbeats 4000000 in
theorem w_laws_toIntS (fuel : Nat) {x0 : List Int} {a_x0 : Option Addr} {n_x0 c_x0 : Nat} {r0 : List Int} {w0 : World} (h : m_laws_toIntS fuel x0 = some r0) (hr_x0 : RdT (fun b => ¬ False) w0 (rowT x0) (.slice a_x0 n_x0 c_x0)) :
    Calls Try.prog 23 #[.slice a_x0 n_x0 c_x0] w0 fun e w => ∃ a_r0 n_r0 c_r0, e = .returned (.slice a_r0 n_r0 c_r0) ∧ St w0 (fun _ => False) w [Own 3 (rowT r0) (.slice a_r0 n_r0 c_r0)] := by
  obtain rfl := hr_x0.neq
  have HT : St w0 (fun _ => False) w0 [] := St.init0
  rw [m_laws_toIntS] at h
  refine calls_fr (n := 22) [.slice a_x0 x0.length c_x0] Try.func23 rfl rfl rfl (fun a HF => ?_)
  have HT : St w0 (fun _ => False) w0 [] := HT
  refine wp_seq ?_
  refine wc_text ?_
  refine wc_assign HF nS rfl rfl rfl (fun a HF => ?_)
  refine wc_end ?_
  refine then_n ?_
  refine wp_seq ?_
  refine wc_text ?_
  refine wc_move HF nS rfl rfl rfl (fun a HF => ?_)
  refine wc_lenR HF nS Try.underlying35 rfl rfl rfl (fun a HF => ?_)
  obtain ⟨hg1, h⟩ := grd h
  refine wc_make (x := (0 : Int)) HF HT el35 rfl rfl hg1 rfl rfl rfl rfl (fun p1 w HT hb => ⟨nS, fun a HF => ?_⟩)
  refine wc_assign HF nS rfl rfl rfl (fun a HF => ?_)
  refine wc_end ?_
  refine then_n ?_
  obtain ⟨z1, hx1, h⟩ := obs h
  refine wp_cut (fun a w => Fr a 22 [(3, .slice (some ⟨p1, 0, none⟩) ((List.replicate ((x0.length : Int) : Int).toNat (0 : Int)).length) ((List.replicate ((x0.length : Int) : Int).toNat (0 : Int)).length))] ∧ St w0 (fun _ => False) w [Own 3 (rowT z1) (.slice (some ⟨p1, 0, none⟩) ((List.replicate ((x0.length : Int) : Int).toNat (0 : Int)).length) ((List.replicate ((x0.length : Int) : Int).toNat (0 : Int)).length))]) ?_ ?_
  · have hk1 := h
    have h := hx1
    refine wp_seq ?_
    refine wc_text ?_
    refine wc_assign HF nS rfl rfl rfl (fun a HF => ?_)
    refine wc_end ?_
    refine then_n ?_
    refine wp_block ?_
    refine wp_loopN (fun k1 a w => ∃ z2 z3, m_laws_toIntS_L0 fuel x0 k1 z2 z3 = some z1 ∧ Fr a 22 [(0, .slice a_x0 x0.length c_x0), (3, .slice (some ⟨p1, 0, none⟩) ((List.replicate ((x0.length : Int) : Int).toNat (0 : Int)).length) ((List.replicate ((x0.length : Int) : Int).toNat (0 : Int)).length)), (4, .int .i64 z3)] ∧ St w0 (fun _ => False) w [Own 3 (rowT z2) (.slice (some ⟨p1, 0, none⟩) ((List.replicate ((x0.length : Int) : Int).toNat (0 : Int)).length) ((List.replicate ((x0.length : Int) : Int).toNat (0 : Int)).length))]) fuel ⟨List.replicate ((x0.length : Int) : Int).toNat (0 : Int), 0, h, (HF.keep (HF.keep (HF.keep HF.nil rfl) rfl) rfl), HT⟩ ?_
    rintro k1 a w ⟨z2, z3, h, HF, HT⟩
    cases k1 with
    | zero => cases h
    | succ k1 =>
      rw [m_laws_toIntS_L0] at h
      refine ?_
      refine wp_seq ?_
      refine wp_seq ?_
      refine wc_text ?_
      refine wc_move HF nS rfl rfl rfl (fun a HF => ?_)
      refine wc_move HF nS rfl rfl rfl (fun a HF => ?_)
      refine wc_lenR HF nS Try.underlying35 rfl rfl rfl (fun a HF => ?_)
      refine wc_bin HF nS rfl rfl b_lt rfl rfl (fun a HF => ?_)
      refine wc_end ?_
      refine then_n ?_
      by_cases hb1 : z3 < (x0.length : Int)
      · have h := (if_pos hb1).symm.trans h
        refine wp_if (b' := true) HF rfl (decide_eq_true hb1) ?_
        refine wp_skip ?_
        refine then_n ?_
        refine wp_seq ?_
        refine wp_block ?_
        refine wc_text ?_
        refine wc_move HF nS rfl rfl rfl (fun a HF => ?_)
        refine wc_move HF nS rfl rfl rfl (fun a HF => ?_)
        refine wc_move HF nS rfl rfl rfl (fun a HF => ?_)
        refine wc_move HF nS rfl rfl rfl (fun a HF => ?_)
        obtain ⟨e1, hx2, h⟩ := obs h
        obtain ⟨b1, o1, ha1⟩ := (HT.ro hr_x0).any.addr hx2
        refine wc_ixaddr HF nS el35 rfl ha1 ((HT.ro hr_x0).any).neq rfl hx2 rfl rfl (fun a HF => ?_)
        have hc1 := (HT.ro hr_x0).any.flatAt ha1 hx2
        refine wc_load HF rfl sc3 (hc1.get 0 rfl) rfl rfl (fun a HF => ?_)
        obtain ⟨e2, hx3, h⟩ := obs h
        refine wc_ixaddr HF nS el35 rfl rfl ((HT.rdAt 0 rfl)).neq rfl hx3 rfl rfl (fun a HF => ?_)
        refine wc_storeR (i := z3) (j := 0) (x' := e1) HF HT rfl rfl rfl (fun w => (sc3 w).2) rfl rfl hx3 rfl rfl rfl rfl (fun w HT => ⟨nS, ?_⟩)
        refine wc_end ?_
        refine blk_n ?_
        refine then_n ?_
        refine wc_text ?_
        refine wc_move HF nS rfl rfl rfl (fun a HF => ?_)
        obtain ⟨hg2, h⟩ := grd h
        refine wc_bin HF nS rfl rfl (b_add hg2) rfl rfl (fun a HF => ?_)
        refine wc_assign HF nS rfl rfl rfl (fun a HF => ?_)
        refine wc_end ?_
        exact then_n ⟨k1, Nat.lt_succ_self k1, z2.set z3.toNat e1, z3 + 1, h, (HF.keep (HF.keep (HF.keep HF.nil rfl) rfl) rfl), HT⟩
      · have h := (if_neg hb1).symm.trans h
        refine wp_if (b' := false) HF rfl (decide_eq_false hb1) ?_
        refine wp_exit ?_
        refine then_x (then_x (?_))
        refine blk_x ?_
        obtain rfl := Option.some.inj h
        exact then_n ⟨(HF.keep HF.nil rfl), HT⟩
  · rintro a w ⟨HF, HT⟩
    refine ?_
    refine wp_seq ?_
    refine wc_text ?_
    refine wc_move HF nS rfl rfl rfl (fun a HF => ?_)
    refine wc_assign HF nS rfl rfl rfl (fun a HF => ?_)
    refine wc_end ?_
    refine then_n ?_
    refine wp_ret ?_
    obtain rfl := Option.some.inj h
    refine bp_ret HF (res_one rfl HF rfl) ?_
    exact ⟨(some ⟨p1, 0, none⟩), (List.replicate ((x0.length : Int) : Int).toNat (0 : Int)).length, (List.replicate ((x0.length : Int) : Int).toNat (0 : Int)).length, rfl, HT⟩

def m_spec_l3Vals_L0 (fuel : Nat) (x0 : List Int) : Nat → Int → Option (Lp Unit Bool)
  | 0, _ => none
  | k1 + 1, z1 =>
    if z1 < (x0.length : Int) then
      (at? x0 z1).bind fun e1 =>
      (m_spec_l3Val fuel e1).bind fun y1 =>
      if y1 = true then
        if in64 (z1 + 1) then
          m_spec_l3Vals_L0 fuel x0 k1 (z1 + 1)
        else none
      else
        some (.ret false)
    else
      some (.brk ())

def m_spec_l3Vals (fuel : Nat) (x0 : List Int) : Option Bool :=
  if (x0.length : Int) = 8 then
    (m_spec_l3Vals_L0 fuel x0 fuel 0).bind <| contL <| un1 fun _ =>
    some true
  else
    some false

set_option maxRecDepth 100000 in
set_option maxHeartbeats 4000000 in
theorem w_spec_l3Vals (fuel : Nat) {x0 : List Int} {a_x0 : Option Addr} {n_x0 c_x0 : Nat} {r0 : Bool} {w0 : World} (h : m_spec_l3Vals fuel x0 = some r0) (hr_x0 : RdT (fun b => ¬ False) w0 (rowT x0) (.slice a_x0 n_x0 c_x0)) :
    Calls Try.prog 37 #[.slice a_x0 n_x0 c_x0] w0 fun e w => e = .returned (.bool r0) ∧ St w0 (fun _ => False) w [] := by
  obtain rfl := hr_x0.neq
  have HT : St w0 (fun _ => False) w0 [] := St.init0
  rw [m_spec_l3Vals] at h
  refine calls_fr (n := 19) [.slice a_x0 x0.length c_x0] Try.func37 rfl rfl rfl (fun a HF => ?_)
  have HT : St w0 (fun _ => False) w0 [] := HT
  refine wp_seq ?_
  refine wc_text ?_
  refine wc_assign HF nS rfl rfl rfl (fun a HF => ?_)
  refine wc_end ?_
  refine then_n ?_
  refine wp_seq ?_
  refine wp_seq ?_
  refine wc_text ?_
  refine wc_move HF nS rfl rfl rfl (fun a HF => ?_)
  refine wc_lenR HF nS Try.underlying35 rfl rfl rfl (fun a HF => ?_)
  refine wc_bin HF nS rfl rfl b_ne rfl rfl (fun a HF => ?_)
  refine wc_end ?_
  refine then_n ?_
  by_cases hb1 : (x0.length : Int) = 8
  · have h := (if_pos hb1).symm.trans h
    refine wp_if (b' := false) HF rfl (notT (decide_eq_true hb1)) ?_
    refine wp_skip ?_
    refine then_n ?_
    obtain ⟨q1, hx1, h⟩ := obs h
    refine wp_cut (fun a w => q1 = .brk () ∧ Fr a 19 [] ∧ St w0 (fun _ => False) w []) ?_ ?_
    · have hk1 := h
      have h := hx1
      refine wp_seq ?_
      refine wc_text ?_
      refine wc_assign HF nS rfl rfl rfl (fun a HF => ?_)
      refine wc_end ?_
      refine then_n ?_
      refine wp_block ?_
      refine wp_loopN (fun k1 a w => ∃ z1, m_spec_l3Vals_L0 fuel x0 k1 z1 = some q1 ∧ Fr a 19 [(0, .slice a_x0 x0.length c_x0), (3, .int .i64 z1)] ∧ St w0 (fun _ => False) w []) fuel ⟨0, h, (HF.keep (HF.keep HF.nil rfl) rfl), HT⟩ ?_
      rintro k1 a w ⟨z1, h, HF, HT⟩
      cases k1 with
      | zero => cases h
      | succ k1 =>
        rw [m_spec_l3Vals_L0] at h
        refine ?_
        refine wp_seq ?_
        refine wp_seq ?_
        refine wc_text ?_
        refine wc_move HF nS rfl rfl rfl (fun a HF => ?_)
        refine wc_move HF nS rfl rfl rfl (fun a HF => ?_)
        refine wc_lenR HF nS Try.underlying35 rfl rfl rfl (fun a HF => ?_)
        refine wc_bin HF nS rfl rfl b_lt rfl rfl (fun a HF => ?_)
        refine wc_end ?_
        refine then_n ?_
        by_cases hb2 : z1 < (x0.length : Int)
        · have h := (if_pos hb2).symm.trans h
          refine wp_if (b' := true) HF rfl (decide_eq_true hb2) ?_
          refine wp_skip ?_
          refine then_n ?_
          refine wp_seq ?_
          refine wp_block ?_
          refine wp_seq ?_
          refine wc_text ?_
          refine wc_move HF nS rfl rfl rfl (fun a HF => ?_)
          refine wc_move HF nS rfl rfl rfl (fun a HF => ?_)
          obtain ⟨e1, hx2, h⟩ := obs h
          obtain ⟨b1, o1, ha1⟩ := (HT.ro hr_x0).any.addr hx2
          refine wc_ixaddr HF nS el35 rfl ha1 ((HT.ro hr_x0).any).neq rfl hx2 rfl rfl (fun a HF => ?_)
          have hc1 := (HT.ro hr_x0).any.flatAt ha1 hx2
          refine wc_load HF rfl sc3 (hc1.get 0 rfl) rfl rfl (fun a HF => ?_)
          obtain ⟨y1, hx3, h⟩ := obs h
          refine wc_call HF cf31 rfl (w_spec_l3Val fuel hx3) rfl rfl ?_
          rintro e w ⟨rfl, hE⟩
          have hb := hE.below
          have HT := HT.pure hE
          have HT : St w0 (fun _ => False) w [] := HT
          refine ⟨_, rfl, nS, fun a HF => ?_⟩
          refine wc_not HF nS rfl rfl rfl (fun a HF => ?_)
          refine wc_end ?_
          refine then_n ?_
          by_cases hb3 : y1 = true
          · have h := (if_pos hb3).symm.trans h
            refine wp_if (b' := false) HF rfl (notT hb3) ?_
            refine wp_skip ?_
            refine blk_n ?_
            refine then_n ?_
            refine wc_text ?_
            refine wc_move HF nS rfl rfl rfl (fun a HF => ?_)
            obtain ⟨hg1, h⟩ := grd h
            refine wc_bin HF nS rfl rfl (b_add hg1) rfl rfl (fun a HF => ?_)
            refine wc_assign HF nS rfl rfl rfl (fun a HF => ?_)
            refine wc_end ?_
            exact then_n ⟨k1, Nat.lt_succ_self k1, z1 + 1, h, (HF.keep (HF.keep HF.nil rfl) rfl), HT⟩
          · have h := (if_neg hb3).symm.trans h
            refine wp_if (b' := true) HF rfl (notF (Bool.eq_false_iff.2 hb3)) ?_
            refine wp_seq ?_
            refine wc_text ?_
            refine wc_assign HF nS rfl rfl rfl (fun a HF => ?_)
            refine wc_end ?_
            refine then_n ?_
            refine wp_ret ?_
            obtain rfl := Option.some.inj h
            have h := retL hk1
            obtain rfl := Option.some.inj h
            refine blk_r (then_r (then_r (blk_r (then_r (?_)))))
            refine bp_ret HF (res_one rfl HF rfl) ?_
            exact ⟨rfl, HT⟩
        · have h := (if_neg hb2).symm.trans h
          refine wp_if (b' := false) HF rfl (decide_eq_false hb2) ?_
          refine wp_exit ?_
          refine then_x (then_x (?_))
          refine blk_x ?_
          exact then_n ⟨(Option.some.inj h).symm, HF.nil, HT⟩
    · rintro a w ⟨rfl, HF, HT⟩
      have h := brkL1 h
      refine ?_
      refine wp_seq ?_
      refine wc_text ?_
      refine wc_assign HF nS rfl rfl rfl (fun a HF => ?_)
      refine wc_end ?_
      refine then_n ?_
      refine wp_ret ?_
      obtain rfl := Option.some.inj h
      refine bp_ret HF (res_one rfl HF rfl) ?_
      exact ⟨rfl, HT⟩
  · have h := (if_neg hb1).symm.trans h
    refine wp_if (b' := true) HF rfl (notF (decide_eq_false hb1)) ?_
    refine wp_seq ?_
    refine wc_text ?_
    refine wc_assign HF nS rfl rfl rfl (fun a HF => ?_)
    refine wc_end ?_
    refine then_n ?_
    refine wp_ret ?_
    obtain rfl := Option.some.inj h
    refine then_r (?_)
    refine bp_ret HF (res_one rfl HF rfl) ?_
    exact ⟨rfl, HT⟩

def m_spec_Overlay_L0 (fuel : Nat) (x1 : List I2) : Nat → (List Int) → Int → Option (List Int)
  | 0, _, _ => none
  | k1 + 1, z2, z3 =>
    if z3 < (x1.length : Int) then
      (at? x1 z3).bind fun e1 =>
      (at? z2 e1.a).bind fun e3 =>
      if in64 (z3 + 1) then
        m_spec_Overlay_L0 fuel x1 k1 (z2.set e1.a.toNat e1.b) (z3 + 1)
      else none
    else
      some z2

def m_spec_Overlay (fuel : Nat) (x0 : List Int) (x1 : List I2) : Option (List Int) :=
  (m_spec_l3Vals fuel x0).bind fun y1 =>
  if y1 = true then
    (m_spec_RowsOk fuel x1).bind fun y2 =>
    if y2 = true then
      if ([] : List Int).length + x0.length ≤ 17179869184 then
        (m_spec_Overlay_L0 fuel x1 fuel (([] : List Int) ++ x0) 0).bind fun z1 =>
        some z1
      else none
    else
      some ([] : List Int)
  else
    some ([] : List Int)

set_option maxRecDepth 100000 in
set_option maxHeartbeats 4000000 in
theorem w_spec_Overlay (fuel : Nat) {x0 : List Int} {x1 : List I2} {a_x0 : Option Addr} {n_x0 c_x0 : Nat} {a_x1 : Option Addr} {n_x1 c_x1 : Nat} {r0 : List Int} {w0 : World} (h : m_spec_Overlay fuel x0 x1 = some r0) (hr_x0 : RdT (fun b => ¬ False) w0 (rowT x0) (.slice a_x0 n_x0 c_x0)) (hr_x1 : RdT (fun b => ¬ False) w0 (rowT x1) (.slice a_x1 n_x1 c_x1)) :
    Calls Try.prog 22 #[.slice a_x0 n_x0 c_x0, .slice a_x1 n_x1 c_x1] w0 fun e w => ∃ a_r0 n_r0 c_r0, e = .returned (.slice a_r0 n_r0 c_r0) ∧ St w0 (fun _ => False) w [Own 3 (rowT r0) (.slice a_r0 n_r0 c_r0)] := by
  obtain rfl := hr_x0.neq
  obtain rfl := hr_x1.neq
  have HT : St w0 (fun _ => False) w0 [] := St.init0
  rw [m_spec_Overlay] at h
  refine calls_fr (n := 38) [.slice a_x0 x0.length c_x0, .slice a_x1 x1.length c_x1] Try.func22 rfl rfl rfl (fun a HF => ?_)
  have HT : St w0 (fun _ => False) w0 [] := HT
  refine wp_seq ?_
  refine wc_text ?_
  refine wc_assign HF nS rfl rfl rfl (fun a HF => ?_)
  refine wc_end ?_
  refine then_n ?_
  refine wp_seq ?_
  refine wp_seq ?_
  refine wc_text ?_
  refine wc_move HF nS rfl rfl rfl (fun a HF => ?_)
  obtain ⟨y1, hx1, h⟩ := obs h
  refine wc_call HF cf37 rfl (w_spec_l3Vals fuel hx1 (HT.ro hr_x0).any) rfl rfl ?_
  rintro e w ⟨rfl, hE⟩
  have hb := hE.below
  have HT := HT.pure hE
  have HT : St w0 (fun _ => False) w [] := HT
  refine ⟨_, rfl, nS, fun a HF => ?_⟩
  refine wc_not HF nS rfl rfl rfl (fun a HF => ?_)
  refine wc_move HF nS rfl rfl rfl (fun a HF => ?_)
  by_cases hb1 : y1 = true
  · have h := (if_pos hb1).symm.trans h
    refine wc_move HF nS rfl (HF.wy rfl rfl rfl rfl (notT hb1)) rfl (fun a HF => ?_)
    obtain ⟨y2, hx2, h⟩ := obs h
    refine wc_call HF cf10 rfl (w_spec_RowsOk fuel hx2 (HT.ro hr_x1).any) (HF.wy rfl rfl rfl rfl (notT hb1)) rfl ?_
    rintro e w ⟨rfl, hE⟩
    have hb := hE.below
    have HT := HT.pure hE
    have HT : St w0 (fun _ => False) w [] := HT
    refine ⟨_, rfl, nS, fun a HF => ?_⟩
    refine wc_not HF nS rfl (HF.wy rfl rfl rfl rfl (notT hb1)) rfl (fun a HF => ?_)
    refine wc_pick (b := false) HF nS rfl (notT hb1) rfl rfl rfl (fun a HF => ?_)
    refine wc_end ?_
    refine then_n ?_
    by_cases hb2 : y2 = true
    · have h := (if_pos hb2).symm.trans h
      refine wp_if (b' := false) HF rfl (notT hb2) ?_
      refine wp_skip ?_
      refine then_n ?_
      refine wp_seq ?_
      refine wc_text ?_
      refine wc_bslice (l := (([] : List Int) : List Int)) (cs := []) (A := []) HF HT bs35_0 rfl rfl (gives_flat rfl) rfl (by decide) rfl rfl (fun p1 w HT hb => ⟨nS, fun a HF => ?_⟩)
      refine wc_move HF nS rfl rfl rfl (fun a HF => ?_)
      obtain ⟨hg1, h⟩ := grd h
      refine wc_appendR HF HT (HT.ro hr_x0).any el35 rfl rfl hg1 rfl rfl rfl (fun a1 c1 w HT => ⟨nS, fun a HF => ?_⟩)
      refine wc_assign HF nS rfl rfl rfl (fun a HF => ?_)
      refine wc_end ?_
      refine then_n ?_
      obtain ⟨z1, hx3, h⟩ := obs h
      refine wp_cut (fun a w => Fr a 38 [(5, .slice a1 ((([] : List Int) ++ x0).length) c1)] ∧ St w0 (fun _ => False) w [Own 3 (rowT z1) (.slice a1 ((([] : List Int) ++ x0).length) c1)]) ?_ ?_
      · have hk1 := h
        have h := hx3
        refine wp_seq ?_
        refine wc_text ?_
        refine wc_assign HF nS rfl rfl rfl (fun a HF => ?_)
        refine wc_end ?_
        refine then_n ?_
        refine wp_block ?_
        refine wp_loopN (fun k1 a w => ∃ z2 z3, m_spec_Overlay_L0 fuel x1 k1 z2 z3 = some z1 ∧ Fr a 38 [(1, .slice a_x1 x1.length c_x1), (5, .slice a1 ((([] : List Int) ++ x0).length) c1), (6, .int .i64 z3)] ∧ St w0 (fun _ => False) w [Own 3 (rowT z2) (.slice a1 ((([] : List Int) ++ x0).length) c1)]) fuel ⟨([] : List Int) ++ x0, 0, h, (HF.keep (HF.keep (HF.keep HF.nil rfl) rfl) rfl), HT⟩ ?_
        rintro k1 a w ⟨z2, z3, h, HF, HT⟩
        cases k1 with
        | zero => cases h
        | succ k1 =>
          rw [m_spec_Overlay_L0] at h
          refine ?_
          refine wp_seq ?_
          refine wp_seq ?_
          refine wc_text ?_
          refine wc_move HF nS rfl rfl rfl (fun a HF => ?_)
          refine wc_move HF nS rfl rfl rfl (fun a HF => ?_)
          refine wc_lenR HF nS Try.underlying25 rfl rfl rfl (fun a HF => ?_)
          refine wc_bin HF nS rfl rfl b_lt rfl rfl (fun a HF => ?_)
          refine wc_end ?_
          refine then_n ?_
          by_cases hb3 : z3 < (x1.length : Int)
          · have h := (if_pos hb3).symm.trans h
            refine wp_if (b' := true) HF rfl (decide_eq_true hb3) ?_
            refine wp_skip ?_
            refine then_n ?_
            refine wp_seq ?_
            refine wp_block ?_
            refine wp_region_can [(0, true), (1, true), (2, true), (3, true), (4, true), (5, true), (6, true), (7, true), (8, true), (9, true), (10, true), (11, true), (12, true)] (fun w' => True) (by kernel_rfl) (by kernel_rfl) ?_
            have HT : St w0 (fun _ => False) w.drew [Own 3 (rowT z2) (.slice a1 ((([] : List Int) ++ x0).length) c1)] := HT.drew
            refine wc_move HF nS rfl rfl rfl (fun a HF => ?_)
            refine wc_move HF nS rfl rfl rfl (fun a HF => ?_)
            refine wc_move HF nS rfl rfl rfl (fun a HF => ?_)
            obtain ⟨e1, hx4, h⟩ := obs h
            obtain ⟨b1, o1, ha1⟩ := (HT.ro hr_x1).any.addr hx4
            refine wc_ixaddr HF nS el25 rfl ha1 ((HT.ro hr_x1).any).neq rfl hx4 rfl rfl (fun a HF => ?_)
            refine wc_faddr HF nS rfl fl44_0 rfl rfl (fun a HF => ?_)
            have hc1 := (HT.ro hr_x1).any.flatAt ha1 hx4
            refine wc_load HF rfl sc3 (hc1.get 0 rfl) rfl rfl (fun a HF => ?_)
            refine wc_move HF nS rfl rfl rfl (fun a HF => ?_)
            refine wc_move HF nS rfl rfl rfl (fun a HF => ?_)
            refine wc_ixaddr HF nS el25 rfl ha1 ((HT.ro hr_x1).any).neq rfl hx4 rfl rfl (fun a HF => ?_)
            refine wc_faddr HF nS rfl fl44_1 rfl rfl (fun a HF => ?_)
            have hc2 := (HT.ro hr_x1).any.flatAt ha1 hx4
            refine wc_load HF rfl sc3 (hc2.get 1 rfl) rfl rfl (fun a HF => ?_)
            obtain ⟨e3, hx5, h⟩ := obs h
            obtain ⟨b2, o2, ha2⟩ := (HT.rdAt 0 rfl).addr hx5
            refine wc_ixaddr HF nS el35 rfl ha2 ((HT.rdAt 0 rfl)).neq rfl hx5 rfl rfl (fun a HF => ?_)
            refine wc_storeR (i := e1.a) (j := 0) (x' := e1.b) HF HT ha2 rfl rfl (fun w => (sc3 w).2) rfl rfl hx5 rfl rfl rfl rfl (fun w HT => ⟨nS, ?_⟩)
            refine wc_endN ?_
            refine blk_n ?_
            refine then_n ?_
            refine wc_text ?_
            refine wc_move HF nS rfl rfl rfl (fun a HF => ?_)
            obtain ⟨hg2, h⟩ := grd h
            refine wc_bin HF nS rfl rfl (b_add hg2) rfl rfl (fun a HF => ?_)
            refine wc_assign HF nS rfl rfl rfl (fun a HF => ?_)
            refine wc_end ?_
            exact then_n ⟨k1, Nat.lt_succ_self k1, z2.set e1.a.toNat e1.b, z3 + 1, h, (HF.keep (HF.keep (HF.keep HF.nil rfl) rfl) rfl), HT⟩
          · have h := (if_neg hb3).symm.trans h
            refine wp_if (b' := false) HF rfl (decide_eq_false hb3) ?_
            refine wp_exit ?_
            refine then_x (then_x (?_))
            refine blk_x ?_
            obtain rfl := Option.some.inj h
            exact then_n ⟨(HF.keep HF.nil rfl), HT⟩
      · rintro a w ⟨HF, HT⟩
        refine ?_
        refine wp_seq ?_
        refine wc_text ?_
        refine wc_move HF nS rfl rfl rfl (fun a HF => ?_)
        refine wc_assign HF nS rfl rfl rfl (fun a HF => ?_)
        refine wc_end ?_
        refine then_n ?_
        refine wp_ret ?_
        obtain rfl := Option.some.inj h
        refine bp_ret HF (res_one rfl HF rfl) ?_
        exact ⟨a1, (([] : List Int) ++ x0).length, c1, rfl, HT⟩
    · have h := (if_neg hb2).symm.trans h
      refine wp_if (b' := true) HF rfl (notF (Bool.eq_false_iff.2 hb2)) ?_
      refine wp_seq ?_
      refine wc_text ?_
      refine wc_bslice (l := (([] : List Int) : List Int)) (cs := []) (A := []) HF HT bs35_0 rfl rfl (gives_flat rfl) rfl (by decide) rfl rfl (fun p2 w HT hb => ⟨nS, fun a HF => ?_⟩)
      refine wc_assign HF nS rfl rfl rfl (fun a HF => ?_)
      refine wc_end ?_
      refine then_n ?_
      refine wp_ret ?_
      obtain rfl := Option.some.inj h
      refine then_r (?_)
      refine bp_ret HF (res_one rfl HF rfl) ?_
      exact ⟨(some ⟨p2, 0, none⟩), 0, 0, rfl, HT⟩
  · have h := (if_neg hb1).symm.trans h
    refine wc_skip HF nS (HF.wn rfl rfl rfl rfl (notF (Bool.eq_false_iff.2 hb1))) rfl (fun a HF => ?_)
    refine wc_skip HF nS (HF.wn rfl rfl rfl rfl (notF (Bool.eq_false_iff.2 hb1))) rfl (fun a HF => ?_)
    refine wc_skip HF nS (HF.wn rfl rfl rfl rfl (notF (Bool.eq_false_iff.2 hb1))) rfl (fun a HF => ?_)
    refine wc_pick (b := true) HF nS rfl (notF (Bool.eq_false_iff.2 hb1)) rfl rfl rfl (fun a HF => ?_)
    refine wc_end ?_
    refine then_n ?_
    refine wp_if (b' := true) HF rfl rfl ?_
    refine wp_seq ?_
    refine wc_text ?_
    refine wc_bslice (l := (([] : List Int) : List Int)) (cs := []) (A := []) HF HT bs35_0 rfl rfl (gives_flat rfl) rfl (by decide) rfl rfl (fun p3 w HT hb => ⟨nS, fun a HF => ?_⟩)
    refine wc_assign HF nS rfl rfl rfl (fun a HF => ?_)
    refine wc_end ?_
    refine then_n ?_
    refine wp_ret ?_
    obtain rfl := Option.some.inj h
    refine then_r (?_)
    refine bp_ret HF (res_one rfl HF rfl) ?_
    exact ⟨(some ⟨p3, 0, none⟩), 0, 0, rfl, HT⟩

def m_impl_areValues_L0 (fuel : Nat) (x0 : List Int) : Nat → Int → Option (Lp Unit Bool)
  | 0, _ => none
  | k1 + 1, z1 =>
    if z1 < (x0.length : Int) then
      (at? x0 z1).bind fun e1 =>
      (m_impl_isValue fuel e1).bind fun y1 =>
      if y1 = true then
        if in64 (z1 + 1) then
          m_impl_areValues_L0 fuel x0 k1 (z1 + 1)
        else none
      else
        some (.ret false)
    else
      some (.brk ())

def m_impl_areValues (fuel : Nat) (x0 : List Int) (x1 : Int) : Option Bool :=
  (m_impl_areValues_L0 fuel x0 fuel 0).bind <| contL <| un1 fun _ =>
  some (decide ((x0.length : Int) = x1))

set_option maxRecDepth 100000 in
set_option maxHeartbeats 4000000 in
theorem w_impl_areValues (fuel : Nat) {x0 : List Int} {x1 : Int} {a_x0 : Option Addr} {n_x0 c_x0 : Nat} {r0 : Bool} {w0 : World} (h : m_impl_areValues fuel x0 x1 = some r0) (hr_x0 : RdT (fun b => ¬ False) w0 (rowT x0) (.slice a_x0 n_x0 c_x0)) :
    Calls Try.prog 38 #[.slice a_x0 n_x0 c_x0, .int .i64 x1] w0 fun e w => e = .returned (.bool r0) ∧ St w0 (fun _ => False) w [] := by
  obtain rfl := hr_x0.neq
  have HT : St w0 (fun _ => False) w0 [] := St.init0
  rw [m_impl_areValues] at h
  refine calls_fr (n := 21) [.slice a_x0 x0.length c_x0, .int .i64 x1] Try.func38 rfl rfl rfl (fun a HF => ?_)
  have HT : St w0 (fun _ => False) w0 [] := HT
  refine wp_seq ?_
  refine wc_text ?_
  refine wc_assign HF nS rfl rfl rfl (fun a HF => ?_)
  refine wc_end ?_
  refine then_n ?_
  obtain ⟨q1, hx1, h⟩ := obs h
  refine wp_cut (fun a w => q1 = .brk () ∧ Fr a 21 [(0, .slice a_x0 x0.length c_x0), (1, .int .i64 x1)] ∧ St w0 (fun _ => False) w []) ?_ ?_
  · have hk1 := h
    have h := hx1
    refine wp_seq ?_
    refine wc_text ?_
    refine wc_move HF nS rfl rfl rfl (fun a HF => ?_)
    refine wc_lenR HF nS Try.underlying35 rfl rfl rfl (fun a HF => ?_)
    refine wc_move HF nS rfl rfl rfl (fun a HF => ?_)
    refine wc_end ?_
    refine then_n ?_
    refine wp_block ?_
    refine wp_loopN (fun k1 a w => ∃ z1, m_impl_areValues_L0 fuel x0 k1 z1 = some q1 ∧ Fr a 21 [(0, .slice a_x0 x0.length c_x0), (1, .int .i64 x1), (7, .slice a_x0 x0.length c_x0), (8, .int .i64 (x0.length : Int)), (9, .int .i64 z1)] ∧ St w0 (fun _ => False) w []) fuel ⟨0, h, (HF.keep (HF.keep (HF.keep (HF.keep (HF.keep HF.nil rfl) rfl) rfl) rfl) rfl), HT⟩ ?_
    rintro k1 a w ⟨z1, h, HF, HT⟩
    cases k1 with
    | zero => cases h
    | succ k1 =>
      rw [m_impl_areValues_L0] at h
      refine ?_
      refine wp_seq ?_
      refine wc_text ?_
      refine wc_bin HF nS rfl rfl b_lt rfl rfl (fun a HF => ?_)
      refine wc_end ?_
      refine then_n ?_
      refine wp_seq ?_
      by_cases hb1 : z1 < (x0.length : Int)
      · have h := (if_pos hb1).symm.trans h
        refine wp_if (b' := true) HF rfl (decide_eq_true hb1) ?_
        refine wp_skip ?_
        refine then_n ?_
        refine wp_seq ?_
        refine wp_block ?_
        refine wp_seq ?_
        refine wc_text ?_
        obtain ⟨e1, hx2, h⟩ := obs h
        obtain ⟨b1, o1, ha1⟩ := (HT.ro hr_x0).any.addr hx2
        refine wc_ixaddr HF nS el35 rfl ha1 ((HT.ro hr_x0).any).neq rfl hx2 rfl rfl (fun a HF => ?_)
        have hc1 := (HT.ro hr_x0).any.flatAt ha1 hx2
        refine wc_load HF rfl sc3 (hc1.get 0 rfl) rfl rfl (fun a HF => ?_)
        refine wc_assign HF nS rfl rfl rfl (fun a HF => ?_)
        refine wc_end ?_
        refine then_n ?_
        refine wp_seq ?_
        refine wc_text ?_
        refine wc_move HF nS rfl rfl rfl (fun a HF => ?_)
        obtain ⟨y1, hx3, h⟩ := obs h
        refine wc_call HF cf34 rfl (w_impl_isValue fuel hx3) rfl rfl ?_
        rintro e w ⟨rfl, hE⟩
        have hb := hE.below
        have HT := HT.pure hE
        have HT : St w0 (fun _ => False) w [] := HT
        refine ⟨_, rfl, nS, fun a HF => ?_⟩
        refine wc_not HF nS rfl rfl rfl (fun a HF => ?_)
        refine wc_end ?_
        refine then_n ?_
        by_cases hb2 : y1 = true
        · have h := (if_pos hb2).symm.trans h
          refine wp_if (b' := false) HF rfl (notT hb2) ?_
          refine wp_skip ?_
          refine blk_n ?_
          refine then_n ?_
          refine wc_text ?_
          obtain ⟨hg1, h⟩ := grd h
          refine wc_bin HF nS rfl rfl (b_add hg1) rfl rfl (fun a HF => ?_)
          refine wc_move HF nS rfl rfl rfl (fun a HF => ?_)
          refine wc_end ?_
          exact then_n ⟨k1, Nat.lt_succ_self k1, z1 + 1, h, (HF.keep (HF.keep (HF.keep (HF.keep (HF.keep HF.nil rfl) rfl) rfl) rfl) rfl), HT⟩
        · have h := (if_neg hb2).symm.trans h
          refine wp_if (b' := true) HF rfl (notF (Bool.eq_false_iff.2 hb2)) ?_
          refine wp_seq ?_
          refine wc_text ?_
          refine wc_assign HF nS rfl rfl rfl (fun a HF => ?_)
          refine wc_end ?_
          refine then_n ?_
          refine wp_ret ?_
          obtain rfl := Option.some.inj h
          have h := retL hk1
          obtain rfl := Option.some.inj h
          refine blk_r (then_r (then_r (blk_r (then_r (?_)))))
          refine bp_ret HF (res_one rfl HF rfl) ?_
          exact ⟨rfl, HT⟩
      · have h := (if_neg hb1).symm.trans h
        refine wp_if (b' := false) HF rfl (decide_eq_false hb1) ?_
        refine wp_exit ?_
        refine then_x (then_x (?_))
        refine blk_x ?_
        exact then_n ⟨(Option.some.inj h).symm, (HF.keep (HF.keep HF.nil rfl) rfl), HT⟩
  · rintro a w ⟨rfl, HF, HT⟩
    have h := brkL1 h
    refine ?_
    refine wp_seq ?_
    refine wc_text ?_
    refine wc_move HF nS rfl rfl rfl (fun a HF => ?_)
    refine wc_lenR HF nS Try.underlying35 rfl rfl rfl (fun a HF => ?_)
    refine wc_move HF nS rfl rfl rfl (fun a HF => ?_)
    refine wc_bin HF nS rfl rfl b_eq rfl rfl (fun a HF => ?_)
    refine wc_assign HF nS rfl rfl rfl (fun a HF => ?_)
    refine wc_end ?_
    refine then_n ?_
    refine wp_ret ?_
    obtain rfl := Option.some.inj h
    refine bp_ret HF (res_one rfl HF rfl) ?_
    exact ⟨rfl, HT⟩

def m_impl_copyInts (fuel : Nat) (x0 : List Int) : Option (List Int) :=
  if ([] : List Int).length + x0.length ≤ 17179869184 then
    some (([] : List Int) ++ x0)
  else none

set_option maxRecDepth 100000 in
set_option maxHeartbeats 4000000 in
theorem w_impl_copyInts (fuel : Nat) {x0 : List Int} {a_x0 : Option Addr} {n_x0 c_x0 : Nat} {r0 : List Int} {w0 : World} (h : m_impl_copyInts fuel x0 = some r0) (hr_x0 : RdT (fun b => ¬ False) w0 (rowT x0) (.slice a_x0 n_x0 c_x0)) :
    Calls Try.prog 39 #[.slice a_x0 n_x0 c_x0] w0 fun e w => ∃ a_r0 n_r0 c_r0, e = .returned (.slice a_r0 n_r0 c_r0) ∧ St w0 (fun _ => False) w [Own 3 (rowT r0) (.slice a_r0 n_r0 c_r0)] := by
  obtain rfl := hr_x0.neq
  have HT : St w0 (fun _ => False) w0 [] := St.init0
  rw [m_impl_copyInts] at h
  refine calls_fr (n := 5) [.slice a_x0 x0.length c_x0] Try.func39 rfl rfl rfl (fun a HF => ?_)
  have HT : St w0 (fun _ => False) w0 [] := HT
  refine wp_seq ?_
  refine wc_text ?_
  refine wc_assign HF nS rfl rfl rfl (fun a HF => ?_)
  refine wc_end ?_
  refine then_n ?_
  refine wp_seq ?_
  refine wc_text ?_
  refine wc_move HF nS rfl rfl rfl (fun a HF => ?_)
  have HT : St w0 (fun _ => False) w0 [Own 3 (rowT ([] : List Int)) (.slice none 0 0)] := HT.nilrow 3
  obtain ⟨hg1, h⟩ := grd h
  refine wc_appendR HF HT (HT.ro hr_x0).any el35 rfl rfl hg1 rfl rfl rfl (fun a1 c1 w HT => ⟨nS, fun a HF => ?_⟩)
  refine wc_assign HF nS rfl rfl rfl (fun a HF => ?_)
  refine wc_end ?_
  refine then_n ?_
  refine wp_ret ?_
  obtain rfl := Option.some.inj h
  refine bp_ret HF (res_one rfl HF rfl) ?_
  exact ⟨a1, (([] : List Int) ++ x0).length, c1, rfl, HT⟩

def m_impl_Overlay_L0 (fuel : Nat) (x1 : List I2) : Nat → (List Int) → Int → Option (List Int)
  | 0, _, _ => none
  | k1 + 1, z2, z3 =>
    if z3 < (x1.length : Int) then
      (at? x1 z3).bind fun e1 =>
      (at? z2 e1.a).bind fun e2 =>
      if in64 (z3 + 1) then
        m_impl_Overlay_L0 fuel x1 k1 (z2.set e1.a.toNat e1.b) (z3 + 1)
      else none
    else
      some z2

def m_impl_Overlay (fuel : Nat) (x0 : List Int) (x1 : List I2) : Option (List Int) :=
  (m_impl_areValues fuel x0 8).bind fun y1 =>
  if y1 = true then
    (m_impl_RowsOk fuel x1).bind fun y2 =>
    if y2 = true then
      (m_impl_copyInts fuel x0).bind fun y3 =>
      (m_impl_Overlay_L0 fuel x1 fuel y3 0).bind fun z1 =>
      some z1
    else
      some ([] : List Int)
  else
    some ([] : List Int)

set_option maxRecDepth 100000 in
set_option maxHeartbeats 4000000 in
theorem w_impl_Overlay (fuel : Nat) {x0 : List Int} {x1 : List I2} {a_x0 : Option Addr} {n_x0 c_x0 : Nat} {a_x1 : Option Addr} {n_x1 c_x1 : Nat} {r0 : List Int} {w0 : World} (h : m_impl_Overlay fuel x0 x1 = some r0) (hr_x0 : RdT (fun b => ¬ False) w0 (rowT x0) (.slice a_x0 n_x0 c_x0)) (hr_x1 : RdT (fun b => ¬ False) w0 (rowT x1) (.slice a_x1 n_x1 c_x1)) :
    Calls Try.prog 24 #[.slice a_x0 n_x0 c_x0, .slice a_x1 n_x1 c_x1] w0 fun e w => ∃ a_r0 n_r0 c_r0, e = .returned (.slice a_r0 n_r0 c_r0) ∧ St w0 (fun _ => False) w [Own 3 (rowT r0) (.slice a_r0 n_r0 c_r0)] := by
  obtain rfl := hr_x0.neq
  obtain rfl := hr_x1.neq
  have HT : St w0 (fun _ => False) w0 [] := St.init0
  rw [m_impl_Overlay] at h
  refine calls_fr (n := 32) [.slice a_x0 x0.length c_x0, .slice a_x1 x1.length c_x1] Try.func24 rfl rfl rfl (fun a HF => ?_)
  have HT : St w0 (fun _ => False) w0 [] := HT
  refine wp_seq ?_
  refine wc_text ?_
  refine wc_assign HF nS rfl rfl rfl (fun a HF => ?_)
  refine wc_end ?_
  refine then_n ?_
  refine wp_seq ?_
  refine wp_seq ?_
  refine wc_text ?_
  refine wc_move HF nS rfl rfl rfl (fun a HF => ?_)
  obtain ⟨y1, hx1, h⟩ := obs h
  refine wc_call HF cf38 rfl (w_impl_areValues fuel hx1 (HT.ro hr_x0).any) rfl rfl ?_
  rintro e w ⟨rfl, hE⟩
  have hb := hE.below
  have HT := HT.pure hE
  have HT : St w0 (fun _ => False) w [] := HT
  refine ⟨_, rfl, nS, fun a HF => ?_⟩
  refine wc_not HF nS rfl rfl rfl (fun a HF => ?_)
  refine wc_move HF nS rfl rfl rfl (fun a HF => ?_)
  by_cases hb1 : y1 = true
  · have h := (if_pos hb1).symm.trans h
    refine wc_move HF nS rfl (HF.wy rfl rfl rfl rfl (notT hb1)) rfl (fun a HF => ?_)
    obtain ⟨y2, hx2, h⟩ := obs h
    refine wc_call HF cf12 rfl (w_impl_RowsOk fuel hx2 (HT.ro hr_x1).any) (HF.wy rfl rfl rfl rfl (notT hb1)) rfl ?_
    rintro e w ⟨rfl, hE⟩
    have hb := hE.below
    have HT := HT.pure hE
    have HT : St w0 (fun _ => False) w [] := HT
    refine ⟨_, rfl, nS, fun a HF => ?_⟩
    refine wc_not HF nS rfl (HF.wy rfl rfl rfl rfl (notT hb1)) rfl (fun a HF => ?_)
    refine wc_pick (b := false) HF nS rfl (notT hb1) rfl rfl rfl (fun a HF => ?_)
    refine wc_end ?_
    refine then_n ?_
    by_cases hb2 : y2 = true
    · have h := (if_pos hb2).symm.trans h
      refine wp_if (b' := false) HF rfl (notT hb2) ?_
      refine wp_skip ?_
      refine then_n ?_
      refine wp_seq ?_
      refine wc_text ?_
      refine wc_move HF nS rfl rfl rfl (fun a HF => ?_)
      obtain ⟨y3, hx3, h⟩ := obs h
      refine wc_call HF cf39 rfl (w_impl_copyInts fuel hx3 (HT.ro hr_x0).any) rfl rfl ?_
      rintro e w ⟨a1, n1, c1, rfl, hE⟩
      have hb := hE.below
      have HT := HT.pure hE
      obtain rfl := (HT.rdAt 0 rfl).neq
      have HT : St w0 (fun _ => False) w [Own 3 (rowT y3) (.slice a1 y3.length c1)] := HT
      refine ⟨_, rfl, nS, fun a HF => ?_⟩
      refine wc_assign HF nS rfl rfl rfl (fun a HF => ?_)
      refine wc_end ?_
      refine then_n ?_
      obtain ⟨z1, hx4, h⟩ := obs h
      refine wp_cut (fun a w => Fr a 32 [(5, .slice a1 y3.length c1)] ∧ St w0 (fun _ => False) w [Own 3 (rowT z1) (.slice a1 y3.length c1)]) ?_ ?_
      · have hk1 := h
        have h := hx4
        refine wp_seq ?_
        refine wc_text ?_
        refine wc_move HF nS rfl rfl rfl (fun a HF => ?_)
        refine wc_lenR HF nS Try.underlying25 rfl rfl rfl (fun a HF => ?_)
        refine wc_move HF nS rfl rfl rfl (fun a HF => ?_)
        refine wc_end ?_
        refine then_n ?_
        refine wp_block ?_
        refine wp_loopN (fun k1 a w => ∃ z2 z3, m_impl_Overlay_L0 fuel x1 k1 z2 z3 = some z1 ∧ Fr a 32 [(5, .slice a1 y3.length c1), (18, .slice a_x1 x1.length c_x1), (19, .int .i64 (x1.length : Int)), (20, .int .i64 z3)] ∧ St w0 (fun _ => False) w [Own 3 (rowT z2) (.slice a1 y3.length c1)]) fuel ⟨y3, 0, h, (HF.keep (HF.keep (HF.keep (HF.keep HF.nil rfl) rfl) rfl) rfl), HT⟩ ?_
        rintro k1 a w ⟨z2, z3, h, HF, HT⟩
        cases k1 with
        | zero => cases h
        | succ k1 =>
          rw [m_impl_Overlay_L0] at h
          refine ?_
          refine wp_seq ?_
          refine wc_text ?_
          refine wc_bin HF nS rfl rfl b_lt rfl rfl (fun a HF => ?_)
          refine wc_end ?_
          refine then_n ?_
          refine wp_seq ?_
          by_cases hb3 : z3 < (x1.length : Int)
          · have h := (if_pos hb3).symm.trans h
            refine wp_if (b' := true) HF rfl (decide_eq_true hb3) ?_
            refine wp_skip ?_
            refine then_n ?_
            refine wp_seq ?_
            refine wp_block ?_
            refine wp_seq ?_
            refine wc_text ?_
            obtain ⟨e1, hx5, h⟩ := obs h
            obtain ⟨b1, o1, ha1⟩ := (HT.ro hr_x1).any.addr hx5
            refine wc_ixaddr HF nS el25 rfl ha1 ((HT.ro hr_x1).any).neq rfl hx5 rfl rfl (fun a HF => ?_)
            have hc1 := (HT.ro hr_x1).any.flatAt ha1 hx5
            refine wc_loadA (vs := [.int .i64 e1.a, .int .i64 e1.b]) HF rfl ag44 rfl (hc1.part 0 2) rfl rfl (fun a HF => ?_)
            refine wc_alloc (cs := [.int .i64 0, .int .i64 0]) HF HT zr44 rfl rfl rfl (fun p1 w HT hb => ⟨nS, fun a HF => ?_⟩)
            refine wc_storeB (cs' := [.int .i64 e1.a, .int .i64 e1.b]) HF HT rfl rfl (fun w => (ag44 w).2) rfl rfl rfl rfl rfl (fun w HT => ⟨nS, ?_⟩)
            refine wc_end ?_
            refine then_n ?_
            refine wc_text ?_
            refine wc_move HF nS rfl rfl rfl (fun a HF => ?_)
            refine wc_faddr HF nS rfl fl44_0 rfl rfl (fun a HF => ?_)
            refine wc_load HF rfl sc3 ((HT.boxAt 0 rfl).get 0 rfl) rfl rfl (fun a HF => ?_)
            refine wc_faddr HF nS rfl fl44_1 rfl rfl (fun a HF => ?_)
            refine wc_load HF rfl sc3 ((HT.boxAt 0 rfl).get 1 rfl) rfl rfl (fun a HF => ?_)
            obtain ⟨e2, hx6, h⟩ := obs h
            obtain ⟨b2, o2, ha2⟩ := (HT.rdAt 1 rfl).addr hx6
            refine wc_ixaddr HF nS el35 rfl ha2 ((HT.rdAt 1 rfl)).neq rfl hx6 rfl rfl (fun a HF => ?_)
            have HT : St w0 (fun _ => False) w [Own 3 (rowT z2) (.slice a1 y3.length c1), Box p1 [.int .i64 e1.a, .int .i64 e1.b]] := HT.pick 1
            refine wc_storeR (i := e1.a) (j := 0) (x' := e1.b) HF HT ha2 rfl rfl (fun w => (sc3 w).2) rfl rfl hx6 rfl rfl rfl rfl (fun w HT => ⟨nS, ?_⟩)
            refine wc_end ?_
            refine blk_n ?_
            refine then_n ?_
            refine wc_text ?_
            obtain ⟨hg1, h⟩ := grd h
            refine wc_bin HF nS rfl rfl (b_add hg1) rfl rfl (fun a HF => ?_)
            refine wc_move HF nS rfl rfl rfl (fun a HF => ?_)
            refine wc_end ?_
            have HT : St w0 (fun _ => False) w [Own 3 (rowT (z2.set e1.a.toNat e1.b)) (.slice a1 y3.length c1)] := HT.take 1
            exact then_n ⟨k1, Nat.lt_succ_self k1, z2.set e1.a.toNat e1.b, z3 + 1, h, (HF.keep (HF.keep (HF.keep (HF.keep HF.nil rfl) rfl) rfl) rfl), HT⟩
          · have h := (if_neg hb3).symm.trans h
            refine wp_if (b' := false) HF rfl (decide_eq_false hb3) ?_
            refine wp_exit ?_
            refine then_x (then_x (?_))
            refine blk_x ?_
            obtain rfl := Option.some.inj h
            exact then_n ⟨(HF.keep HF.nil rfl), HT⟩
      · rintro a w ⟨HF, HT⟩
        refine ?_
        refine wp_seq ?_
        refine wc_text ?_
        refine wc_move HF nS rfl rfl rfl (fun a HF => ?_)
        refine wc_assign HF nS rfl rfl rfl (fun a HF => ?_)
        refine wc_end ?_
        refine then_n ?_
        refine wp_ret ?_
        obtain rfl := Option.some.inj h
        refine bp_ret HF (res_one rfl HF rfl) ?_
        exact ⟨a1, y3.length, c1, rfl, HT⟩
    · have h := (if_neg hb2).symm.trans h
      refine wp_if (b' := true) HF rfl (notF (Bool.eq_false_iff.2 hb2)) ?_
      refine wp_seq ?_
      refine wc_text ?_
      refine wc_assign HF nS rfl rfl rfl (fun a HF => ?_)
      refine wc_end ?_
      refine then_n ?_
      refine wp_ret ?_
      have HT : St w0 (fun _ => False) w [Own 3 (rowT ([] : List Int)) (.slice none 0 0)] := HT.nilrow 3
      obtain rfl := Option.some.inj h
      refine then_r (?_)
      refine bp_ret HF (res_one rfl HF rfl) ?_
      exact ⟨none, 0, 0, rfl, HT⟩
  · have h := (if_neg hb1).symm.trans h
    refine wc_skip HF nS (HF.wn rfl rfl rfl rfl (notF (Bool.eq_false_iff.2 hb1))) rfl (fun a HF => ?_)
    refine wc_skip HF nS (HF.wn rfl rfl rfl rfl (notF (Bool.eq_false_iff.2 hb1))) rfl (fun a HF => ?_)
    refine wc_skip HF nS (HF.wn rfl rfl rfl rfl (notF (Bool.eq_false_iff.2 hb1))) rfl (fun a HF => ?_)
    refine wc_pick (b := true) HF nS rfl (notF (Bool.eq_false_iff.2 hb1)) rfl rfl rfl (fun a HF => ?_)
    refine wc_end ?_
    refine then_n ?_
    refine wp_if (b' := true) HF rfl rfl ?_
    refine wp_seq ?_
    refine wc_text ?_
    refine wc_assign HF nS rfl rfl rfl (fun a HF => ?_)
    refine wc_end ?_
    refine then_n ?_
    refine wp_ret ?_
    have HT : St w0 (fun _ => False) w [Own 3 (rowT ([] : List Int)) (.slice none 0 0)] := HT.nilrow 3
    obtain rfl := Option.some.inj h
    refine then_r (?_)
    refine bp_ret HF (res_one rfl HF rfl) ?_
    exact ⟨none, 0, 0, rfl, HT⟩

def m_laws_eqIntS_L0 (fuel : Nat) (x0 : List Int) (x1 : List Int) : Nat → Int → Option (Lp Unit Bool)
  | 0, _ => none
  | k1 + 1, z1 =>
    if z1 < (x0.length : Int) then
      (at? x0 z1).bind fun e1 =>
      (at? x1 z1).bind fun e2 =>
      if e1 = e2 then
        if in64 (z1 + 1) then
          m_laws_eqIntS_L0 fuel x0 x1 k1 (z1 + 1)
        else none
      else
        some (.ret false)
    else
      some (.brk ())

def m_laws_eqIntS (fuel : Nat) (x0 : List Int) (x1 : List Int) : Option Bool :=
  if (x0.length : Int) = (x1.length : Int) then
    (m_laws_eqIntS_L0 fuel x0 x1 fuel 0).bind <| contL <| un1 fun _ =>
    some true
  else
    some false

set_option maxRecDepth 100000 in
set_option maxHeartbeats 4000000 in
theorem w_laws_eqIntS (fuel : Nat) {x0 : List Int} {x1 : List Int} {a_x0 : Option Addr} {n_x0 c_x0 : Nat} {a_x1 : Option Addr} {n_x1 c_x1 : Nat} {r0 : Bool} {w0 : World} (h : m_laws_eqIntS fuel x0 x1 = some r0) (hr_x0 : RdT (fun b => ¬ False) w0 (rowT x0) (.slice a_x0 n_x0 c_x0)) (hr_x1 : RdT (fun b => ¬ False) w0 (rowT x1) (.slice a_x1 n_x1 c_x1)) :
    Calls Try.prog 25 #[.slice a_x0 n_x0 c_x0, .slice a_x1 n_x1 c_x1] w0 fun e w => e = .returned (.bool r0) ∧ St w0 (fun _ => False) w [] := by
  obtain rfl := hr_x0.neq
  obtain rfl := hr_x1.neq
  have HT : St w0 (fun _ => False) w0 [] := St.init0
  rw [m_laws_eqIntS] at h
  refine calls_fr (n := 26) [.slice a_x0 x0.length c_x0, .slice a_x1 x1.length c_x1] Try.func25 rfl rfl rfl (fun a HF => ?_)
  have HT : St w0 (fun _ => False) w0 [] := HT
  refine wp_seq ?_
  refine wc_text ?_
  refine wc_assign HF nS rfl rfl rfl (fun a HF => ?_)
  refine wc_end ?_
  refine then_n ?_
  refine wp_seq ?_
  refine wp_seq ?_
  refine wc_text ?_
  refine wc_move HF nS rfl rfl rfl (fun a HF => ?_)
  refine wc_lenR HF nS Try.underlying35 rfl rfl rfl (fun a HF => ?_)
  refine wc_move HF nS rfl rfl rfl (fun a HF => ?_)
  refine wc_lenR HF nS Try.underlying35 rfl rfl rfl (fun a HF => ?_)
  refine wc_bin HF nS rfl rfl b_ne rfl rfl (fun a HF => ?_)
  refine wc_end ?_
  refine then_n ?_
  by_cases hb1 : (x0.length : Int) = (x1.length : Int)
  · have h := (if_pos hb1).symm.trans h
    refine wp_if (b' := false) HF rfl (notT (decide_eq_true hb1)) ?_
    refine wp_skip ?_
    refine then_n ?_
    obtain ⟨q1, hx1, h⟩ := obs h
    refine wp_cut (fun a w => q1 = .brk () ∧ Fr a 26 [] ∧ St w0 (fun _ => False) w []) ?_ ?_
    · have hk1 := h
      have h := hx1
      refine wp_seq ?_
      refine wc_text ?_
      refine wc_assign HF nS rfl rfl rfl (fun a HF => ?_)
      refine wc_end ?_
      refine then_n ?_
      refine wp_block ?_
      refine wp_loopN (fun k1 a w => ∃ z1, m_laws_eqIntS_L0 fuel x0 x1 k1 z1 = some q1 ∧ Fr a 26 [(0, .slice a_x0 x0.length c_x0), (1, .slice a_x1 x1.length c_x1), (5, .int .i64 z1)] ∧ St w0 (fun _ => False) w []) fuel ⟨0, h, (HF.keep (HF.keep (HF.keep HF.nil rfl) rfl) rfl), HT⟩ ?_
      rintro k1 a w ⟨z1, h, HF, HT⟩
      cases k1 with
      | zero => cases h
      | succ k1 =>
        rw [m_laws_eqIntS_L0] at h
        refine ?_
        refine wp_seq ?_
        refine wp_seq ?_
        refine wc_text ?_
        refine wc_move HF nS rfl rfl rfl (fun a HF => ?_)
        refine wc_move HF nS rfl rfl rfl (fun a HF => ?_)
        refine wc_lenR HF nS Try.underlying35 rfl rfl rfl (fun a HF => ?_)
        refine wc_bin HF nS rfl rfl b_lt rfl rfl (fun a HF => ?_)
        refine wc_end ?_
        refine then_n ?_
        by_cases hb2 : z1 < (x0.length : Int)
        · have h := (if_pos hb2).symm.trans h
          refine wp_if (b' := true) HF rfl (decide_eq_true hb2) ?_
          refine wp_skip ?_
          refine then_n ?_
          refine wp_seq ?_
          refine wp_block ?_
          refine wp_seq ?_
          refine wp_region_can [(0, true), (1, true), (2, true), (3, true), (4, true), (5, true), (6, true), (7, true), (8, true)] (fun w' => True) (by kernel_rfl) (by kernel_rfl) ?_
          have HT : St w0 (fun _ => False) w.drew [] := HT.drew
          refine wc_move HF nS rfl rfl rfl (fun a HF => ?_)
          refine wc_move HF nS rfl rfl rfl (fun a HF => ?_)
          obtain ⟨e1, hx2, h⟩ := obs h
          obtain ⟨b1, o1, ha1⟩ := (HT.ro hr_x0).any.addr hx2
          refine wc_ixaddr HF nS el35 rfl ha1 ((HT.ro hr_x0).any).neq rfl hx2 rfl rfl (fun a HF => ?_)
          have hc1 := (HT.ro hr_x0).any.flatAt ha1 hx2
          refine wc_load HF rfl sc3 (hc1.get 0 rfl) rfl rfl (fun a HF => ?_)
          refine wc_move HF nS rfl rfl rfl (fun a HF => ?_)
          refine wc_move HF nS rfl rfl rfl (fun a HF => ?_)
          obtain ⟨e2, hx3, h⟩ := obs h
          obtain ⟨b2, o2, ha2⟩ := (HT.ro hr_x1).any.addr hx3
          refine wc_ixaddr HF nS el35 rfl ha2 ((HT.ro hr_x1).any).neq rfl hx3 rfl rfl (fun a HF => ?_)
          have hc2 := (HT.ro hr_x1).any.flatAt ha2 hx3
          refine wc_load HF rfl sc3 (hc2.get 0 rfl) rfl rfl (fun a HF => ?_)
          refine wc_bin HF nS rfl rfl b_ne rfl rfl (fun a HF => ?_)
          refine wc_endN ?_
          refine then_n ?_
          by_cases hb3 : e1 = e2
          · have h := (if_pos hb3).symm.trans h
            refine wp_if (b' := false) HF rfl (notT (decide_eq_true hb3)) ?_
            refine wp_skip ?_
            refine blk_n ?_
            refine then_n ?_
            refine wc_text ?_
            refine wc_move HF nS rfl rfl rfl (fun a HF => ?_)
            obtain ⟨hg1, h⟩ := grd h
            refine wc_bin HF nS rfl rfl (b_add hg1) rfl rfl (fun a HF => ?_)
            refine wc_assign HF nS rfl rfl rfl (fun a HF => ?_)
            refine wc_end ?_
            exact then_n ⟨k1, Nat.lt_succ_self k1, z1 + 1, h, (HF.keep (HF.keep (HF.keep HF.nil rfl) rfl) rfl), HT⟩
          · have h := (if_neg hb3).symm.trans h
            refine wp_if (b' := true) HF rfl (notF (decide_eq_false hb3)) ?_
            refine wp_seq ?_
            refine wc_text ?_
            refine wc_assign HF nS rfl rfl rfl (fun a HF => ?_)
            refine wc_end ?_
            refine then_n ?_
            refine wp_ret ?_
            obtain rfl := Option.some.inj h
            have h := retL hk1
            obtain rfl := Option.some.inj h
            refine blk_r (then_r (then_r (blk_r (then_r (?_)))))
            refine bp_ret HF (res_one rfl HF rfl) ?_
            exact ⟨rfl, HT⟩
        · have h := (if_neg hb2).symm.trans h
          refine wp_if (b' := false) HF rfl (decide_eq_false hb2) ?_
          refine wp_exit ?_
          refine then_x (then_x (?_))
          refine blk_x ?_
          exact then_n ⟨(Option.some.inj h).symm, HF.nil, HT⟩
    · rintro a w ⟨rfl, HF, HT⟩
      have h := brkL1 h
      refine ?_
      refine wp_seq ?_
      refine wc_text ?_
      refine wc_assign HF nS rfl rfl rfl (fun a HF => ?_)
      refine wc_end ?_
      refine then_n ?_
      refine wp_ret ?_
      obtain rfl := Option.some.inj h
      refine bp_ret HF (res_one rfl HF rfl) ?_
      exact ⟨rfl, HT⟩
  · have h := (if_neg hb1).symm.trans h
    refine wp_if (b' := true) HF rfl (notF (decide_eq_false hb1)) ?_
    refine wp_seq ?_
    refine wc_text ?_
    refine wc_assign HF nS rfl rfl rfl (fun a HF => ?_)
    refine wc_end ?_
    refine then_n ?_
    refine wp_ret ?_
    obtain rfl := Option.some.inj h
    refine then_r (?_)
    refine bp_ret HF (res_one rfl HF rfl) ?_
    exact ⟨rfl, HT⟩

def m_laws_markIntS_L0 (fuel : Nat) (x0 : List Int) : Nat → (List Int) → Int → Int → Option (Int × List Int)
  | 0, _, _, _ => none
  | k1 + 1, z3, z4, z5 =>
    if z5 < (x0.length : Int) then
      (at? z3 z5).bind fun e1 =>
      if in64 (z4 + 1) then
        if in64 (z5 + 1) then
          m_laws_markIntS_L0 fuel x0 k1 (z3.set z5.toNat z4) (z4 + 1) (z5 + 1)
        else none
      else none
    else
      some (z4, z3)

def m_laws_markIntS (fuel : Nat) (x0 : List Int) (x1 : Int) : Option (Int × List Int) :=
  bind2 (m_laws_markIntS_L0 fuel x0 fuel x0 x1 0) fun z1 z2 =>
  some (z1, z2)

set_option maxRecDepth 100000 in
set_option maxHeartbeats 4000000 in
theorem w_laws_markIntS (fuel : Nat) {x0 : List Int} {x1 : Int} {a_x0 : Option Addr} {n_x0 c_x0 : Nat} {r0 : Int} {x0' : List Int} {w0 : World} {F : Foot} (h : m_laws_markIntS fuel x0 x1 = some (r0, x0')) (hA : StF w0 F [Own 3 (rowT x0) (.slice a_x0 n_x0 c_x0)]) :
    Calls Try.prog 26 #[.slice a_x0 n_x0 c_x0, .int .i64 x1] w0 fun e w => e = .returned (.int .i64 r0) ∧ St w0 F w [Own 3 (rowT x0') (.slice a_x0 n_x0 c_x0)] := by
  have HT0 := St.init hA
  obtain rfl := (HT0.rdAt 0 rfl).neq
  have HT : St w0 F w0 [Own 3 (rowT x0) (.slice a_x0 x0.length c_x0)] := St.init hA
  rw [m_laws_markIntS] at h
  refine calls_fr (n := 19) [.slice a_x0 x0.length c_x0, .int .i64 x1] Try.func26 rfl rfl rfl (fun a HF => ?_)
  have HT : St w0 F w0 [Own 3 (rowT x0) (.slice a_x0 x0.length c_x0)] := HT
  refine wp_seq ?_
  refine wc_text ?_
  refine wc_assign HF nS rfl rfl rfl (fun a HF => ?_)
  refine wc_end ?_
  refine then_n ?_
  obtain ⟨z1, z2, hx1, h⟩ := obs2 h
  refine wp_cut (fun a w => Fr a 19 [(1, .int .i64 z1)] ∧ St w0 F w [Own 3 (rowT z2) (.slice a_x0 x0.length c_x0)]) ?_ ?_
  · have hk1 := h
    have h := hx1
    refine wp_seq ?_
    refine wc_text ?_
    refine wc_assign HF nS rfl rfl rfl (fun a HF => ?_)
    refine wc_end ?_
    refine then_n ?_
    refine wp_block ?_
    refine wp_loopN (fun k1 a w => ∃ z3 z4 z5, m_laws_markIntS_L0 fuel x0 k1 z3 z4 z5 = some (z1, z2) ∧ Fr a 19 [(0, .slice a_x0 x0.length c_x0), (1, .int .i64 z4), (5, .int .i64 z5)] ∧ St w0 F w [Own 3 (rowT z3) (.slice a_x0 x0.length c_x0)]) fuel ⟨x0, x1, 0, h, (HF.keep (HF.keep (HF.keep HF.nil rfl) rfl) rfl), HT⟩ ?_
    rintro k1 a w ⟨z3, z4, z5, h, HF, HT⟩
    cases k1 with
    | zero => cases h
    | succ k1 =>
      rw [m_laws_markIntS_L0] at h
      refine ?_
      refine wp_seq ?_
      refine wp_seq ?_
      refine wc_text ?_
      refine wc_move HF nS rfl rfl rfl (fun a HF => ?_)
      refine wc_move HF nS rfl rfl rfl (fun a HF => ?_)
      refine wc_lenR HF nS Try.underlying35 rfl rfl rfl (fun a HF => ?_)
      refine wc_bin HF nS rfl rfl b_lt rfl rfl (fun a HF => ?_)
      refine wc_end ?_
      refine then_n ?_
      by_cases hb1 : z5 < (x0.length : Int)
      · have h := (if_pos hb1).symm.trans h
        refine wp_if (b' := true) HF rfl (decide_eq_true hb1) ?_
        refine wp_skip ?_
        refine then_n ?_
        refine wp_seq ?_
        refine wp_block ?_
        refine wp_seq ?_
        refine wc_text ?_
        refine wc_move HF nS rfl rfl rfl (fun a HF => ?_)
        refine wc_move HF nS rfl rfl rfl (fun a HF => ?_)
        refine wc_move HF nS rfl rfl rfl (fun a HF => ?_)
        obtain ⟨e1, hx2, h⟩ := obs h
        obtain ⟨b1, o1, ha1⟩ := (HT.rdAt 0 rfl).addr hx2
        refine wc_ixaddr HF nS el35 rfl ha1 ((HT.rdAt 0 rfl)).neq rfl hx2 rfl rfl (fun a HF => ?_)
        refine wc_storeR (i := z5) (j := 0) (x' := z4) HF HT ha1 rfl rfl (fun w => (sc3 w).2) rfl rfl hx2 rfl rfl rfl rfl (fun w HT => ⟨nS, ?_⟩)
        refine wc_end ?_
        refine then_n ?_
        refine wc_text ?_
        refine wc_move HF nS rfl rfl rfl (fun a HF => ?_)
        obtain ⟨hg1, h⟩ := grd h
        refine wc_bin HF nS rfl rfl (b_add hg1) rfl rfl (fun a HF => ?_)
        refine wc_assign HF nS rfl rfl rfl (fun a HF => ?_)
        refine wc_end ?_
        refine blk_n ?_
        refine then_n ?_
        refine wc_text ?_
        refine wc_move HF nS rfl rfl rfl (fun a HF => ?_)
        obtain ⟨hg2, h⟩ := grd h
        refine wc_bin HF nS rfl rfl (b_add hg2) rfl rfl (fun a HF => ?_)
        refine wc_assign HF nS rfl rfl rfl (fun a HF => ?_)
        refine wc_end ?_
        exact then_n ⟨k1, Nat.lt_succ_self k1, z3.set z5.toNat z4, z4 + 1, z5 + 1, h, (HF.keep (HF.keep (HF.keep HF.nil rfl) rfl) rfl), HT⟩
      · have h := (if_neg hb1).symm.trans h
        refine wp_if (b' := false) HF rfl (decide_eq_false hb1) ?_
        refine wp_exit ?_
        refine then_x (then_x (?_))
        refine blk_x ?_
        have hj1 := Option.some.inj h
        obtain ⟨hi1, hj2⟩ := Prod.mk.inj hj1
        subst hi1
        subst hj2
        exact then_n ⟨(HF.keep HF.nil rfl), HT⟩
  · rintro a w ⟨HF, HT⟩
    refine ?_
    refine wp_seq ?_
    refine wc_text ?_
    refine wc_move HF nS rfl rfl rfl (fun a HF => ?_)
    refine wc_assign HF nS rfl rfl rfl (fun a HF => ?_)
    refine wc_end ?_
    refine then_n ?_
    refine wp_ret ?_
    have hj3 := Option.some.inj h
    obtain ⟨hi3, hj4⟩ := Prod.mk.inj hj3
    subst hi3
    subst hj4
    refine bp_ret HF (res_one rfl HF rfl) ?_
    exact ⟨rfl, HT⟩

def m_laws_heldIntS_L0 (fuel : Nat) (x0 : List Int) : Nat → Int → Int → Option (Lp Int Int)
  | 0, _, _ => none
  | k1 + 1, z2, z3 =>
    if z3 < (x0.length : Int) then
      (at? x0 z3).bind fun e1 =>
      if e1 = z2 then
        if in64 (z2 + 1) then
          if in64 (z3 + 1) then
            m_laws_heldIntS_L0 fuel x0 k1 (z2 + 1) (z3 + 1)
          else none
        else none
      else
        some (.ret (-1))
    else
      some (.brk z2)

def m_laws_heldIntS (fuel : Nat) (x0 : List Int) (x1 : Int) : Option Int :=
  (m_laws_heldIntS_L0 fuel x0 fuel x1 0).bind <| contL <| un1 fun z1 =>
  some z1

set_option maxRecDepth 100000 in
set_option maxHeartbeats 4000000 in
theorem w_laws_heldIntS (fuel : Nat) {x0 : List Int} {x1 : Int} {a_x0 : Option Addr} {n_x0 c_x0 : Nat} {r0 : Int} {w0 : World} (h : m_laws_heldIntS fuel x0 x1 = some r0) (hr_x0 : RdT (fun b => ¬ False) w0 (rowT x0) (.slice a_x0 n_x0 c_x0)) :
    Calls Try.prog 27 #[.slice a_x0 n_x0 c_x0, .int .i64 x1] w0 fun e w => e = .returned (.int .i64 r0) ∧ St w0 (fun _ => False) w [] := by
  obtain rfl := hr_x0.neq
  have HT : St w0 (fun _ => False) w0 [] := St.init0
  rw [m_laws_heldIntS] at h
  refine calls_fr (n := 21) [.slice a_x0 x0.length c_x0, .int .i64 x1] Try.func27 rfl rfl rfl (fun a HF => ?_)
  have HT : St w0 (fun _ => False) w0 [] := HT
  refine wp_seq ?_
  refine wc_text ?_
  refine wc_assign HF nS rfl rfl rfl (fun a HF => ?_)
  refine wc_end ?_
  refine then_n ?_
  obtain ⟨q1, hx1, h⟩ := obs h
  refine wp_cut (fun a w => ∃ z1, q1 = .brk z1 ∧ Fr a 21 [(1, .int .i64 z1)] ∧ St w0 (fun _ => False) w []) ?_ ?_
  · have hk1 := h
    have h := hx1
    refine wp_seq ?_
    refine wc_text ?_
    refine wc_assign HF nS rfl rfl rfl (fun a HF => ?_)
    refine wc_end ?_
    refine then_n ?_
    refine wp_block ?_
    refine wp_loopN (fun k1 a w => ∃ z2 z3, m_laws_heldIntS_L0 fuel x0 k1 z2 z3 = some q1 ∧ Fr a 21 [(0, .slice a_x0 x0.length c_x0), (1, .int .i64 z2), (5, .int .i64 z3)] ∧ St w0 (fun _ => False) w []) fuel ⟨x1, 0, h, (HF.keep (HF.keep (HF.keep HF.nil rfl) rfl) rfl), HT⟩ ?_
    rintro k1 a w ⟨z2, z3, h, HF, HT⟩
    cases k1 with
    | zero => cases h
    | succ k1 =>
      rw [m_laws_heldIntS_L0] at h
      refine ?_
      refine wp_seq ?_
      refine wp_seq ?_
      refine wc_text ?_
      refine wc_move HF nS rfl rfl rfl (fun a HF => ?_)
      refine wc_move HF nS rfl rfl rfl (fun a HF => ?_)
      refine wc_lenR HF nS Try.underlying35 rfl rfl rfl (fun a HF => ?_)
      refine wc_bin HF nS rfl rfl b_lt rfl rfl (fun a HF => ?_)
      refine wc_end ?_
      refine then_n ?_
      by_cases hb1 : z3 < (x0.length : Int)
      · have h := (if_pos hb1).symm.trans h
        refine wp_if (b' := true) HF rfl (decide_eq_true hb1) ?_
        refine wp_skip ?_
        refine then_n ?_
        refine wp_seq ?_
        refine wp_block ?_
        refine wp_seq ?_
        refine wp_seq ?_
        refine wc_text ?_
        refine wc_move HF nS rfl rfl rfl (fun a HF => ?_)
        refine wc_move HF nS rfl rfl rfl (fun a HF => ?_)
        obtain ⟨e1, hx2, h⟩ := obs h
        obtain ⟨b1, o1, ha1⟩ := (HT.ro hr_x0).any.addr hx2
        refine wc_ixaddr HF nS el35 rfl ha1 ((HT.ro hr_x0).any).neq rfl hx2 rfl rfl (fun a HF => ?_)
        have hc1 := (HT.ro hr_x0).any.flatAt ha1 hx2
        refine wc_load HF rfl sc3 (hc1.get 0 rfl) rfl rfl (fun a HF => ?_)
        refine wc_move HF nS rfl rfl rfl (fun a HF => ?_)
        refine wc_bin HF nS rfl rfl b_ne rfl rfl (fun a HF => ?_)
        refine wc_end ?_
        refine then_n ?_
        by_cases hb2 : e1 = z2
        · have h := (if_pos hb2).symm.trans h
          refine wp_if (b' := false) HF rfl (notT (decide_eq_true hb2)) ?_
          refine wp_skip ?_
          refine then_n ?_
          refine wc_text ?_
          refine wc_move HF nS rfl rfl rfl (fun a HF => ?_)
          obtain ⟨hg1, h⟩ := grd h
          refine wc_bin HF nS rfl rfl (b_add hg1) rfl rfl (fun a HF => ?_)
          refine wc_assign HF nS rfl rfl rfl (fun a HF => ?_)
          refine wc_end ?_
          refine blk_n ?_
          refine then_n ?_
          refine wc_text ?_
          refine wc_move HF nS rfl rfl rfl (fun a HF => ?_)
          obtain ⟨hg2, h⟩ := grd h
          refine wc_bin HF nS rfl rfl (b_add hg2) rfl rfl (fun a HF => ?_)
          refine wc_assign HF nS rfl rfl rfl (fun a HF => ?_)
          refine wc_end ?_
          exact then_n ⟨k1, Nat.lt_succ_self k1, z2 + 1, z3 + 1, h, (HF.keep (HF.keep (HF.keep HF.nil rfl) rfl) rfl), HT⟩
        · have h := (if_neg hb2).symm.trans h
          refine wp_if (b' := true) HF rfl (notF (decide_eq_false hb2)) ?_
          refine wp_seq ?_
          refine wc_text ?_
          refine wc_assign HF nS rfl rfl rfl (fun a HF => ?_)
          refine wc_end ?_
          refine then_n ?_
          refine wp_ret ?_
          obtain rfl := Option.some.inj h
          have h := retL hk1
          obtain rfl := Option.some.inj h
          refine then_r (blk_r (then_r (then_r (blk_r (then_r (?_))))))
          refine bp_ret HF (res_one rfl HF rfl) ?_
          exact ⟨rfl, HT⟩
      · have h := (if_neg hb1).symm.trans h
        refine wp_if (b' := false) HF rfl (decide_eq_false hb1) ?_
        refine wp_exit ?_
        refine then_x (then_x (?_))
        refine blk_x ?_
        exact then_n ⟨z2, (Option.some.inj h).symm, (HF.keep HF.nil rfl), HT⟩
  · rintro a w ⟨z1, rfl, HF, HT⟩
    have h := brkL1 h
    refine ?_
    refine wp_seq ?_
    refine wc_text ?_
    refine wc_move HF nS rfl rfl rfl (fun a HF => ?_)
    refine wc_assign HF nS rfl rfl rfl (fun a HF => ?_)
    refine wc_end ?_
    refine then_n ?_
    refine wp_ret ?_
    obtain rfl := Option.some.inj h
    refine bp_ret HF (res_one rfl HF rfl) ?_
    exact ⟨rfl, HT⟩
end Go.Proofs.Ytaplpbafnnlojaa
