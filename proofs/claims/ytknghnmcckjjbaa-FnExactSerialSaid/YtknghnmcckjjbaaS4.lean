/- Walks of functions, by program: impl.isMap, impl.ThingsOk, impl.orderOk, impl.Serial, laws.eqKid, laws.eqKidS, laws.eqProg, laws.eqThings, laws.eqRun, laws.heldThings, laws.heldRun, laws.markKidS, laws.markProg, laws.markThings, laws.markRun, laws.szKid, laws.szKidS, laws.szProg, laws.szIntS, laws.szThings, laws.toKid, laws.toKidS, laws.toProg, laws.toThings, spec.ProgOk, spec.ThingsOk, spec.l7Order, spec.Serial. -/
import Derived.Test.YtknghnmcckjjbaaTy
import Derived.Test.YtknghnmcckjjbaaS3
namespace Go.Proofs.Ytknghnmcckjjbaa
open Go Go.RowKit
set_option linter.unusedVariables false
set_option linter.unusedSimpArgs false
def m_impl_isMap_L0 (fuel : Nat) (x0 : List Int) : Nat → Int → Option (Lp Unit Bool)
  | 0, _ => none
  | k1 + 1, z1 =>
    if z1 < (x0.length : Int) then
      (at? x0 z1).bind fun e1 =>
      (m_impl_within fuel e1 0 65536).bind fun y1 =>
      if y1 = true then
        if in64 (z1 + 1) then
          m_impl_isMap_L0 fuel x0 k1 (z1 + 1)
        else none
      else
      some (.ret false)
    else
    some (.brk ())

def m_impl_isMap (fuel : Nat) (x0 : List Int) : Option Bool :=
  (m_impl_isMap_L0 fuel x0 fuel 0).bind <| contL <| un1 fun _ =>
  some (decide ((x0.length : Int) = 8))

set_option maxRecDepth 100000 in
set_option maxHeartbeats 4000000 in
theorem w_impl_isMap (fuel : Nat) {x0 : List Int} {a_x0 : Option Addr} {n_x0 c_x0 : Nat} {r0 : Bool} {w0 : World} (h : m_impl_isMap fuel x0 = some r0) (hr_x0 : RdT (fun b => ¬ False) w0 (rowT x0) (.slice a_x0 n_x0 c_x0)) :
    Calls Try.prog 63 #[.slice a_x0 n_x0 c_x0] w0 fun e w => e = .returned (.bool r0) ∧ St w0 (fun _ => False) w [] := by
  obtain rfl := hr_x0.neq
  have HT : St w0 (fun _ => False) w0 [] := St.init0
  rw [m_impl_isMap] at h
  refine calls_fr (n := 18) [.slice a_x0 x0.length c_x0] Try.func63 rfl rfl rfl (fun a HF => ?_)
  have HT : St w0 (fun _ => False) w0 [] := HT
  refine wp_seq ?_
  refine wc_text ?_
  refine wc_assign HF nS rfl rfl rfl (fun a HF => ?_)
  refine wc_end ?_
  refine then_n ?_
  obtain ⟨q1, hx1, h⟩ := obs h
  refine wp_cut (fun a w => q1 = .brk () ∧ Fr a 18 [(0, .slice a_x0 x0.length c_x0)] ∧ St w0 (fun _ => False) w []) ?_ ?_
  have hk1 := h
  have h := hx1
  refine wp_seq ?_
  refine wc_text ?_
  refine wc_move HF nS rfl rfl rfl (fun a HF => ?_)
  refine wc_lenR HF nS Try.underlying22 rfl rfl rfl (fun a HF => ?_)
  refine wc_move HF nS rfl rfl rfl (fun a HF => ?_)
  refine wc_end ?_
  refine then_n ?_
  refine wp_block ?_
  refine wp_loopN (fun k1 a w => ∃ z1, m_impl_isMap_L0 fuel x0 k1 z1 = some q1 ∧ Fr a 18 [(0, .slice a_x0 x0.length c_x0), (5, .slice a_x0 x0.length c_x0), (6, .int .i64 (x0.length : Int)), (7, .int .i64 z1)] ∧ St w0 (fun _ => False) w []) fuel ⟨0, h, (HF.keep (HF.keep (HF.keep (HF.keep HF.nil rfl) rfl) rfl) rfl), HT⟩ ?_
  rintro k1 a w ⟨z1, h, HF, HT⟩
  rcases k1 with _ | k1
  cases h
  rw [m_impl_isMap_L0] at h
  refine ?_
  refine wp_seq ?_
  refine wc_text ?_
  refine wc_bin HF nS rfl rfl b_lt rfl rfl (fun a HF => ?_)
  refine wc_end ?_
  refine then_n ?_
  refine wp_seq ?_
  by_cases hb1 : z1 < (x0.length : Int)
  have h := (if_pos hb1).symm.trans h
  refine wp_if (b' := true) HF rfl (decide_eq_true hb1) ?_
  refine wp_skip ?_
  refine then_n ?_
  refine wp_seq ?_
  refine wp_block ?_
  refine wp_seq ?_
  refine wc_text ?_
  obtain ⟨e1, hx2, h⟩ := obs h
  obtain ⟨b1, o1, ha1⟩ := (HT.ro hr_x0).any.addr hx2
  refine wc_ixaddr HF nS el22 rfl ha1 ((HT.ro hr_x0).any).neq rfl hx2 rfl rfl (fun a HF => ?_)
  have hc1 := (HT.ro hr_x0).any.flatAt ha1 hx2
  refine wc_load HF rfl sc3 (hc1.get 0 rfl) rfl rfl (fun a HF => ?_)
  refine wc_assign HF nS rfl rfl rfl (fun a HF => ?_)
  refine wc_end ?_
  refine then_n ?_
  refine wp_seq ?_
  refine wc_text ?_
  refine wc_move HF nS rfl rfl rfl (fun a HF => ?_)
  obtain ⟨y1, hx3, h⟩ := obs h
  refine wc_call HF cf98 rfl (w_impl_within fuel hx3) rfl rfl ?_
  rintro e w ⟨rfl, hE⟩
  have hb := hE.below
  have HT := HT.pure hE
  have HT : St w0 (fun _ => False) w [] := HT
  refine ⟨_, rfl, nS, fun a HF => ?_⟩
  refine wc_not HF nS rfl rfl rfl (fun a HF => ?_)
  refine wc_end ?_
  refine then_n ?_
  by_cases hb2 : y1 = true
  have h := (if_pos hb2).symm.trans h
  refine wp_if (b' := false) HF rfl (notT hb2) ?_
  refine wp_skip ?_
  refine blk_n ?_
  refine then_n ?_
  refine wc_text ?_
  obtain ⟨hg1, h⟩ := grd h
  refine wc_bin HF nS rfl rfl (b_add hg1) rfl rfl (fun a HF => ?_)
  refine wc_move HF nS rfl rfl rfl (fun a HF => ?_)
  refine wc_end ?_
  exact then_n ⟨k1, Nat.lt_succ_self k1, z1 + 1, h, (HF.keep (HF.keep (HF.keep (HF.keep HF.nil rfl) rfl) rfl) rfl), HT⟩
  have h := (if_neg hb2).symm.trans h
  refine wp_if (b' := true) HF rfl (notF (Bool.eq_false_iff.2 hb2)) ?_
  refine wp_seq ?_
  refine wc_text ?_
  refine wc_assign HF nS rfl rfl rfl (fun a HF => ?_)
  refine wc_end ?_
  refine then_n ?_
  refine wp_ret ?_
  obtain rfl := Option.some.inj h
  have h := retL hk1
  obtain rfl := Option.some.inj h
  refine blk_r (then_r (then_r (blk_r (then_r (?_)))))
  refine bp_ret HF (res_one rfl HF rfl) ?_
  exact ⟨rfl, HT⟩
  have h := (if_neg hb1).symm.trans h
  refine wp_if (b' := false) HF rfl (decide_eq_false hb1) ?_
  refine wp_exit ?_
  refine then_x (then_x (?_))
  refine blk_x ?_
  exact then_n ⟨(Option.some.inj h).symm, (HF.keep HF.nil rfl), HT⟩
  rintro a w ⟨rfl, HF, HT⟩
  have h := brkL1u h
  refine ?_
  refine wp_seq ?_
  refine wc_text ?_
  refine wc_move HF nS rfl rfl rfl (fun a HF => ?_)
  refine wc_lenR HF nS Try.underlying22 rfl rfl rfl (fun a HF => ?_)
  refine wc_bin HF nS rfl rfl b_eq rfl rfl (fun a HF => ?_)
  refine wc_assign HF nS rfl rfl rfl (fun a HF => ?_)
  refine wc_end ?_
  refine then_n ?_
  refine wp_ret ?_
  obtain rfl := Option.some.inj h
  refine bp_ret HF (res_one rfl HF rfl) ?_
  exact ⟨rfl, HT⟩

def m_impl_ThingsOk (fuel : Nat) (x0_0 : List Int) (x0_1 : List Int) (x0_2 : Int) : Option Bool :=
  (m_impl_areValues fuel x0_0 8).bind fun y1 =>
  if y1 = true then
    (m_impl_isMap fuel x0_1).bind fun y2 =>
    if y2 = true then
      (m_impl_isValue fuel x0_2).bind fun y3 =>
      some y3
    else
    some false
  else
  some false

set_option maxRecDepth 100000 in
set_option maxHeartbeats 4000000 in
theorem w_impl_ThingsOk (fuel : Nat) {x0_0 : List Int} {x0_1 : List Int} {x0_2 : Int} {a_x0_0 : Option Addr} {n_x0_0 c_x0_0 : Nat} {a_x0_1 : Option Addr} {n_x0_1 c_x0_1 : Nat} {r0 : Bool} {w0 : World} (h : m_impl_ThingsOk fuel x0_0 x0_1 x0_2 = some r0) (hr_x0_0 : RdT (fun b => ¬ False) w0 (rowT x0_0) (.slice a_x0_0 n_x0_0 c_x0_0)) (hr_x0_1 : RdT (fun b => ¬ False) w0 (rowT x0_1) (.slice a_x0_1 n_x0_1 c_x0_1)) :
    Calls Try.prog 16 #[.agg #[.slice a_x0_0 n_x0_0 c_x0_0, .slice a_x0_1 n_x0_1 c_x0_1, .int .i64 x0_2]] w0 fun e w => e = .returned (.bool r0) ∧ St w0 (fun _ => False) w [] := by
  obtain rfl := hr_x0_0.neq
  obtain rfl := hr_x0_1.neq
  have HT : St w0 (fun _ => False) w0 [] := St.init0
  rw [m_impl_ThingsOk] at h
  refine calls_fr (n := 16) [.agg #[.slice a_x0_0 x0_0.length c_x0_0, .slice a_x0_1 x0_1.length c_x0_1, .int .i64 x0_2]] Try.func16 rfl rfl rfl (fun a HF => ?_)
  have HT : St w0 (fun _ => False) w0 [] := HT
  refine wp_seq ?_
  refine wc_text ?_
  refine wc_box (cs := [.slice a_x0_0 x0_0.length c_x0_0, .slice a_x0_1 x0_1.length c_x0_1, .int .i64 x0_2]) HF HT rfl rfl rfl rfl (fun p1 w HT hb => ⟨nS, fun a HF => ?_⟩)
  refine wc_assign HF nS rfl rfl rfl (fun a HF => ?_)
  refine wc_end ?_
  refine then_n ?_
  refine wp_seq ?_
  refine wc_text ?_
  refine wc_faddr HF nS rfl fl27_0 rfl rfl (fun a HF => ?_)
  refine wc_load HF rfl sc22 ((HT.boxAt 0 rfl).get 0 rfl) rfl rfl (fun a HF => ?_)
  obtain ⟨y1, hx1, h⟩ := obs h
  refine wc_call HF cf62 rfl (w_impl_areValues fuel hx1 (HT.ro hr_x0_0).any) rfl rfl ?_
  rintro e w ⟨rfl, hE⟩
  have hb := hE.below
  have HT := HT.pure hE
  have HT : St w0 (fun _ => False) w [Box p1 [.slice a_x0_0 x0_0.length c_x0_0, .slice a_x0_1 x0_1.length c_x0_1, .int .i64 x0_2]] := HT
  refine ⟨_, rfl, nS, fun a HF => ?_⟩
  refine wc_move HF nS rfl rfl rfl (fun a HF => ?_)
  by_cases hb1 : y1 = true
  have h := (if_pos hb1).symm.trans h
  refine wc_faddr HF nS rfl fl27_1 (HF.wy rfl rfl rfl rfl hb1) rfl (fun a HF => ?_)
  refine wc_load HF rfl sc22 ((HT.boxAt 0 rfl).get 1 rfl) (HF.wy rfl rfl rfl rfl hb1) rfl (fun a HF => ?_)
  obtain ⟨y2, hx2, h⟩ := obs h
  refine wc_call HF cf63 rfl (w_impl_isMap fuel hx2 (HT.ro hr_x0_1).any) (HF.wy rfl rfl rfl rfl hb1) rfl ?_
  rintro e w ⟨rfl, hE⟩
  have hb := hE.below
  have HT := HT.pure hE
  have HT : St w0 (fun _ => False) w [Box p1 [.slice a_x0_0 x0_0.length c_x0_0, .slice a_x0_1 x0_1.length c_x0_1, .int .i64 x0_2]] := HT
  refine ⟨_, rfl, nS, fun a HF => ?_⟩
  refine wc_pick (b := true) HF nS rfl hb1 rfl rfl rfl (fun a HF => ?_)
  refine wc_move HF nS rfl rfl rfl (fun a HF => ?_)
  by_cases hb2 : y2 = true
  have h := (if_pos hb2).symm.trans h
  refine wc_faddr HF nS rfl fl27_2 (HF.wy rfl rfl rfl rfl hb2) rfl (fun a HF => ?_)
  refine wc_load HF rfl sc3 ((HT.boxAt 0 rfl).get 2 rfl) (HF.wy rfl rfl rfl rfl hb2) rfl (fun a HF => ?_)
  obtain ⟨y3, hx3, h⟩ := obs h
  refine wc_call HF cf64 rfl (w_impl_isValue fuel hx3) (HF.wy rfl rfl rfl rfl hb2) rfl ?_
  rintro e w ⟨rfl, hE⟩
  have hb := hE.below
  have HT := HT.pure hE
  have HT : St w0 (fun _ => False) w [Box p1 [.slice a_x0_0 x0_0.length c_x0_0, .slice a_x0_1 x0_1.length c_x0_1, .int .i64 x0_2]] := HT
  refine ⟨_, rfl, nS, fun a HF => ?_⟩
  refine wc_pick (b := true) HF nS rfl hb2 rfl rfl rfl (fun a HF => ?_)
  refine wc_assign HF nS rfl rfl rfl (fun a HF => ?_)
  refine wc_end ?_
  refine then_n ?_
  refine wp_ret ?_
  obtain rfl := Option.some.inj h
  refine bp_ret HF (res_one rfl HF rfl) ?_
  have HT := HT.t0
  exact ⟨rfl, HT⟩
  have h := (if_neg hb2).symm.trans h
  refine wc_skip HF nS (HF.wn rfl rfl rfl rfl (Bool.eq_false_iff.2 hb2)) rfl (fun a HF => ?_)
  refine wc_skip HF nS (HF.wn rfl rfl rfl rfl (Bool.eq_false_iff.2 hb2)) rfl (fun a HF => ?_)
  refine wc_skip HF nS (HF.wn rfl rfl rfl rfl (Bool.eq_false_iff.2 hb2)) rfl (fun a HF => ?_)
  refine wc_pick (b := false) HF nS rfl (Bool.eq_false_iff.2 hb2) rfl rfl rfl (fun a HF => ?_)
  refine wc_assign HF nS rfl rfl rfl (fun a HF => ?_)
  refine wc_end ?_
  refine then_n ?_
  refine wp_ret ?_
  obtain rfl := Option.some.inj h
  refine bp_ret HF (res_one rfl HF rfl) ?_
  have HT := HT.t0
  exact ⟨rfl, HT⟩
  have h := (if_neg hb1).symm.trans h
  refine wc_skip HF nS (HF.wn rfl rfl rfl rfl (Bool.eq_false_iff.2 hb1)) rfl (fun a HF => ?_)
  refine wc_skip HF nS (HF.wn rfl rfl rfl rfl (Bool.eq_false_iff.2 hb1)) rfl (fun a HF => ?_)
  refine wc_skip HF nS (HF.wn rfl rfl rfl rfl (Bool.eq_false_iff.2 hb1)) rfl (fun a HF => ?_)
  refine wc_pick (b := false) HF nS rfl (Bool.eq_false_iff.2 hb1) rfl rfl rfl (fun a HF => ?_)
  refine wc_move HF nS rfl rfl rfl (fun a HF => ?_)
  refine wc_skip HF nS (HF.wn rfl rfl rfl rfl rfl) rfl (fun a HF => ?_)
  refine wc_skip HF nS (HF.wn rfl rfl rfl rfl rfl) rfl (fun a HF => ?_)
  refine wc_skip HF nS (HF.wn rfl rfl rfl rfl rfl) rfl (fun a HF => ?_)
  refine wc_pick (b := false) HF nS rfl rfl rfl rfl rfl (fun a HF => ?_)
  refine wc_assign HF nS rfl rfl rfl (fun a HF => ?_)
  refine wc_end ?_
  refine then_n ?_
  refine wp_ret ?_
  obtain rfl := Option.some.inj h
  refine bp_ret HF (res_one rfl HF rfl) ?_
  have HT := HT.t0
  exact ⟨rfl, HT⟩

def m_impl_orderOk_L0 (fuel : Nat) (x0 : List Int) (x1 : Int) : Nat → Int → Option (Lp Unit Bool)
  | 0, _ => none
  | k1 + 1, z1 =>
    if z1 < (x0.length : Int) then
      (at? x0 z1).bind fun e1 =>
      if in64 (x1 - 1) then
        (m_impl_within fuel e1 0 (x1 - 1)).bind fun y1 =>
        if y1 = true then
          if 0 ≤ (0 : Int) ∧ (0 : Int) ≤ z1 ∧ z1 ≤ (x0.length : Int) then
            (m_slices_Contains___int_int_ fuel (subl x0 0 z1) e1).bind fun y2 =>
            if y2 = true then
              some (.ret false)
            else
            if in64 (z1 + 1) then
              m_impl_orderOk_L0 fuel x0 x1 k1 (z1 + 1)
            else none
          else none
        else
        some (.ret false)
      else none
    else
    some (.brk ())

def m_impl_orderOk (fuel : Nat) (x0 : List Int) (x1 : Int) : Option Bool :=
  (m_impl_orderOk_L0 fuel x0 x1 fuel 0).bind <| contL <| un1 fun _ =>
  some true

set_option maxRecDepth 100000 in
set_option maxHeartbeats 4000000 in
theorem w_impl_orderOk (fuel : Nat) {x0 : List Int} {x1 : Int} {a_x0 : Option Addr} {n_x0 c_x0 : Nat} {r0 : Bool} {w0 : World} (h : m_impl_orderOk fuel x0 x1 = some r0) (hr_x0 : RdT (fun b => ¬ False) w0 (rowT x0) (.slice a_x0 n_x0 c_x0)) :
    Calls Try.prog 76 #[.slice a_x0 n_x0 c_x0, .int .i64 x1] w0 fun e w => e = .returned (.bool r0) ∧ St w0 (fun _ => False) w [] := by
  obtain rfl := hr_x0.neq
  have HT : St w0 (fun _ => False) w0 [] := St.init0
  rw [m_impl_orderOk] at h
  refine calls_fr (n := 27) [.slice a_x0 x0.length c_x0, .int .i64 x1] Try.func76 rfl rfl rfl (fun a HF => ?_)
  have HT : St w0 (fun _ => False) w0 [] := HT
  refine wp_seq ?_
  refine wc_text ?_
  refine wc_assign HF nS rfl rfl rfl (fun a HF => ?_)
  refine wc_end ?_
  refine then_n ?_
  obtain ⟨q1, hx1, h⟩ := obs h
  refine wp_cut (fun a w => q1 = .brk () ∧ Fr a 27 [] ∧ St w0 (fun _ => False) w []) ?_ ?_
  have hk1 := h
  have h := hx1
  refine wp_seq ?_
  refine wc_text ?_
  refine wc_move HF nS rfl rfl rfl (fun a HF => ?_)
  refine wc_lenR HF nS Try.underlying22 rfl rfl rfl (fun a HF => ?_)
  refine wc_move HF nS rfl rfl rfl (fun a HF => ?_)
  refine wc_end ?_
  refine then_n ?_
  refine wp_block ?_
  refine wp_loopN (fun k1 a w => ∃ z1, m_impl_orderOk_L0 fuel x0 x1 k1 z1 = some q1 ∧ Fr a 27 [(0, .slice a_x0 x0.length c_x0), (1, .int .i64 x1), (7, .slice a_x0 x0.length c_x0), (8, .int .i64 (x0.length : Int)), (9, .int .i64 z1)] ∧ St w0 (fun _ => False) w []) fuel ⟨0, h, (HF.keep (HF.keep (HF.keep (HF.keep (HF.keep HF.nil rfl) rfl) rfl) rfl) rfl), HT⟩ ?_
  rintro k1 a w ⟨z1, h, HF, HT⟩
  rcases k1 with _ | k1
  cases h
  rw [m_impl_orderOk_L0] at h
  refine ?_
  refine wp_seq ?_
  refine wc_text ?_
  refine wc_bin HF nS rfl rfl b_lt rfl rfl (fun a HF => ?_)
  refine wc_end ?_
  refine then_n ?_
  refine wp_seq ?_
  by_cases hb1 : z1 < (x0.length : Int)
  have h := (if_pos hb1).symm.trans h
  refine wp_if (b' := true) HF rfl (decide_eq_true hb1) ?_
  refine wp_skip ?_
  refine then_n ?_
  refine wp_seq ?_
  refine wp_block ?_
  refine wp_seq ?_
  refine wc_text ?_
  refine wc_move HF nS rfl rfl rfl (fun a HF => ?_)
  obtain ⟨e1, hx2, h⟩ := obs h
  obtain ⟨b1, o1, ha1⟩ := (HT.ro hr_x0).any.addr hx2
  refine wc_ixaddr HF nS el22 rfl ha1 ((HT.ro hr_x0).any).neq rfl hx2 rfl rfl (fun a HF => ?_)
  have hc1 := (HT.ro hr_x0).any.flatAt ha1 hx2
  refine wc_load HF rfl sc3 (hc1.get 0 rfl) rfl rfl (fun a HF => ?_)
  refine wc_assign HF nS rfl rfl rfl (fun a HF => ?_)
  refine wc_assign HF nS rfl rfl rfl (fun a HF => ?_)
  refine wc_end ?_
  refine then_n ?_
  refine wp_seq ?_
  refine wc_text ?_
  refine wc_move HF nS rfl rfl rfl (fun a HF => ?_)
  refine wc_move HF nS rfl rfl rfl (fun a HF => ?_)
  obtain ⟨hg1, h⟩ := grd h
  refine wc_bin HF nS rfl rfl (b_sub hg1) rfl rfl (fun a HF => ?_)
  obtain ⟨y1, hx3, h⟩ := obs h
  refine wc_call HF cf98 rfl (w_impl_within fuel hx3) rfl rfl ?_
  rintro e w ⟨rfl, hE⟩
  have hb := hE.below
  have HT := HT.pure hE
  have HT : St w0 (fun _ => False) w [] := HT
  refine ⟨_, rfl, nS, fun a HF => ?_⟩
  refine wc_not HF nS rfl rfl rfl (fun a HF => ?_)
  refine wc_move HF nS rfl rfl rfl (fun a HF => ?_)
  by_cases hb2 : y1 = true
  have h := (if_pos hb2).symm.trans h
  refine wc_move HF nS rfl (HF.wy rfl rfl rfl rfl (notT hb2)) rfl (fun a HF => ?_)
  refine wc_move HF nS rfl (HF.wy rfl rfl rfl rfl (notT hb2)) rfl (fun a HF => ?_)
  obtain ⟨hg2, h⟩ := grd h
  obtain ⟨a1, c1, hr1, hcut⟩ := RdT.cutI hr_x0 (hg2 : 0 ≤ (0 : Int) ∧ (0 : Int) ≤ z1 ∧ z1 ≤ (x0.length : Int))
  refine wc_slrH HF nS el22 rfl rfl hcut (HF.wy rfl rfl rfl rfl (notT hb2)) rfl (fun a HF => ?_)
  refine wc_move HF nS rfl (HF.wy rfl rfl rfl rfl (notT hb2)) rfl (fun a HF => ?_)
  obtain ⟨y2, hx4, h⟩ := obs h
  refine wc_call HF cf111 rfl (w_slices_Contains___int_int_ fuel hx4 (HT.ro hr1).any) (HF.wy rfl rfl rfl rfl (notT hb2)) rfl ?_
  rintro e w ⟨rfl, hE⟩
  have hb := hE.below
  have HT := HT.pure hE
  have HT : St w0 (fun _ => False) w [] := HT
  refine ⟨_, rfl, nS, fun a HF => ?_⟩
  refine wc_pick (b := false) HF nS rfl (notT hb2) rfl rfl rfl (fun a HF => ?_)
  refine wc_end ?_
  refine then_n ?_
  by_cases hb3 : y2 = true
  have h := (if_pos hb3).symm.trans h
  refine wp_if (b' := true) HF rfl hb3 ?_
  refine wp_seq ?_
  refine wc_text ?_
  refine wc_assign HF nS rfl rfl rfl (fun a HF => ?_)
  refine wc_end ?_
  refine then_n ?_
  refine wp_ret ?_
  obtain rfl := Option.some.inj h
  have h := retL hk1
  obtain rfl := Option.some.inj h
  refine blk_r (then_r (then_r (blk_r (then_r (?_)))))
  refine bp_ret HF (res_one rfl HF rfl) ?_
  exact ⟨rfl, HT⟩
  have h := (if_neg hb3).symm.trans h
  refine wp_if (b' := false) HF rfl (Bool.eq_false_iff.2 hb3) ?_
  refine wp_skip ?_
  refine blk_n ?_
  refine then_n ?_
  refine wc_text ?_
  obtain ⟨hg3, h⟩ := grd h
  refine wc_bin HF nS rfl rfl (b_add hg3) rfl rfl (fun a HF => ?_)
  refine wc_move HF nS rfl rfl rfl (fun a HF => ?_)
  refine wc_end ?_
  exact then_n ⟨k1, Nat.lt_succ_self k1, z1 + 1, h, (HF.keep (HF.keep (HF.keep (HF.keep (HF.keep HF.nil rfl) rfl) rfl) rfl) rfl), HT⟩
  have h := (if_neg hb2).symm.trans h
  refine wc_skip HF nS (HF.wn rfl rfl rfl rfl (notF (Bool.eq_false_iff.2 hb2))) rfl (fun a HF => ?_)
  refine wc_skip HF nS (HF.wn rfl rfl rfl rfl (notF (Bool.eq_false_iff.2 hb2))) rfl (fun a HF => ?_)
  refine wc_skip HF nS (HF.wn rfl rfl rfl rfl (notF (Bool.eq_false_iff.2 hb2))) rfl (fun a HF => ?_)
  refine wc_skip HF nS (HF.wn rfl rfl rfl rfl (notF (Bool.eq_false_iff.2 hb2))) rfl (fun a HF => ?_)
  refine wc_skip HF nS (HF.wn rfl rfl rfl rfl (notF (Bool.eq_false_iff.2 hb2))) rfl (fun a HF => ?_)
  refine wc_pick (b := true) HF nS rfl (notF (Bool.eq_false_iff.2 hb2)) rfl rfl rfl (fun a HF => ?_)
  refine wc_end ?_
  refine then_n ?_
  refine wp_if (b' := true) HF rfl rfl ?_
  refine wp_seq ?_
  refine wc_text ?_
  refine wc_assign HF nS rfl rfl rfl (fun a HF => ?_)
  refine wc_end ?_
  refine then_n ?_
  refine wp_ret ?_
  obtain rfl := Option.some.inj h
  have h := retL hk1
  obtain rfl := Option.some.inj h
  refine blk_r (then_r (then_r (blk_r (then_r (?_)))))
  refine bp_ret HF (res_one rfl HF rfl) ?_
  exact ⟨rfl, HT⟩
  have h := (if_neg hb1).symm.trans h
  refine wp_if (b' := false) HF rfl (decide_eq_false hb1) ?_
  refine wp_exit ?_
  refine then_x (then_x (?_))
  refine blk_x ?_
  exact then_n ⟨(Option.some.inj h).symm, HF.nil, HT⟩
  rintro a w ⟨rfl, HF, HT⟩
  have h := brkL1u h
  refine ?_
  refine wp_seq ?_
  refine wc_text ?_
  refine wc_assign HF nS rfl rfl rfl (fun a HF => ?_)
  refine wc_end ?_
  refine then_n ?_
  refine wp_ret ?_
  obtain rfl := Option.some.inj h
  refine bp_ret HF (res_one rfl HF rfl) ?_
  exact ⟨rfl, HT⟩

def m_impl_Serial (fuel : Nat) (x0_0 : List I4) (x0_1 : List KidD) (x1 : List Int) (x2_0 : List Int) (x2_1 : List Int) (x2_2 : Int) : Option (Int × List Int × List Int × List Int × Int) :=
  (
    (
      (m_impl_ProgOk fuel x0_0 x0_1).bind fun y1 =>
      if y1 = true then
        (m_impl_orderOk fuel x1 (x0_1.length : Int)).bind fun y2 =>
        if y2 = true then
          (m_impl_ThingsOk fuel x2_0 x2_1 x2_2).bind fun y3 =>
          some !(y3)
        else
        some true
      else
      some true).bind fun z1 =>
    if z1 = true then
      some (.ret (0, ([] : List Int), ([] : List Int), ([] : List Int), 0))
    else
    some (.brk ())).bind <| contL <| un1 fun _ =>
  if 0 ≤ (4 : Int) ∧ (4 : Int) ≤ 1048576 then
    bind5 (m_impl_serial fuel x0_0 x0_1 x1 (List.replicate (4 : Int).toNat (0 : Int)) x2_0 x2_1 x2_2) fun y4 y5 y6 y7 y8 =>
    some (y4, y5, y6, y7, y8)
  else none

set_option maxRecDepth 100000 in
set_option maxHeartbeats 4000000 in
theorem w_impl_Serial (fuel : Nat) {x0_0 : List I4} {x0_1 : List KidD} {x1 : List Int} {x2_0 : List Int} {x2_1 : List Int} {x2_2 : Int} {a_x0_0 : Option Addr} {n_x0_0 c_x0_0 : Nat} {a_x0_1 : Option Addr} {n_x0_1 c_x0_1 : Nat} {a_x1 : Option Addr} {n_x1 c_x1 : Nat} {a_x2_0 : Option Addr} {n_x2_0 c_x2_0 : Nat} {a_x2_1 : Option Addr} {n_x2_1 c_x2_1 : Nat} {r0_0 : Int} {r0_1 : List Int} {r0_2 : List Int} {r0_3 : List Int} {r0_4 : Int} {w0 : World} (h : m_impl_Serial fuel x0_0 x0_1 x1 x2_0 x2_1 x2_2 = some (r0_0, r0_1, r0_2, r0_3, r0_4)) (hr_x0_0 : RdT (fun b => ¬ False) w0 (rowT x0_0) (.slice a_x0_0 n_x0_0 c_x0_0)) (hr_x0_1 : RdT (fun b => ¬ False) w0 (rowT x0_1) (.slice a_x0_1 n_x0_1 c_x0_1)) (hr_x1 : RdT (fun b => ¬ False) w0 (rowT x1) (.slice a_x1 n_x1 c_x1)) (hr_x2_0 : RdT (fun b => ¬ False) w0 (rowT x2_0) (.slice a_x2_0 n_x2_0 c_x2_0)) (hr_x2_1 : RdT (fun b => ¬ False) w0 (rowT x2_1) (.slice a_x2_1 n_x2_1 c_x2_1)) :
    Calls Try.prog 30 #[.agg #[.slice a_x0_0 n_x0_0 c_x0_0, .slice a_x0_1 n_x0_1 c_x0_1], .slice a_x1 n_x1 c_x1, .agg #[.slice a_x2_0 n_x2_0 c_x2_0, .slice a_x2_1 n_x2_1 c_x2_1, .int .i64 x2_2]] w0 fun e w => ∃ a_r0_1 n_r0_1 c_r0_1, ∃ a_r0_2 n_r0_2 c_r0_2, ∃ a_r0_3 n_r0_3 c_r0_3, e = .returned (.agg #[.int .i64 r0_0, .slice a_r0_1 n_r0_1 c_r0_1, .slice a_r0_2 n_r0_2 c_r0_2, .slice a_r0_3 n_r0_3 c_r0_3, .int .i64 r0_4]) ∧ St w0 (fun _ => False) w [OwnA (rowT r0_1) (.slice a_r0_1 n_r0_1 c_r0_1), OwnA (rowT r0_2) (.slice a_r0_2 n_r0_2 c_r0_2), OwnA (rowT r0_3) (.slice a_r0_3 n_r0_3 c_r0_3)] := by
  obtain rfl := hr_x0_0.neq
  obtain rfl := hr_x0_1.neq
  obtain rfl := hr_x1.neq
  obtain rfl := hr_x2_0.neq
  obtain rfl := hr_x2_1.neq
  have HT : St w0 (fun _ => False) w0 [] := St.init0
  rw [m_impl_Serial] at h
  refine calls_fr (n := 32) [.agg #[.slice a_x0_0 x0_0.length c_x0_0, .slice a_x0_1 x0_1.length c_x0_1], .slice a_x1 x1.length c_x1, .agg #[.slice a_x2_0 x2_0.length c_x2_0, .slice a_x2_1 x2_1.length c_x2_1, .int .i64 x2_2]] Try.func30 rfl rfl rfl (fun a HF => ?_)
  have HT : St w0 (fun _ => False) w0 [] := HT
  refine wp_seq ?_
  refine wc_text ?_
  refine wc_box (cs := [.slice a_x0_0 x0_0.length c_x0_0, .slice a_x0_1 x0_1.length c_x0_1]) HF HT rfl rfl rfl rfl (fun p1 w HT hb => ⟨nS, fun a HF => ?_⟩)
  refine wc_box (cs := [.slice a_x2_0 x2_0.length c_x2_0, .slice a_x2_1 x2_1.length c_x2_1, .int .i64 x2_2]) HF HT rfl rfl rfl rfl (fun p2 w HT hb => ⟨nS, fun a HF => ?_⟩)
  refine wc_alloc (cs := [.int .i64 0, .slice none 0 0, .slice none 0 0, .slice none 0 0, .int .i64 0]) HF HT zr49 rfl rfl rfl (fun p3 w HT hb => ⟨nS, fun a HF => ?_⟩)
  refine wc_end ?_
  refine then_n ?_
  obtain ⟨q1, hx1, h⟩ := obs h
  refine wp_cut (fun a w => q1 = .brk () ∧ Fr a 32 [(1, .slice a_x1 x1.length c_x1), (3, .pointer (some ⟨p1, 0, none⟩)), (5, .pointer (some ⟨p2, 0, none⟩)), (6, .pointer (some ⟨p3, 0, none⟩))] ∧ St w0 (fun _ => False) w [Box p1 [.slice a_x0_0 x0_0.length c_x0_0, .slice a_x0_1 x0_1.length c_x0_1], Box p2 [.slice a_x2_0 x2_0.length c_x2_0, .slice a_x2_1 x2_1.length c_x2_1, .int .i64 x2_2], Box p3 [.int .i64 0, .slice none 0 0, .slice none 0 0, .slice none 0 0, .int .i64 0]]) ?_ ?_
  have hk1 := h
  have h := hx1
  obtain ⟨z1, hx2, h⟩ := obs h
  refine wp_cut (fun a w => Fr a 32 [(1, .slice a_x1 x1.length c_x1), (3, .pointer (some ⟨p1, 0, none⟩)), (5, .pointer (some ⟨p2, 0, none⟩)), (6, .pointer (some ⟨p3, 0, none⟩)), (22, .bool z1)] ∧ St w0 (fun _ => False) w [Box p1 [.slice a_x0_0 x0_0.length c_x0_0, .slice a_x0_1 x0_1.length c_x0_1], Box p2 [.slice a_x2_0 x2_0.length c_x2_0, .slice a_x2_1 x2_1.length c_x2_1, .int .i64 x2_2], Box p3 [.int .i64 0, .slice none 0 0, .slice none 0 0, .slice none 0 0, .int .i64 0]]) ?_ ?_
  have hk2 := h
  have h := hx2
  refine wc_text ?_
  refine wc_loadA (vs := [.slice a_x0_0 x0_0.length c_x0_0, .slice a_x0_1 x0_1.length c_x0_1]) HF rfl ag53 rfl ((HT.boxAt 2 rfl).part 0 2) rfl rfl (fun a HF => ?_)
  obtain ⟨y1, hx3, h⟩ := obs h
  refine wc_call HF cf75 rfl (w_impl_ProgOk fuel hx3 (HT.ro hr_x0_0).any (HT.ro hr_x0_1).any) rfl rfl ?_
  rintro e w ⟨rfl, hE⟩
  have hb := hE.below
  have HT := HT.pure hE
  have HT : St w0 (fun _ => False) w [Box p3 [.int .i64 0, .slice none 0 0, .slice none 0 0, .slice none 0 0, .int .i64 0], Box p2 [.slice a_x2_0 x2_0.length c_x2_0, .slice a_x2_1 x2_1.length c_x2_1, .int .i64 x2_2], Box p1 [.slice a_x0_0 x0_0.length c_x0_0, .slice a_x0_1 x0_1.length c_x0_1]] := HT
  refine ⟨_, rfl, nS, fun a HF => ?_⟩
  refine wc_not HF nS rfl rfl rfl (fun a HF => ?_)
  refine wc_move HF nS rfl rfl rfl (fun a HF => ?_)
  by_cases hb1 : y1 = true
  have h := (if_pos hb1).symm.trans h
  refine wc_move HF nS rfl (HF.wy rfl rfl rfl rfl (notT hb1)) rfl (fun a HF => ?_)
  refine wc_faddr HF nS rfl fl53_1 (HF.wy rfl rfl rfl rfl (notT hb1)) rfl (fun a HF => ?_)
  refine wc_load HF rfl sc51 ((HT.boxAt 2 rfl).get 1 rfl) (HF.wy rfl rfl rfl rfl (notT hb1)) rfl (fun a HF => ?_)
  refine wc_lenR HF nS Try.underlying51 rfl (HF.wy rfl rfl rfl rfl (notT hb1)) rfl (fun a HF => ?_)
  obtain ⟨y2, hx4, h⟩ := obs h
  refine wc_call HF cf76 rfl (w_impl_orderOk fuel hx4 (HT.ro hr_x1).any) (HF.wy rfl rfl rfl rfl (notT hb1)) rfl ?_
  rintro e w ⟨rfl, hE⟩
  have hb := hE.below
  have HT := HT.pure hE
  have HT : St w0 (fun _ => False) w [Box p3 [.int .i64 0, .slice none 0 0, .slice none 0 0, .slice none 0 0, .int .i64 0], Box p2 [.slice a_x2_0 x2_0.length c_x2_0, .slice a_x2_1 x2_1.length c_x2_1, .int .i64 x2_2], Box p1 [.slice a_x0_0 x0_0.length c_x0_0, .slice a_x0_1 x0_1.length c_x0_1]] := HT
  refine ⟨_, rfl, nS, fun a HF => ?_⟩
  refine wc_not HF nS rfl (HF.wy rfl rfl rfl rfl (notT hb1)) rfl (fun a HF => ?_)
  refine wc_pick (b := false) HF nS rfl (notT hb1) rfl rfl rfl (fun a HF => ?_)
  refine wc_move HF nS rfl rfl rfl (fun a HF => ?_)
  by_cases hb2 : y2 = true
  have h := (if_pos hb2).symm.trans h
  refine wc_loadA (vs := [.slice a_x2_0 x2_0.length c_x2_0, .slice a_x2_1 x2_1.length c_x2_1, .int .i64 x2_2]) HF rfl ag27 rfl ((HT.boxAt 1 rfl).part 0 3) (HF.wy rfl rfl rfl rfl (notT hb2)) rfl (fun a HF => ?_)
  obtain ⟨y3, hx5, h⟩ := obs h
  refine wc_call HF cf16 rfl (w_impl_ThingsOk fuel hx5 (HT.ro hr_x2_0).any (HT.ro hr_x2_1).any) (HF.wy rfl rfl rfl rfl (notT hb2)) rfl ?_
  rintro e w ⟨rfl, hE⟩
  have hb := hE.below
  have HT := HT.pure hE
  have HT : St w0 (fun _ => False) w [Box p3 [.int .i64 0, .slice none 0 0, .slice none 0 0, .slice none 0 0, .int .i64 0], Box p2 [.slice a_x2_0 x2_0.length c_x2_0, .slice a_x2_1 x2_1.length c_x2_1, .int .i64 x2_2], Box p1 [.slice a_x0_0 x0_0.length c_x0_0, .slice a_x0_1 x0_1.length c_x0_1]] := HT
  refine ⟨_, rfl, nS, fun a HF => ?_⟩
  refine wc_not HF nS rfl (HF.wy rfl rfl rfl rfl (notT hb2)) rfl (fun a HF => ?_)
  refine wc_pick (b := false) HF nS rfl (notT hb2) rfl rfl rfl (fun a HF => ?_)
  refine wc_end ?_
  have HT := HT.p1.p2
  obtain rfl := Option.some.inj h
  exact then_n ⟨(HF.keep (HF.keep (HF.keep (HF.keep (HF.keep HF.nil rfl) rfl) rfl) rfl) rfl), HT⟩
  have h := (if_neg hb2).symm.trans h
  refine wc_skip HF nS (HF.wn rfl rfl rfl rfl (notF (Bool.eq_false_iff.2 hb2))) rfl (fun a HF => ?_)
  refine wc_skip HF nS (HF.wn rfl rfl rfl rfl (notF (Bool.eq_false_iff.2 hb2))) rfl (fun a HF => ?_)
  refine wc_skip HF nS (HF.wn rfl rfl rfl rfl (notF (Bool.eq_false_iff.2 hb2))) rfl (fun a HF => ?_)
  refine wc_pick (b := true) HF nS rfl (notF (Bool.eq_false_iff.2 hb2)) rfl rfl rfl (fun a HF => ?_)
  refine wc_end ?_
  have HT := HT.p1.p2
  obtain rfl := Option.some.inj h
  exact then_n ⟨(HF.keep (HF.keep (HF.keep (HF.keep (HF.keep HF.nil rfl) rfl) rfl) rfl) rfl), HT⟩
  have h := (if_neg hb1).symm.trans h
  refine wc_skip HF nS (HF.wn rfl rfl rfl rfl (notF (Bool.eq_false_iff.2 hb1))) rfl (fun a HF => ?_)
  refine wc_skip HF nS (HF.wn rfl rfl rfl rfl (notF (Bool.eq_false_iff.2 hb1))) rfl (fun a HF => ?_)
  refine wc_skip HF nS (HF.wn rfl rfl rfl rfl (notF (Bool.eq_false_iff.2 hb1))) rfl (fun a HF => ?_)
  refine wc_skip HF nS (HF.wn rfl rfl rfl rfl (notF (Bool.eq_false_iff.2 hb1))) rfl (fun a HF => ?_)
  refine wc_skip HF nS (HF.wn rfl rfl rfl rfl (notF (Bool.eq_false_iff.2 hb1))) rfl (fun a HF => ?_)
  refine wc_skip HF nS (HF.wn rfl rfl rfl rfl (notF (Bool.eq_false_iff.2 hb1))) rfl (fun a HF => ?_)
  refine wc_pick (b := true) HF nS rfl (notF (Bool.eq_false_iff.2 hb1)) rfl rfl rfl (fun a HF => ?_)
  refine wc_move HF nS rfl rfl rfl (fun a HF => ?_)
  refine wc_skip HF nS (HF.wn rfl rfl rfl rfl rfl) rfl (fun a HF => ?_)
  refine wc_skip HF nS (HF.wn rfl rfl rfl rfl rfl) rfl (fun a HF => ?_)
  refine wc_skip HF nS (HF.wn rfl rfl rfl rfl rfl) rfl (fun a HF => ?_)
  refine wc_pick (b := true) HF nS rfl rfl rfl rfl rfl (fun a HF => ?_)
  refine wc_end ?_
  have HT := HT.p1.p2
  obtain rfl := Option.some.inj h
  exact then_n ⟨(HF.keep (HF.keep (HF.keep (HF.keep (HF.keep HF.nil rfl) rfl) rfl) rfl) rfl), HT⟩
  rintro a w ⟨HF, HT⟩
  refine ?_
  by_cases hb3 : z1 = true
  have h := (if_pos hb3).symm.trans h
  refine wp_if (b' := true) HF rfl hb3 ?_
  refine wp_seq ?_
  refine wc_text ?_
  refine wc_build (cs := #[.int .i64 0, .slice none 0 0, .slice none 0 0, .slice none 0 0, .int .i64 0]) HF nS bd49 rfl rfl rfl rfl (fun a HF => ?_)
  have HT := HT.p2
  refine wc_storeB (cs' := [.int .i64 0, .slice none 0 0, .slice none 0 0, .slice none 0 0, .int .i64 0]) HF HT rfl rfl (fun w => (ag49 w).2) rfl rfl rfl rfl rfl (fun w HT => ⟨nS, ?_⟩)
  refine wc_end ?_
  refine then_n ?_
  refine wp_ret ?_
  have HT := HT.nilrow (E := Int) 3
  have HT := HT.weak
  have HT := HT.nilrow (E := Int) 3
  have HT := HT.weak
  have HT := HT.nilrow (E := Int) 3
  have HT := HT.weak
  obtain rfl := Option.some.inj h
  have h := retL hk1
  have hj1 := Option.some.inj h
  obtain ⟨hi1, hj2⟩ := Prod.mk.inj hj1
  subst hi1
  obtain ⟨hi2, hj3⟩ := Prod.mk.inj hj2
  subst hi2
  obtain ⟨hi3, hj4⟩ := Prod.mk.inj hj3
  subst hi3
  obtain ⟨hi4, hj5⟩ := Prod.mk.inj hj4
  subst hi4
  subst hj5
  refine then_r (?_)
  refine bp_ret HF (res_cell (vs := [.int .i64 0, .slice none 0 0, .slice none 0 0, .slice none 0 0, .int .i64 0]) rfl HF rfl ag49 rfl (HT.boxAt 3 rfl)) ?_
  have HT := HT.p1.p2.t3
  exact ⟨none, 0, 0, none, 0, 0, none, 0, 0, rfl, HT⟩
  have h := (if_neg hb3).symm.trans h
  refine wp_if (b' := false) HF rfl (Bool.eq_false_iff.2 hb3) ?_
  refine wp_skip ?_
  exact then_n ⟨(Option.some.inj h).symm, (HF.keep (HF.keep (HF.keep (HF.keep HF.nil rfl) rfl) rfl) rfl), HT⟩
  rintro a w ⟨rfl, HF, HT⟩
  have h := brkL1u h
  refine ?_
  refine wp_seq ?_
  refine wp_region_can [(0, false), (1, false), (2, false), (3, false), (4, false), (6, false), (5, false), (7, true), (8, true)] (fun w' => w'.cell? ⟨p1, 0, none⟩ = some (.slice a_x0_0 x0_0.length c_x0_0) ∧ w'.cell? ⟨p1, 1, none⟩ = some (.slice a_x0_1 x0_1.length c_x0_1) ∧ LdC w' p2 0 [.slice a_x2_0 x2_0.length c_x2_0, .slice a_x2_1 x2_1.length c_x2_1, .int .i64 x2_2] ∧ True) (by kernel_rfl) (by kernel_rfl) ?_
  have HT := HT.drew
  refine wc_faddr HF (fun _ => ⟨(HT.boxAt 0 rfl).get 0 rfl, (HT.boxAt 0 rfl).get 1 rfl, (HT.boxAt 1 rfl).part 0 3, trivial⟩) rfl fl53_0 rfl rfl (fun a HF => ?_)
  refine wc_loadS HF ⟨(HT.boxAt 0 rfl).get 0 rfl, (HT.boxAt 0 rfl).get 1 rfl, (HT.boxAt 1 rfl).part 0 3, trivial⟩ rfl sc36 (fun w hS => hS.1) rfl rfl (fun a HF => ?_)
  refine wc_faddr HF (fun _ => ⟨(HT.boxAt 0 rfl).get 0 rfl, (HT.boxAt 0 rfl).get 1 rfl, (HT.boxAt 1 rfl).part 0 3, trivial⟩) rfl fl53_1 rfl rfl (fun a HF => ?_)
  refine wc_loadS HF ⟨(HT.boxAt 0 rfl).get 0 rfl, (HT.boxAt 0 rfl).get 1 rfl, (HT.boxAt 1 rfl).part 0 3, trivial⟩ rfl sc51 (fun w hS => hS.2.1) rfl rfl (fun a HF => ?_)
  refine wc_move HF (fun _ => ⟨(HT.boxAt 0 rfl).get 0 rfl, (HT.boxAt 0 rfl).get 1 rfl, (HT.boxAt 1 rfl).part 0 3, trivial⟩) rfl rfl rfl (fun a HF => ?_)
  refine wc_loadAS (vs := [.slice a_x2_0 x2_0.length c_x2_0, .slice a_x2_1 x2_1.length c_x2_1, .int .i64 x2_2]) HF ⟨(HT.boxAt 0 rfl).get 0 rfl, (HT.boxAt 0 rfl).get 1 rfl, (HT.boxAt 1 rfl).part 0 3, trivial⟩ rfl ag27 rfl (fun w hS => hS.2.2.1) rfl rfl (fun a HF => ?_)
  obtain ⟨hg1, h⟩ := grd h
  refine wc_make (x := (0 : Int)) HF HT el22 rfl rfl hg1 rfl rfl rfl rfl (fun p4 w HT hb => ⟨(fun _ => ⟨(HT.boxAt 1 rfl).get 0 rfl, (HT.boxAt 1 rfl).get 1 rfl, (HT.boxAt 2 rfl).part 0 3, trivial⟩), fun a HF => ?_⟩)
  obtain ⟨y4, y5, y6, y7, y8, hx6, h⟩ := obs5 h
  refine wc_call HF cf69 rfl (w_impl_serial fuel hx6 (HT.ro hr_x0_0).any (HT.ro hr_x0_1).any (HT.ro hr_x1).any (HT.rdAt 0 rfl) (HT.ro hr_x2_0).any (HT.ro hr_x2_1).any) rfl rfl ?_
  rintro e w ⟨a1, n1, c1, a2, n2, c2, a3, n3, c3, rfl, hE⟩
  have hb := hE.below
  have HT := HT.pure hE
  obtain rfl := (HT.rdAAt 0 rfl).neq
  obtain rfl := (HT.rdAAt 1 rfl).neq
  obtain rfl := (HT.rdAAt 2 rfl).neq
  have HT : St w0 (fun _ => False) w [OwnA (rowT y5) (.slice a1 y5.length c1), OwnA (rowT y6) (.slice a2 y6.length c2), OwnA (rowT y7) (.slice a3 y7.length c3), Own 3 (rowT (List.replicate (4 : Int).toNat (0 : Int))) (.slice (some ⟨p4, 0, none⟩) ((List.replicate (4 : Int).toNat (0 : Int)).length) ((List.replicate (4 : Int).toNat (0 : Int)).length)), Box p1 [.slice a_x0_0 x0_0.length c_x0_0, .slice a_x0_1 x0_1.length c_x0_1], Box p2 [.slice a_x2_0 x2_0.length c_x2_0, .slice a_x2_1 x2_1.length c_x2_1, .int .i64 x2_2], Box p3 [.int .i64 0, .slice none 0 0, .slice none 0 0, .slice none 0 0, .int .i64 0]] := HT
  refine ⟨_, rfl, nS, fun a HF => ?_⟩
  have HT := HT.p6
  refine wc_storeB (cs' := [.int .i64 y4, .slice a1 y5.length c1, .slice a2 y6.length c2, .slice a3 y7.length c3, .int .i64 y8]) HF HT rfl rfl (fun w => (ag49 w).2) rfl rfl rfl rfl rfl (fun w HT => ⟨nS, ?_⟩)
  refine wc_endN ?_
  refine then_n ?_
  refine wp_ret ?_
  have hj6 := Option.some.inj h
  obtain ⟨hi6, hj7⟩ := Prod.mk.inj hj6
  subst hi6
  obtain ⟨hi7, hj8⟩ := Prod.mk.inj hj7
  subst hi7
  obtain ⟨hi8, hj9⟩ := Prod.mk.inj hj8
  subst hi8
  obtain ⟨hi9, hj10⟩ := Prod.mk.inj hj9
  subst hi9
  subst hj10
  refine bp_ret HF (res_cell (vs := [.int .i64 y4, .slice a1 y5.length c1, .slice a2 y6.length c2, .slice a3 y7.length c3, .int .i64 y8]) rfl HF rfl ag49 rfl (HT.boxAt 0 rfl)) ?_
  have HT := HT.p3.p3.p3.t3
  exact ⟨a1, y5.length, c1, a2, y6.length, c2, a3, y7.length, c3, rfl, HT⟩

def m_laws_eqKid (fuel : Nat) (x0_0 : List I4) (x1_0 : List I4) : Option Bool :=
  (m_laws_eqOpS fuel x0_0 x1_0).bind fun y1 =>
  if y1 = true then
    some true
  else
  some false

set_option maxRecDepth 100000 in
set_option maxHeartbeats 4000000 in
theorem w_laws_eqKid (fuel : Nat) {x0_0 : List I4} {x1_0 : List I4} {a_x0_0 : Option Addr} {n_x0_0 c_x0_0 : Nat} {a_x1_0 : Option Addr} {n_x1_0 c_x1_0 : Nat} {r0 : Bool} {w0 : World} (h : m_laws_eqKid fuel x0_0 x1_0 = some r0) (hr_x0_0 : RdT (fun b => ¬ False) w0 (rowT x0_0) (.slice a_x0_0 n_x0_0 c_x0_0)) (hr_x1_0 : RdT (fun b => ¬ False) w0 (rowT x1_0) (.slice a_x1_0 n_x1_0 c_x1_0)) :
    Calls Try.prog 112 #[.agg #[.slice a_x0_0 n_x0_0 c_x0_0], .agg #[.slice a_x1_0 n_x1_0 c_x1_0]] w0 fun e w => e = .returned (.bool r0) ∧ St w0 (fun _ => False) w [] := by
  obtain rfl := hr_x0_0.neq
  obtain rfl := hr_x1_0.neq
  have HT : St w0 (fun _ => False) w0 [] := St.init0
  rw [m_laws_eqKid] at h
  refine calls_fr (n := 11) [.agg #[.slice a_x0_0 x0_0.length c_x0_0], .agg #[.slice a_x1_0 x1_0.length c_x1_0]] Try.func112 rfl rfl rfl (fun a HF => ?_)
  have HT : St w0 (fun _ => False) w0 [] := HT
  refine wp_seq ?_
  refine wc_text ?_
  refine wc_box (cs := [.slice a_x0_0 x0_0.length c_x0_0]) HF HT rfl rfl rfl rfl (fun p1 w HT hb => ⟨nS, fun a HF => ?_⟩)
  refine wc_box (cs := [.slice a_x1_0 x1_0.length c_x1_0]) HF HT rfl rfl rfl rfl (fun p2 w HT hb => ⟨nS, fun a HF => ?_⟩)
  refine wc_assign HF nS rfl rfl rfl (fun a HF => ?_)
  refine wc_end ?_
  refine then_n ?_
  refine wp_seq ?_
  refine wp_seq ?_
  refine wc_text ?_
  refine wc_faddr HF nS rfl fl127_0 rfl rfl (fun a HF => ?_)
  refine wc_load HF rfl sc36 ((HT.boxAt 1 rfl).get 0 rfl) rfl rfl (fun a HF => ?_)
  refine wc_faddr HF nS rfl fl127_0 rfl rfl (fun a HF => ?_)
  refine wc_load HF rfl sc36 ((HT.boxAt 0 rfl).get 0 rfl) rfl rfl (fun a HF => ?_)
  obtain ⟨y1, hx1, h⟩ := obs h
  refine wc_call HF cf23 rfl (w_laws_eqOpS fuel hx1 (HT.ro hr_x0_0).any (HT.ro hr_x1_0).any) rfl rfl ?_
  rintro e w ⟨rfl, hE⟩
  have hb := hE.below
  have HT := HT.pure hE
  have HT : St w0 (fun _ => False) w [Box p2 [.slice a_x1_0 x1_0.length c_x1_0], Box p1 [.slice a_x0_0 x0_0.length c_x0_0]] := HT
  refine ⟨_, rfl, nS, fun a HF => ?_⟩
  refine wc_not HF nS rfl rfl rfl (fun a HF => ?_)
  refine wc_end ?_
  refine then_n ?_
  by_cases hb1 : y1 = true
  have h := (if_pos hb1).symm.trans h
  refine wp_if (b' := false) HF rfl (notT hb1) ?_
  refine wp_skip ?_
  refine then_n ?_
  refine wp_seq ?_
  refine wc_text ?_
  refine wc_assign HF nS rfl rfl rfl (fun a HF => ?_)
  refine wc_end ?_
  refine then_n ?_
  refine wp_ret ?_
  obtain rfl := Option.some.inj h
  refine bp_ret HF (res_one rfl HF rfl) ?_
  have HT := HT.t0
  exact ⟨rfl, HT⟩
  have h := (if_neg hb1).symm.trans h
  refine wp_if (b' := true) HF rfl (notF (Bool.eq_false_iff.2 hb1)) ?_
  refine wp_seq ?_
  refine wc_text ?_
  refine wc_assign HF nS rfl rfl rfl (fun a HF => ?_)
  refine wc_end ?_
  refine then_n ?_
  refine wp_ret ?_
  obtain rfl := Option.some.inj h
  refine then_r (?_)
  refine bp_ret HF (res_one rfl HF rfl) ?_
  have HT := HT.t0
  exact ⟨rfl, HT⟩

def m_laws_eqKidS_L0 (fuel : Nat) (x0 : List KidD) (x1 : List KidD) : Nat → Int → Option (Lp Unit Bool)
  | 0, _ => none
  | k1 + 1, z1 =>
    if z1 < (x0.length : Int) then
      (at? x0 z1).bind fun e1 =>
      (at? x1 z1).bind fun e2 =>
      (m_laws_eqKid fuel e1.code e2.code).bind fun y1 =>
      if y1 = true then
        if in64 (z1 + 1) then
          m_laws_eqKidS_L0 fuel x0 x1 k1 (z1 + 1)
        else none
      else
      some (.ret false)
    else
    some (.brk ())

def m_laws_eqKidS (fuel : Nat) (x0 : List KidD) (x1 : List KidD) : Option Bool :=
  if (x0.length : Int) = (x1.length : Int) then
    (m_laws_eqKidS_L0 fuel x0 x1 fuel 0).bind <| contL <| un1 fun _ =>
    some true
  else
  some false

set_option maxRecDepth 100000 in
set_option maxHeartbeats 4000000 in
theorem w_laws_eqKidS (fuel : Nat) {x0 : List KidD} {x1 : List KidD} {a_x0 : Option Addr} {n_x0 c_x0 : Nat} {a_x1 : Option Addr} {n_x1 c_x1 : Nat} {r0 : Bool} {w0 : World} (h : m_laws_eqKidS fuel x0 x1 = some r0) (hr_x0 : RdT (fun b => ¬ False) w0 (rowT x0) (.slice a_x0 n_x0 c_x0)) (hr_x1 : RdT (fun b => ¬ False) w0 (rowT x1) (.slice a_x1 n_x1 c_x1)) :
    Calls Try.prog 77 #[.slice a_x0 n_x0 c_x0, .slice a_x1 n_x1 c_x1] w0 fun e w => e = .returned (.bool r0) ∧ St w0 (fun _ => False) w [] := by
  obtain rfl := hr_x0.neq
  obtain rfl := hr_x1.neq
  have HT : St w0 (fun _ => False) w0 [] := St.init0
  rw [m_laws_eqKidS] at h
  refine calls_fr (n := 27) [.slice a_x0 x0.length c_x0, .slice a_x1 x1.length c_x1] Try.func77 rfl rfl rfl (fun a HF => ?_)
  have HT : St w0 (fun _ => False) w0 [] := HT
  refine wp_seq ?_
  refine wc_text ?_
  refine wc_assign HF nS rfl rfl rfl (fun a HF => ?_)
  refine wc_end ?_
  refine then_n ?_
  refine wp_seq ?_
  refine wp_seq ?_
  refine wc_text ?_
  refine wc_move HF nS rfl rfl rfl (fun a HF => ?_)
  refine wc_lenR HF nS Try.underlying51 rfl rfl rfl (fun a HF => ?_)
  refine wc_move HF nS rfl rfl rfl (fun a HF => ?_)
  refine wc_lenR HF nS Try.underlying51 rfl rfl rfl (fun a HF => ?_)
  refine wc_bin HF nS rfl rfl b_ne rfl rfl (fun a HF => ?_)
  refine wc_end ?_
  refine then_n ?_
  by_cases hb1 : (x0.length : Int) = (x1.length : Int)
  have h := (if_pos hb1).symm.trans h
  refine wp_if (b' := false) HF rfl (notT (decide_eq_true hb1)) ?_
  refine wp_skip ?_
  refine then_n ?_
  obtain ⟨q1, hx1, h⟩ := obs h
  refine wp_cut (fun a w => q1 = .brk () ∧ Fr a 27 [] ∧ St w0 (fun _ => False) w []) ?_ ?_
  have hk1 := h
  have h := hx1
  refine wp_seq ?_
  refine wc_text ?_
  refine wc_assign HF nS rfl rfl rfl (fun a HF => ?_)
  refine wc_end ?_
  refine then_n ?_
  refine wp_block ?_
  refine wp_loopN (fun k1 a w => ∃ z1, m_laws_eqKidS_L0 fuel x0 x1 k1 z1 = some q1 ∧ Fr a 27 [(0, .slice a_x0 x0.length c_x0), (1, .slice a_x1 x1.length c_x1), (5, .int .i64 z1)] ∧ St w0 (fun _ => False) w []) fuel ⟨0, h, (HF.keep (HF.keep (HF.keep HF.nil rfl) rfl) rfl), HT⟩ ?_
  rintro k1 a w ⟨z1, h, HF, HT⟩
  rcases k1 with _ | k1
  cases h
  rw [m_laws_eqKidS_L0] at h
  refine ?_
  refine wp_seq ?_
  refine wp_seq ?_
  refine wc_text ?_
  refine wc_move HF nS rfl rfl rfl (fun a HF => ?_)
  refine wc_move HF nS rfl rfl rfl (fun a HF => ?_)
  refine wc_lenR HF nS Try.underlying51 rfl rfl rfl (fun a HF => ?_)
  refine wc_bin HF nS rfl rfl b_lt rfl rfl (fun a HF => ?_)
  refine wc_end ?_
  refine then_n ?_
  by_cases hb2 : z1 < (x0.length : Int)
  have h := (if_pos hb2).symm.trans h
  refine wp_if (b' := true) HF rfl (decide_eq_true hb2) ?_
  refine wp_skip ?_
  refine then_n ?_
  refine wp_seq ?_
  refine wp_block ?_
  refine wp_seq ?_
  refine wp_region_can [(0, true), (1, true), (2, true), (3, true), (4, true), (5, true), (6, true), (7, true), (8, true), (9, true)] (fun w' => True) (by kernel_rfl) (by kernel_rfl) ?_
  have HT := HT.drew
  refine wc_move HF nS rfl rfl rfl (fun a HF => ?_)
  refine wc_move HF nS rfl rfl rfl (fun a HF => ?_)
  obtain ⟨e1, hx2, h⟩ := obs h
  obtain ⟨b1, o1, ha1⟩ := (HT.ro hr_x0).any.addr hx2
  refine wc_ixaddr HF nS el51 rfl ha1 ((HT.ro hr_x0).any).neq rfl hx2 rfl rfl (fun a HF => ?_)
  obtain ⟨_, hP1, hc1, hr1⟩ := hr_x0.elemAt ha1 hx2
  obtain ⟨a1, c1, rfl, hr2⟩ := cells_Kid hr1
  have hc2 := HT.roLd hP1 hc1
  refine wc_loadA (vs := [.slice a1 e1.code.length c1]) HF rfl ag127 rfl (hc2.part 0 1) rfl rfl (fun a HF => ?_)
  refine wc_move HF nS rfl rfl rfl (fun a HF => ?_)
  refine wc_move HF nS rfl rfl rfl (fun a HF => ?_)
  obtain ⟨e2, hx3, h⟩ := obs h
  obtain ⟨b2, o2, ha2⟩ := (HT.ro hr_x1).any.addr hx3
  refine wc_ixaddr HF nS el51 rfl ha2 ((HT.ro hr_x1).any).neq rfl hx3 rfl rfl (fun a HF => ?_)
  obtain ⟨_, hP2, hc3, hr3⟩ := hr_x1.elemAt ha2 hx3
  obtain ⟨a2, c2, rfl, hr4⟩ := cells_Kid hr3
  have hc4 := HT.roLd hP2 hc3
  refine wc_loadA (vs := [.slice a2 e2.code.length c2]) HF rfl ag127 rfl (hc4.part 0 1) rfl rfl (fun a HF => ?_)
  obtain ⟨y1, hx4, h⟩ := obs h
  refine wc_call HF cf112 rfl (w_laws_eqKid fuel hx4 (HT.ro hr2).any (HT.ro hr4).any) rfl rfl ?_
  rintro e w ⟨rfl, hE⟩
  have hb := hE.below
  have HT := HT.pure hE
  have HT : St w0 (fun _ => False) w [] := HT
  refine ⟨_, rfl, nS, fun a HF => ?_⟩
  refine wc_not HF nS rfl rfl rfl (fun a HF => ?_)
  refine wc_endN ?_
  refine then_n ?_
  by_cases hb3 : y1 = true
  have h := (if_pos hb3).symm.trans h
  refine wp_if (b' := false) HF rfl (notT hb3) ?_
  refine wp_skip ?_
  refine blk_n ?_
  refine then_n ?_
  refine wc_text ?_
  refine wc_move HF nS rfl rfl rfl (fun a HF => ?_)
  obtain ⟨hg1, h⟩ := grd h
  refine wc_bin HF nS rfl rfl (b_add hg1) rfl rfl (fun a HF => ?_)
  refine wc_assign HF nS rfl rfl rfl (fun a HF => ?_)
  refine wc_end ?_
  exact then_n ⟨k1, Nat.lt_succ_self k1, z1 + 1, h, (HF.keep (HF.keep (HF.keep HF.nil rfl) rfl) rfl), HT⟩
  have h := (if_neg hb3).symm.trans h
  refine wp_if (b' := true) HF rfl (notF (Bool.eq_false_iff.2 hb3)) ?_
  refine wp_seq ?_
  refine wc_text ?_
  refine wc_assign HF nS rfl rfl rfl (fun a HF => ?_)
  refine wc_end ?_
  refine then_n ?_
  refine wp_ret ?_
  obtain rfl := Option.some.inj h
  have h := retL hk1
  obtain rfl := Option.some.inj h
  refine blk_r (then_r (then_r (blk_r (then_r (?_)))))
  refine bp_ret HF (res_one rfl HF rfl) ?_
  exact ⟨rfl, HT⟩
  have h := (if_neg hb2).symm.trans h
  refine wp_if (b' := false) HF rfl (decide_eq_false hb2) ?_
  refine wp_exit ?_
  refine then_x (then_x (?_))
  refine blk_x ?_
  exact then_n ⟨(Option.some.inj h).symm, HF.nil, HT⟩
  rintro a w ⟨rfl, HF, HT⟩
  have h := brkL1u h
  refine ?_
  refine wp_seq ?_
  refine wc_text ?_
  refine wc_assign HF nS rfl rfl rfl (fun a HF => ?_)
  refine wc_end ?_
  refine then_n ?_
  refine wp_ret ?_
  obtain rfl := Option.some.inj h
  refine bp_ret HF (res_one rfl HF rfl) ?_
  exact ⟨rfl, HT⟩
  have h := (if_neg hb1).symm.trans h
  refine wp_if (b' := true) HF rfl (notF (decide_eq_false hb1)) ?_
  refine wp_seq ?_
  refine wc_text ?_
  refine wc_assign HF nS rfl rfl rfl (fun a HF => ?_)
  refine wc_end ?_
  refine then_n ?_
  refine wp_ret ?_
  obtain rfl := Option.some.inj h
  refine then_r (?_)
  refine bp_ret HF (res_one rfl HF rfl) ?_
  exact ⟨rfl, HT⟩

def m_laws_eqProg (fuel : Nat) (x0_0 : List I4) (x0_1 : List KidD) (x1_0 : List I4) (x1_1 : List KidD) : Option Bool :=
  (m_laws_eqOpS fuel x0_0 x1_0).bind fun y1 =>
  if y1 = true then
    (m_laws_eqKidS fuel x0_1 x1_1).bind fun y2 =>
    if y2 = true then
      some true
    else
    some false
  else
  some false

set_option maxRecDepth 100000 in
set_option maxHeartbeats 4000000 in
theorem w_laws_eqProg (fuel : Nat) {x0_0 : List I4} {x0_1 : List KidD} {x1_0 : List I4} {x1_1 : List KidD} {a_x0_0 : Option Addr} {n_x0_0 c_x0_0 : Nat} {a_x0_1 : Option Addr} {n_x0_1 c_x0_1 : Nat} {a_x1_0 : Option Addr} {n_x1_0 c_x1_0 : Nat} {a_x1_1 : Option Addr} {n_x1_1 c_x1_1 : Nat} {r0 : Bool} {w0 : World} (h : m_laws_eqProg fuel x0_0 x0_1 x1_0 x1_1 = some r0) (hr_x0_0 : RdT (fun b => ¬ False) w0 (rowT x0_0) (.slice a_x0_0 n_x0_0 c_x0_0)) (hr_x0_1 : RdT (fun b => ¬ False) w0 (rowT x0_1) (.slice a_x0_1 n_x0_1 c_x0_1)) (hr_x1_0 : RdT (fun b => ¬ False) w0 (rowT x1_0) (.slice a_x1_0 n_x1_0 c_x1_0)) (hr_x1_1 : RdT (fun b => ¬ False) w0 (rowT x1_1) (.slice a_x1_1 n_x1_1 c_x1_1)) :
    Calls Try.prog 32 #[.agg #[.slice a_x0_0 n_x0_0 c_x0_0, .slice a_x0_1 n_x0_1 c_x0_1], .agg #[.slice a_x1_0 n_x1_0 c_x1_0, .slice a_x1_1 n_x1_1 c_x1_1]] w0 fun e w => e = .returned (.bool r0) ∧ St w0 (fun _ => False) w [] := by
  obtain rfl := hr_x0_0.neq
  obtain rfl := hr_x0_1.neq
  obtain rfl := hr_x1_0.neq
  obtain rfl := hr_x1_1.neq
  have HT : St w0 (fun _ => False) w0 [] := St.init0
  rw [m_laws_eqProg] at h
  refine calls_fr (n := 17) [.agg #[.slice a_x0_0 x0_0.length c_x0_0, .slice a_x0_1 x0_1.length c_x0_1], .agg #[.slice a_x1_0 x1_0.length c_x1_0, .slice a_x1_1 x1_1.length c_x1_1]] Try.func32 rfl rfl rfl (fun a HF => ?_)
  have HT : St w0 (fun _ => False) w0 [] := HT
  refine wp_seq ?_
  refine wc_text ?_
  refine wc_box (cs := [.slice a_x0_0 x0_0.length c_x0_0, .slice a_x0_1 x0_1.length c_x0_1]) HF HT rfl rfl rfl rfl (fun p1 w HT hb => ⟨nS, fun a HF => ?_⟩)
  refine wc_box (cs := [.slice a_x1_0 x1_0.length c_x1_0, .slice a_x1_1 x1_1.length c_x1_1]) HF HT rfl rfl rfl rfl (fun p2 w HT hb => ⟨nS, fun a HF => ?_⟩)
  refine wc_assign HF nS rfl rfl rfl (fun a HF => ?_)
  refine wc_end ?_
  refine then_n ?_
  refine wp_seq ?_
  refine wp_seq ?_
  refine wc_text ?_
  refine wc_faddr HF nS rfl fl53_0 rfl rfl (fun a HF => ?_)
  refine wc_load HF rfl sc36 ((HT.boxAt 1 rfl).get 0 rfl) rfl rfl (fun a HF => ?_)
  refine wc_faddr HF nS rfl fl53_0 rfl rfl (fun a HF => ?_)
  refine wc_load HF rfl sc36 ((HT.boxAt 0 rfl).get 0 rfl) rfl rfl (fun a HF => ?_)
  obtain ⟨y1, hx1, h⟩ := obs h
  refine wc_call HF cf23 rfl (w_laws_eqOpS fuel hx1 (HT.ro hr_x0_0).any (HT.ro hr_x1_0).any) rfl rfl ?_
  rintro e w ⟨rfl, hE⟩
  have hb := hE.below
  have HT := HT.pure hE
  have HT : St w0 (fun _ => False) w [Box p2 [.slice a_x1_0 x1_0.length c_x1_0, .slice a_x1_1 x1_1.length c_x1_1], Box p1 [.slice a_x0_0 x0_0.length c_x0_0, .slice a_x0_1 x0_1.length c_x0_1]] := HT
  refine ⟨_, rfl, nS, fun a HF => ?_⟩
  refine wc_not HF nS rfl rfl rfl (fun a HF => ?_)
  refine wc_end ?_
  refine then_n ?_
  by_cases hb1 : y1 = true
  have h := (if_pos hb1).symm.trans h
  refine wp_if (b' := false) HF rfl (notT hb1) ?_
  refine wp_skip ?_
  refine then_n ?_
  refine wp_seq ?_
  refine wp_seq ?_
  refine wc_text ?_
  refine wc_faddr HF nS rfl fl53_1 rfl rfl (fun a HF => ?_)
  refine wc_load HF rfl sc51 ((HT.boxAt 1 rfl).get 1 rfl) rfl rfl (fun a HF => ?_)
  refine wc_faddr HF nS rfl fl53_1 rfl rfl (fun a HF => ?_)
  refine wc_load HF rfl sc51 ((HT.boxAt 0 rfl).get 1 rfl) rfl rfl (fun a HF => ?_)
  obtain ⟨y2, hx2, h⟩ := obs h
  refine wc_call HF cf77 rfl (w_laws_eqKidS fuel hx2 (HT.ro hr_x0_1).any (HT.ro hr_x1_1).any) rfl rfl ?_
  rintro e w ⟨rfl, hE⟩
  have hb := hE.below
  have HT := HT.pure hE
  have HT : St w0 (fun _ => False) w [Box p2 [.slice a_x1_0 x1_0.length c_x1_0, .slice a_x1_1 x1_1.length c_x1_1], Box p1 [.slice a_x0_0 x0_0.length c_x0_0, .slice a_x0_1 x0_1.length c_x0_1]] := HT
  refine ⟨_, rfl, nS, fun a HF => ?_⟩
  refine wc_not HF nS rfl rfl rfl (fun a HF => ?_)
  refine wc_end ?_
  refine then_n ?_
  by_cases hb2 : y2 = true
  have h := (if_pos hb2).symm.trans h
  refine wp_if (b' := false) HF rfl (notT hb2) ?_
  refine wp_skip ?_
  refine then_n ?_
  refine wp_seq ?_
  refine wc_text ?_
  refine wc_assign HF nS rfl rfl rfl (fun a HF => ?_)
  refine wc_end ?_
  refine then_n ?_
  refine wp_ret ?_
  obtain rfl := Option.some.inj h
  refine bp_ret HF (res_one rfl HF rfl) ?_
  have HT := HT.t0
  exact ⟨rfl, HT⟩
  have h := (if_neg hb2).symm.trans h
  refine wp_if (b' := true) HF rfl (notF (Bool.eq_false_iff.2 hb2)) ?_
  refine wp_seq ?_
  refine wc_text ?_
  refine wc_assign HF nS rfl rfl rfl (fun a HF => ?_)
  refine wc_end ?_
  refine then_n ?_
  refine wp_ret ?_
  obtain rfl := Option.some.inj h
  refine then_r (?_)
  refine bp_ret HF (res_one rfl HF rfl) ?_
  have HT := HT.t0
  exact ⟨rfl, HT⟩
  have h := (if_neg hb1).symm.trans h
  refine wp_if (b' := true) HF rfl (notF (Bool.eq_false_iff.2 hb1)) ?_
  refine wp_seq ?_
  refine wc_text ?_
  refine wc_assign HF nS rfl rfl rfl (fun a HF => ?_)
  refine wc_end ?_
  refine then_n ?_
  refine wp_ret ?_
  obtain rfl := Option.some.inj h
  refine then_r (?_)
  refine bp_ret HF (res_one rfl HF rfl) ?_
  have HT := HT.t0
  exact ⟨rfl, HT⟩

def m_laws_eqThings (fuel : Nat) (x0_0 : List Int) (x0_1 : List Int) (x0_2 : Int) (x1_0 : List Int) (x1_1 : List Int) (x1_2 : Int) : Option Bool :=
  (m_laws_eqIntS fuel x0_0 x1_0).bind fun y1 =>
  if y1 = true then
    (m_laws_eqIntS fuel x0_1 x1_1).bind fun y2 =>
    if y2 = true then
      if x0_2 = x1_2 then
        some true
      else
      some false
    else
    some false
  else
  some false

set_option maxRecDepth 100000 in
set_option maxHeartbeats 4000000 in
theorem w_laws_eqThings (fuel : Nat) {x0_0 : List Int} {x0_1 : List Int} {x0_2 : Int} {x1_0 : List Int} {x1_1 : List Int} {x1_2 : Int} {a_x0_0 : Option Addr} {n_x0_0 c_x0_0 : Nat} {a_x0_1 : Option Addr} {n_x0_1 c_x0_1 : Nat} {a_x1_0 : Option Addr} {n_x1_0 c_x1_0 : Nat} {a_x1_1 : Option Addr} {n_x1_1 c_x1_1 : Nat} {r0 : Bool} {w0 : World} (h : m_laws_eqThings fuel x0_0 x0_1 x0_2 x1_0 x1_1 x1_2 = some r0) (hr_x0_0 : RdT (fun b => ¬ False) w0 (rowT x0_0) (.slice a_x0_0 n_x0_0 c_x0_0)) (hr_x0_1 : RdT (fun b => ¬ False) w0 (rowT x0_1) (.slice a_x0_1 n_x0_1 c_x0_1)) (hr_x1_0 : RdT (fun b => ¬ False) w0 (rowT x1_0) (.slice a_x1_0 n_x1_0 c_x1_0)) (hr_x1_1 : RdT (fun b => ¬ False) w0 (rowT x1_1) (.slice a_x1_1 n_x1_1 c_x1_1)) :
    Calls Try.prog 14 #[.agg #[.slice a_x0_0 n_x0_0 c_x0_0, .slice a_x0_1 n_x0_1 c_x0_1, .int .i64 x0_2], .agg #[.slice a_x1_0 n_x1_0 c_x1_0, .slice a_x1_1 n_x1_1 c_x1_1, .int .i64 x1_2]] w0 fun e w => e = .returned (.bool r0) ∧ St w0 (fun _ => False) w [] := by
  obtain rfl := hr_x0_0.neq
  obtain rfl := hr_x0_1.neq
  obtain rfl := hr_x1_0.neq
  obtain rfl := hr_x1_1.neq
  have HT : St w0 (fun _ => False) w0 [] := St.init0
  rw [m_laws_eqThings] at h
  refine calls_fr (n := 22) [.agg #[.slice a_x0_0 x0_0.length c_x0_0, .slice a_x0_1 x0_1.length c_x0_1, .int .i64 x0_2], .agg #[.slice a_x1_0 x1_0.length c_x1_0, .slice a_x1_1 x1_1.length c_x1_1, .int .i64 x1_2]] Try.func14 rfl rfl rfl (fun a HF => ?_)
  have HT : St w0 (fun _ => False) w0 [] := HT
  refine wp_seq ?_
  refine wc_text ?_
  refine wc_box (cs := [.slice a_x0_0 x0_0.length c_x0_0, .slice a_x0_1 x0_1.length c_x0_1, .int .i64 x0_2]) HF HT rfl rfl rfl rfl (fun p1 w HT hb => ⟨nS, fun a HF => ?_⟩)
  refine wc_box (cs := [.slice a_x1_0 x1_0.length c_x1_0, .slice a_x1_1 x1_1.length c_x1_1, .int .i64 x1_2]) HF HT rfl rfl rfl rfl (fun p2 w HT hb => ⟨nS, fun a HF => ?_⟩)
  refine wc_assign HF nS rfl rfl rfl (fun a HF => ?_)
  refine wc_end ?_
  refine then_n ?_
  refine wp_seq ?_
  refine wp_seq ?_
  refine wc_text ?_
  refine wc_faddr HF nS rfl fl27_0 rfl rfl (fun a HF => ?_)
  refine wc_load HF rfl sc22 ((HT.boxAt 1 rfl).get 0 rfl) rfl rfl (fun a HF => ?_)
  refine wc_faddr HF nS rfl fl27_0 rfl rfl (fun a HF => ?_)
  refine wc_load HF rfl sc22 ((HT.boxAt 0 rfl).get 0 rfl) rfl rfl (fun a HF => ?_)
  obtain ⟨y1, hx1, h⟩ := obs h
  refine wc_call HF cf22 rfl (w_laws_eqIntS fuel hx1 (HT.ro hr_x0_0).any (HT.ro hr_x1_0).any) rfl rfl ?_
  rintro e w ⟨rfl, hE⟩
  have hb := hE.below
  have HT := HT.pure hE
  have HT : St w0 (fun _ => False) w [Box p2 [.slice a_x1_0 x1_0.length c_x1_0, .slice a_x1_1 x1_1.length c_x1_1, .int .i64 x1_2], Box p1 [.slice a_x0_0 x0_0.length c_x0_0, .slice a_x0_1 x0_1.length c_x0_1, .int .i64 x0_2]] := HT
  refine ⟨_, rfl, nS, fun a HF => ?_⟩
  refine wc_not HF nS rfl rfl rfl (fun a HF => ?_)
  refine wc_end ?_
  refine then_n ?_
  by_cases hb1 : y1 = true
  have h := (if_pos hb1).symm.trans h
  refine wp_if (b' := false) HF rfl (notT hb1) ?_
  refine wp_skip ?_
  refine then_n ?_
  refine wp_seq ?_
  refine wp_seq ?_
  refine wc_text ?_
  refine wc_faddr HF nS rfl fl27_1 rfl rfl (fun a HF => ?_)
  refine wc_load HF rfl sc22 ((HT.boxAt 1 rfl).get 1 rfl) rfl rfl (fun a HF => ?_)
  refine wc_faddr HF nS rfl fl27_1 rfl rfl (fun a HF => ?_)
  refine wc_load HF rfl sc22 ((HT.boxAt 0 rfl).get 1 rfl) rfl rfl (fun a HF => ?_)
  obtain ⟨y2, hx2, h⟩ := obs h
  refine wc_call HF cf22 rfl (w_laws_eqIntS fuel hx2 (HT.ro hr_x0_1).any (HT.ro hr_x1_1).any) rfl rfl ?_
  rintro e w ⟨rfl, hE⟩
  have hb := hE.below
  have HT := HT.pure hE
  have HT : St w0 (fun _ => False) w [Box p2 [.slice a_x1_0 x1_0.length c_x1_0, .slice a_x1_1 x1_1.length c_x1_1, .int .i64 x1_2], Box p1 [.slice a_x0_0 x0_0.length c_x0_0, .slice a_x0_1 x0_1.length c_x0_1, .int .i64 x0_2]] := HT
  refine ⟨_, rfl, nS, fun a HF => ?_⟩
  refine wc_not HF nS rfl rfl rfl (fun a HF => ?_)
  refine wc_end ?_
  refine then_n ?_
  by_cases hb2 : y2 = true
  have h := (if_pos hb2).symm.trans h
  refine wp_if (b' := false) HF rfl (notT hb2) ?_
  refine wp_skip ?_
  refine then_n ?_
  refine wp_seq ?_
  refine wp_seq ?_
  refine wc_text ?_
  refine wc_faddr HF nS rfl fl27_2 rfl rfl (fun a HF => ?_)
  refine wc_load HF rfl sc3 ((HT.boxAt 1 rfl).get 2 rfl) rfl rfl (fun a HF => ?_)
  refine wc_faddr HF nS rfl fl27_2 rfl rfl (fun a HF => ?_)
  refine wc_load HF rfl sc3 ((HT.boxAt 0 rfl).get 2 rfl) rfl rfl (fun a HF => ?_)
  refine wc_bin HF nS rfl rfl b_ne rfl rfl (fun a HF => ?_)
  refine wc_end ?_
  refine then_n ?_
  by_cases hb3 : x0_2 = x1_2
  have h := (if_pos hb3).symm.trans h
  refine wp_if (b' := false) HF rfl (notT (decide_eq_true hb3)) ?_
  refine wp_skip ?_
  refine then_n ?_
  refine wp_seq ?_
  refine wc_text ?_
  refine wc_assign HF nS rfl rfl rfl (fun a HF => ?_)
  refine wc_end ?_
  refine then_n ?_
  refine wp_ret ?_
  obtain rfl := Option.some.inj h
  refine bp_ret HF (res_one rfl HF rfl) ?_
  have HT := HT.t0
  exact ⟨rfl, HT⟩
  have h := (if_neg hb3).symm.trans h
  refine wp_if (b' := true) HF rfl (notF (decide_eq_false hb3)) ?_
  refine wp_seq ?_
  refine wc_text ?_
  refine wc_assign HF nS rfl rfl rfl (fun a HF => ?_)
  refine wc_end ?_
  refine then_n ?_
  refine wp_ret ?_
  obtain rfl := Option.some.inj h
  refine then_r (?_)
  refine bp_ret HF (res_one rfl HF rfl) ?_
  have HT := HT.t0
  exact ⟨rfl, HT⟩
  have h := (if_neg hb2).symm.trans h
  refine wp_if (b' := true) HF rfl (notF (Bool.eq_false_iff.2 hb2)) ?_
  refine wp_seq ?_
  refine wc_text ?_
  refine wc_assign HF nS rfl rfl rfl (fun a HF => ?_)
  refine wc_end ?_
  refine then_n ?_
  refine wp_ret ?_
  obtain rfl := Option.some.inj h
  refine then_r (?_)
  refine bp_ret HF (res_one rfl HF rfl) ?_
  have HT := HT.t0
  exact ⟨rfl, HT⟩
  have h := (if_neg hb1).symm.trans h
  refine wp_if (b' := true) HF rfl (notF (Bool.eq_false_iff.2 hb1)) ?_
  refine wp_seq ?_
  refine wc_text ?_
  refine wc_assign HF nS rfl rfl rfl (fun a HF => ?_)
  refine wc_end ?_
  refine then_n ?_
  refine wp_ret ?_
  obtain rfl := Option.some.inj h
  refine then_r (?_)
  refine bp_ret HF (res_one rfl HF rfl) ?_
  have HT := HT.t0
  exact ⟨rfl, HT⟩

def m_laws_eqRun (fuel : Nat) (x0_0 : Int) (x0_1 : List Int) (x0_2 : List Int) (x0_3 : List Int) (x0_4 : Int) (x1_0 : Int) (x1_1 : List Int) (x1_2 : List Int) (x1_3 : List Int) (x1_4 : Int) : Option Bool :=
  if x0_0 = x1_0 then
    (m_laws_eqIntS fuel x0_1 x1_1).bind fun y1 =>
    if y1 = true then
      (m_laws_eqThings fuel x0_2 x0_3 x0_4 x1_2 x1_3 x1_4).bind fun y2 =>
      if y2 = true then
        some true
      else
      some false
    else
    some false
  else
  some false

set_option maxRecDepth 100000 in
set_option maxHeartbeats 4000000 in
theorem w_laws_eqRun (fuel : Nat) {x0_0 : Int} {x0_1 : List Int} {x0_2 : List Int} {x0_3 : List Int} {x0_4 : Int} {x1_0 : Int} {x1_1 : List Int} {x1_2 : List Int} {x1_3 : List Int} {x1_4 : Int} {a_x0_1 : Option Addr} {n_x0_1 c_x0_1 : Nat} {a_x0_2 : Option Addr} {n_x0_2 c_x0_2 : Nat} {a_x0_3 : Option Addr} {n_x0_3 c_x0_3 : Nat} {a_x1_1 : Option Addr} {n_x1_1 c_x1_1 : Nat} {a_x1_2 : Option Addr} {n_x1_2 c_x1_2 : Nat} {a_x1_3 : Option Addr} {n_x1_3 c_x1_3 : Nat} {r0 : Bool} {w0 : World} (h : m_laws_eqRun fuel x0_0 x0_1 x0_2 x0_3 x0_4 x1_0 x1_1 x1_2 x1_3 x1_4 = some r0) (hr_x0_1 : RdT (fun b => ¬ False) w0 (rowT x0_1) (.slice a_x0_1 n_x0_1 c_x0_1)) (hr_x0_2 : RdT (fun b => ¬ False) w0 (rowT x0_2) (.slice a_x0_2 n_x0_2 c_x0_2)) (hr_x0_3 : RdT (fun b => ¬ False) w0 (rowT x0_3) (.slice a_x0_3 n_x0_3 c_x0_3)) (hr_x1_1 : RdT (fun b => ¬ False) w0 (rowT x1_1) (.slice a_x1_1 n_x1_1 c_x1_1)) (hr_x1_2 : RdT (fun b => ¬ False) w0 (rowT x1_2) (.slice a_x1_2 n_x1_2 c_x1_2)) (hr_x1_3 : RdT (fun b => ¬ False) w0 (rowT x1_3) (.slice a_x1_3 n_x1_3 c_x1_3)) :
    Calls Try.prog 31 #[.agg #[.int .i64 x0_0, .slice a_x0_1 n_x0_1 c_x0_1, .slice a_x0_2 n_x0_2 c_x0_2, .slice a_x0_3 n_x0_3 c_x0_3, .int .i64 x0_4], .agg #[.int .i64 x1_0, .slice a_x1_1 n_x1_1 c_x1_1, .slice a_x1_2 n_x1_2 c_x1_2, .slice a_x1_3 n_x1_3 c_x1_3, .int .i64 x1_4]] w0 fun e w => e = .returned (.bool r0) ∧ St w0 (fun _ => False) w [] := by
  obtain rfl := hr_x0_1.neq
  obtain rfl := hr_x0_2.neq
  obtain rfl := hr_x0_3.neq
  obtain rfl := hr_x1_1.neq
  obtain rfl := hr_x1_2.neq
  obtain rfl := hr_x1_3.neq
  have HT : St w0 (fun _ => False) w0 [] := St.init0
  rw [m_laws_eqRun] at h
  refine calls_fr (n := 22) [.agg #[.int .i64 x0_0, .slice a_x0_1 x0_1.length c_x0_1, .slice a_x0_2 x0_2.length c_x0_2, .slice a_x0_3 x0_3.length c_x0_3, .int .i64 x0_4], .agg #[.int .i64 x1_0, .slice a_x1_1 x1_1.length c_x1_1, .slice a_x1_2 x1_2.length c_x1_2, .slice a_x1_3 x1_3.length c_x1_3, .int .i64 x1_4]] Try.func31 rfl rfl rfl (fun a HF => ?_)
  have HT : St w0 (fun _ => False) w0 [] := HT
  refine wp_seq ?_
  refine wc_text ?_
  refine wc_box (cs := [.int .i64 x0_0, .slice a_x0_1 x0_1.length c_x0_1, .slice a_x0_2 x0_2.length c_x0_2, .slice a_x0_3 x0_3.length c_x0_3, .int .i64 x0_4]) HF HT rfl rfl rfl rfl (fun p1 w HT hb => ⟨nS, fun a HF => ?_⟩)
  refine wc_box (cs := [.int .i64 x1_0, .slice a_x1_1 x1_1.length c_x1_1, .slice a_x1_2 x1_2.length c_x1_2, .slice a_x1_3 x1_3.length c_x1_3, .int .i64 x1_4]) HF HT rfl rfl rfl rfl (fun p2 w HT hb => ⟨nS, fun a HF => ?_⟩)
  refine wc_assign HF nS rfl rfl rfl (fun a HF => ?_)
  refine wc_end ?_
  refine then_n ?_
  refine wp_seq ?_
  refine wp_seq ?_
  refine wc_text ?_
  refine wc_faddr HF nS rfl fl49_0 rfl rfl (fun a HF => ?_)
  refine wc_load HF rfl sc3 ((HT.boxAt 1 rfl).get 0 rfl) rfl rfl (fun a HF => ?_)
  refine wc_faddr HF nS rfl fl49_0 rfl rfl (fun a HF => ?_)
  refine wc_load HF rfl sc3 ((HT.boxAt 0 rfl).get 0 rfl) rfl rfl (fun a HF => ?_)
  refine wc_bin HF nS rfl rfl b_ne rfl rfl (fun a HF => ?_)
  refine wc_end ?_
  refine then_n ?_
  by_cases hb1 : x0_0 = x1_0
  have h := (if_pos hb1).symm.trans h
  refine wp_if (b' := false) HF rfl (notT (decide_eq_true hb1)) ?_
  refine wp_skip ?_
  refine then_n ?_
  refine wp_seq ?_
  refine wp_seq ?_
  refine wc_text ?_
  refine wc_faddr HF nS rfl fl49_1 rfl rfl (fun a HF => ?_)
  refine wc_load HF rfl sc22 ((HT.boxAt 1 rfl).get 1 rfl) rfl rfl (fun a HF => ?_)
  refine wc_faddr HF nS rfl fl49_1 rfl rfl (fun a HF => ?_)
  refine wc_load HF rfl sc22 ((HT.boxAt 0 rfl).get 1 rfl) rfl rfl (fun a HF => ?_)
  obtain ⟨y1, hx1, h⟩ := obs h
  refine wc_call HF cf22 rfl (w_laws_eqIntS fuel hx1 (HT.ro hr_x0_1).any (HT.ro hr_x1_1).any) rfl rfl ?_
  rintro e w ⟨rfl, hE⟩
  have hb := hE.below
  have HT := HT.pure hE
  have HT : St w0 (fun _ => False) w [Box p2 [.int .i64 x1_0, .slice a_x1_1 x1_1.length c_x1_1, .slice a_x1_2 x1_2.length c_x1_2, .slice a_x1_3 x1_3.length c_x1_3, .int .i64 x1_4], Box p1 [.int .i64 x0_0, .slice a_x0_1 x0_1.length c_x0_1, .slice a_x0_2 x0_2.length c_x0_2, .slice a_x0_3 x0_3.length c_x0_3, .int .i64 x0_4]] := HT
  refine ⟨_, rfl, nS, fun a HF => ?_⟩
  refine wc_not HF nS rfl rfl rfl (fun a HF => ?_)
  refine wc_end ?_
  refine then_n ?_
  by_cases hb2 : y1 = true
  have h := (if_pos hb2).symm.trans h
  refine wp_if (b' := false) HF rfl (notT hb2) ?_
  refine wp_skip ?_
  refine then_n ?_
  refine wp_seq ?_
  refine wp_seq ?_
  refine wc_text ?_
  refine wc_faddr HF nS rfl fl49_2 rfl rfl (fun a HF => ?_)
  refine wc_loadA (vs := [.slice a_x0_2 x0_2.length c_x0_2, .slice a_x0_3 x0_3.length c_x0_3, .int .i64 x0_4]) HF rfl ag27 rfl ((HT.boxAt 1 rfl).part 2 3) rfl rfl (fun a HF => ?_)
  refine wc_faddr HF nS rfl fl49_2 rfl rfl (fun a HF => ?_)
  refine wc_loadA (vs := [.slice a_x1_2 x1_2.length c_x1_2, .slice a_x1_3 x1_3.length c_x1_3, .int .i64 x1_4]) HF rfl ag27 rfl ((HT.boxAt 0 rfl).part 2 3) rfl rfl (fun a HF => ?_)
  obtain ⟨y2, hx2, h⟩ := obs h
  refine wc_call HF cf14 rfl (w_laws_eqThings fuel hx2 (HT.ro hr_x0_2).any (HT.ro hr_x0_3).any (HT.ro hr_x1_2).any (HT.ro hr_x1_3).any) rfl rfl ?_
  rintro e w ⟨rfl, hE⟩
  have hb := hE.below
  have HT := HT.pure hE
  have HT : St w0 (fun _ => False) w [Box p2 [.int .i64 x1_0, .slice a_x1_1 x1_1.length c_x1_1, .slice a_x1_2 x1_2.length c_x1_2, .slice a_x1_3 x1_3.length c_x1_3, .int .i64 x1_4], Box p1 [.int .i64 x0_0, .slice a_x0_1 x0_1.length c_x0_1, .slice a_x0_2 x0_2.length c_x0_2, .slice a_x0_3 x0_3.length c_x0_3, .int .i64 x0_4]] := HT
  refine ⟨_, rfl, nS, fun a HF => ?_⟩
  refine wc_not HF nS rfl rfl rfl (fun a HF => ?_)
  refine wc_end ?_
  refine then_n ?_
  by_cases hb3 : y2 = true
  have h := (if_pos hb3).symm.trans h
  refine wp_if (b' := false) HF rfl (notT hb3) ?_
  refine wp_skip ?_
  refine then_n ?_
  refine wp_seq ?_
  refine wc_text ?_
  refine wc_assign HF nS rfl rfl rfl (fun a HF => ?_)
  refine wc_end ?_
  refine then_n ?_
  refine wp_ret ?_
  obtain rfl := Option.some.inj h
  refine bp_ret HF (res_one rfl HF rfl) ?_
  have HT := HT.t0
  exact ⟨rfl, HT⟩
  have h := (if_neg hb3).symm.trans h
  refine wp_if (b' := true) HF rfl (notF (Bool.eq_false_iff.2 hb3)) ?_
  refine wp_seq ?_
  refine wc_text ?_
  refine wc_assign HF nS rfl rfl rfl (fun a HF => ?_)
  refine wc_end ?_
  refine then_n ?_
  refine wp_ret ?_
  obtain rfl := Option.some.inj h
  refine then_r (?_)
  refine bp_ret HF (res_one rfl HF rfl) ?_
  have HT := HT.t0
  exact ⟨rfl, HT⟩
  have h := (if_neg hb2).symm.trans h
  refine wp_if (b' := true) HF rfl (notF (Bool.eq_false_iff.2 hb2)) ?_
  refine wp_seq ?_
  refine wc_text ?_
  refine wc_assign HF nS rfl rfl rfl (fun a HF => ?_)
  refine wc_end ?_
  refine then_n ?_
  refine wp_ret ?_
  obtain rfl := Option.some.inj h
  refine then_r (?_)
  refine bp_ret HF (res_one rfl HF rfl) ?_
  have HT := HT.t0
  exact ⟨rfl, HT⟩
  have h := (if_neg hb1).symm.trans h
  refine wp_if (b' := true) HF rfl (notF (decide_eq_false hb1)) ?_
  refine wp_seq ?_
  refine wc_text ?_
  refine wc_assign HF nS rfl rfl rfl (fun a HF => ?_)
  refine wc_end ?_
  refine then_n ?_
  refine wp_ret ?_
  obtain rfl := Option.some.inj h
  refine then_r (?_)
  refine bp_ret HF (res_one rfl HF rfl) ?_
  have HT := HT.t0
  exact ⟨rfl, HT⟩

def m_laws_heldThings (fuel : Nat) (x0_0 : List Int) (x0_1 : List Int) (x0_2 : Int) (x1 : Int) : Option Int :=
  (m_laws_heldIntS fuel x0_0 x1).bind fun y1 =>
  if y1 < 0 then
    some (-1)
  else
  (m_laws_heldIntS fuel x0_1 y1).bind fun y2 =>
  if y2 < 0 then
    some (-1)
  else
  some y2

set_option maxRecDepth 100000 in
set_option maxHeartbeats 4000000 in
theorem w_laws_heldThings (fuel : Nat) {x0_0 : List Int} {x0_1 : List Int} {x0_2 : Int} {x1 : Int} {a_x0_0 : Option Addr} {n_x0_0 c_x0_0 : Nat} {a_x0_1 : Option Addr} {n_x0_1 c_x0_1 : Nat} {r0 : Int} {w0 : World} (h : m_laws_heldThings fuel x0_0 x0_1 x0_2 x1 = some r0) (hr_x0_0 : RdT (fun b => ¬ False) w0 (rowT x0_0) (.slice a_x0_0 n_x0_0 c_x0_0)) (hr_x0_1 : RdT (fun b => ¬ False) w0 (rowT x0_1) (.slice a_x0_1 n_x0_1 c_x0_1)) :
    Calls Try.prog 50 #[.agg #[.slice a_x0_0 n_x0_0 c_x0_0, .slice a_x0_1 n_x0_1 c_x0_1, .int .i64 x0_2], .int .i64 x1] w0 fun e w => e = .returned (.int .i64 r0) ∧ St w0 (fun _ => False) w [] := by
  obtain rfl := hr_x0_0.neq
  obtain rfl := hr_x0_1.neq
  have HT : St w0 (fun _ => False) w0 [] := St.init0
  rw [m_laws_heldThings] at h
  refine calls_fr (n := 18) [.agg #[.slice a_x0_0 x0_0.length c_x0_0, .slice a_x0_1 x0_1.length c_x0_1, .int .i64 x0_2], .int .i64 x1] Try.func50 rfl rfl rfl (fun a HF => ?_)
  have HT : St w0 (fun _ => False) w0 [] := HT
  refine wp_seq ?_
  refine wc_text ?_
  refine wc_box (cs := [.slice a_x0_0 x0_0.length c_x0_0, .slice a_x0_1 x0_1.length c_x0_1, .int .i64 x0_2]) HF HT rfl rfl rfl rfl (fun p1 w HT hb => ⟨nS, fun a HF => ?_⟩)
  refine wc_assign HF nS rfl rfl rfl (fun a HF => ?_)
  refine wc_end ?_
  refine then_n ?_
  refine wp_seq ?_
  refine wc_text ?_
  refine wc_faddr HF nS rfl fl27_0 rfl rfl (fun a HF => ?_)
  refine wc_load HF rfl sc22 ((HT.boxAt 0 rfl).get 0 rfl) rfl rfl (fun a HF => ?_)
  refine wc_move HF nS rfl rfl rfl (fun a HF => ?_)
  obtain ⟨y1, hx1, h⟩ := obs h
  refine wc_call HF cf26 rfl (w_laws_heldIntS fuel hx1 (HT.ro hr_x0_0).any) rfl rfl ?_
  rintro e w ⟨rfl, hE⟩
  have hb := hE.below
  have HT := HT.pure hE
  have HT : St w0 (fun _ => False) w [Box p1 [.slice a_x0_0 x0_0.length c_x0_0, .slice a_x0_1 x0_1.length c_x0_1, .int .i64 x0_2]] := HT
  refine ⟨_, rfl, nS, fun a HF => ?_⟩
  refine wc_assign HF nS rfl rfl rfl (fun a HF => ?_)
  refine wc_end ?_
  refine then_n ?_
  refine wp_seq ?_
  refine wp_seq ?_
  refine wc_text ?_
  refine wc_move HF nS rfl rfl rfl (fun a HF => ?_)
  refine wc_bin HF nS rfl rfl b_lt rfl rfl (fun a HF => ?_)
  refine wc_end ?_
  refine then_n ?_
  by_cases hb1 : y1 < 0
  have h := (if_pos hb1).symm.trans h
  refine wp_if (b' := true) HF rfl (decide_eq_true hb1) ?_
  refine wp_seq ?_
  refine wc_text ?_
  refine wc_assign HF nS rfl rfl rfl (fun a HF => ?_)
  refine wc_end ?_
  refine then_n ?_
  refine wp_ret ?_
  obtain rfl := Option.some.inj h
  refine then_r (?_)
  refine bp_ret HF (res_one rfl HF rfl) ?_
  have HT := HT.t0
  exact ⟨rfl, HT⟩
  have h := (if_neg hb1).symm.trans h
  refine wp_if (b' := false) HF rfl (decide_eq_false hb1) ?_
  refine wp_skip ?_
  refine then_n ?_
  refine wp_seq ?_
  refine wc_text ?_
  refine wc_faddr HF nS rfl fl27_1 rfl rfl (fun a HF => ?_)
  refine wc_load HF rfl sc22 ((HT.boxAt 0 rfl).get 1 rfl) rfl rfl (fun a HF => ?_)
  refine wc_move HF nS rfl rfl rfl (fun a HF => ?_)
  obtain ⟨y2, hx2, h⟩ := obs h
  refine wc_call HF cf26 rfl (w_laws_heldIntS fuel hx2 (HT.ro hr_x0_1).any) rfl rfl ?_
  rintro e w ⟨rfl, hE⟩
  have hb := hE.below
  have HT := HT.pure hE
  have HT : St w0 (fun _ => False) w [Box p1 [.slice a_x0_0 x0_0.length c_x0_0, .slice a_x0_1 x0_1.length c_x0_1, .int .i64 x0_2]] := HT
  refine ⟨_, rfl, nS, fun a HF => ?_⟩
  refine wc_assign HF nS rfl rfl rfl (fun a HF => ?_)
  refine wc_end ?_
  refine then_n ?_
  refine wp_seq ?_
  refine wp_seq ?_
  refine wc_text ?_
  refine wc_move HF nS rfl rfl rfl (fun a HF => ?_)
  refine wc_bin HF nS rfl rfl b_lt rfl rfl (fun a HF => ?_)
  refine wc_end ?_
  refine then_n ?_
  by_cases hb2 : y2 < 0
  have h := (if_pos hb2).symm.trans h
  refine wp_if (b' := true) HF rfl (decide_eq_true hb2) ?_
  refine wp_seq ?_
  refine wc_text ?_
  refine wc_assign HF nS rfl rfl rfl (fun a HF => ?_)
  refine wc_end ?_
  refine then_n ?_
  refine wp_ret ?_
  obtain rfl := Option.some.inj h
  refine then_r (?_)
  refine bp_ret HF (res_one rfl HF rfl) ?_
  have HT := HT.t0
  exact ⟨rfl, HT⟩
  have h := (if_neg hb2).symm.trans h
  refine wp_if (b' := false) HF rfl (decide_eq_false hb2) ?_
  refine wp_skip ?_
  refine then_n ?_
  refine wp_seq ?_
  refine wc_text ?_
  refine wc_move HF nS rfl rfl rfl (fun a HF => ?_)
  refine wc_assign HF nS rfl rfl rfl (fun a HF => ?_)
  refine wc_end ?_
  refine then_n ?_
  refine wp_ret ?_
  obtain rfl := Option.some.inj h
  refine bp_ret HF (res_one rfl HF rfl) ?_
  have HT := HT.t0
  exact ⟨rfl, HT⟩

def m_laws_heldRun (fuel : Nat) (x0_0 : Int) (x0_1 : List Int) (x0_2 : List Int) (x0_3 : List Int) (x0_4 : Int) (x1 : Int) : Option Int :=
  (m_laws_heldIntS fuel x0_1 x1).bind fun y1 =>
  if y1 < 0 then
    some (-1)
  else
  (m_laws_heldThings fuel x0_2 x0_3 x0_4 y1).bind fun y2 =>
  if y2 < 0 then
    some (-1)
  else
  some y2

set_option maxRecDepth 100000 in
set_option maxHeartbeats 4000000 in
theorem w_laws_heldRun (fuel : Nat) {x0_0 : Int} {x0_1 : List Int} {x0_2 : List Int} {x0_3 : List Int} {x0_4 : Int} {x1 : Int} {a_x0_1 : Option Addr} {n_x0_1 c_x0_1 : Nat} {a_x0_2 : Option Addr} {n_x0_2 c_x0_2 : Nat} {a_x0_3 : Option Addr} {n_x0_3 c_x0_3 : Nat} {r0 : Int} {w0 : World} (h : m_laws_heldRun fuel x0_0 x0_1 x0_2 x0_3 x0_4 x1 = some r0) (hr_x0_1 : RdT (fun b => ¬ False) w0 (rowT x0_1) (.slice a_x0_1 n_x0_1 c_x0_1)) (hr_x0_2 : RdT (fun b => ¬ False) w0 (rowT x0_2) (.slice a_x0_2 n_x0_2 c_x0_2)) (hr_x0_3 : RdT (fun b => ¬ False) w0 (rowT x0_3) (.slice a_x0_3 n_x0_3 c_x0_3)) :
    Calls Try.prog 36 #[.agg #[.int .i64 x0_0, .slice a_x0_1 n_x0_1 c_x0_1, .slice a_x0_2 n_x0_2 c_x0_2, .slice a_x0_3 n_x0_3 c_x0_3, .int .i64 x0_4], .int .i64 x1] w0 fun e w => e = .returned (.int .i64 r0) ∧ St w0 (fun _ => False) w [] := by
  obtain rfl := hr_x0_1.neq
  obtain rfl := hr_x0_2.neq
  obtain rfl := hr_x0_3.neq
  have HT : St w0 (fun _ => False) w0 [] := St.init0
  rw [m_laws_heldRun] at h
  refine calls_fr (n := 18) [.agg #[.int .i64 x0_0, .slice a_x0_1 x0_1.length c_x0_1, .slice a_x0_2 x0_2.length c_x0_2, .slice a_x0_3 x0_3.length c_x0_3, .int .i64 x0_4], .int .i64 x1] Try.func36 rfl rfl rfl (fun a HF => ?_)
  have HT : St w0 (fun _ => False) w0 [] := HT
  refine wp_seq ?_
  refine wc_text ?_
  refine wc_box (cs := [.int .i64 x0_0, .slice a_x0_1 x0_1.length c_x0_1, .slice a_x0_2 x0_2.length c_x0_2, .slice a_x0_3 x0_3.length c_x0_3, .int .i64 x0_4]) HF HT rfl rfl rfl rfl (fun p1 w HT hb => ⟨nS, fun a HF => ?_⟩)
  refine wc_assign HF nS rfl rfl rfl (fun a HF => ?_)
  refine wc_end ?_
  refine then_n ?_
  refine wp_seq ?_
  refine wc_text ?_
  refine wc_faddr HF nS rfl fl49_1 rfl rfl (fun a HF => ?_)
  refine wc_load HF rfl sc22 ((HT.boxAt 0 rfl).get 1 rfl) rfl rfl (fun a HF => ?_)
  refine wc_move HF nS rfl rfl rfl (fun a HF => ?_)
  obtain ⟨y1, hx1, h⟩ := obs h
  refine wc_call HF cf26 rfl (w_laws_heldIntS fuel hx1 (HT.ro hr_x0_1).any) rfl rfl ?_
  rintro e w ⟨rfl, hE⟩
  have hb := hE.below
  have HT := HT.pure hE
  have HT : St w0 (fun _ => False) w [Box p1 [.int .i64 x0_0, .slice a_x0_1 x0_1.length c_x0_1, .slice a_x0_2 x0_2.length c_x0_2, .slice a_x0_3 x0_3.length c_x0_3, .int .i64 x0_4]] := HT
  refine ⟨_, rfl, nS, fun a HF => ?_⟩
  refine wc_assign HF nS rfl rfl rfl (fun a HF => ?_)
  refine wc_end ?_
  refine then_n ?_
  refine wp_seq ?_
  refine wp_seq ?_
  refine wc_text ?_
  refine wc_move HF nS rfl rfl rfl (fun a HF => ?_)
  refine wc_bin HF nS rfl rfl b_lt rfl rfl (fun a HF => ?_)
  refine wc_end ?_
  refine then_n ?_
  by_cases hb1 : y1 < 0
  have h := (if_pos hb1).symm.trans h
  refine wp_if (b' := true) HF rfl (decide_eq_true hb1) ?_
  refine wp_seq ?_
  refine wc_text ?_
  refine wc_assign HF nS rfl rfl rfl (fun a HF => ?_)
  refine wc_end ?_
  refine then_n ?_
  refine wp_ret ?_
  obtain rfl := Option.some.inj h
  refine then_r (?_)
  refine bp_ret HF (res_one rfl HF rfl) ?_
  have HT := HT.t0
  exact ⟨rfl, HT⟩
  have h := (if_neg hb1).symm.trans h
  refine wp_if (b' := false) HF rfl (decide_eq_false hb1) ?_
  refine wp_skip ?_
  refine then_n ?_
  refine wp_seq ?_
  refine wc_text ?_
  refine wc_faddr HF nS rfl fl49_2 rfl rfl (fun a HF => ?_)
  refine wc_loadA (vs := [.slice a_x0_2 x0_2.length c_x0_2, .slice a_x0_3 x0_3.length c_x0_3, .int .i64 x0_4]) HF rfl ag27 rfl ((HT.boxAt 0 rfl).part 2 3) rfl rfl (fun a HF => ?_)
  refine wc_move HF nS rfl rfl rfl (fun a HF => ?_)
  obtain ⟨y2, hx2, h⟩ := obs h
  refine wc_call HF cf50 rfl (w_laws_heldThings fuel hx2 (HT.ro hr_x0_2).any (HT.ro hr_x0_3).any) rfl rfl ?_
  rintro e w ⟨rfl, hE⟩
  have hb := hE.below
  have HT := HT.pure hE
  have HT : St w0 (fun _ => False) w [Box p1 [.int .i64 x0_0, .slice a_x0_1 x0_1.length c_x0_1, .slice a_x0_2 x0_2.length c_x0_2, .slice a_x0_3 x0_3.length c_x0_3, .int .i64 x0_4]] := HT
  refine ⟨_, rfl, nS, fun a HF => ?_⟩
  refine wc_assign HF nS rfl rfl rfl (fun a HF => ?_)
  refine wc_end ?_
  refine then_n ?_
  refine wp_seq ?_
  refine wp_seq ?_
  refine wc_text ?_
  refine wc_move HF nS rfl rfl rfl (fun a HF => ?_)
  refine wc_bin HF nS rfl rfl b_lt rfl rfl (fun a HF => ?_)
  refine wc_end ?_
  refine then_n ?_
  by_cases hb2 : y2 < 0
  have h := (if_pos hb2).symm.trans h
  refine wp_if (b' := true) HF rfl (decide_eq_true hb2) ?_
  refine wp_seq ?_
  refine wc_text ?_
  refine wc_assign HF nS rfl rfl rfl (fun a HF => ?_)
  refine wc_end ?_
  refine then_n ?_
  refine wp_ret ?_
  obtain rfl := Option.some.inj h
  refine then_r (?_)
  refine bp_ret HF (res_one rfl HF rfl) ?_
  have HT := HT.t0
  exact ⟨rfl, HT⟩
  have h := (if_neg hb2).symm.trans h
  refine wp_if (b' := false) HF rfl (decide_eq_false hb2) ?_
  refine wp_skip ?_
  refine then_n ?_
  refine wp_seq ?_
  refine wc_text ?_
  refine wc_move HF nS rfl rfl rfl (fun a HF => ?_)
  refine wc_assign HF nS rfl rfl rfl (fun a HF => ?_)
  refine wc_end ?_
  refine then_n ?_
  refine wp_ret ?_
  obtain rfl := Option.some.inj h
  refine bp_ret HF (res_one rfl HF rfl) ?_
  have HT := HT.t0
  exact ⟨rfl, HT⟩

def m_laws_markKidS_L0 (fuel : Nat) (x0 : List KidD) : Nat → (List KidD) → Int → Int → Option (Int × List KidD)
  | 0, _, _, _ => none
  | k1 + 1, z3, z4, z5 =>
    if z5 < (x0.length : Int) then
      (at? z3 z5).bind fun e1 =>
      bind2 (m_laws_markOpS fuel e1.code z4) fun y1 y2 =>
      if in64 (z5 + 1) then
        m_laws_markKidS_L0 fuel x0 k1 (z3.set (z5 : Int).toNat (⟨y2⟩ : KidD)) y1 (z5 + 1)
      else none
    else
    some (z4, z3)

def m_laws_markKidS (fuel : Nat) (x0 : List KidD) (x1 : Int) : Option (Int × List KidD) :=
  bind2 (m_laws_markKidS_L0 fuel x0 fuel x0 x1 0) fun z1 z2 =>
  some (z1, z2)

set_option maxRecDepth 100000 in
set_option maxHeartbeats 4000000 in
theorem w_laws_markKidS (fuel : Nat) {x0 : List KidD} {x1 : Int} {a_x0 : Option Addr} {n_x0 c_x0 : Nat} {r0 : Int} {x0' : List KidD} {F : Foot} {w0 : World} (h : m_laws_markKidS fuel x0 x1 = some (r0, x0')) (hA : StF w0 F [OwnA (rowT x0) (.slice a_x0 n_x0 c_x0)]) :
    Calls Try.prog 78 #[.slice a_x0 n_x0 c_x0, .int .i64 x1] w0 fun e w => e = .returned (.int .i64 r0) ∧ St w0 F w [OwnA (rowT x0') (.slice a_x0 n_x0 c_x0)] := by
  have HT0 := St.init hA
  obtain rfl := (HT0.rdAAt 0 rfl).neq
  have HT : St w0 F w0 [OwnA (rowT x0) (.slice a_x0 x0.length c_x0)] := St.init hA
  rw [m_laws_markKidS] at h
  refine calls_fr (n := 20) [.slice a_x0 x0.length c_x0, .int .i64 x1] Try.func78 rfl rfl rfl (fun a HF => ?_)
  have HT : St w0 F w0 [OwnA (rowT x0) (.slice a_x0 x0.length c_x0)] := HT
  refine wp_seq ?_
  refine wc_text ?_
  refine wc_assign HF nS rfl rfl rfl (fun a HF => ?_)
  refine wc_end ?_
  refine then_n ?_
  obtain ⟨z1, z2, hx1, h⟩ := obs2 h
  refine wp_cut (fun a w => Fr a 20 [(1, .int .i64 z1)] ∧ St w0 F w [OwnA (rowT z2) (.slice a_x0 x0.length c_x0)]) ?_ ?_
  have hk1 := h
  have h := hx1
  refine wp_seq ?_
  refine wc_text ?_
  refine wc_assign HF nS rfl rfl rfl (fun a HF => ?_)
  refine wc_end ?_
  refine then_n ?_
  refine wp_block ?_
  refine wp_loopN (fun k1 a w => ∃ z3 z4 z5, m_laws_markKidS_L0 fuel x0 k1 z3 z4 z5 = some (z1, z2) ∧ Fr a 20 [(0, .slice a_x0 x0.length c_x0), (1, .int .i64 z4), (5, .int .i64 z5)] ∧ St w0 F w [OwnA (rowT z3) (.slice a_x0 x0.length c_x0)]) fuel ⟨x0, x1, 0, h, (HF.keep (HF.keep (HF.keep HF.nil rfl) rfl) rfl), HT⟩ ?_
  rintro k1 a w ⟨z3, z4, z5, h, HF, HT⟩
  rcases k1 with _ | k1
  cases h
  rw [m_laws_markKidS_L0] at h
  refine ?_
  refine wp_seq ?_
  refine wp_seq ?_
  refine wc_text ?_
  refine wc_move HF nS rfl rfl rfl (fun a HF => ?_)
  refine wc_move HF nS rfl rfl rfl (fun a HF => ?_)
  refine wc_lenR HF nS Try.underlying51 rfl rfl rfl (fun a HF => ?_)
  refine wc_bin HF nS rfl rfl b_lt rfl rfl (fun a HF => ?_)
  refine wc_end ?_
  refine then_n ?_
  by_cases hb1 : z5 < (x0.length : Int)
  have h := (if_pos hb1).symm.trans h
  refine wp_if (b' := true) HF rfl (decide_eq_true hb1) ?_
  refine wp_skip ?_
  refine then_n ?_
  refine wp_seq ?_
  refine wp_block ?_
  refine wc_text ?_
  refine wc_move HF nS rfl rfl rfl (fun a HF => ?_)
  refine wc_move HF nS rfl rfl rfl (fun a HF => ?_)
  obtain ⟨e1, hx2, h⟩ := obs h
  obtain ⟨b1, o1, ha1⟩ := (HT.rdAAt 0 rfl).addr hx2
  refine wc_ixaddr HF nS el51 rfl ha1 ((HT.rdAAt 0 rfl)).neq rfl hx2 rfl rfl (fun a HF => ?_)
  refine wc_faddr HF nS rfl fl127_0 rfl rfl (fun a HF => ?_)
  have hq1 := ((HT.rdAAt 0 rfl)).neq
  obtain ⟨us1, HT⟩ := HT.focusA hx2
  obtain ⟨a1, c1, rfl, HT⟩ := HT.pieces_Kid
  have HT : St w0 F w [OwnA (rowT e1.code) (.slice a1 e1.code.length c1), HoleR none z3 (z5 : Int).toNat (.slice a_x0 x0.length c_x0) [.slice a1 e1.code.length c1]] := HT
  have hc1 := HT.holeAt 1 rfl ha1
  refine wc_load HF rfl sc36 (hc1.get 0 rfl) rfl rfl (fun a HF => ?_)
  refine wc_move HF nS rfl rfl rfl (fun a HF => ?_)
  obtain ⟨y1, y2, hx3, h⟩ := obs2 h
  obtain ⟨F1, hAF1, hFF1, hbackF1, hroF1, hownF1, hownAF1⟩ := St.handR2 (A := [OwnA (rowT e1.code) (.slice a1 e1.code.length c1)]) HT
  refine wc_call HF cf24 rfl (w_laws_markOpS fuel hx3 hAF1) rfl rfl ?_
  rintro e w ⟨rfl, hE⟩
  have HT := hbackF1 _ _ hE
  have HT : St w0 F w [OwnA (rowT y2) (.slice a1 e1.code.length c1), HoleR none z3 (z5 : Int).toNat (.slice a_x0 x0.length c_x0) [.slice a1 e1.code.length c1]] := HT
  refine ⟨_, rfl, nS, fun a HF => ?_⟩
  refine wc_assign HF nS rfl rfl rfl (fun a HF => ?_)
  refine wc_end ?_
  refine blk_n ?_
  refine then_n ?_
  refine wc_text ?_
  refine wc_move HF nS rfl rfl rfl (fun a HF => ?_)
  obtain ⟨hg1, h⟩ := grd h
  refine wc_bin HF nS rfl rfl (b_add hg1) rfl rfl (fun a HF => ?_)
  refine wc_assign HF nS rfl rfl rfl (fun a HF => ?_)
  refine wc_end ?_
  have HT := HT.p1
  have HT := St.unfocusA (x' := (⟨y2⟩ : KidD)) (A := [OwnA (rowT y2) (.slice a1 e1.code.length c1)]) HT (gives_ownA gives_nil)
  have HT : St w0 F w [OwnA (rowT (z3.set (z5 : Int).toNat (⟨y2⟩ : KidD))) (.slice a_x0 x0.length c_x0)] := HT
  exact then_n ⟨k1, Nat.lt_succ_self k1, z3.set (z5 : Int).toNat (⟨y2⟩ : KidD), y1, z5 + 1, h, (HF.keep (HF.keep (HF.keep HF.nil rfl) rfl) rfl), HT⟩
  have h := (if_neg hb1).symm.trans h
  refine wp_if (b' := false) HF rfl (decide_eq_false hb1) ?_
  refine wp_exit ?_
  refine then_x (then_x (?_))
  refine blk_x ?_
  have hj1 := Option.some.inj h
  obtain ⟨hi1, hj2⟩ := Prod.mk.inj hj1
  subst hi1
  subst hj2
  exact then_n ⟨(HF.keep HF.nil rfl), HT⟩
  rintro a w ⟨HF, HT⟩
  refine ?_
  refine wp_seq ?_
  refine wc_text ?_
  refine wc_move HF nS rfl rfl rfl (fun a HF => ?_)
  refine wc_assign HF nS rfl rfl rfl (fun a HF => ?_)
  refine wc_end ?_
  refine then_n ?_
  refine wp_ret ?_
  have hj3 := Option.some.inj h
  obtain ⟨hi3, hj4⟩ := Prod.mk.inj hj3
  subst hi3
  subst hj4
  refine bp_ret HF (res_one rfl HF rfl) ?_
  exact ⟨rfl, HT⟩

def m_laws_markProg (fuel : Nat) (x0_0 : List I4) (x0_1 : List KidD) (x1 : Int) : Option (Int × List I4 × List KidD) :=
  bind2 (m_laws_markOpS fuel x0_0 x1) fun y1 y2 =>
  bind2 (m_laws_markKidS fuel x0_1 y1) fun y3 y4 =>
  some (y3, y2, y4)

set_option maxRecDepth 100000 in
set_option maxHeartbeats 4000000 in
theorem w_laws_markProg (fuel : Nat) {x0_0 : List I4} {x0_1 : List KidD} {x1 : Int} {a_x0_0 : Option Addr} {n_x0_0 c_x0_0 : Nat} {a_x0_1 : Option Addr} {n_x0_1 c_x0_1 : Nat} {r0 : Int} {x0_0' : List I4} {x0_1' : List KidD} {F : Foot} {w0 : World} (h : m_laws_markProg fuel x0_0 x0_1 x1 = some (r0, x0_0', x0_1')) (hA : StF w0 F [OwnA (rowT x0_0) (.slice a_x0_0 n_x0_0 c_x0_0), OwnA (rowT x0_1) (.slice a_x0_1 n_x0_1 c_x0_1)]) :
    Calls Try.prog 33 #[.agg #[.slice a_x0_0 n_x0_0 c_x0_0, .slice a_x0_1 n_x0_1 c_x0_1], .int .i64 x1] w0 fun e w => e = .returned (.int .i64 r0) ∧ St w0 F w [OwnA (rowT x0_0') (.slice a_x0_0 n_x0_0 c_x0_0), OwnA (rowT x0_1') (.slice a_x0_1 n_x0_1 c_x0_1)] := by
  have HT0 := St.init hA
  obtain rfl := (HT0.rdAAt 0 rfl).neq
  obtain rfl := (HT0.rdAAt 1 rfl).neq
  have HT : St w0 F w0 [OwnA (rowT x0_0) (.slice a_x0_0 x0_0.length c_x0_0), OwnA (rowT x0_1) (.slice a_x0_1 x0_1.length c_x0_1)] := St.init hA
  rw [m_laws_markProg] at h
  refine calls_fr (n := 14) [.agg #[.slice a_x0_0 x0_0.length c_x0_0, .slice a_x0_1 x0_1.length c_x0_1], .int .i64 x1] Try.func33 rfl rfl rfl (fun a HF => ?_)
  have HT : St w0 F w0 [OwnA (rowT x0_0) (.slice a_x0_0 x0_0.length c_x0_0), OwnA (rowT x0_1) (.slice a_x0_1 x0_1.length c_x0_1)] := HT
  refine wp_seq ?_
  refine wc_text ?_
  refine wc_box (cs := [.slice a_x0_0 x0_0.length c_x0_0, .slice a_x0_1 x0_1.length c_x0_1]) HF HT rfl rfl rfl rfl (fun p1 w HT hb => ⟨nS, fun a HF => ?_⟩)
  refine wc_assign HF nS rfl rfl rfl (fun a HF => ?_)
  refine wc_end ?_
  refine then_n ?_
  refine wp_seq ?_
  refine wc_text ?_
  refine wc_faddr HF nS rfl fl53_0 rfl rfl (fun a HF => ?_)
  refine wc_load HF rfl sc36 ((HT.boxAt 0 rfl).get 0 rfl) rfl rfl (fun a HF => ?_)
  refine wc_move HF nS rfl rfl rfl (fun a HF => ?_)
  obtain ⟨y1, y2, hx1, h⟩ := obs2 h
  have HT := HT.p1
  obtain ⟨F1, hAF1, hFF1, hbackF1, hroF1, hownF1, hownAF1⟩ := St.handR2 (A := [OwnA (rowT x0_0) (.slice a_x0_0 x0_0.length c_x0_0)]) HT
  refine wc_call HF cf24 rfl (w_laws_markOpS fuel hx1 hAF1) rfl rfl ?_
  rintro e w ⟨rfl, hE⟩
  have HT := hbackF1 _ _ hE
  have HT : St w0 F w [OwnA (rowT y2) (.slice a_x0_0 x0_0.length c_x0_0), Box p1 [.slice a_x0_0 x0_0.length c_x0_0, .slice a_x0_1 x0_1.length c_x0_1], OwnA (rowT x0_1) (.slice a_x0_1 x0_1.length c_x0_1)] := HT
  refine ⟨_, rfl, nS, fun a HF => ?_⟩
  refine wc_assign HF nS rfl rfl rfl (fun a HF => ?_)
  refine wc_end ?_
  refine then_n ?_
  refine wp_seq ?_
  refine wc_text ?_
  refine wc_faddr HF nS rfl fl53_1 rfl rfl (fun a HF => ?_)
  refine wc_load HF rfl sc51 ((HT.boxAt 1 rfl).get 1 rfl) rfl rfl (fun a HF => ?_)
  refine wc_move HF nS rfl rfl rfl (fun a HF => ?_)
  obtain ⟨y3, y4, hx2, h⟩ := obs2 h
  have HT := HT.p2
  obtain ⟨F2, hAF2, hFF2, hbackF2, hroF2, hownF2, hownAF2⟩ := St.handR2 (A := [OwnA (rowT x0_1) (.slice a_x0_1 x0_1.length c_x0_1)]) HT
  refine wc_call HF cf78 rfl (w_laws_markKidS fuel hx2 hAF2) rfl rfl ?_
  rintro e w ⟨rfl, hE⟩
  have HT := hbackF2 _ _ hE
  have HT : St w0 F w [OwnA (rowT y4) (.slice a_x0_1 x0_1.length c_x0_1), OwnA (rowT y2) (.slice a_x0_0 x0_0.length c_x0_0), Box p1 [.slice a_x0_0 x0_0.length c_x0_0, .slice a_x0_1 x0_1.length c_x0_1]] := HT
  refine ⟨_, rfl, nS, fun a HF => ?_⟩
  refine wc_assign HF nS rfl rfl rfl (fun a HF => ?_)
  refine wc_end ?_
  refine then_n ?_
  refine wp_seq ?_
  refine wc_text ?_
  refine wc_move HF nS rfl rfl rfl (fun a HF => ?_)
  refine wc_assign HF nS rfl rfl rfl (fun a HF => ?_)
  refine wc_end ?_
  refine then_n ?_
  refine wp_ret ?_
  have hj1 := Option.some.inj h
  obtain ⟨hi1, hj2⟩ := Prod.mk.inj hj1
  subst hi1
  obtain ⟨hi2, hj3⟩ := Prod.mk.inj hj2
  subst hi2
  subst hj3
  refine bp_ret HF (res_one rfl HF rfl) ?_
  have HT := HT.p1.t2
  exact ⟨rfl, HT⟩

def m_laws_markThings (fuel : Nat) (x0_0 : List Int) (x0_1 : List Int) (x0_2 : Int) (x1 : Int) : Option (Int × List Int × List Int) :=
  bind2 (m_laws_markIntS fuel x0_0 x1) fun y1 y2 =>
  bind2 (m_laws_markIntS fuel x0_1 y1) fun y3 y4 =>
  some (y3, y2, y4)

set_option maxRecDepth 100000 in
set_option maxHeartbeats 4000000 in
theorem w_laws_markThings (fuel : Nat) {x0_0 : List Int} {x0_1 : List Int} {x0_2 : Int} {x1 : Int} {a_x0_0 : Option Addr} {n_x0_0 c_x0_0 : Nat} {a_x0_1 : Option Addr} {n_x0_1 c_x0_1 : Nat} {r0 : Int} {x0_0' : List Int} {x0_1' : List Int} {F : Foot} {w0 : World} (h : m_laws_markThings fuel x0_0 x0_1 x0_2 x1 = some (r0, x0_0', x0_1')) (hA : StF w0 F [OwnA (rowT x0_0) (.slice a_x0_0 n_x0_0 c_x0_0), OwnA (rowT x0_1) (.slice a_x0_1 n_x0_1 c_x0_1)]) :
    Calls Try.prog 34 #[.agg #[.slice a_x0_0 n_x0_0 c_x0_0, .slice a_x0_1 n_x0_1 c_x0_1, .int .i64 x0_2], .int .i64 x1] w0 fun e w => e = .returned (.int .i64 r0) ∧ St w0 F w [OwnA (rowT x0_0') (.slice a_x0_0 n_x0_0 c_x0_0), OwnA (rowT x0_1') (.slice a_x0_1 n_x0_1 c_x0_1)] := by
  have HT0 := St.init hA
  obtain rfl := (HT0.rdAAt 0 rfl).neq
  obtain rfl := (HT0.rdAAt 1 rfl).neq
  have HT : St w0 F w0 [OwnA (rowT x0_0) (.slice a_x0_0 x0_0.length c_x0_0), OwnA (rowT x0_1) (.slice a_x0_1 x0_1.length c_x0_1)] := St.init hA
  rw [m_laws_markThings] at h
  refine calls_fr (n := 14) [.agg #[.slice a_x0_0 x0_0.length c_x0_0, .slice a_x0_1 x0_1.length c_x0_1, .int .i64 x0_2], .int .i64 x1] Try.func34 rfl rfl rfl (fun a HF => ?_)
  have HT : St w0 F w0 [OwnA (rowT x0_0) (.slice a_x0_0 x0_0.length c_x0_0), OwnA (rowT x0_1) (.slice a_x0_1 x0_1.length c_x0_1)] := HT
  refine wp_seq ?_
  refine wc_text ?_
  refine wc_box (cs := [.slice a_x0_0 x0_0.length c_x0_0, .slice a_x0_1 x0_1.length c_x0_1, .int .i64 x0_2]) HF HT rfl rfl rfl rfl (fun p1 w HT hb => ⟨nS, fun a HF => ?_⟩)
  refine wc_assign HF nS rfl rfl rfl (fun a HF => ?_)
  refine wc_end ?_
  refine then_n ?_
  refine wp_seq ?_
  refine wc_text ?_
  refine wc_faddr HF nS rfl fl27_0 rfl rfl (fun a HF => ?_)
  refine wc_load HF rfl sc22 ((HT.boxAt 0 rfl).get 0 rfl) rfl rfl (fun a HF => ?_)
  refine wc_move HF nS rfl rfl rfl (fun a HF => ?_)
  obtain ⟨y1, y2, hx1, h⟩ := obs2 h
  have HT := HT.p1
  obtain ⟨F1, hAF1, hFF1, hbackF1, hroF1, hownF1, hownAF1⟩ := St.handR2 (A := [OwnA (rowT x0_0) (.slice a_x0_0 x0_0.length c_x0_0)]) HT
  refine wc_call HF cf25 rfl (w_laws_markIntS fuel hx1 hAF1) rfl rfl ?_
  rintro e w ⟨rfl, hE⟩
  have HT := hbackF1 _ _ hE
  have HT : St w0 F w [OwnA (rowT y2) (.slice a_x0_0 x0_0.length c_x0_0), Box p1 [.slice a_x0_0 x0_0.length c_x0_0, .slice a_x0_1 x0_1.length c_x0_1, .int .i64 x0_2], OwnA (rowT x0_1) (.slice a_x0_1 x0_1.length c_x0_1)] := HT
  refine ⟨_, rfl, nS, fun a HF => ?_⟩
  refine wc_assign HF nS rfl rfl rfl (fun a HF => ?_)
  refine wc_end ?_
  refine then_n ?_
  refine wp_seq ?_
  refine wc_text ?_
  refine wc_faddr HF nS rfl fl27_1 rfl rfl (fun a HF => ?_)
  refine wc_load HF rfl sc22 ((HT.boxAt 1 rfl).get 1 rfl) rfl rfl (fun a HF => ?_)
  refine wc_move HF nS rfl rfl rfl (fun a HF => ?_)
  obtain ⟨y3, y4, hx2, h⟩ := obs2 h
  have HT := HT.p2
  obtain ⟨F2, hAF2, hFF2, hbackF2, hroF2, hownF2, hownAF2⟩ := St.handR2 (A := [OwnA (rowT x0_1) (.slice a_x0_1 x0_1.length c_x0_1)]) HT
  refine wc_call HF cf25 rfl (w_laws_markIntS fuel hx2 hAF2) rfl rfl ?_
  rintro e w ⟨rfl, hE⟩
  have HT := hbackF2 _ _ hE
  have HT : St w0 F w [OwnA (rowT y4) (.slice a_x0_1 x0_1.length c_x0_1), OwnA (rowT y2) (.slice a_x0_0 x0_0.length c_x0_0), Box p1 [.slice a_x0_0 x0_0.length c_x0_0, .slice a_x0_1 x0_1.length c_x0_1, .int .i64 x0_2]] := HT
  refine ⟨_, rfl, nS, fun a HF => ?_⟩
  refine wc_assign HF nS rfl rfl rfl (fun a HF => ?_)
  refine wc_end ?_
  refine then_n ?_
  refine wp_seq ?_
  refine wc_text ?_
  refine wc_move HF nS rfl rfl rfl (fun a HF => ?_)
  refine wc_assign HF nS rfl rfl rfl (fun a HF => ?_)
  refine wc_end ?_
  refine then_n ?_
  refine wp_ret ?_
  have hj1 := Option.some.inj h
  obtain ⟨hi1, hj2⟩ := Prod.mk.inj hj1
  subst hi1
  obtain ⟨hi2, hj3⟩ := Prod.mk.inj hj2
  subst hi2
  subst hj3
  refine bp_ret HF (res_one rfl HF rfl) ?_
  have HT := HT.p1.t2
  exact ⟨rfl, HT⟩

def m_laws_markRun (fuel : Nat) (x0_0 : Int) (x0_1 : List Int) (x0_2 : List Int) (x0_3 : List Int) (x0_4 : Int) (x1 : Int) : Option (Int × List Int × List Int × List Int) :=
  bind2 (m_laws_markIntS fuel x0_1 x1) fun y1 y2 =>
  bind3 (m_laws_markThings fuel x0_2 x0_3 x0_4 y1) fun y3 y4 y5 =>
  some (y3, y2, y4, y5)

set_option maxRecDepth 100000 in
set_option maxHeartbeats 4000000 in
theorem w_laws_markRun (fuel : Nat) {x0_0 : Int} {x0_1 : List Int} {x0_2 : List Int} {x0_3 : List Int} {x0_4 : Int} {x1 : Int} {a_x0_1 : Option Addr} {n_x0_1 c_x0_1 : Nat} {a_x0_2 : Option Addr} {n_x0_2 c_x0_2 : Nat} {a_x0_3 : Option Addr} {n_x0_3 c_x0_3 : Nat} {r0 : Int} {x0_1' : List Int} {x0_2' : List Int} {x0_3' : List Int} {F : Foot} {w0 : World} (h : m_laws_markRun fuel x0_0 x0_1 x0_2 x0_3 x0_4 x1 = some (r0, x0_1', x0_2', x0_3')) (hA : StF w0 F [OwnA (rowT x0_1) (.slice a_x0_1 n_x0_1 c_x0_1), OwnA (rowT x0_2) (.slice a_x0_2 n_x0_2 c_x0_2), OwnA (rowT x0_3) (.slice a_x0_3 n_x0_3 c_x0_3)]) :
    Calls Try.prog 35 #[.agg #[.int .i64 x0_0, .slice a_x0_1 n_x0_1 c_x0_1, .slice a_x0_2 n_x0_2 c_x0_2, .slice a_x0_3 n_x0_3 c_x0_3, .int .i64 x0_4], .int .i64 x1] w0 fun e w => e = .returned (.int .i64 r0) ∧ St w0 F w [OwnA (rowT x0_1') (.slice a_x0_1 n_x0_1 c_x0_1), OwnA (rowT x0_2') (.slice a_x0_2 n_x0_2 c_x0_2), OwnA (rowT x0_3') (.slice a_x0_3 n_x0_3 c_x0_3)] := by
  have HT0 := St.init hA
  obtain rfl := (HT0.rdAAt 0 rfl).neq
  obtain rfl := (HT0.rdAAt 1 rfl).neq
  obtain rfl := (HT0.rdAAt 2 rfl).neq
  have HT : St w0 F w0 [OwnA (rowT x0_1) (.slice a_x0_1 x0_1.length c_x0_1), OwnA (rowT x0_2) (.slice a_x0_2 x0_2.length c_x0_2), OwnA (rowT x0_3) (.slice a_x0_3 x0_3.length c_x0_3)] := St.init hA
  rw [m_laws_markRun] at h
  refine calls_fr (n := 14) [.agg #[.int .i64 x0_0, .slice a_x0_1 x0_1.length c_x0_1, .slice a_x0_2 x0_2.length c_x0_2, .slice a_x0_3 x0_3.length c_x0_3, .int .i64 x0_4], .int .i64 x1] Try.func35 rfl rfl rfl (fun a HF => ?_)
  have HT : St w0 F w0 [OwnA (rowT x0_1) (.slice a_x0_1 x0_1.length c_x0_1), OwnA (rowT x0_2) (.slice a_x0_2 x0_2.length c_x0_2), OwnA (rowT x0_3) (.slice a_x0_3 x0_3.length c_x0_3)] := HT
  refine wp_seq ?_
  refine wc_text ?_
  refine wc_box (cs := [.int .i64 x0_0, .slice a_x0_1 x0_1.length c_x0_1, .slice a_x0_2 x0_2.length c_x0_2, .slice a_x0_3 x0_3.length c_x0_3, .int .i64 x0_4]) HF HT rfl rfl rfl rfl (fun p1 w HT hb => ⟨nS, fun a HF => ?_⟩)
  refine wc_assign HF nS rfl rfl rfl (fun a HF => ?_)
  refine wc_end ?_
  refine then_n ?_
  refine wp_seq ?_
  refine wc_text ?_
  refine wc_faddr HF nS rfl fl49_1 rfl rfl (fun a HF => ?_)
  refine wc_load HF rfl sc22 ((HT.boxAt 0 rfl).get 1 rfl) rfl rfl (fun a HF => ?_)
  refine wc_move HF nS rfl rfl rfl (fun a HF => ?_)
  obtain ⟨y1, y2, hx1, h⟩ := obs2 h
  have HT := HT.p1
  obtain ⟨F1, hAF1, hFF1, hbackF1, hroF1, hownF1, hownAF1⟩ := St.handR2 (A := [OwnA (rowT x0_1) (.slice a_x0_1 x0_1.length c_x0_1)]) HT
  refine wc_call HF cf25 rfl (w_laws_markIntS fuel hx1 hAF1) rfl rfl ?_
  rintro e w ⟨rfl, hE⟩
  have HT := hbackF1 _ _ hE
  have HT : St w0 F w [OwnA (rowT y2) (.slice a_x0_1 x0_1.length c_x0_1), Box p1 [.int .i64 x0_0, .slice a_x0_1 x0_1.length c_x0_1, .slice a_x0_2 x0_2.length c_x0_2, .slice a_x0_3 x0_3.length c_x0_3, .int .i64 x0_4], OwnA (rowT x0_2) (.slice a_x0_2 x0_2.length c_x0_2), OwnA (rowT x0_3) (.slice a_x0_3 x0_3.length c_x0_3)] := HT
  refine ⟨_, rfl, nS, fun a HF => ?_⟩
  refine wc_assign HF nS rfl rfl rfl (fun a HF => ?_)
  refine wc_end ?_
  refine then_n ?_
  refine wp_seq ?_
  refine wc_text ?_
  refine wc_faddr HF nS rfl fl49_2 rfl rfl (fun a HF => ?_)
  refine wc_loadA (vs := [.slice a_x0_2 x0_2.length c_x0_2, .slice a_x0_3 x0_3.length c_x0_3, .int .i64 x0_4]) HF rfl ag27 rfl ((HT.boxAt 1 rfl).part 2 3) rfl rfl (fun a HF => ?_)
  refine wc_move HF nS rfl rfl rfl (fun a HF => ?_)
  obtain ⟨y3, y4, y5, hx2, h⟩ := obs3 h
  have HT := HT.p3.p3
  obtain ⟨F2, hAF2, hFF2, hbackF2, hroF2, hownF2, hownAF2⟩ := St.handR2 (A := [OwnA (rowT x0_2) (.slice a_x0_2 x0_2.length c_x0_2), OwnA (rowT x0_3) (.slice a_x0_3 x0_3.length c_x0_3)]) HT
  refine wc_call HF cf34 rfl (w_laws_markThings fuel hx2 hAF2) rfl rfl ?_
  rintro e w ⟨rfl, hE⟩
  have HT := hbackF2 _ _ hE
  have HT : St w0 F w [OwnA (rowT y4) (.slice a_x0_2 x0_2.length c_x0_2), OwnA (rowT y5) (.slice a_x0_3 x0_3.length c_x0_3), OwnA (rowT y2) (.slice a_x0_1 x0_1.length c_x0_1), Box p1 [.int .i64 x0_0, .slice a_x0_1 x0_1.length c_x0_1, .slice a_x0_2 x0_2.length c_x0_2, .slice a_x0_3 x0_3.length c_x0_3, .int .i64 x0_4]] := HT
  refine ⟨_, rfl, nS, fun a HF => ?_⟩
  refine wc_assign HF nS rfl rfl rfl (fun a HF => ?_)
  refine wc_end ?_
  refine then_n ?_
  refine wp_seq ?_
  refine wc_text ?_
  refine wc_move HF nS rfl rfl rfl (fun a HF => ?_)
  refine wc_assign HF nS rfl rfl rfl (fun a HF => ?_)
  refine wc_end ?_
  refine then_n ?_
  refine wp_ret ?_
  have hj1 := Option.some.inj h
  obtain ⟨hi1, hj2⟩ := Prod.mk.inj hj1
  subst hi1
  obtain ⟨hi2, hj3⟩ := Prod.mk.inj hj2
  subst hi2
  obtain ⟨hi3, hj4⟩ := Prod.mk.inj hj3
  subst hi3
  subst hj4
  refine bp_ret HF (res_one rfl HF rfl) ?_
  have HT := HT.p1.p1.p2.t3
  exact ⟨rfl, HT⟩

def m_laws_szKid (fuel : Nat) (x0_0 : List I4) (x1 : Int) : Option Int :=
  (m_laws_szOpS fuel x0_0 x1).bind fun y1 =>
  if y1 < 0 then
    some (-1)
  else
  some y1

set_option maxRecDepth 100000 in
set_option maxHeartbeats 4000000 in
theorem w_laws_szKid (fuel : Nat) {x0_0 : List I4} {x1 : Int} {a_x0_0 : Option Addr} {n_x0_0 c_x0_0 : Nat} {r0 : Int} {w0 : World} (h : m_laws_szKid fuel x0_0 x1 = some r0) (hr_x0_0 : RdT (fun b => ¬ False) w0 (rowT x0_0) (.slice a_x0_0 n_x0_0 c_x0_0)) :
    Calls Try.prog 108 #[.agg #[.slice a_x0_0 n_x0_0 c_x0_0], .int .i64 x1] w0 fun e w => e = .returned (.int .i64 r0) ∧ St w0 (fun _ => False) w [] := by
  obtain rfl := hr_x0_0.neq
  have HT : St w0 (fun _ => False) w0 [] := St.init0
  rw [m_laws_szKid] at h
  refine calls_fr (n := 12) [.agg #[.slice a_x0_0 x0_0.length c_x0_0], .int .i64 x1] Try.func108 rfl rfl rfl (fun a HF => ?_)
  have HT : St w0 (fun _ => False) w0 [] := HT
  refine wp_seq ?_
  refine wc_text ?_
  refine wc_box (cs := [.slice a_x0_0 x0_0.length c_x0_0]) HF HT rfl rfl rfl rfl (fun p1 w HT hb => ⟨nS, fun a HF => ?_⟩)
  refine wc_assign HF nS rfl rfl rfl (fun a HF => ?_)
  refine wc_end ?_
  refine then_n ?_
  refine wp_seq ?_
  refine wc_text ?_
  refine wc_faddr HF nS rfl fl137_0 rfl rfl (fun a HF => ?_)
  refine wc_load HF rfl sc32 ((HT.boxAt 0 rfl).get 0 rfl) rfl rfl (fun a HF => ?_)
  refine wc_move HF nS rfl rfl rfl (fun a HF => ?_)
  obtain ⟨y1, hx1, h⟩ := obs h
  refine wc_call HF cf17 rfl (w_laws_szOpS fuel hx1 (HT.ro hr_x0_0).any) rfl rfl ?_
  rintro e w ⟨rfl, hE⟩
  have hb := hE.below
  have HT := HT.pure hE
  have HT : St w0 (fun _ => False) w [Box p1 [.slice a_x0_0 x0_0.length c_x0_0]] := HT
  refine ⟨_, rfl, nS, fun a HF => ?_⟩
  refine wc_assign HF nS rfl rfl rfl (fun a HF => ?_)
  refine wc_end ?_
  refine then_n ?_
  refine wp_seq ?_
  refine wp_seq ?_
  refine wc_text ?_
  refine wc_move HF nS rfl rfl rfl (fun a HF => ?_)
  refine wc_bin HF nS rfl rfl b_lt rfl rfl (fun a HF => ?_)
  refine wc_end ?_
  refine then_n ?_
  by_cases hb1 : y1 < 0
  have h := (if_pos hb1).symm.trans h
  refine wp_if (b' := true) HF rfl (decide_eq_true hb1) ?_
  refine wp_seq ?_
  refine wc_text ?_
  refine wc_assign HF nS rfl rfl rfl (fun a HF => ?_)
  refine wc_end ?_
  refine then_n ?_
  refine wp_ret ?_
  obtain rfl := Option.some.inj h
  refine then_r (?_)
  refine bp_ret HF (res_one rfl HF rfl) ?_
  have HT := HT.t0
  exact ⟨rfl, HT⟩
  have h := (if_neg hb1).symm.trans h
  refine wp_if (b' := false) HF rfl (decide_eq_false hb1) ?_
  refine wp_skip ?_
  refine then_n ?_
  refine wp_seq ?_
  refine wc_text ?_
  refine wc_move HF nS rfl rfl rfl (fun a HF => ?_)
  refine wc_assign HF nS rfl rfl rfl (fun a HF => ?_)
  refine wc_end ?_
  refine then_n ?_
  refine wp_ret ?_
  obtain rfl := Option.some.inj h
  refine bp_ret HF (res_one rfl HF rfl) ?_
  have HT := HT.t0
  exact ⟨rfl, HT⟩

def m_laws_szKidS_L0 (fuel : Nat) (x0 : List KidD) : Nat → Int → Int → Option (Lp Int Int)
  | 0, _, _ => none
  | k1 + 1, z2, z3 =>
    if z3 < (x0.length : Int) then
      (at? x0 z3).bind fun e1 =>
      (m_laws_szKid fuel e1.code z2).bind fun y1 =>
      if y1 < 0 then
        some (.ret (-1))
      else
      if in64 (z3 + 1) then
        m_laws_szKidS_L0 fuel x0 k1 y1 (z3 + 1)
      else none
    else
    some (.brk z2)

def m_laws_szKidS (fuel : Nat) (x0 : List KidD) (x1 : Int) : Option Int :=
  if in64 (x1 - (x0.length : Int)) then
    if (x1 - (x0.length : Int)) < 0 then
      some (-1)
    else
    (m_laws_szKidS_L0 fuel x0 fuel (x1 - (x0.length : Int)) 0).bind <| contL <| un1 fun z1 =>
    some z1
  else none

set_option maxRecDepth 100000 in
set_option maxHeartbeats 4000000 in
theorem w_laws_szKidS (fuel : Nat) {x0 : List KidD} {x1 : Int} {a_x0 : Option Addr} {n_x0 c_x0 : Nat} {r0 : Int} {w0 : World} (h : m_laws_szKidS fuel x0 x1 = some r0) (hr_x0 : RdT (fun b => ¬ False) w0 (rowT x0) (.slice a_x0 n_x0 c_x0)) :
    Calls Try.prog 71 #[.slice a_x0 n_x0 c_x0, .int .i64 x1] w0 fun e w => e = .returned (.int .i64 r0) ∧ St w0 (fun _ => False) w [] := by
  obtain rfl := hr_x0.neq
  have HT : St w0 (fun _ => False) w0 [] := St.init0
  rw [m_laws_szKidS] at h
  refine calls_fr (n := 27) [.slice a_x0 x0.length c_x0, .int .i64 x1] Try.func71 rfl rfl rfl (fun a HF => ?_)
  have HT : St w0 (fun _ => False) w0 [] := HT
  refine wp_seq ?_
  refine wc_text ?_
  refine wc_assign HF nS rfl rfl rfl (fun a HF => ?_)
  refine wc_end ?_
  refine then_n ?_
  refine wp_seq ?_
  refine wc_text ?_
  refine wc_move HF nS rfl rfl rfl (fun a HF => ?_)
  refine wc_move HF nS rfl rfl rfl (fun a HF => ?_)
  refine wc_lenR HF nS Try.underlying44 rfl rfl rfl (fun a HF => ?_)
  obtain ⟨hg1, h⟩ := grd h
  refine wc_bin HF nS rfl rfl (b_sub hg1) rfl rfl (fun a HF => ?_)
  refine wc_assign HF nS rfl rfl rfl (fun a HF => ?_)
  refine wc_end ?_
  refine then_n ?_
  refine wp_seq ?_
  refine wp_seq ?_
  refine wc_text ?_
  refine wc_move HF nS rfl rfl rfl (fun a HF => ?_)
  refine wc_bin HF nS rfl rfl b_lt rfl rfl (fun a HF => ?_)
  refine wc_end ?_
  refine then_n ?_
  by_cases hb1 : (x1 - (x0.length : Int)) < 0
  have h := (if_pos hb1).symm.trans h
  refine wp_if (b' := true) HF rfl (decide_eq_true hb1) ?_
  refine wp_seq ?_
  refine wc_text ?_
  refine wc_assign HF nS rfl rfl rfl (fun a HF => ?_)
  refine wc_end ?_
  refine then_n ?_
  refine wp_ret ?_
  obtain rfl := Option.some.inj h
  refine then_r (?_)
  refine bp_ret HF (res_one rfl HF rfl) ?_
  exact ⟨rfl, HT⟩
  have h := (if_neg hb1).symm.trans h
  refine wp_if (b' := false) HF rfl (decide_eq_false hb1) ?_
  refine wp_skip ?_
  refine then_n ?_
  obtain ⟨q1, hx1, h⟩ := obs h
  refine wp_cut (fun a w => ∃ z1, q1 = .brk z1 ∧ Fr a 27 [(1, .int .i64 z1)] ∧ St w0 (fun _ => False) w []) ?_ ?_
  have hk1 := h
  have h := hx1
  refine wp_seq ?_
  refine wc_text ?_
  refine wc_assign HF nS rfl rfl rfl (fun a HF => ?_)
  refine wc_end ?_
  refine then_n ?_
  refine wp_block ?_
  refine wp_loopN (fun k1 a w => ∃ z2 z3, m_laws_szKidS_L0 fuel x0 k1 z2 z3 = some q1 ∧ Fr a 27 [(0, .slice a_x0 x0.length c_x0), (1, .int .i64 z2), (5, .int .i64 z3)] ∧ St w0 (fun _ => False) w []) fuel ⟨x1 - (x0.length : Int), 0, h, (HF.keep (HF.keep (HF.keep HF.nil rfl) rfl) rfl), HT⟩ ?_
  rintro k1 a w ⟨z2, z3, h, HF, HT⟩
  rcases k1 with _ | k1
  cases h
  rw [m_laws_szKidS_L0] at h
  refine ?_
  refine wp_seq ?_
  refine wp_seq ?_
  refine wc_text ?_
  refine wc_move HF nS rfl rfl rfl (fun a HF => ?_)
  refine wc_move HF nS rfl rfl rfl (fun a HF => ?_)
  refine wc_lenR HF nS Try.underlying44 rfl rfl rfl (fun a HF => ?_)
  refine wc_bin HF nS rfl rfl b_lt rfl rfl (fun a HF => ?_)
  refine wc_end ?_
  refine then_n ?_
  by_cases hb2 : z3 < (x0.length : Int)
  have h := (if_pos hb2).symm.trans h
  refine wp_if (b' := true) HF rfl (decide_eq_true hb2) ?_
  refine wp_skip ?_
  refine then_n ?_
  refine wp_seq ?_
  refine wp_block ?_
  refine wp_seq ?_
  refine wc_text ?_
  refine wc_move HF nS rfl rfl rfl (fun a HF => ?_)
  refine wc_move HF nS rfl rfl rfl (fun a HF => ?_)
  obtain ⟨e1, hx2, h⟩ := obs h
  obtain ⟨b1, o1, ha1⟩ := (HT.ro hr_x0).any.addr hx2
  refine wc_ixaddr HF nS el44 rfl ha1 ((HT.ro hr_x0).any).neq rfl hx2 rfl rfl (fun a HF => ?_)
  obtain ⟨_, hP1, hc1, hr1⟩ := hr_x0.elemAt ha1 hx2
  obtain ⟨a1, c1, rfl, hr2⟩ := cells_Kid hr1
  have hc2 := HT.roLd hP1 hc1
  refine wc_loadA (vs := [.slice a1 e1.code.length c1]) HF rfl ag137 rfl (hc2.part 0 1) rfl rfl (fun a HF => ?_)
  refine wc_move HF nS rfl rfl rfl (fun a HF => ?_)
  obtain ⟨y1, hx3, h⟩ := obs h
  refine wc_call HF cf108 rfl (w_laws_szKid fuel hx3 (HT.ro hr2).any) rfl rfl ?_
  rintro e w ⟨rfl, hE⟩
  have hb := hE.below
  have HT := HT.pure hE
  have HT : St w0 (fun _ => False) w [] := HT
  refine ⟨_, rfl, nS, fun a HF => ?_⟩
  refine wc_assign HF nS rfl rfl rfl (fun a HF => ?_)
  refine wc_end ?_
  refine then_n ?_
  refine wp_seq ?_
  refine wc_text ?_
  refine wc_move HF nS rfl rfl rfl (fun a HF => ?_)
  refine wc_bin HF nS rfl rfl b_lt rfl rfl (fun a HF => ?_)
  refine wc_end ?_
  refine then_n ?_
  by_cases hb3 : y1 < 0
  have h := (if_pos hb3).symm.trans h
  refine wp_if (b' := true) HF rfl (decide_eq_true hb3) ?_
  refine wp_seq ?_
  refine wc_text ?_
  refine wc_assign HF nS rfl rfl rfl (fun a HF => ?_)
  refine wc_end ?_
  refine then_n ?_
  refine wp_ret ?_
  obtain rfl := Option.some.inj h
  have h := retL hk1
  obtain rfl := Option.some.inj h
  refine blk_r (then_r (then_r (blk_r (then_r (?_)))))
  refine bp_ret HF (res_one rfl HF rfl) ?_
  exact ⟨rfl, HT⟩
  have h := (if_neg hb3).symm.trans h
  refine wp_if (b' := false) HF rfl (decide_eq_false hb3) ?_
  refine wp_skip ?_
  refine blk_n ?_
  refine then_n ?_
  refine wc_text ?_
  refine wc_move HF nS rfl rfl rfl (fun a HF => ?_)
  obtain ⟨hg2, h⟩ := grd h
  refine wc_bin HF nS rfl rfl (b_add hg2) rfl rfl (fun a HF => ?_)
  refine wc_assign HF nS rfl rfl rfl (fun a HF => ?_)
  refine wc_end ?_
  exact then_n ⟨k1, Nat.lt_succ_self k1, y1, z3 + 1, h, (HF.keep (HF.keep (HF.keep HF.nil rfl) rfl) rfl), HT⟩
  have h := (if_neg hb2).symm.trans h
  refine wp_if (b' := false) HF rfl (decide_eq_false hb2) ?_
  refine wp_exit ?_
  refine then_x (then_x (?_))
  refine blk_x ?_
  exact then_n ⟨z2, (Option.some.inj h).symm, (HF.keep HF.nil rfl), HT⟩
  rintro a w ⟨z1, rfl, HF, HT⟩
  have h := brkL1u h
  refine ?_
  refine wp_seq ?_
  refine wc_text ?_
  refine wc_move HF nS rfl rfl rfl (fun a HF => ?_)
  refine wc_assign HF nS rfl rfl rfl (fun a HF => ?_)
  refine wc_end ?_
  refine then_n ?_
  refine wp_ret ?_
  obtain rfl := Option.some.inj h
  refine bp_ret HF (res_one rfl HF rfl) ?_
  exact ⟨rfl, HT⟩

def m_laws_szProg (fuel : Nat) (x0_0 : List I4) (x0_1 : List KidD) (x1 : Int) : Option Int :=
  (m_laws_szOpS fuel x0_0 x1).bind fun y1 =>
  if y1 < 0 then
    some (-1)
  else
  (m_laws_szKidS fuel x0_1 y1).bind fun y2 =>
  if y2 < 0 then
    some (-1)
  else
  some y2

set_option maxRecDepth 100000 in
set_option maxHeartbeats 4000000 in
theorem w_laws_szProg (fuel : Nat) {x0_0 : List I4} {x0_1 : List KidD} {x1 : Int} {a_x0_0 : Option Addr} {n_x0_0 c_x0_0 : Nat} {a_x0_1 : Option Addr} {n_x0_1 c_x0_1 : Nat} {r0 : Int} {w0 : World} (h : m_laws_szProg fuel x0_0 x0_1 x1 = some r0) (hr_x0_0 : RdT (fun b => ¬ False) w0 (rowT x0_0) (.slice a_x0_0 n_x0_0 c_x0_0)) (hr_x0_1 : RdT (fun b => ¬ False) w0 (rowT x0_1) (.slice a_x0_1 n_x0_1 c_x0_1)) :
    Calls Try.prog 27 #[.agg #[.slice a_x0_0 n_x0_0 c_x0_0, .slice a_x0_1 n_x0_1 c_x0_1], .int .i64 x1] w0 fun e w => e = .returned (.int .i64 r0) ∧ St w0 (fun _ => False) w [] := by
  obtain rfl := hr_x0_0.neq
  obtain rfl := hr_x0_1.neq
  have HT : St w0 (fun _ => False) w0 [] := St.init0
  rw [m_laws_szProg] at h
  refine calls_fr (n := 18) [.agg #[.slice a_x0_0 x0_0.length c_x0_0, .slice a_x0_1 x0_1.length c_x0_1], .int .i64 x1] Try.func27 rfl rfl rfl (fun a HF => ?_)
  have HT : St w0 (fun _ => False) w0 [] := HT
  refine wp_seq ?_
  refine wc_text ?_
  refine wc_box (cs := [.slice a_x0_0 x0_0.length c_x0_0, .slice a_x0_1 x0_1.length c_x0_1]) HF HT rfl rfl rfl rfl (fun p1 w HT hb => ⟨nS, fun a HF => ?_⟩)
  refine wc_assign HF nS rfl rfl rfl (fun a HF => ?_)
  refine wc_end ?_
  refine then_n ?_
  refine wp_seq ?_
  refine wc_text ?_
  refine wc_faddr HF nS rfl fl46_0 rfl rfl (fun a HF => ?_)
  refine wc_load HF rfl sc32 ((HT.boxAt 0 rfl).get 0 rfl) rfl rfl (fun a HF => ?_)
  refine wc_move HF nS rfl rfl rfl (fun a HF => ?_)
  obtain ⟨y1, hx1, h⟩ := obs h
  refine wc_call HF cf17 rfl (w_laws_szOpS fuel hx1 (HT.ro hr_x0_0).any) rfl rfl ?_
  rintro e w ⟨rfl, hE⟩
  have hb := hE.below
  have HT := HT.pure hE
  have HT : St w0 (fun _ => False) w [Box p1 [.slice a_x0_0 x0_0.length c_x0_0, .slice a_x0_1 x0_1.length c_x0_1]] := HT
  refine ⟨_, rfl, nS, fun a HF => ?_⟩
  refine wc_assign HF nS rfl rfl rfl (fun a HF => ?_)
  refine wc_end ?_
  refine then_n ?_
  refine wp_seq ?_
  refine wp_seq ?_
  refine wc_text ?_
  refine wc_move HF nS rfl rfl rfl (fun a HF => ?_)
  refine wc_bin HF nS rfl rfl b_lt rfl rfl (fun a HF => ?_)
  refine wc_end ?_
  refine then_n ?_
  by_cases hb1 : y1 < 0
  have h := (if_pos hb1).symm.trans h
  refine wp_if (b' := true) HF rfl (decide_eq_true hb1) ?_
  refine wp_seq ?_
  refine wc_text ?_
  refine wc_assign HF nS rfl rfl rfl (fun a HF => ?_)
  refine wc_end ?_
  refine then_n ?_
  refine wp_ret ?_
  obtain rfl := Option.some.inj h
  refine then_r (?_)
  refine bp_ret HF (res_one rfl HF rfl) ?_
  have HT := HT.t0
  exact ⟨rfl, HT⟩
  have h := (if_neg hb1).symm.trans h
  refine wp_if (b' := false) HF rfl (decide_eq_false hb1) ?_
  refine wp_skip ?_
  refine then_n ?_
  refine wp_seq ?_
  refine wc_text ?_
  refine wc_faddr HF nS rfl fl46_1 rfl rfl (fun a HF => ?_)
  refine wc_load HF rfl sc44 ((HT.boxAt 0 rfl).get 1 rfl) rfl rfl (fun a HF => ?_)
  refine wc_move HF nS rfl rfl rfl (fun a HF => ?_)
  obtain ⟨y2, hx2, h⟩ := obs h
  refine wc_call HF cf71 rfl (w_laws_szKidS fuel hx2 (HT.ro hr_x0_1).any) rfl rfl ?_
  rintro e w ⟨rfl, hE⟩
  have hb := hE.below
  have HT := HT.pure hE
  have HT : St w0 (fun _ => False) w [Box p1 [.slice a_x0_0 x0_0.length c_x0_0, .slice a_x0_1 x0_1.length c_x0_1]] := HT
  refine ⟨_, rfl, nS, fun a HF => ?_⟩
  refine wc_assign HF nS rfl rfl rfl (fun a HF => ?_)
  refine wc_end ?_
  refine then_n ?_
  refine wp_seq ?_
  refine wp_seq ?_
  refine wc_text ?_
  refine wc_move HF nS rfl rfl rfl (fun a HF => ?_)
  refine wc_bin HF nS rfl rfl b_lt rfl rfl (fun a HF => ?_)
  refine wc_end ?_
  refine then_n ?_
  by_cases hb2 : y2 < 0
  have h := (if_pos hb2).symm.trans h
  refine wp_if (b' := true) HF rfl (decide_eq_true hb2) ?_
  refine wp_seq ?_
  refine wc_text ?_
  refine wc_assign HF nS rfl rfl rfl (fun a HF => ?_)
  refine wc_end ?_
  refine then_n ?_
  refine wp_ret ?_
  obtain rfl := Option.some.inj h
  refine then_r (?_)
  refine bp_ret HF (res_one rfl HF rfl) ?_
  have HT := HT.t0
  exact ⟨rfl, HT⟩
  have h := (if_neg hb2).symm.trans h
  refine wp_if (b' := false) HF rfl (decide_eq_false hb2) ?_
  refine wp_skip ?_
  refine then_n ?_
  refine wp_seq ?_
  refine wc_text ?_
  refine wc_move HF nS rfl rfl rfl (fun a HF => ?_)
  refine wc_assign HF nS rfl rfl rfl (fun a HF => ?_)
  refine wc_end ?_
  refine then_n ?_
  refine wp_ret ?_
  obtain rfl := Option.some.inj h
  refine bp_ret HF (res_one rfl HF rfl) ?_
  have HT := HT.t0
  exact ⟨rfl, HT⟩

def m_laws_szIntS (fuel : Nat) (x0 : List Int) (x1 : Int) : Option Int :=
  if in64 (x1 - (x0.length : Int)) then
    if (x1 - (x0.length : Int)) < 0 then
      some (-1)
    else
    some (x1 - (x0.length : Int))
  else none

set_option maxRecDepth 100000 in
set_option maxHeartbeats 4000000 in
theorem w_laws_szIntS (fuel : Nat) {x0 : List Int} {x1 : Int} {a_x0 : Option Addr} {n_x0 c_x0 : Nat} {r0 : Int} {w0 : World} (h : m_laws_szIntS fuel x0 x1 = some r0) (hr_x0 : RdT (fun b => ¬ False) w0 (rowT x0) (.slice a_x0 n_x0 c_x0)) :
    Calls Try.prog 56 #[.slice a_x0 n_x0 c_x0, .int .i64 x1] w0 fun e w => e = .returned (.int .i64 r0) ∧ St w0 (fun _ => False) w [] := by
  obtain rfl := hr_x0.neq
  have HT : St w0 (fun _ => False) w0 [] := St.init0
  rw [m_laws_szIntS] at h
  refine calls_fr (n := 12) [.slice a_x0 x0.length c_x0, .int .i64 x1] Try.func56 rfl rfl rfl (fun a HF => ?_)
  have HT : St w0 (fun _ => False) w0 [] := HT
  refine wp_seq ?_
  refine wc_text ?_
  refine wc_assign HF nS rfl rfl rfl (fun a HF => ?_)
  refine wc_end ?_
  refine then_n ?_
  refine wp_seq ?_
  refine wc_text ?_
  refine wc_move HF nS rfl rfl rfl (fun a HF => ?_)
  refine wc_move HF nS rfl rfl rfl (fun a HF => ?_)
  refine wc_lenR HF nS Try.underlying22 rfl rfl rfl (fun a HF => ?_)
  obtain ⟨hg1, h⟩ := grd h
  refine wc_bin HF nS rfl rfl (b_sub hg1) rfl rfl (fun a HF => ?_)
  refine wc_assign HF nS rfl rfl rfl (fun a HF => ?_)
  refine wc_end ?_
  refine then_n ?_
  refine wp_seq ?_
  refine wp_seq ?_
  refine wc_text ?_
  refine wc_move HF nS rfl rfl rfl (fun a HF => ?_)
  refine wc_bin HF nS rfl rfl b_lt rfl rfl (fun a HF => ?_)
  refine wc_end ?_
  refine then_n ?_
  by_cases hb1 : (x1 - (x0.length : Int)) < 0
  have h := (if_pos hb1).symm.trans h
  refine wp_if (b' := true) HF rfl (decide_eq_true hb1) ?_
  refine wp_seq ?_
  refine wc_text ?_
  refine wc_assign HF nS rfl rfl rfl (fun a HF => ?_)
  refine wc_end ?_
  refine then_n ?_
  refine wp_ret ?_
  obtain rfl := Option.some.inj h
  refine then_r (?_)
  refine bp_ret HF (res_one rfl HF rfl) ?_
  exact ⟨rfl, HT⟩
  have h := (if_neg hb1).symm.trans h
  refine wp_if (b' := false) HF rfl (decide_eq_false hb1) ?_
  refine wp_skip ?_
  refine then_n ?_
  refine wp_seq ?_
  refine wc_text ?_
  refine wc_move HF nS rfl rfl rfl (fun a HF => ?_)
  refine wc_assign HF nS rfl rfl rfl (fun a HF => ?_)
  refine wc_end ?_
  refine then_n ?_
  refine wp_ret ?_
  obtain rfl := Option.some.inj h
  refine bp_ret HF (res_one rfl HF rfl) ?_
  exact ⟨rfl, HT⟩

def m_laws_szThings (fuel : Nat) (x0_0 : List Int) (x0_1 : List Int) (x0_2 : Int) (x1 : Int) : Option Int :=
  (m_laws_szIntS fuel x0_0 x1).bind fun y1 =>
  if y1 < 0 then
    some (-1)
  else
  (m_laws_szIntS fuel x0_1 y1).bind fun y2 =>
  if y2 < 0 then
    some (-1)
  else
  some y2

set_option maxRecDepth 100000 in
set_option maxHeartbeats 4000000 in
theorem w_laws_szThings (fuel : Nat) {x0_0 : List Int} {x0_1 : List Int} {x0_2 : Int} {x1 : Int} {a_x0_0 : Option Addr} {n_x0_0 c_x0_0 : Nat} {a_x0_1 : Option Addr} {n_x0_1 c_x0_1 : Nat} {r0 : Int} {w0 : World} (h : m_laws_szThings fuel x0_0 x0_1 x0_2 x1 = some r0) (hr_x0_0 : RdT (fun b => ¬ False) w0 (rowT x0_0) (.slice a_x0_0 n_x0_0 c_x0_0)) (hr_x0_1 : RdT (fun b => ¬ False) w0 (rowT x0_1) (.slice a_x0_1 n_x0_1 c_x0_1)) :
    Calls Try.prog 10 #[.agg #[.slice a_x0_0 n_x0_0 c_x0_0, .slice a_x0_1 n_x0_1 c_x0_1, .int .i64 x0_2], .int .i64 x1] w0 fun e w => e = .returned (.int .i64 r0) ∧ St w0 (fun _ => False) w [] := by
  obtain rfl := hr_x0_0.neq
  obtain rfl := hr_x0_1.neq
  have HT : St w0 (fun _ => False) w0 [] := St.init0
  rw [m_laws_szThings] at h
  refine calls_fr (n := 18) [.agg #[.slice a_x0_0 x0_0.length c_x0_0, .slice a_x0_1 x0_1.length c_x0_1, .int .i64 x0_2], .int .i64 x1] Try.func10 rfl rfl rfl (fun a HF => ?_)
  have HT : St w0 (fun _ => False) w0 [] := HT
  refine wp_seq ?_
  refine wc_text ?_
  refine wc_box (cs := [.slice a_x0_0 x0_0.length c_x0_0, .slice a_x0_1 x0_1.length c_x0_1, .int .i64 x0_2]) HF HT rfl rfl rfl rfl (fun p1 w HT hb => ⟨nS, fun a HF => ?_⟩)
  refine wc_assign HF nS rfl rfl rfl (fun a HF => ?_)
  refine wc_end ?_
  refine then_n ?_
  refine wp_seq ?_
  refine wc_text ?_
  refine wc_faddr HF nS rfl fl24_0 rfl rfl (fun a HF => ?_)
  refine wc_load HF rfl sc22 ((HT.boxAt 0 rfl).get 0 rfl) rfl rfl (fun a HF => ?_)
  refine wc_move HF nS rfl rfl rfl (fun a HF => ?_)
  obtain ⟨y1, hx1, h⟩ := obs h
  refine wc_call HF cf56 rfl (w_laws_szIntS fuel hx1 (HT.ro hr_x0_0).any) rfl rfl ?_
  rintro e w ⟨rfl, hE⟩
  have hb := hE.below
  have HT := HT.pure hE
  have HT : St w0 (fun _ => False) w [Box p1 [.slice a_x0_0 x0_0.length c_x0_0, .slice a_x0_1 x0_1.length c_x0_1, .int .i64 x0_2]] := HT
  refine ⟨_, rfl, nS, fun a HF => ?_⟩
  refine wc_assign HF nS rfl rfl rfl (fun a HF => ?_)
  refine wc_end ?_
  refine then_n ?_
  refine wp_seq ?_
  refine wp_seq ?_
  refine wc_text ?_
  refine wc_move HF nS rfl rfl rfl (fun a HF => ?_)
  refine wc_bin HF nS rfl rfl b_lt rfl rfl (fun a HF => ?_)
  refine wc_end ?_
  refine then_n ?_
  by_cases hb1 : y1 < 0
  have h := (if_pos hb1).symm.trans h
  refine wp_if (b' := true) HF rfl (decide_eq_true hb1) ?_
  refine wp_seq ?_
  refine wc_text ?_
  refine wc_assign HF nS rfl rfl rfl (fun a HF => ?_)
  refine wc_end ?_
  refine then_n ?_
  refine wp_ret ?_
  obtain rfl := Option.some.inj h
  refine then_r (?_)
  refine bp_ret HF (res_one rfl HF rfl) ?_
  have HT := HT.t0
  exact ⟨rfl, HT⟩
  have h := (if_neg hb1).symm.trans h
  refine wp_if (b' := false) HF rfl (decide_eq_false hb1) ?_
  refine wp_skip ?_
  refine then_n ?_
  refine wp_seq ?_
  refine wc_text ?_
  refine wc_faddr HF nS rfl fl24_1 rfl rfl (fun a HF => ?_)
  refine wc_load HF rfl sc22 ((HT.boxAt 0 rfl).get 1 rfl) rfl rfl (fun a HF => ?_)
  refine wc_move HF nS rfl rfl rfl (fun a HF => ?_)
  obtain ⟨y2, hx2, h⟩ := obs h
  refine wc_call HF cf56 rfl (w_laws_szIntS fuel hx2 (HT.ro hr_x0_1).any) rfl rfl ?_
  rintro e w ⟨rfl, hE⟩
  have hb := hE.below
  have HT := HT.pure hE
  have HT : St w0 (fun _ => False) w [Box p1 [.slice a_x0_0 x0_0.length c_x0_0, .slice a_x0_1 x0_1.length c_x0_1, .int .i64 x0_2]] := HT
  refine ⟨_, rfl, nS, fun a HF => ?_⟩
  refine wc_assign HF nS rfl rfl rfl (fun a HF => ?_)
  refine wc_end ?_
  refine then_n ?_
  refine wp_seq ?_
  refine wp_seq ?_
  refine wc_text ?_
  refine wc_move HF nS rfl rfl rfl (fun a HF => ?_)
  refine wc_bin HF nS rfl rfl b_lt rfl rfl (fun a HF => ?_)
  refine wc_end ?_
  refine then_n ?_
  by_cases hb2 : y2 < 0
  have h := (if_pos hb2).symm.trans h
  refine wp_if (b' := true) HF rfl (decide_eq_true hb2) ?_
  refine wp_seq ?_
  refine wc_text ?_
  refine wc_assign HF nS rfl rfl rfl (fun a HF => ?_)
  refine wc_end ?_
  refine then_n ?_
  refine wp_ret ?_
  obtain rfl := Option.some.inj h
  refine then_r (?_)
  refine bp_ret HF (res_one rfl HF rfl) ?_
  have HT := HT.t0
  exact ⟨rfl, HT⟩
  have h := (if_neg hb2).symm.trans h
  refine wp_if (b' := false) HF rfl (decide_eq_false hb2) ?_
  refine wp_skip ?_
  refine then_n ?_
  refine wp_seq ?_
  refine wc_text ?_
  refine wc_move HF nS rfl rfl rfl (fun a HF => ?_)
  refine wc_assign HF nS rfl rfl rfl (fun a HF => ?_)
  refine wc_end ?_
  refine then_n ?_
  refine wp_ret ?_
  obtain rfl := Option.some.inj h
  refine bp_ret HF (res_one rfl HF rfl) ?_
  have HT := HT.t0
  exact ⟨rfl, HT⟩

def m_laws_toKid (fuel : Nat) (x0_0 : List I4) : Option (List I4) :=
  (m_laws_toOpS fuel x0_0).bind fun y1 =>
  some y1

set_option maxRecDepth 100000 in
set_option maxHeartbeats 4000000 in
theorem w_laws_toKid (fuel : Nat) {x0_0 : List I4} {a_x0_0 : Option Addr} {n_x0_0 c_x0_0 : Nat} {r0_0 : List I4} {w0 : World} (h : m_laws_toKid fuel x0_0 = some r0_0) (hr_x0_0 : RdT (fun b => ¬ False) w0 (rowT x0_0) (.slice a_x0_0 n_x0_0 c_x0_0)) :
    Calls Try.prog 109 #[.agg #[.slice a_x0_0 n_x0_0 c_x0_0]] w0 fun e w => ∃ a_r0_0 n_r0_0 c_r0_0, e = .returned (.agg #[.slice a_r0_0 n_r0_0 c_r0_0]) ∧ St w0 (fun _ => False) w [Own 85 (rowT r0_0) (.slice a_r0_0 n_r0_0 c_r0_0)] := by
  obtain rfl := hr_x0_0.neq
  have HT : St w0 (fun _ => False) w0 [] := St.init0
  rw [m_laws_toKid] at h
  refine calls_fr (n := 9) [.agg #[.slice a_x0_0 x0_0.length c_x0_0]] Try.func109 rfl rfl rfl (fun a HF => ?_)
  have HT : St w0 (fun _ => False) w0 [] := HT
  refine wp_seq ?_
  refine wc_text ?_
  refine wc_box (cs := [.slice a_x0_0 x0_0.length c_x0_0]) HF HT rfl rfl rfl rfl (fun p1 w HT hb => ⟨nS, fun a HF => ?_⟩)
  refine wc_alloc (cs := [.slice none 0 0]) HF HT zr127 rfl rfl rfl (fun p2 w HT hb => ⟨nS, fun a HF => ?_⟩)
  refine wc_end ?_
  refine then_n ?_
  refine wp_seq ?_
  refine wc_text ?_
  refine wc_alloc (cs := [.slice none 0 0]) HF HT zr127 rfl rfl rfl (fun p3 w HT hb => ⟨nS, fun a HF => ?_⟩)
  refine wc_end ?_
  refine then_n ?_
  refine wp_seq ?_
  refine wc_text ?_
  refine wc_faddr HF nS rfl fl137_0 rfl rfl (fun a HF => ?_)
  refine wc_load HF rfl sc32 ((HT.boxAt 2 rfl).get 0 rfl) rfl rfl (fun a HF => ?_)
  obtain ⟨y1, hx1, h⟩ := obs h
  refine wc_call HF cf19 rfl (w_laws_toOpS fuel hx1 (HT.ro hr_x0_0).any) rfl rfl ?_
  rintro e w ⟨a1, n1, c1, rfl, hE⟩
  have hb := hE.below
  have HT := HT.pure hE
  obtain rfl := (HT.rdAt 0 rfl).neq
  have HT : St w0 (fun _ => False) w [Own 85 (rowT y1) (.slice a1 y1.length c1), Box p3 [.slice none 0 0], Box p2 [.slice none 0 0], Box p1 [.slice a_x0_0 x0_0.length c_x0_0]] := HT
  refine ⟨_, rfl, nS, fun a HF => ?_⟩
  refine wc_faddr HF nS rfl fl127_0 rfl rfl (fun a HF => ?_)
  have HT := HT.p1
  refine wc_storeB (cs' := [.slice a1 y1.length c1]) HF HT rfl rfl (fun w => (sc36 w).2) rfl rfl rfl rfl rfl (fun w HT => ⟨nS, ?_⟩)
  refine wc_end ?_
  refine then_n ?_
  refine wp_seq ?_
  refine wc_text ?_
  refine wc_loadA (vs := [.slice a1 y1.length c1]) HF rfl ag127 rfl ((HT.boxAt 0 rfl).part 0 1) rfl rfl (fun a HF => ?_)
  have HT := HT.p2
  refine wc_storeB (cs' := [.slice a1 y1.length c1]) HF HT rfl rfl (fun w => (ag127 w).2) rfl rfl rfl rfl rfl (fun w HT => ⟨nS, ?_⟩)
  refine wc_end ?_
  refine then_n ?_
  refine wp_ret ?_
  obtain rfl := Option.some.inj h
  refine bp_ret HF (res_cell (vs := [.slice a1 y1.length c1]) rfl HF rfl ag127 rfl (HT.boxAt 0 rfl)) ?_
  have HT := HT.p2.t1
  exact ⟨a1, y1.length, c1, rfl, HT⟩

def m_laws_toKidS_L0 (fuel : Nat) (x0 : List KidD) : Nat → (List KidD) → Int → Option (List KidD)
  | 0, _, _ => none
  | k1 + 1, z2, z3 =>
    if z3 < (x0.length : Int) then
      (at? x0 z3).bind fun e1 =>
      (m_laws_toKid fuel e1.code).bind fun y1 =>
      (at? z2 z3).bind fun e2 =>
      if in64 (z3 + 1) then
        m_laws_toKidS_L0 fuel x0 k1 (z2.set z3.toNat (⟨y1⟩ : KidD)) (z3 + 1)
      else none
    else
    some z2

def m_laws_toKidS (fuel : Nat) (x0 : List KidD) : Option (List KidD) :=
  if 0 ≤ ((x0.length : Int) : Int) ∧ (x0.length : Int) ≤ 1048576 then
    (m_laws_toKidS_L0 fuel x0 fuel (List.replicate ((x0.length : Int) : Int).toNat ((⟨[]⟩ : KidD) : KidD)) 0).bind fun z1 =>
    some z1
  else none

set_option maxRecDepth 100000 in
set_option maxHeartbeats 4000000 in
theorem w_laws_toKidS (fuel : Nat) {x0 : List KidD} {a_x0 : Option Addr} {n_x0 c_x0 : Nat} {r0 : List KidD} {w0 : World} (h : m_laws_toKidS fuel x0 = some r0) (hr_x0 : RdT (fun b => ¬ False) w0 (rowT x0) (.slice a_x0 n_x0 c_x0)) :
    Calls Try.prog 74 #[.slice a_x0 n_x0 c_x0] w0 fun e w => ∃ a_r0 n_r0 c_r0, e = .returned (.slice a_r0 n_r0 c_r0) ∧ St w0 (fun _ => False) w [Own 127 (rowT r0) (.slice a_r0 n_r0 c_r0)] := by
  obtain rfl := hr_x0.neq
  have HT : St w0 (fun _ => False) w0 [] := St.init0
  rw [m_laws_toKidS] at h
  refine calls_fr (n := 23) [.slice a_x0 x0.length c_x0] Try.func74 rfl rfl rfl (fun a HF => ?_)
  have HT : St w0 (fun _ => False) w0 [] := HT
  refine wp_seq ?_
  refine wc_text ?_
  refine wc_assign HF nS rfl rfl rfl (fun a HF => ?_)
  refine wc_end ?_
  refine then_n ?_
  refine wp_seq ?_
  refine wc_text ?_
  refine wc_move HF nS rfl rfl rfl (fun a HF => ?_)
  refine wc_lenR HF nS Try.underlying44 rfl rfl rfl (fun a HF => ?_)
  obtain ⟨hg1, h⟩ := grd h
  refine wc_makeN (x := ((⟨[]⟩ : KidD) : KidD)) HF HT el51 rfl rfl hg1 rfl (fun w => (ownTs_zero_row ownTs_zero_nil)) rfl rfl (fun p1 w HT hb => ⟨nS, fun a HF => ?_⟩)
  refine wc_assign HF nS rfl rfl rfl (fun a HF => ?_)
  refine wc_end ?_
  refine then_n ?_
  obtain ⟨z1, hx1, h⟩ := obs h
  refine wp_cut (fun a w => Fr a 23 [(3, .slice (some ⟨p1, 0, none⟩) ((List.replicate ((x0.length : Int) : Int).toNat ((⟨[]⟩ : KidD) : KidD)).length) ((List.replicate ((x0.length : Int) : Int).toNat ((⟨[]⟩ : KidD) : KidD)).length))] ∧ St w0 (fun _ => False) w [Own 127 (rowT z1) (.slice (some ⟨p1, 0, none⟩) ((List.replicate ((x0.length : Int) : Int).toNat ((⟨[]⟩ : KidD) : KidD)).length) ((List.replicate ((x0.length : Int) : Int).toNat ((⟨[]⟩ : KidD) : KidD)).length))]) ?_ ?_
  have hk1 := h
  have h := hx1
  refine wp_seq ?_
  refine wc_text ?_
  refine wc_assign HF nS rfl rfl rfl (fun a HF => ?_)
  refine wc_end ?_
  refine then_n ?_
  refine wp_block ?_
  refine wp_loopN (fun k1 a w => ∃ z2 z3, m_laws_toKidS_L0 fuel x0 k1 z2 z3 = some z1 ∧ Fr a 23 [(0, .slice a_x0 x0.length c_x0), (3, .slice (some ⟨p1, 0, none⟩) ((List.replicate ((x0.length : Int) : Int).toNat ((⟨[]⟩ : KidD) : KidD)).length) ((List.replicate ((x0.length : Int) : Int).toNat ((⟨[]⟩ : KidD) : KidD)).length)), (4, .int .i64 z3)] ∧ St w0 (fun _ => False) w [Own 127 (rowT z2) (.slice (some ⟨p1, 0, none⟩) ((List.replicate ((x0.length : Int) : Int).toNat ((⟨[]⟩ : KidD) : KidD)).length) ((List.replicate ((x0.length : Int) : Int).toNat ((⟨[]⟩ : KidD) : KidD)).length))]) fuel ⟨List.replicate ((x0.length : Int) : Int).toNat ((⟨[]⟩ : KidD) : KidD), 0, h, (HF.keep (HF.keep (HF.keep HF.nil rfl) rfl) rfl), HT⟩ ?_
  rintro k1 a w ⟨z2, z3, h, HF, HT⟩
  rcases k1 with _ | k1
  cases h
  rw [m_laws_toKidS_L0] at h
  refine ?_
  refine wp_seq ?_
  refine wp_seq ?_
  refine wc_text ?_
  refine wc_move HF nS rfl rfl rfl (fun a HF => ?_)
  refine wc_move HF nS rfl rfl rfl (fun a HF => ?_)
  refine wc_lenR HF nS Try.underlying44 rfl rfl rfl (fun a HF => ?_)
  refine wc_bin HF nS rfl rfl b_lt rfl rfl (fun a HF => ?_)
  refine wc_end ?_
  refine then_n ?_
  by_cases hb1 : z3 < (x0.length : Int)
  have h := (if_pos hb1).symm.trans h
  refine wp_if (b' := true) HF rfl (decide_eq_true hb1) ?_
  refine wp_skip ?_
  refine then_n ?_
  refine wp_seq ?_
  refine wp_block ?_
  refine wc_text ?_
  refine wc_move HF nS rfl rfl rfl (fun a HF => ?_)
  refine wc_move HF nS rfl rfl rfl (fun a HF => ?_)
  refine wc_move HF nS rfl rfl rfl (fun a HF => ?_)
  refine wc_move HF nS rfl rfl rfl (fun a HF => ?_)
  obtain ⟨e1, hx2, h⟩ := obs h
  obtain ⟨b1, o1, ha1⟩ := (HT.ro hr_x0).any.addr hx2
  refine wc_ixaddr HF nS el44 rfl ha1 ((HT.ro hr_x0).any).neq rfl hx2 rfl rfl (fun a HF => ?_)
  obtain ⟨_, hP1, hc1, hr1⟩ := hr_x0.elemAt ha1 hx2
  obtain ⟨a1, c1, rfl, hr2⟩ := cells_Kid hr1
  have hc2 := HT.roLd hP1 hc1
  refine wc_loadA (vs := [.slice a1 e1.code.length c1]) HF rfl ag137 rfl (hc2.part 0 1) rfl rfl (fun a HF => ?_)
  obtain ⟨y1, hx3, h⟩ := obs h
  refine wc_call HF cf109 rfl (w_laws_toKid fuel hx3 (HT.ro hr2).any) rfl rfl ?_
  rintro e w ⟨a2, n1, c2, rfl, hE⟩
  have hb := hE.below
  have HT := HT.pure hE
  obtain rfl := (HT.rdAt 0 rfl).neq
  have HT : St w0 (fun _ => False) w [Own 85 (rowT y1) (.slice a2 y1.length c2), Own 127 (rowT z2) (.slice (some ⟨p1, 0, none⟩) ((List.replicate ((x0.length : Int) : Int).toNat ((⟨[]⟩ : KidD) : KidD)).length) ((List.replicate ((x0.length : Int) : Int).toNat ((⟨[]⟩ : KidD) : KidD)).length))] := HT
  refine ⟨_, rfl, nS, fun a HF => ?_⟩
  obtain ⟨e2, hx4, h⟩ := obs h
  refine wc_ixaddr HF nS el51 rfl rfl ((HT.rdAt 1 rfl)).neq rfl hx4 rfl rfl (fun a HF => ?_)
  have HT := HT.p1
  refine wc_storeN (i := z3) (x' := (⟨y1⟩ : KidD)) (A := [Own 85 (rowT y1) (.slice a2 y1.length c2)]) HF HT rfl rfl rfl (fun w => (ag127 w).2) rfl hx4 (fun w => (gives_own gives_nil)) rfl (fun w HT => ⟨nS, ?_⟩)
  refine wc_end ?_
  refine blk_n ?_
  refine then_n ?_
  refine wc_text ?_
  refine wc_move HF nS rfl rfl rfl (fun a HF => ?_)
  obtain ⟨hg2, h⟩ := grd h
  refine wc_bin HF nS rfl rfl (b_add hg2) rfl rfl (fun a HF => ?_)
  refine wc_assign HF nS rfl rfl rfl (fun a HF => ?_)
  refine wc_end ?_
  exact then_n ⟨k1, Nat.lt_succ_self k1, z2.set z3.toNat (⟨y1⟩ : KidD), z3 + 1, h, (HF.keep (HF.keep (HF.keep HF.nil rfl) rfl) rfl), HT⟩
  have h := (if_neg hb1).symm.trans h
  refine wp_if (b' := false) HF rfl (decide_eq_false hb1) ?_
  refine wp_exit ?_
  refine then_x (then_x (?_))
  refine blk_x ?_
  obtain rfl := Option.some.inj h
  exact then_n ⟨(HF.keep HF.nil rfl), HT⟩
  rintro a w ⟨HF, HT⟩
  refine ?_
  refine wp_seq ?_
  refine wc_text ?_
  refine wc_move HF nS rfl rfl rfl (fun a HF => ?_)
  refine wc_assign HF nS rfl rfl rfl (fun a HF => ?_)
  refine wc_end ?_
  refine then_n ?_
  refine wp_ret ?_
  obtain rfl := Option.some.inj h
  refine bp_ret HF (res_one rfl HF rfl) ?_
  exact ⟨(some ⟨p1, 0, none⟩), (List.replicate ((x0.length : Int) : Int).toNat ((⟨[]⟩ : KidD) : KidD)).length, (List.replicate ((x0.length : Int) : Int).toNat ((⟨[]⟩ : KidD) : KidD)).length, rfl, HT⟩

def m_laws_toProg (fuel : Nat) (x0_0 : List I4) (x0_1 : List KidD) : Option (List I4 × List KidD) :=
  (m_laws_toOpS fuel x0_0).bind fun y1 =>
  (m_laws_toKidS fuel x0_1).bind fun y2 =>
  some (y1, y2)

set_option maxRecDepth 100000 in
set_option maxHeartbeats 4000000 in
theorem w_laws_toProg (fuel : Nat) {x0_0 : List I4} {x0_1 : List KidD} {a_x0_0 : Option Addr} {n_x0_0 c_x0_0 : Nat} {a_x0_1 : Option Addr} {n_x0_1 c_x0_1 : Nat} {r0_0 : List I4} {r0_1 : List KidD} {w0 : World} (h : m_laws_toProg fuel x0_0 x0_1 = some (r0_0, r0_1)) (hr_x0_0 : RdT (fun b => ¬ False) w0 (rowT x0_0) (.slice a_x0_0 n_x0_0 c_x0_0)) (hr_x0_1 : RdT (fun b => ¬ False) w0 (rowT x0_1) (.slice a_x0_1 n_x0_1 c_x0_1)) :
    Calls Try.prog 29 #[.agg #[.slice a_x0_0 n_x0_0 c_x0_0, .slice a_x0_1 n_x0_1 c_x0_1]] w0 fun e w => ∃ a_r0_0 n_r0_0 c_r0_0, ∃ a_r0_1 n_r0_1 c_r0_1, e = .returned (.agg #[.slice a_r0_0 n_r0_0 c_r0_0, .slice a_r0_1 n_r0_1 c_r0_1]) ∧ St w0 (fun _ => False) w [Own 85 (rowT r0_0) (.slice a_r0_0 n_r0_0 c_r0_0), Own 127 (rowT r0_1) (.slice a_r0_1 n_r0_1 c_r0_1)] := by
  obtain rfl := hr_x0_0.neq
  obtain rfl := hr_x0_1.neq
  have HT : St w0 (fun _ => False) w0 [] := St.init0
  rw [m_laws_toProg] at h
  refine calls_fr (n := 13) [.agg #[.slice a_x0_0 x0_0.length c_x0_0, .slice a_x0_1 x0_1.length c_x0_1]] Try.func29 rfl rfl rfl (fun a HF => ?_)
  have HT : St w0 (fun _ => False) w0 [] := HT
  refine wp_seq ?_
  refine wc_text ?_
  refine wc_box (cs := [.slice a_x0_0 x0_0.length c_x0_0, .slice a_x0_1 x0_1.length c_x0_1]) HF HT rfl rfl rfl rfl (fun p1 w HT hb => ⟨nS, fun a HF => ?_⟩)
  refine wc_alloc (cs := [.slice none 0 0, .slice none 0 0]) HF HT zr53 rfl rfl rfl (fun p2 w HT hb => ⟨nS, fun a HF => ?_⟩)
  refine wc_end ?_
  refine then_n ?_
  refine wp_seq ?_
  refine wc_text ?_
  refine wc_alloc (cs := [.slice none 0 0, .slice none 0 0]) HF HT zr53 rfl rfl rfl (fun p3 w HT hb => ⟨nS, fun a HF => ?_⟩)
  refine wc_end ?_
  refine then_n ?_
  refine wp_seq ?_
  refine wc_text ?_
  refine wc_faddr HF nS rfl fl46_0 rfl rfl (fun a HF => ?_)
  refine wc_load HF rfl sc32 ((HT.boxAt 2 rfl).get 0 rfl) rfl rfl (fun a HF => ?_)
  obtain ⟨y1, hx1, h⟩ := obs h
  refine wc_call HF cf19 rfl (w_laws_toOpS fuel hx1 (HT.ro hr_x0_0).any) rfl rfl ?_
  rintro e w ⟨a1, n1, c1, rfl, hE⟩
  have hb := hE.below
  have HT := HT.pure hE
  obtain rfl := (HT.rdAt 0 rfl).neq
  have HT : St w0 (fun _ => False) w [Own 85 (rowT y1) (.slice a1 y1.length c1), Box p3 [.slice none 0 0, .slice none 0 0], Box p2 [.slice none 0 0, .slice none 0 0], Box p1 [.slice a_x0_0 x0_0.length c_x0_0, .slice a_x0_1 x0_1.length c_x0_1]] := HT
  refine ⟨_, rfl, nS, fun a HF => ?_⟩
  refine wc_faddr HF nS rfl fl53_0 rfl rfl (fun a HF => ?_)
  have HT := HT.p1
  refine wc_storeB (cs' := [.slice a1 y1.length c1, .slice none 0 0]) HF HT rfl rfl (fun w => (sc36 w).2) rfl rfl rfl rfl rfl (fun w HT => ⟨nS, ?_⟩)
  refine wc_end ?_
  refine then_n ?_
  refine wp_seq ?_
  refine wc_text ?_
  refine wc_faddr HF nS rfl fl46_1 rfl rfl (fun a HF => ?_)
  refine wc_load HF rfl sc44 ((HT.boxAt 3 rfl).get 1 rfl) rfl rfl (fun a HF => ?_)
  obtain ⟨y2, hx2, h⟩ := obs h
  refine wc_call HF cf74 rfl (w_laws_toKidS fuel hx2 (HT.ro hr_x0_1).any) rfl rfl ?_
  rintro e w ⟨a2, n2, c2, rfl, hE⟩
  have hb := hE.below
  have HT := HT.pure hE
  obtain rfl := (HT.rdAt 0 rfl).neq
  have HT : St w0 (fun _ => False) w [Own 127 (rowT y2) (.slice a2 y2.length c2), Box p3 [.slice a1 y1.length c1, .slice none 0 0], Own 85 (rowT y1) (.slice a1 y1.length c1), Box p2 [.slice none 0 0, .slice none 0 0], Box p1 [.slice a_x0_0 x0_0.length c_x0_0, .slice a_x0_1 x0_1.length c_x0_1]] := HT
  refine ⟨_, rfl, nS, fun a HF => ?_⟩
  refine wc_faddr HF nS rfl fl53_1 rfl rfl (fun a HF => ?_)
  have HT := HT.p1
  refine wc_storeB (cs' := [.slice a1 y1.length c1, .slice a2 y2.length c2]) HF HT rfl rfl (fun w => (sc51 w).2) rfl rfl rfl rfl rfl (fun w HT => ⟨nS, ?_⟩)
  refine wc_end ?_
  refine then_n ?_
  refine wp_seq ?_
  refine wc_text ?_
  refine wc_loadA (vs := [.slice a1 y1.length c1, .slice a2 y2.length c2]) HF rfl ag53 rfl ((HT.boxAt 0 rfl).part 0 2) rfl rfl (fun a HF => ?_)
  have HT := HT.p3
  refine wc_storeB (cs' := [.slice a1 y1.length c1, .slice a2 y2.length c2]) HF HT rfl rfl (fun w => (ag53 w).2) rfl rfl rfl rfl rfl (fun w HT => ⟨nS, ?_⟩)
  refine wc_end ?_
  refine then_n ?_
  refine wp_ret ?_
  have hj1 := Option.some.inj h
  obtain ⟨hi1, hj2⟩ := Prod.mk.inj hj1
  subst hi1
  subst hj2
  refine bp_ret HF (res_cell (vs := [.slice a1 y1.length c1, .slice a2 y2.length c2]) rfl HF rfl ag53 rfl (HT.boxAt 0 rfl)) ?_
  have HT := HT.p2.p3.t2
  exact ⟨a1, y1.length, c1, a2, y2.length, c2, rfl, HT⟩

def m_laws_toThings (fuel : Nat) (x0_0 : List Int) (x0_1 : List Int) (x0_2 : Int) : Option (List Int × List Int × Int) :=
  (m_laws_toIntS fuel x0_0).bind fun y1 =>
  (m_laws_toIntS fuel x0_1).bind fun y2 =>
  some (y1, y2, x0_2)

set_option maxRecDepth 100000 in
set_option maxHeartbeats 4000000 in
theorem w_laws_toThings (fuel : Nat) {x0_0 : List Int} {x0_1 : List Int} {x0_2 : Int} {a_x0_0 : Option Addr} {n_x0_0 c_x0_0 : Nat} {a_x0_1 : Option Addr} {n_x0_1 c_x0_1 : Nat} {r0_0 : List Int} {r0_1 : List Int} {r0_2 : Int} {w0 : World} (h : m_laws_toThings fuel x0_0 x0_1 x0_2 = some (r0_0, r0_1, r0_2)) (hr_x0_0 : RdT (fun b => ¬ False) w0 (rowT x0_0) (.slice a_x0_0 n_x0_0 c_x0_0)) (hr_x0_1 : RdT (fun b => ¬ False) w0 (rowT x0_1) (.slice a_x0_1 n_x0_1 c_x0_1)) :
    Calls Try.prog 12 #[.agg #[.slice a_x0_0 n_x0_0 c_x0_0, .slice a_x0_1 n_x0_1 c_x0_1, .int .i64 x0_2]] w0 fun e w => ∃ a_r0_0 n_r0_0 c_r0_0, ∃ a_r0_1 n_r0_1 c_r0_1, e = .returned (.agg #[.slice a_r0_0 n_r0_0 c_r0_0, .slice a_r0_1 n_r0_1 c_r0_1, .int .i64 r0_2]) ∧ St w0 (fun _ => False) w [Own 3 (rowT r0_0) (.slice a_r0_0 n_r0_0 c_r0_0), Own 3 (rowT r0_1) (.slice a_r0_1 n_r0_1 c_r0_1)] := by
  obtain rfl := hr_x0_0.neq
  obtain rfl := hr_x0_1.neq
  have HT : St w0 (fun _ => False) w0 [] := St.init0
  rw [m_laws_toThings] at h
  refine calls_fr (n := 16) [.agg #[.slice a_x0_0 x0_0.length c_x0_0, .slice a_x0_1 x0_1.length c_x0_1, .int .i64 x0_2]] Try.func12 rfl rfl rfl (fun a HF => ?_)
  have HT : St w0 (fun _ => False) w0 [] := HT
  refine wp_seq ?_
  refine wc_text ?_
  refine wc_box (cs := [.slice a_x0_0 x0_0.length c_x0_0, .slice a_x0_1 x0_1.length c_x0_1, .int .i64 x0_2]) HF HT rfl rfl rfl rfl (fun p1 w HT hb => ⟨nS, fun a HF => ?_⟩)
  refine wc_alloc (cs := [.slice none 0 0, .slice none 0 0, .int .i64 0]) HF HT zr27 rfl rfl rfl (fun p2 w HT hb => ⟨nS, fun a HF => ?_⟩)
  refine wc_end ?_
  refine then_n ?_
  refine wp_seq ?_
  refine wc_text ?_
  refine wc_alloc (cs := [.slice none 0 0, .slice none 0 0, .int .i64 0]) HF HT zr27 rfl rfl rfl (fun p3 w HT hb => ⟨nS, fun a HF => ?_⟩)
  refine wc_end ?_
  refine then_n ?_
  refine wp_seq ?_
  refine wc_text ?_
  refine wc_faddr HF nS rfl fl24_0 rfl rfl (fun a HF => ?_)
  refine wc_load HF rfl sc22 ((HT.boxAt 2 rfl).get 0 rfl) rfl rfl (fun a HF => ?_)
  obtain ⟨y1, hx1, h⟩ := obs h
  refine wc_call HF cf20 rfl (w_laws_toIntS fuel hx1 (HT.ro hr_x0_0).any) rfl rfl ?_
  rintro e w ⟨a1, n1, c1, rfl, hE⟩
  have hb := hE.below
  have HT := HT.pure hE
  obtain rfl := (HT.rdAt 0 rfl).neq
  have HT : St w0 (fun _ => False) w [Own 3 (rowT y1) (.slice a1 y1.length c1), Box p3 [.slice none 0 0, .slice none 0 0, .int .i64 0], Box p2 [.slice none 0 0, .slice none 0 0, .int .i64 0], Box p1 [.slice a_x0_0 x0_0.length c_x0_0, .slice a_x0_1 x0_1.length c_x0_1, .int .i64 x0_2]] := HT
  refine ⟨_, rfl, nS, fun a HF => ?_⟩
  refine wc_faddr HF nS rfl fl27_0 rfl rfl (fun a HF => ?_)
  have HT := HT.p1
  refine wc_storeB (cs' := [.slice a1 y1.length c1, .slice none 0 0, .int .i64 0]) HF HT rfl rfl (fun w => (sc22 w).2) rfl rfl rfl rfl rfl (fun w HT => ⟨nS, ?_⟩)
  refine wc_end ?_
  refine then_n ?_
  refine wp_seq ?_
  refine wc_text ?_
  refine wc_faddr HF nS rfl fl24_1 rfl rfl (fun a HF => ?_)
  refine wc_load HF rfl sc22 ((HT.boxAt 3 rfl).get 1 rfl) rfl rfl (fun a HF => ?_)
  obtain ⟨y2, hx2, h⟩ := obs h
  refine wc_call HF cf20 rfl (w_laws_toIntS fuel hx2 (HT.ro hr_x0_1).any) rfl rfl ?_
  rintro e w ⟨a2, n2, c2, rfl, hE⟩
  have hb := hE.below
  have HT := HT.pure hE
  obtain rfl := (HT.rdAt 0 rfl).neq
  have HT : St w0 (fun _ => False) w [Own 3 (rowT y2) (.slice a2 y2.length c2), Box p3 [.slice a1 y1.length c1, .slice none 0 0, .int .i64 0], Own 3 (rowT y1) (.slice a1 y1.length c1), Box p2 [.slice none 0 0, .slice none 0 0, .int .i64 0], Box p1 [.slice a_x0_0 x0_0.length c_x0_0, .slice a_x0_1 x0_1.length c_x0_1, .int .i64 x0_2]] := HT
  refine ⟨_, rfl, nS, fun a HF => ?_⟩
  refine wc_faddr HF nS rfl fl27_1 rfl rfl (fun a HF => ?_)
  have HT := HT.p1
  refine wc_storeB (cs' := [.slice a1 y1.length c1, .slice a2 y2.length c2, .int .i64 0]) HF HT rfl rfl (fun w => (sc22 w).2) rfl rfl rfl rfl rfl (fun w HT => ⟨nS, ?_⟩)
  refine wc_end ?_
  refine then_n ?_
  refine wp_seq ?_
  refine wc_text ?_
  refine wc_faddr HF nS rfl fl24_2 rfl rfl (fun a HF => ?_)
  refine wc_load HF rfl sc3 ((HT.boxAt 4 rfl).get 2 rfl) rfl rfl (fun a HF => ?_)
  refine wc_faddr HF nS rfl fl27_2 rfl rfl (fun a HF => ?_)
  refine wc_storeB (cs' := [.slice a1 y1.length c1, .slice a2 y2.length c2, .int .i64 x0_2]) HF HT rfl rfl (fun w => (sc3 w).2) rfl rfl rfl rfl rfl (fun w HT => ⟨nS, ?_⟩)
  refine wc_end ?_
  refine then_n ?_
  refine wp_seq ?_
  refine wc_text ?_
  refine wc_loadA (vs := [.slice a1 y1.length c1, .slice a2 y2.length c2, .int .i64 x0_2]) HF rfl ag27 rfl ((HT.boxAt 0 rfl).part 0 3) rfl rfl (fun a HF => ?_)
  have HT := HT.p3
  refine wc_storeB (cs' := [.slice a1 y1.length c1, .slice a2 y2.length c2, .int .i64 x0_2]) HF HT rfl rfl (fun w => (ag27 w).2) rfl rfl rfl rfl rfl (fun w HT => ⟨nS, ?_⟩)
  refine wc_end ?_
  refine then_n ?_
  refine wp_ret ?_
  have hj1 := Option.some.inj h
  obtain ⟨hi1, hj2⟩ := Prod.mk.inj hj1
  subst hi1
  obtain ⟨hi2, hj3⟩ := Prod.mk.inj hj2
  subst hi2
  subst hj3
  refine bp_ret HF (res_cell (vs := [.slice a1 y1.length c1, .slice a2 y2.length c2, .int .i64 x0_2]) rfl HF rfl ag27 rfl (HT.boxAt 0 rfl)) ?_
  have HT := HT.p2.p3.t2
  exact ⟨a1, y1.length, c1, a2, y2.length, c2, rfl, HT⟩

def m_spec_ProgOk_L0 (fuel : Nat) (x0_1 : List KidD) : Nat → Int → Option (Lp Unit Bool)
  | 0, _ => none
  | k1 + 1, z1 =>
    if z1 < (x0_1.length : Int) then
      (at? x0_1 z1).bind fun e1 =>
      (m_spec_KidOk fuel e1.code).bind fun y3 =>
      if y3 = true then
        if in64 (z1 + 1) then
          m_spec_ProgOk_L0 fuel x0_1 k1 (z1 + 1)
        else none
      else
      some (.ret false)
    else
    some (.brk ())

def m_spec_ProgOk (fuel : Nat) (x0_0 : List I4) (x0_1 : List KidD) : Option Bool :=
  (m_spec_CodeOk fuel x0_0).bind fun y1 =>
  if y1 = true then
    if 3 < (x0_1.length : Int) then
      some false
    else
    (m_spec_HasFork fuel x0_0).bind fun y2 =>
    if (y2 == (decide (0 < (x0_1.length : Int)))) = true then
      (m_spec_ProgOk_L0 fuel x0_1 fuel 0).bind <| contL <| un1 fun _ =>
      some true
    else
    some false
  else
  some false

set_option maxRecDepth 100000 in
set_option maxHeartbeats 4000000 in
theorem w_spec_ProgOk (fuel : Nat) {x0_0 : List I4} {x0_1 : List KidD} {a_x0_0 : Option Addr} {n_x0_0 c_x0_0 : Nat} {a_x0_1 : Option Addr} {n_x0_1 c_x0_1 : Nat} {r0 : Bool} {w0 : World} (h : m_spec_ProgOk fuel x0_0 x0_1 = some r0) (hr_x0_0 : RdT (fun b => ¬ False) w0 (rowT x0_0) (.slice a_x0_0 n_x0_0 c_x0_0)) (hr_x0_1 : RdT (fun b => ¬ False) w0 (rowT x0_1) (.slice a_x0_1 n_x0_1 c_x0_1)) :
    Calls Try.prog 72 #[.agg #[.slice a_x0_0 n_x0_0 c_x0_0, .slice a_x0_1 n_x0_1 c_x0_1]] w0 fun e w => e = .returned (.bool r0) ∧ St w0 (fun _ => False) w [] := by
  obtain rfl := hr_x0_0.neq
  obtain rfl := hr_x0_1.neq
  have HT : St w0 (fun _ => False) w0 [] := St.init0
  rw [m_spec_ProgOk] at h
  refine calls_fr (n := 39) [.agg #[.slice a_x0_0 x0_0.length c_x0_0, .slice a_x0_1 x0_1.length c_x0_1]] Try.func72 rfl rfl rfl (fun a HF => ?_)
  have HT : St w0 (fun _ => False) w0 [] := HT
  refine wp_seq ?_
  refine wc_text ?_
  refine wc_box (cs := [.slice a_x0_0 x0_0.length c_x0_0, .slice a_x0_1 x0_1.length c_x0_1]) HF HT rfl rfl rfl rfl (fun p1 w HT hb => ⟨nS, fun a HF => ?_⟩)
  refine wc_assign HF nS rfl rfl rfl (fun a HF => ?_)
  refine wc_end ?_
  refine then_n ?_
  refine wp_seq ?_
  refine wp_seq ?_
  refine wp_region_can [(0, true), (1, true), (2, false), (3, true), (4, true), (5, true), (6, true), (7, true), (8, true), (9, true), (10, true), (11, true), (12, true), (14, false), (15, false), (16, false), (17, false), (13, false), (18, true), (19, true)] (fun w' => w'.cell? ⟨p1, 1, none⟩ = some (.slice a_x0_1 x0_1.length c_x0_1) ∧ True) (by kernel_rfl) (by kernel_rfl) ?_
  have HT := HT.drew
  refine wc_faddr HF nS rfl fl53_0 rfl rfl (fun a HF => ?_)
  refine wc_load HF rfl sc36 ((HT.boxAt 0 rfl).get 0 rfl) rfl rfl (fun a HF => ?_)
  obtain ⟨y1, hx1, h⟩ := obs h
  refine wc_call HF cf91 rfl (w_spec_CodeOk fuel hx1 (HT.ro hr_x0_0).any) rfl rfl ?_
  rintro e w ⟨rfl, hE⟩
  have hb := hE.below
  have HT := HT.pure hE
  have HT : St w0 (fun _ => False) w [Box p1 [.slice a_x0_0 x0_0.length c_x0_0, .slice a_x0_1 x0_1.length c_x0_1]] := HT
  refine ⟨_, rfl, (fun _ => ⟨(HT.boxAt 0 rfl).get 1 rfl, trivial⟩), fun a HF => ?_⟩
  refine wc_not HF nS rfl rfl rfl (fun a HF => ?_)
  refine wc_move HF nS rfl rfl rfl (fun a HF => ?_)
  by_cases hb1 : y1 = true
  have h := (if_pos hb1).symm.trans h
  refine wc_faddr HF nS rfl fl53_1 (HF.wy rfl rfl rfl rfl (notT hb1)) rfl (fun a HF => ?_)
  refine wc_load HF rfl sc51 ((HT.boxAt 0 rfl).get 1 rfl) (HF.wy rfl rfl rfl rfl (notT hb1)) rfl (fun a HF => ?_)
  refine wc_lenR HF nS Try.underlying51 rfl (HF.wy rfl rfl rfl rfl (notT hb1)) rfl (fun a HF => ?_)
  refine wc_bin HF nS rfl rfl b_gt (HF.wy rfl rfl rfl rfl (notT hb1)) rfl (fun a HF => ?_)
  refine wc_pick (b := false) HF nS rfl (notT hb1) rfl rfl rfl (fun a HF => ?_)
  refine wc_move HF nS rfl rfl rfl (fun a HF => ?_)
  by_cases hb2 : 3 < (x0_1.length : Int)
  have h := (if_pos hb2).symm.trans h
  refine wc_skip HF nS (HF.wn rfl rfl rfl rfl (decide_eq_true hb2)) rfl (fun a HF => ?_)
  refine wc_skip HF nS (HF.wn rfl rfl rfl rfl (decide_eq_true hb2)) rfl (fun a HF => ?_)
  refine wc_skip HF (fun _ => ⟨(HT.boxAt 0 rfl).get 1 rfl, trivial⟩) (HF.wn rfl rfl rfl rfl (decide_eq_true hb2)) rfl (fun a HF => ?_)
  refine wc_skip HF (fun _ => ⟨(HT.boxAt 0 rfl).get 1 rfl, trivial⟩) (HF.wn rfl rfl rfl rfl (decide_eq_true hb2)) rfl (fun a HF => ?_)
  refine wc_skip HF (fun _ => ⟨(HT.boxAt 0 rfl).get 1 rfl, trivial⟩) (HF.wn rfl rfl rfl rfl (decide_eq_true hb2)) rfl (fun a HF => ?_)
  refine wc_skip HF (fun _ => ⟨(HT.boxAt 0 rfl).get 1 rfl, trivial⟩) (HF.wn rfl rfl rfl rfl (decide_eq_true hb2)) rfl (fun a HF => ?_)
  refine wc_skip HF (fun _ => ⟨(HT.boxAt 0 rfl).get 1 rfl, trivial⟩) (HF.wn rfl rfl rfl rfl (decide_eq_true hb2)) rfl (fun a HF => ?_)
  refine wc_skip HF nS (HF.wn rfl rfl rfl rfl (decide_eq_true hb2)) rfl (fun a HF => ?_)
  refine wc_pick (b := true) HF nS rfl (decide_eq_true hb2) rfl rfl rfl (fun a HF => ?_)
  refine wc_endN ?_
  refine then_n ?_
  refine wp_if (b' := true) HF rfl rfl ?_
  refine wp_seq ?_
  refine wc_text ?_
  refine wc_assign HF nS rfl rfl rfl (fun a HF => ?_)
  refine wc_end ?_
  refine then_n ?_
  refine wp_ret ?_
  obtain rfl := Option.some.inj h
  refine then_r (?_)
  refine bp_ret HF (res_one rfl HF rfl) ?_
  have HT := HT.t0
  exact ⟨rfl, HT⟩
  have h := (if_neg hb2).symm.trans h
  refine wc_faddr HF nS rfl fl53_0 (HF.wy rfl rfl rfl rfl (decide_eq_false hb2)) rfl (fun a HF => ?_)
  refine wc_load HF rfl sc36 ((HT.boxAt 0 rfl).get 0 rfl) (HF.wy rfl rfl rfl rfl (decide_eq_false hb2)) rfl (fun a HF => ?_)
  refine wc_faddr HF (fun _ => ⟨(HT.boxAt 0 rfl).get 1 rfl, trivial⟩) rfl fl53_1 (HF.wy rfl rfl rfl rfl (decide_eq_false hb2)) rfl (fun a HF => ?_)
  refine wc_loadS HF ⟨(HT.boxAt 0 rfl).get 1 rfl, trivial⟩ rfl sc51 (fun w hS => hS.1) (HF.wy rfl rfl rfl rfl (decide_eq_false hb2)) rfl (fun a HF => ?_)
  refine wc_lenR HF (fun _ => ⟨(HT.boxAt 0 rfl).get 1 rfl, trivial⟩) Try.underlying51 rfl (HF.wy rfl rfl rfl rfl (decide_eq_false hb2)) rfl (fun a HF => ?_)
  refine wc_bin HF (fun _ => ⟨(HT.boxAt 0 rfl).get 1 rfl, trivial⟩) rfl rfl b_gt (HF.wy rfl rfl rfl rfl (decide_eq_false hb2)) rfl (fun a HF => ?_)
  obtain ⟨y2, hx2, h⟩ := obs h
  refine wc_call HF cf92 rfl (w_spec_HasFork fuel hx2 (HT.ro hr_x0_0).any) (HF.wy rfl rfl rfl rfl (decide_eq_false hb2)) rfl ?_
  rintro e w ⟨rfl, hE⟩
  have hb := hE.below
  have HT := HT.pure hE
  have HT : St w0 (fun _ => False) w [Box p1 [.slice a_x0_0 x0_0.length c_x0_0, .slice a_x0_1 x0_1.length c_x0_1]] := HT
  refine ⟨_, rfl, (fun _ => ⟨(HT.boxAt 0 rfl).get 1 rfl, trivial⟩), fun a HF => ?_⟩
  refine wc_bin HF nS rfl rfl (b_bne Try.underlying4) (HF.wy rfl rfl rfl rfl (decide_eq_false hb2)) rfl (fun a HF => ?_)
  refine wc_pick (b := false) HF nS rfl (decide_eq_false hb2) rfl rfl rfl (fun a HF => ?_)
  refine wc_endN ?_
  refine then_n ?_
  by_cases hb3 : (y2 == (decide (0 < (x0_1.length : Int)))) = true
  have h := (if_pos hb3).symm.trans h
  refine wp_if (b' := false) HF rfl (notT hb3) ?_
  refine wp_skip ?_
  refine then_n ?_
  obtain ⟨q1, hx3, h⟩ := obs h
  refine wp_cut (fun a w => q1 = .brk () ∧ Fr a 39 [] ∧ St w0 (fun _ => False) w []) ?_ ?_
  have hk1 := h
  have h := hx3
  refine wp_seq ?_
  refine wc_text ?_
  refine wc_assign HF nS rfl rfl rfl (fun a HF => ?_)
  refine wc_end ?_
  refine then_n ?_
  refine wp_block ?_
  refine wp_loopN (fun k1 a w => ∃ z1, m_spec_ProgOk_L0 fuel x0_1 k1 z1 = some q1 ∧ Fr a 39 [(1, .pointer (some ⟨p1, 0, none⟩)), (3, .int .i64 z1)] ∧ St w0 (fun _ => False) w [Box p1 [.slice a_x0_0 x0_0.length c_x0_0, .slice a_x0_1 x0_1.length c_x0_1]]) fuel ⟨0, h, (HF.keep (HF.keep HF.nil rfl) rfl), HT⟩ ?_
  rintro k1 a w ⟨z1, h, HF, HT⟩
  rcases k1 with _ | k1
  cases h
  rw [m_spec_ProgOk_L0] at h
  refine ?_
  refine wp_seq ?_
  refine wp_seq ?_
  refine wc_text ?_
  refine wc_move HF nS rfl rfl rfl (fun a HF => ?_)
  refine wc_faddr HF nS rfl fl53_1 rfl rfl (fun a HF => ?_)
  refine wc_load HF rfl sc51 ((HT.boxAt 0 rfl).get 1 rfl) rfl rfl (fun a HF => ?_)
  refine wc_lenR HF nS Try.underlying51 rfl rfl rfl (fun a HF => ?_)
  refine wc_bin HF nS rfl rfl b_lt rfl rfl (fun a HF => ?_)
  refine wc_end ?_
  refine then_n ?_
  by_cases hb4 : z1 < (x0_1.length : Int)
  have h := (if_pos hb4).symm.trans h
  refine wp_if (b' := true) HF rfl (decide_eq_true hb4) ?_
  refine wp_skip ?_
  refine then_n ?_
  refine wp_seq ?_
  refine wp_block ?_
  refine wp_seq ?_
  refine wc_text ?_
  refine wc_faddr HF nS rfl fl53_1 rfl rfl (fun a HF => ?_)
  refine wc_load HF rfl sc51 ((HT.boxAt 0 rfl).get 1 rfl) rfl rfl (fun a HF => ?_)
  refine wc_move HF nS rfl rfl rfl (fun a HF => ?_)
  obtain ⟨e1, hx4, h⟩ := obs h
  obtain ⟨b1, o1, ha1⟩ := (HT.ro hr_x0_1).any.addr hx4
  refine wc_ixaddr HF nS el51 rfl ha1 ((HT.ro hr_x0_1).any).neq rfl hx4 rfl rfl (fun a HF => ?_)
  refine wc_faddr HF nS rfl fl127_0 rfl rfl (fun a HF => ?_)
  obtain ⟨_, hP1, hc1, hr1⟩ := hr_x0_1.elemAt ha1 hx4
  obtain ⟨a1, c1, rfl, hr2⟩ := cells_Kid hr1
  have hc2 := HT.roLd hP1 hc1
  refine wc_load HF rfl sc36 (hc2.get 0 rfl) rfl rfl (fun a HF => ?_)
  obtain ⟨y3, hx5, h⟩ := obs h
  refine wc_call HF cf53 rfl (w_spec_KidOk fuel hx5 (HT.ro hr2).any) rfl rfl ?_
  rintro e w ⟨rfl, hE⟩
  have hb := hE.below
  have HT := HT.pure hE
  have HT : St w0 (fun _ => False) w [Box p1 [.slice a_x0_0 x0_0.length c_x0_0, .slice a_x0_1 x0_1.length c_x0_1]] := HT
  refine ⟨_, rfl, nS, fun a HF => ?_⟩
  refine wc_not HF nS rfl rfl rfl (fun a HF => ?_)
  refine wc_end ?_
  refine then_n ?_
  by_cases hb5 : y3 = true
  have h := (if_pos hb5).symm.trans h
  refine wp_if (b' := false) HF rfl (notT hb5) ?_
  refine wp_skip ?_
  refine blk_n ?_
  refine then_n ?_
  refine wc_text ?_
  refine wc_move HF nS rfl rfl rfl (fun a HF => ?_)
  obtain ⟨hg1, h⟩ := grd h
  refine wc_bin HF nS rfl rfl (b_add hg1) rfl rfl (fun a HF => ?_)
  refine wc_assign HF nS rfl rfl rfl (fun a HF => ?_)
  refine wc_end ?_
  exact then_n ⟨k1, Nat.lt_succ_self k1, z1 + 1, h, (HF.keep (HF.keep HF.nil rfl) rfl), HT⟩
  have h := (if_neg hb5).symm.trans h
  refine wp_if (b' := true) HF rfl (notF (Bool.eq_false_iff.2 hb5)) ?_
  refine wp_seq ?_
  refine wc_text ?_
  refine wc_assign HF nS rfl rfl rfl (fun a HF => ?_)
  refine wc_end ?_
  refine then_n ?_
  refine wp_ret ?_
  obtain rfl := Option.some.inj h
  have h := retL hk1
  obtain rfl := Option.some.inj h
  refine blk_r (then_r (then_r (blk_r (then_r (?_)))))
  refine bp_ret HF (res_one rfl HF rfl) ?_
  have HT := HT.t0
  exact ⟨rfl, HT⟩
  have h := (if_neg hb4).symm.trans h
  refine wp_if (b' := false) HF rfl (decide_eq_false hb4) ?_
  refine wp_exit ?_
  refine then_x (then_x (?_))
  refine blk_x ?_
  have HT := HT.t0
  exact then_n ⟨(Option.some.inj h).symm, HF.nil, HT⟩
  rintro a w ⟨rfl, HF, HT⟩
  have h := brkL1u h
  refine ?_
  refine wp_seq ?_
  refine wc_text ?_
  refine wc_assign HF nS rfl rfl rfl (fun a HF => ?_)
  refine wc_end ?_
  refine then_n ?_
  refine wp_ret ?_
  obtain rfl := Option.some.inj h
  refine bp_ret HF (res_one rfl HF rfl) ?_
  exact ⟨rfl, HT⟩
  have h := (if_neg hb3).symm.trans h
  refine wp_if (b' := true) HF rfl (notF (Bool.eq_false_iff.2 hb3)) ?_
  refine wp_seq ?_
  refine wc_text ?_
  refine wc_assign HF nS rfl rfl rfl (fun a HF => ?_)
  refine wc_end ?_
  refine then_n ?_
  refine wp_ret ?_
  obtain rfl := Option.some.inj h
  refine then_r (?_)
  refine bp_ret HF (res_one rfl HF rfl) ?_
  have HT := HT.t0
  exact ⟨rfl, HT⟩
  have h := (if_neg hb1).symm.trans h
  refine wc_skip HF nS (HF.wn rfl rfl rfl rfl (notF (Bool.eq_false_iff.2 hb1))) rfl (fun a HF => ?_)
  refine wc_skip HF nS (HF.wn rfl rfl rfl rfl (notF (Bool.eq_false_iff.2 hb1))) rfl (fun a HF => ?_)
  refine wc_skip HF nS (HF.wn rfl rfl rfl rfl (notF (Bool.eq_false_iff.2 hb1))) rfl (fun a HF => ?_)
  refine wc_skip HF nS (HF.wn rfl rfl rfl rfl (notF (Bool.eq_false_iff.2 hb1))) rfl (fun a HF => ?_)
  refine wc_pick (b := true) HF nS rfl (notF (Bool.eq_false_iff.2 hb1)) rfl rfl rfl (fun a HF => ?_)
  refine wc_move HF nS rfl rfl rfl (fun a HF => ?_)
  refine wc_skip HF nS (HF.wn rfl rfl rfl rfl rfl) rfl (fun a HF => ?_)
  refine wc_skip HF nS (HF.wn rfl rfl rfl rfl rfl) rfl (fun a HF => ?_)
  refine wc_skip HF (fun _ => ⟨(HT.boxAt 0 rfl).get 1 rfl, trivial⟩) (HF.wn rfl rfl rfl rfl rfl) rfl (fun a HF => ?_)
  refine wc_skip HF (fun _ => ⟨(HT.boxAt 0 rfl).get 1 rfl, trivial⟩) (HF.wn rfl rfl rfl rfl rfl) rfl (fun a HF => ?_)
  refine wc_skip HF (fun _ => ⟨(HT.boxAt 0 rfl).get 1 rfl, trivial⟩) (HF.wn rfl rfl rfl rfl rfl) rfl (fun a HF => ?_)
  refine wc_skip HF (fun _ => ⟨(HT.boxAt 0 rfl).get 1 rfl, trivial⟩) (HF.wn rfl rfl rfl rfl rfl) rfl (fun a HF => ?_)
  refine wc_skip HF (fun _ => ⟨(HT.boxAt 0 rfl).get 1 rfl, trivial⟩) (HF.wn rfl rfl rfl rfl rfl) rfl (fun a HF => ?_)
  refine wc_skip HF nS (HF.wn rfl rfl rfl rfl rfl) rfl (fun a HF => ?_)
  refine wc_pick (b := true) HF nS rfl rfl rfl rfl rfl (fun a HF => ?_)
  refine wc_endN ?_
  refine then_n ?_
  refine wp_if (b' := true) HF rfl rfl ?_
  refine wp_seq ?_
  refine wc_text ?_
  refine wc_assign HF nS rfl rfl rfl (fun a HF => ?_)
  refine wc_end ?_
  refine then_n ?_
  refine wp_ret ?_
  obtain rfl := Option.some.inj h
  refine then_r (?_)
  refine bp_ret HF (res_one rfl HF rfl) ?_
  have HT := HT.t0
  exact ⟨rfl, HT⟩

def m_spec_ThingsOk_L0 (fuel : Nat) (x0_1 : List Int) : Nat → Int → Option (Lp Unit Bool)
  | 0, _ => none
  | k1 + 1, z1 =>
    if z1 < (x0_1.length : Int) then
      (at? x0_1 z1).bind fun e1 =>
      (m_spec_l1In fuel e1 0 65536).bind fun y3 =>
      if y3 = true then
        if in64 (z1 + 1) then
          m_spec_ThingsOk_L0 fuel x0_1 k1 (z1 + 1)
        else none
      else
      some (.ret false)
    else
    some (.brk ())

def m_spec_ThingsOk (fuel : Nat) (x0_0 : List Int) (x0_1 : List Int) (x0_2 : Int) : Option Bool :=
  (m_spec_l3Vals fuel x0_0).bind fun y1 =>
  if y1 = true then
    if (x0_1.length : Int) = 8 then
      (m_spec_l3Val fuel x0_2).bind fun y2 =>
      if y2 = true then
        (m_spec_ThingsOk_L0 fuel x0_1 fuel 0).bind <| contL <| un1 fun _ =>
        some true
      else
      some false
    else
    some false
  else
  some false

set_option maxRecDepth 100000 in
set_option maxHeartbeats 4000000 in
theorem w_spec_ThingsOk (fuel : Nat) {x0_0 : List Int} {x0_1 : List Int} {x0_2 : Int} {a_x0_0 : Option Addr} {n_x0_0 c_x0_0 : Nat} {a_x0_1 : Option Addr} {n_x0_1 c_x0_1 : Nat} {r0 : Bool} {w0 : World} (h : m_spec_ThingsOk fuel x0_0 x0_1 x0_2 = some r0) (hr_x0_0 : RdT (fun b => ¬ False) w0 (rowT x0_0) (.slice a_x0_0 n_x0_0 c_x0_0)) (hr_x0_1 : RdT (fun b => ¬ False) w0 (rowT x0_1) (.slice a_x0_1 n_x0_1 c_x0_1)) :
    Calls Try.prog 15 #[.agg #[.slice a_x0_0 n_x0_0 c_x0_0, .slice a_x0_1 n_x0_1 c_x0_1, .int .i64 x0_2]] w0 fun e w => e = .returned (.bool r0) ∧ St w0 (fun _ => False) w [] := by
  obtain rfl := hr_x0_0.neq
  obtain rfl := hr_x0_1.neq
  have HT : St w0 (fun _ => False) w0 [] := St.init0
  rw [m_spec_ThingsOk] at h
  refine calls_fr (n := 34) [.agg #[.slice a_x0_0 x0_0.length c_x0_0, .slice a_x0_1 x0_1.length c_x0_1, .int .i64 x0_2]] Try.func15 rfl rfl rfl (fun a HF => ?_)
  have HT : St w0 (fun _ => False) w0 [] := HT
  refine wp_seq ?_
  refine wc_text ?_
  refine wc_box (cs := [.slice a_x0_0 x0_0.length c_x0_0, .slice a_x0_1 x0_1.length c_x0_1, .int .i64 x0_2]) HF HT rfl rfl rfl rfl (fun p1 w HT hb => ⟨nS, fun a HF => ?_⟩)
  refine wc_assign HF nS rfl rfl rfl (fun a HF => ?_)
  refine wc_end ?_
  refine then_n ?_
  refine wp_seq ?_
  refine wp_seq ?_
  refine wc_text ?_
  refine wc_faddr HF nS rfl fl27_0 rfl rfl (fun a HF => ?_)
  refine wc_load HF rfl sc22 ((HT.boxAt 0 rfl).get 0 rfl) rfl rfl (fun a HF => ?_)
  obtain ⟨y1, hx1, h⟩ := obs h
  refine wc_call HF cf59 rfl (w_spec_l3Vals fuel hx1 (HT.ro hr_x0_0).any) rfl rfl ?_
  rintro e w ⟨rfl, hE⟩
  have hb := hE.below
  have HT := HT.pure hE
  have HT : St w0 (fun _ => False) w [Box p1 [.slice a_x0_0 x0_0.length c_x0_0, .slice a_x0_1 x0_1.length c_x0_1, .int .i64 x0_2]] := HT
  refine ⟨_, rfl, nS, fun a HF => ?_⟩
  refine wc_not HF nS rfl rfl rfl (fun a HF => ?_)
  refine wc_move HF nS rfl rfl rfl (fun a HF => ?_)
  by_cases hb1 : y1 = true
  have h := (if_pos hb1).symm.trans h
  refine wc_faddr HF nS rfl fl27_1 (HF.wy rfl rfl rfl rfl (notT hb1)) rfl (fun a HF => ?_)
  refine wc_load HF rfl sc22 ((HT.boxAt 0 rfl).get 1 rfl) (HF.wy rfl rfl rfl rfl (notT hb1)) rfl (fun a HF => ?_)
  refine wc_lenR HF nS Try.underlying22 rfl (HF.wy rfl rfl rfl rfl (notT hb1)) rfl (fun a HF => ?_)
  refine wc_bin HF nS rfl rfl b_ne (HF.wy rfl rfl rfl rfl (notT hb1)) rfl (fun a HF => ?_)
  refine wc_pick (b := false) HF nS rfl (notT hb1) rfl rfl rfl (fun a HF => ?_)
  refine wc_move HF nS rfl rfl rfl (fun a HF => ?_)
  by_cases hb2 : (x0_1.length : Int) = 8
  have h := (if_pos hb2).symm.trans h
  refine wc_faddr HF nS rfl fl27_2 (HF.wy rfl rfl rfl rfl (notT (decide_eq_true hb2))) rfl (fun a HF => ?_)
  refine wc_load HF rfl sc3 ((HT.boxAt 0 rfl).get 2 rfl) (HF.wy rfl rfl rfl rfl (notT (decide_eq_true hb2))) rfl (fun a HF => ?_)
  obtain ⟨y2, hx2, h⟩ := obs h
  refine wc_call HF cf60 rfl (w_spec_l3Val fuel hx2) (HF.wy rfl rfl rfl rfl (notT (decide_eq_true hb2))) rfl ?_
  rintro e w ⟨rfl, hE⟩
  have hb := hE.below
  have HT := HT.pure hE
  have HT : St w0 (fun _ => False) w [Box p1 [.slice a_x0_0 x0_0.length c_x0_0, .slice a_x0_1 x0_1.length c_x0_1, .int .i64 x0_2]] := HT
  refine ⟨_, rfl, nS, fun a HF => ?_⟩
  refine wc_not HF nS rfl (HF.wy rfl rfl rfl rfl (notT (decide_eq_true hb2))) rfl (fun a HF => ?_)
  refine wc_pick (b := false) HF nS rfl (notT (decide_eq_true hb2)) rfl rfl rfl (fun a HF => ?_)
  refine wc_end ?_
  refine then_n ?_
  by_cases hb3 : y2 = true
  have h := (if_pos hb3).symm.trans h
  refine wp_if (b' := false) HF rfl (notT hb3) ?_
  refine wp_skip ?_
  refine then_n ?_
  obtain ⟨q1, hx3, h⟩ := obs h
  refine wp_cut (fun a w => q1 = .brk () ∧ Fr a 34 [] ∧ St w0 (fun _ => False) w []) ?_ ?_
  have hk1 := h
  have h := hx3
  refine wp_seq ?_
  refine wc_text ?_
  refine wc_assign HF nS rfl rfl rfl (fun a HF => ?_)
  refine wc_end ?_
  refine then_n ?_
  refine wp_block ?_
  refine wp_loopN (fun k1 a w => ∃ z1, m_spec_ThingsOk_L0 fuel x0_1 k1 z1 = some q1 ∧ Fr a 34 [(1, .pointer (some ⟨p1, 0, none⟩)), (3, .int .i64 z1)] ∧ St w0 (fun _ => False) w [Box p1 [.slice a_x0_0 x0_0.length c_x0_0, .slice a_x0_1 x0_1.length c_x0_1, .int .i64 x0_2]]) fuel ⟨0, h, (HF.keep (HF.keep HF.nil rfl) rfl), HT⟩ ?_
  rintro k1 a w ⟨z1, h, HF, HT⟩
  rcases k1 with _ | k1
  cases h
  rw [m_spec_ThingsOk_L0] at h
  refine ?_
  refine wp_seq ?_
  refine wp_seq ?_
  refine wc_text ?_
  refine wc_move HF nS rfl rfl rfl (fun a HF => ?_)
  refine wc_faddr HF nS rfl fl27_1 rfl rfl (fun a HF => ?_)
  refine wc_load HF rfl sc22 ((HT.boxAt 0 rfl).get 1 rfl) rfl rfl (fun a HF => ?_)
  refine wc_lenR HF nS Try.underlying22 rfl rfl rfl (fun a HF => ?_)
  refine wc_bin HF nS rfl rfl b_lt rfl rfl (fun a HF => ?_)
  refine wc_end ?_
  refine then_n ?_
  by_cases hb4 : z1 < (x0_1.length : Int)
  have h := (if_pos hb4).symm.trans h
  refine wp_if (b' := true) HF rfl (decide_eq_true hb4) ?_
  refine wp_skip ?_
  refine then_n ?_
  refine wp_seq ?_
  refine wp_block ?_
  refine wp_seq ?_
  refine wc_text ?_
  refine wc_faddr HF nS rfl fl27_1 rfl rfl (fun a HF => ?_)
  refine wc_load HF rfl sc22 ((HT.boxAt 0 rfl).get 1 rfl) rfl rfl (fun a HF => ?_)
  refine wc_move HF nS rfl rfl rfl (fun a HF => ?_)
  obtain ⟨e1, hx4, h⟩ := obs h
  obtain ⟨b1, o1, ha1⟩ := (HT.ro hr_x0_1).any.addr hx4
  refine wc_ixaddr HF nS el22 rfl ha1 ((HT.ro hr_x0_1).any).neq rfl hx4 rfl rfl (fun a HF => ?_)
  have hc1 := (HT.ro hr_x0_1).any.flatAt ha1 hx4
  refine wc_load HF rfl sc3 (hc1.get 0 rfl) rfl rfl (fun a HF => ?_)
  obtain ⟨y3, hx5, h⟩ := obs h
  refine wc_call HF cf61 rfl (w_spec_l1In fuel hx5) rfl rfl ?_
  rintro e w ⟨rfl, hE⟩
  have hb := hE.below
  have HT := HT.pure hE
  have HT : St w0 (fun _ => False) w [Box p1 [.slice a_x0_0 x0_0.length c_x0_0, .slice a_x0_1 x0_1.length c_x0_1, .int .i64 x0_2]] := HT
  refine ⟨_, rfl, nS, fun a HF => ?_⟩
  refine wc_not HF nS rfl rfl rfl (fun a HF => ?_)
  refine wc_end ?_
  refine then_n ?_
  by_cases hb5 : y3 = true
  have h := (if_pos hb5).symm.trans h
  refine wp_if (b' := false) HF rfl (notT hb5) ?_
  refine wp_skip ?_
  refine blk_n ?_
  refine then_n ?_
  refine wc_text ?_
  refine wc_move HF nS rfl rfl rfl (fun a HF => ?_)
  obtain ⟨hg1, h⟩ := grd h
  refine wc_bin HF nS rfl rfl (b_add hg1) rfl rfl (fun a HF => ?_)
  refine wc_assign HF nS rfl rfl rfl (fun a HF => ?_)
  refine wc_end ?_
  exact then_n ⟨k1, Nat.lt_succ_self k1, z1 + 1, h, (HF.keep (HF.keep HF.nil rfl) rfl), HT⟩
  have h := (if_neg hb5).symm.trans h
  refine wp_if (b' := true) HF rfl (notF (Bool.eq_false_iff.2 hb5)) ?_
  refine wp_seq ?_
  refine wc_text ?_
  refine wc_assign HF nS rfl rfl rfl (fun a HF => ?_)
  refine wc_end ?_
  refine then_n ?_
  refine wp_ret ?_
  obtain rfl := Option.some.inj h
  have h := retL hk1
  obtain rfl := Option.some.inj h
  refine blk_r (then_r (then_r (blk_r (then_r (?_)))))
  refine bp_ret HF (res_one rfl HF rfl) ?_
  have HT := HT.t0
  exact ⟨rfl, HT⟩
  have h := (if_neg hb4).symm.trans h
  refine wp_if (b' := false) HF rfl (decide_eq_false hb4) ?_
  refine wp_exit ?_
  refine then_x (then_x (?_))
  refine blk_x ?_
  have HT := HT.t0
  exact then_n ⟨(Option.some.inj h).symm, HF.nil, HT⟩
  rintro a w ⟨rfl, HF, HT⟩
  have h := brkL1u h
  refine ?_
  refine wp_seq ?_
  refine wc_text ?_
  refine wc_assign HF nS rfl rfl rfl (fun a HF => ?_)
  refine wc_end ?_
  refine then_n ?_
  refine wp_ret ?_
  obtain rfl := Option.some.inj h
  refine bp_ret HF (res_one rfl HF rfl) ?_
  exact ⟨rfl, HT⟩
  have h := (if_neg hb3).symm.trans h
  refine wp_if (b' := true) HF rfl (notF (Bool.eq_false_iff.2 hb3)) ?_
  refine wp_seq ?_
  refine wc_text ?_
  refine wc_assign HF nS rfl rfl rfl (fun a HF => ?_)
  refine wc_end ?_
  refine then_n ?_
  refine wp_ret ?_
  obtain rfl := Option.some.inj h
  refine then_r (?_)
  refine bp_ret HF (res_one rfl HF rfl) ?_
  have HT := HT.t0
  exact ⟨rfl, HT⟩
  have h := (if_neg hb2).symm.trans h
  refine wc_skip HF nS (HF.wn rfl rfl rfl rfl (notF (decide_eq_false hb2))) rfl (fun a HF => ?_)
  refine wc_skip HF nS (HF.wn rfl rfl rfl rfl (notF (decide_eq_false hb2))) rfl (fun a HF => ?_)
  refine wc_skip HF nS (HF.wn rfl rfl rfl rfl (notF (decide_eq_false hb2))) rfl (fun a HF => ?_)
  refine wc_skip HF nS (HF.wn rfl rfl rfl rfl (notF (decide_eq_false hb2))) rfl (fun a HF => ?_)
  refine wc_pick (b := true) HF nS rfl (notF (decide_eq_false hb2)) rfl rfl rfl (fun a HF => ?_)
  refine wc_end ?_
  refine then_n ?_
  refine wp_if (b' := true) HF rfl rfl ?_
  refine wp_seq ?_
  refine wc_text ?_
  refine wc_assign HF nS rfl rfl rfl (fun a HF => ?_)
  refine wc_end ?_
  refine then_n ?_
  refine wp_ret ?_
  obtain rfl := Option.some.inj h
  refine then_r (?_)
  refine bp_ret HF (res_one rfl HF rfl) ?_
  have HT := HT.t0
  exact ⟨rfl, HT⟩
  have h := (if_neg hb1).symm.trans h
  refine wc_skip HF nS (HF.wn rfl rfl rfl rfl (notF (Bool.eq_false_iff.2 hb1))) rfl (fun a HF => ?_)
  refine wc_skip HF nS (HF.wn rfl rfl rfl rfl (notF (Bool.eq_false_iff.2 hb1))) rfl (fun a HF => ?_)
  refine wc_skip HF nS (HF.wn rfl rfl rfl rfl (notF (Bool.eq_false_iff.2 hb1))) rfl (fun a HF => ?_)
  refine wc_skip HF nS (HF.wn rfl rfl rfl rfl (notF (Bool.eq_false_iff.2 hb1))) rfl (fun a HF => ?_)
  refine wc_pick (b := true) HF nS rfl (notF (Bool.eq_false_iff.2 hb1)) rfl rfl rfl (fun a HF => ?_)
  refine wc_move HF nS rfl rfl rfl (fun a HF => ?_)
  refine wc_skip HF nS (HF.wn rfl rfl rfl rfl rfl) rfl (fun a HF => ?_)
  refine wc_skip HF nS (HF.wn rfl rfl rfl rfl rfl) rfl (fun a HF => ?_)
  refine wc_skip HF nS (HF.wn rfl rfl rfl rfl rfl) rfl (fun a HF => ?_)
  refine wc_skip HF nS (HF.wn rfl rfl rfl rfl rfl) rfl (fun a HF => ?_)
  refine wc_pick (b := true) HF nS rfl rfl rfl rfl rfl (fun a HF => ?_)
  refine wc_end ?_
  refine then_n ?_
  refine wp_if (b' := true) HF rfl rfl ?_
  refine wp_seq ?_
  refine wc_text ?_
  refine wc_assign HF nS rfl rfl rfl (fun a HF => ?_)
  refine wc_end ?_
  refine then_n ?_
  refine wp_ret ?_
  obtain rfl := Option.some.inj h
  refine then_r (?_)
  refine bp_ret HF (res_one rfl HF rfl) ?_
  have HT := HT.t0
  exact ⟨rfl, HT⟩

def m_spec_l7Order_L0 (fuel : Nat) (x0 : List Int) (x1 : Int) : Nat → (List Int) → (List Bool) → Int → Option (Lp (List Int × List Bool) (List Int × Bool))
  | 0, _, _, _ => none
  | k1 + 1, z3, z4, z5 =>
    if z5 < (x0.length : Int) then
      (at? x0 z5).bind fun e1 =>
      if in64 (x1 - 1) then
        (m_spec_l1In fuel e1 0 (x1 - 1)).bind fun y1 =>
        if y1 = true then
          (at? z4 e1).bind fun e2 =>
          if e2 = true then
            some (.ret (z3, false))
          else
          if z3.length + 1 ≤ 17179869184 then
            if in64 (z5 + 1) then
              m_spec_l7Order_L0 fuel x0 x1 k1 (z3 ++ ([e1] : List Int)) (z4.set e1.toNat true) (z5 + 1)
            else none
          else none
        else
        some (.ret (z3, false))
      else none
    else
    some (.brk (z3, z4))

def m_spec_l7Order_L1 (fuel : Nat) (x1 : Int) (z2 : List Bool) : Nat → (List Int) → Int → Option (List Int)
  | 0, _, _ => none
  | k2 + 1, z7, z8 =>
    if z8 < x1 then
      (
        (at? z2 z8).bind fun e3 =>
        if e3 = true then
          some z7
        else
        if z7.length + 1 ≤ 17179869184 then
          some (z7 ++ ([z8] : List Int))
        else none).bind fun z9 =>
      if in64 (z8 + 1) then
        m_spec_l7Order_L1 fuel x1 z2 k2 z9 (z8 + 1)
      else none
    else
    some z7

def m_spec_l7Order (fuel : Nat) (x0 : List Int) (x1 : Int) : Option (List Int × Bool) :=
  if 0 ≤ (3 : Int) ∧ (3 : Int) ≤ 1048576 then
    (m_spec_l7Order_L0 fuel x0 x1 fuel ([] : List Int) (List.replicate (3 : Int).toNat (false : Bool)) 0).bind <| contL <| un2 fun z1 z2 =>
    (m_spec_l7Order_L1 fuel x1 z2 fuel z1 0).bind fun z6 =>
    some (z6, true)
  else none

set_option maxRecDepth 100000 in
set_option maxHeartbeats 4000000 in
theorem w_spec_l7Order (fuel : Nat) {x0 : List Int} {x1 : Int} {a_x0 : Option Addr} {n_x0 c_x0 : Nat} {r0 : List Int} {r1 : Bool} {w0 : World} (h : m_spec_l7Order fuel x0 x1 = some (r0, r1)) (hr_x0 : RdT (fun b => ¬ False) w0 (rowT x0) (.slice a_x0 n_x0 c_x0)) :
    Calls Try.prog 73 #[.slice a_x0 n_x0 c_x0, .int .i64 x1] w0 fun e w => ∃ a_r0 n_r0 c_r0, e = .returned (.tuple #[.slice a_r0 n_r0 c_r0, .bool r1]) ∧ St w0 (fun _ => False) w [Own 3 (rowT r0) (.slice a_r0 n_r0 c_r0)] := by
  obtain rfl := hr_x0.neq
  have HT : St w0 (fun _ => False) w0 [] := St.init0
  rw [m_spec_l7Order] at h
  refine calls_fr (n := 57) [.slice a_x0 x0.length c_x0, .int .i64 x1] Try.func73 rfl rfl rfl (fun a HF => ?_)
  have HT : St w0 (fun _ => False) w0 [] := HT
  refine wp_seq ?_
  refine wc_text ?_
  refine wc_assign HF nS rfl rfl rfl (fun a HF => ?_)
  refine wc_assign HF nS rfl rfl rfl (fun a HF => ?_)
  refine wc_end ?_
  refine then_n ?_
  refine wp_seq ?_
  refine wc_text ?_
  refine wc_bslice (l := ([] : List Int)) (cs := []) (A := []) HF HT bs22_0 rfl rfl (gives_flat rfl) rfl (by decide) rfl rfl (fun p1 w HT hb  => ⟨nS, fun a HF => ?_⟩)
  refine wc_assign HF nS rfl rfl rfl (fun a HF => ?_)
  refine wc_end ?_
  refine then_n ?_
  refine wp_seq ?_
  refine wc_text ?_
  obtain ⟨hg1, h⟩ := grd h
  refine wc_make (x := (false : Bool)) HF HT el138 rfl rfl hg1 rfl rfl rfl rfl (fun p2 w HT hb => ⟨nS, fun a HF => ?_⟩)
  refine wc_assign HF nS rfl rfl rfl (fun a HF => ?_)
  refine wc_end ?_
  refine then_n ?_
  obtain ⟨q1, hx1, h⟩ := obs h
  refine wp_cut (fun a w => ∃ z1 z2 a1 n1 c1, q1 = .brk (z1, z2) ∧ Fr a 57 [(1, .int .i64 x1), (6, .slice a1 n1 c1), (7, .slice (some ⟨p2, 0, none⟩) ((List.replicate (3 : Int).toNat (false : Bool)).length) ((List.replicate (3 : Int).toNat (false : Bool)).length))] ∧ St w0 (fun _ => False) w [Own 3 (rowT z1) (.slice a1 n1 c1), Own 4 (rowT z2) (.slice (some ⟨p2, 0, none⟩) ((List.replicate (3 : Int).toNat (false : Bool)).length) ((List.replicate (3 : Int).toNat (false : Bool)).length))]) ?_ ?_
  have hk1 := h
  have h := hx1
  refine wp_seq ?_
  refine wc_text ?_
  refine wc_assign HF nS rfl rfl rfl (fun a HF => ?_)
  refine wc_end ?_
  refine then_n ?_
  refine wp_block ?_
  have HT := HT.p1
  refine wp_loopN (fun k1 a w => ∃ z3 z4 z5 a2 n2 c2, m_spec_l7Order_L0 fuel x0 x1 k1 z3 z4 z5 = some q1 ∧ Fr a 57 [(0, .slice a_x0 x0.length c_x0), (1, .int .i64 x1), (6, .slice a2 n2 c2), (7, .slice (some ⟨p2, 0, none⟩) ((List.replicate (3 : Int).toNat (false : Bool)).length) ((List.replicate (3 : Int).toNat (false : Bool)).length)), (8, .int .i64 z5)] ∧ St w0 (fun _ => False) w [Own 3 (rowT z3) (.slice a2 n2 c2), Own 4 (rowT z4) (.slice (some ⟨p2, 0, none⟩) ((List.replicate (3 : Int).toNat (false : Bool)).length) ((List.replicate (3 : Int).toNat (false : Bool)).length))]) fuel ⟨([] : List Int), List.replicate (3 : Int).toNat (false : Bool), 0, (some ⟨p1, 0, none⟩), 0, 0, h, (HF.keep (HF.keep (HF.keep (HF.keep (HF.keep HF.nil rfl) rfl) rfl) rfl) rfl), HT⟩ ?_
  rintro k1 a w ⟨z3, z4, z5, a2, n2, c2, h, HF, HT⟩
  rcases k1 with _ | k1
  cases h
  rw [m_spec_l7Order_L0] at h
  obtain rfl := (HT.rdAt 0 rfl).neq
  refine ?_
  refine wp_seq ?_
  refine wp_seq ?_
  refine wc_text ?_
  refine wc_move HF nS rfl rfl rfl (fun a HF => ?_)
  refine wc_move HF nS rfl rfl rfl (fun a HF => ?_)
  refine wc_lenR HF nS Try.underlying22 rfl rfl rfl (fun a HF => ?_)
  refine wc_bin HF nS rfl rfl b_lt rfl rfl (fun a HF => ?_)
  refine wc_end ?_
  refine then_n ?_
  by_cases hb1 : z5 < (x0.length : Int)
  have h := (if_pos hb1).symm.trans h
  refine wp_if (b' := true) HF rfl (decide_eq_true hb1) ?_
  refine wp_skip ?_
  refine then_n ?_
  refine wp_seq ?_
  refine wp_block ?_
  refine wp_seq ?_
  refine wc_text ?_
  refine wc_move HF nS rfl rfl rfl (fun a HF => ?_)
  refine wc_move HF nS rfl rfl rfl (fun a HF => ?_)
  obtain ⟨e1, hx2, h⟩ := obs h
  obtain ⟨b1, o1, ha1⟩ := (HT.ro hr_x0).any.addr hx2
  refine wc_ixaddr HF nS el22 rfl ha1 ((HT.ro hr_x0).any).neq rfl hx2 rfl rfl (fun a HF => ?_)
  have hc1 := (HT.ro hr_x0).any.flatAt ha1 hx2
  refine wc_load HF rfl sc3 (hc1.get 0 rfl) rfl rfl (fun a HF => ?_)
  refine wc_assign HF nS rfl rfl rfl (fun a HF => ?_)
  refine wc_end ?_
  refine then_n ?_
  refine wp_seq ?_
  refine wp_seq ?_
  refine wc_text ?_
  refine wc_move HF nS rfl rfl rfl (fun a HF => ?_)
  refine wc_move HF nS rfl rfl rfl (fun a HF => ?_)
  obtain ⟨hg2, h⟩ := grd h
  refine wc_bin HF nS rfl rfl (b_sub hg2) rfl rfl (fun a HF => ?_)
  obtain ⟨y1, hx3, h⟩ := obs h
  refine wc_call HF cf61 rfl (w_spec_l1In fuel hx3) rfl rfl ?_
  rintro e w ⟨rfl, hE⟩
  have hb := hE.below
  have HT := HT.pure hE
  have HT : St w0 (fun _ => False) w [Own 3 (rowT z3) (.slice a2 z3.length c2), Own 4 (rowT z4) (.slice (some ⟨p2, 0, none⟩) ((List.replicate (3 : Int).toNat (false : Bool)).length) ((List.replicate (3 : Int).toNat (false : Bool)).length))] := HT
  refine ⟨_, rfl, nS, fun a HF => ?_⟩
  refine wc_not HF nS rfl rfl rfl (fun a HF => ?_)
  refine wc_move HF nS rfl rfl rfl (fun a HF => ?_)
  by_cases hb2 : y1 = true
  have h := (if_pos hb2).symm.trans h
  refine wc_move HF nS rfl (HF.wy rfl rfl rfl rfl (notT hb2)) rfl (fun a HF => ?_)
  refine wc_move HF nS rfl (HF.wy rfl rfl rfl rfl (notT hb2)) rfl (fun a HF => ?_)
  obtain ⟨e2, hx4, h⟩ := obs h
  refine wc_ixaddr HF nS el138 rfl rfl ((HT.rdAt 1 rfl)).neq rfl hx4 (HF.wy rfl rfl rfl rfl (notT hb2)) rfl (fun a HF => ?_)
  have hc2 := (HT.rdAt 1 rfl).flatAt rfl hx4
  refine wc_load HF rfl sc4 (hc2.get 0 rfl) (HF.wy rfl rfl rfl rfl (notT hb2)) rfl (fun a HF => ?_)
  refine wc_pick (b := false) HF nS rfl (notT hb2) rfl rfl rfl (fun a HF => ?_)
  refine wc_end ?_
  refine then_n ?_
  by_cases hb3 : e2 = true
  have h := (if_pos hb3).symm.trans h
  refine wp_if (b' := true) HF rfl hb3 ?_
  refine wp_seq ?_
  refine wc_text ?_
  refine wc_move HF nS rfl rfl rfl (fun a HF => ?_)
  refine wc_assign HF nS rfl rfl rfl (fun a HF => ?_)
  refine wc_assign HF nS rfl rfl rfl (fun a HF => ?_)
  refine wc_end ?_
  refine then_n ?_
  refine wp_ret ?_
  obtain rfl := Option.some.inj h
  have h := retL hk1
  have hj1 := Option.some.inj h
  obtain ⟨hi1, hj2⟩ := Prod.mk.inj hj1
  subst hi1
  subst hj2
  refine then_r (blk_r (then_r (then_r (blk_r (then_r (?_))))))
  refine bp_ret HF (res_two rfl HF rfl rfl) ?_
  have HT := HT.t1
  exact ⟨a2, z3.length, c2, rfl, HT⟩
  have h := (if_neg hb3).symm.trans h
  refine wp_if (b' := false) HF rfl (Bool.eq_false_iff.2 hb3) ?_
  refine wp_skip ?_
  refine then_n ?_
  refine wp_seq ?_
  refine wc_text ?_
  refine wc_move HF nS rfl rfl rfl (fun a HF => ?_)
  refine wc_move HF nS rfl rfl rfl (fun a HF => ?_)
  refine wc_ixaddr HF nS el138 rfl rfl ((HT.rdAt 1 rfl)).neq rfl hx4 rfl rfl (fun a HF => ?_)
  have HT := HT.p1
  refine wc_storeR (i := e1) (j := 0) (x' := true) HF HT rfl rfl rfl (fun w => (sc4 w).2) rfl rfl hx4 rfl rfl rfl rfl (fun w HT => ⟨nS, ?_⟩)
  refine wc_end ?_
  refine then_n ?_
  refine wc_text ?_
  refine wc_move HF nS rfl rfl rfl (fun a HF => ?_)
  refine wc_move HF nS rfl rfl rfl (fun a HF => ?_)
  refine wc_bslice (l := ([e1] : List Int)) (cs := [.int .i64 e1]) (A := []) HF HT bs22_1 rfl rfl (gives_flat rfl) rfl (by decide) rfl rfl (fun p3 w HT hb  => ⟨nS, fun a HF => ?_⟩)
  obtain ⟨hg3, h⟩ := grd h
  have HT := HT.p2
  refine wc_append HF HT el22 rfl rfl (Nat.zero_lt_succ _) hg3 rfl rfl rfl (fun a3 c3 w HT => ⟨nS, fun a HF => ?_⟩)
  refine wc_assign HF nS rfl rfl rfl (fun a HF => ?_)
  refine wc_end ?_
  refine blk_n ?_
  refine then_n ?_
  refine wc_text ?_
  refine wc_move HF nS rfl rfl rfl (fun a HF => ?_)
  obtain ⟨hg4, h⟩ := grd h
  refine wc_bin HF nS rfl rfl (b_add hg4) rfl rfl (fun a HF => ?_)
  refine wc_assign HF nS rfl rfl rfl (fun a HF => ?_)
  refine wc_end ?_
  exact then_n ⟨k1, Nat.lt_succ_self k1, z3 ++ ([e1] : List Int), z4.set e1.toNat true, z5 + 1, a3, (z3 ++ ([e1] : List Int)).length, c3, h, (HF.keep (HF.keep (HF.keep (HF.keep (HF.keep HF.nil rfl) rfl) rfl) rfl) rfl), HT⟩
  have h := (if_neg hb2).symm.trans h
  refine wc_skip HF nS (HF.wn rfl rfl rfl rfl (notF (Bool.eq_false_iff.2 hb2))) rfl (fun a HF => ?_)
  refine wc_skip HF nS (HF.wn rfl rfl rfl rfl (notF (Bool.eq_false_iff.2 hb2))) rfl (fun a HF => ?_)
  refine wc_skip HF nS (HF.wn rfl rfl rfl rfl (notF (Bool.eq_false_iff.2 hb2))) rfl (fun a HF => ?_)
  refine wc_skip HF nS (HF.wn rfl rfl rfl rfl (notF (Bool.eq_false_iff.2 hb2))) rfl (fun a HF => ?_)
  refine wc_pick (b := true) HF nS rfl (notF (Bool.eq_false_iff.2 hb2)) rfl rfl rfl (fun a HF => ?_)
  refine wc_end ?_
  refine then_n ?_
  refine wp_if (b' := true) HF rfl rfl ?_
  refine wp_seq ?_
  refine wc_text ?_
  refine wc_move HF nS rfl rfl rfl (fun a HF => ?_)
  refine wc_assign HF nS rfl rfl rfl (fun a HF => ?_)
  refine wc_assign HF nS rfl rfl rfl (fun a HF => ?_)
  refine wc_end ?_
  refine then_n ?_
  refine wp_ret ?_
  obtain rfl := Option.some.inj h
  have h := retL hk1
  have hj3 := Option.some.inj h
  obtain ⟨hi3, hj4⟩ := Prod.mk.inj hj3
  subst hi3
  subst hj4
  refine then_r (blk_r (then_r (then_r (blk_r (then_r (?_))))))
  refine bp_ret HF (res_two rfl HF rfl rfl) ?_
  have HT := HT.t1
  exact ⟨a2, z3.length, c2, rfl, HT⟩
  have h := (if_neg hb1).symm.trans h
  refine wp_if (b' := false) HF rfl (decide_eq_false hb1) ?_
  refine wp_exit ?_
  refine then_x (then_x (?_))
  refine blk_x ?_
  exact then_n ⟨z3, z4, a2, z3.length, c2, (Option.some.inj h).symm, (HF.keep (HF.keep (HF.keep HF.nil rfl) rfl) rfl), HT⟩
  rintro a w ⟨z1, z2, a1, n1, c1, rfl, HF, HT⟩
  have h := brkL2 h
  obtain rfl := (HT.rdAt 0 rfl).neq
  refine ?_
  obtain ⟨z6, hx5, h⟩ := obs h
  refine wp_cut (fun a w => ∃ a4 n3 c4, Fr a 57 [(6, .slice a4 n3 c4)] ∧ St w0 (fun _ => False) w [Own 3 (rowT z6) (.slice a4 n3 c4)]) ?_ ?_
  have hk1 := h
  have h := hx5
  refine wp_seq ?_
  refine wc_text ?_
  refine wc_assign HF nS rfl rfl rfl (fun a HF => ?_)
  refine wc_end ?_
  refine then_n ?_
  refine wp_block ?_
  refine wp_loopN (fun k2 a w => ∃ z7 z8 a5 n4 c5, m_spec_l7Order_L1 fuel x1 z2 k2 z7 z8 = some z6 ∧ Fr a 57 [(1, .int .i64 x1), (6, .slice a5 n4 c5), (7, .slice (some ⟨p2, 0, none⟩) ((List.replicate (3 : Int).toNat (false : Bool)).length) ((List.replicate (3 : Int).toNat (false : Bool)).length)), (10, .int .i64 z8)] ∧ St w0 (fun _ => False) w [Own 3 (rowT z7) (.slice a5 n4 c5), Own 4 (rowT z2) (.slice (some ⟨p2, 0, none⟩) ((List.replicate (3 : Int).toNat (false : Bool)).length) ((List.replicate (3 : Int).toNat (false : Bool)).length))]) fuel ⟨z1, 0, a1, z1.length, c1, h, (HF.keep (HF.keep (HF.keep (HF.keep HF.nil rfl) rfl) rfl) rfl), HT⟩ ?_
  rintro k2 a w ⟨z7, z8, a5, n4, c5, h, HF, HT⟩
  rcases k2 with _ | k2
  cases h
  rw [m_spec_l7Order_L1] at h
  obtain rfl := (HT.rdAt 0 rfl).neq
  refine ?_
  refine wp_seq ?_
  refine wp_seq ?_
  refine wc_text ?_
  refine wc_move HF nS rfl rfl rfl (fun a HF => ?_)
  refine wc_move HF nS rfl rfl rfl (fun a HF => ?_)
  refine wc_bin HF nS rfl rfl b_lt rfl rfl (fun a HF => ?_)
  refine wc_end ?_
  refine then_n ?_
  by_cases hb4 : z8 < x1
  have h := (if_pos hb4).symm.trans h
  refine wp_if (b' := true) HF rfl (decide_eq_true hb4) ?_
  refine wp_skip ?_
  refine then_n ?_
  obtain ⟨z9, hx6, h⟩ := obs h
  refine wp_cut (fun a w => ∃ a6 n5 c6, Fr a 57 [(1, .int .i64 x1), (6, .slice a6 n5 c6), (7, .slice (some ⟨p2, 0, none⟩) ((List.replicate (3 : Int).toNat (false : Bool)).length) ((List.replicate (3 : Int).toNat (false : Bool)).length)), (10, .int .i64 z8)] ∧ St w0 (fun _ => False) w [Own 3 (rowT z9) (.slice a6 n5 c6), Own 4 (rowT z2) (.slice (some ⟨p2, 0, none⟩) ((List.replicate (3 : Int).toNat (false : Bool)).length) ((List.replicate (3 : Int).toNat (false : Bool)).length))]) ?_ ?_
  have hk2 := h
  have h := hx6
  refine wp_block ?_
  refine wp_seq ?_
  refine wc_text ?_
  refine wc_move HF nS rfl rfl rfl (fun a HF => ?_)
  refine wc_move HF nS rfl rfl rfl (fun a HF => ?_)
  obtain ⟨e3, hx7, h⟩ := obs h
  refine wc_ixaddr HF nS el138 rfl rfl ((HT.rdAt 1 rfl)).neq rfl hx7 rfl rfl (fun a HF => ?_)
  have hc3 := (HT.rdAt 1 rfl).flatAt rfl hx7
  refine wc_load HF rfl sc4 (hc3.get 0 rfl) rfl rfl (fun a HF => ?_)
  refine wc_not HF nS rfl rfl rfl (fun a HF => ?_)
  refine wc_end ?_
  refine then_n ?_
  by_cases hb5 : e3 = true
  have h := (if_pos hb5).symm.trans h
  refine wp_if (b' := false) HF rfl (notT hb5) ?_
  refine wp_skip ?_
  refine blk_n ?_
  obtain rfl := Option.some.inj h
  exact then_n ⟨a5, z7.length, c5, (HF.keep (HF.keep (HF.keep (HF.keep HF.nil rfl) rfl) rfl) rfl), HT⟩
  have h := (if_neg hb5).symm.trans h
  refine wp_if (b' := true) HF rfl (notF (Bool.eq_false_iff.2 hb5)) ?_
  refine wc_text ?_
  refine wc_move HF nS rfl rfl rfl (fun a HF => ?_)
  refine wc_move HF nS rfl rfl rfl (fun a HF => ?_)
  refine wc_bslice (l := ([z8] : List Int)) (cs := [.int .i64 z8]) (A := []) HF HT bs22_1 rfl rfl (gives_flat rfl) rfl (by decide) rfl rfl (fun p4 w HT hb  => ⟨nS, fun a HF => ?_⟩)
  obtain ⟨hg5, h⟩ := grd h
  have HT := HT.p1
  refine wc_append HF HT el22 rfl rfl (Nat.zero_lt_succ _) hg5 rfl rfl rfl (fun a7 c7 w HT => ⟨nS, fun a HF => ?_⟩)
  refine wc_assign HF nS rfl rfl rfl (fun a HF => ?_)
  refine wc_end ?_
  refine blk_n ?_
  obtain rfl := Option.some.inj h
  exact then_n ⟨a7, (z7 ++ ([z8] : List Int)).length, c7, (HF.keep (HF.keep (HF.keep (HF.keep HF.nil rfl) rfl) rfl) rfl), HT⟩
  rintro a w ⟨a6, n5, c6, HF, HT⟩
  obtain rfl := (HT.rdAt 0 rfl).neq
  refine ?_
  refine wc_text ?_
  refine wc_move HF nS rfl rfl rfl (fun a HF => ?_)
  obtain ⟨hg6, h⟩ := grd h
  refine wc_bin HF nS rfl rfl (b_add hg6) rfl rfl (fun a HF => ?_)
  refine wc_assign HF nS rfl rfl rfl (fun a HF => ?_)
  refine wc_end ?_
  exact then_n ⟨k2, Nat.lt_succ_self k2, z9, z8 + 1, a6, z9.length, c6, h, (HF.keep (HF.keep (HF.keep (HF.keep HF.nil rfl) rfl) rfl) rfl), HT⟩
  have h := (if_neg hb4).symm.trans h
  refine wp_if (b' := false) HF rfl (decide_eq_false hb4) ?_
  refine wp_exit ?_
  refine then_x (then_x (?_))
  refine blk_x ?_
  have HT := HT.t1
  obtain rfl := Option.some.inj h
  exact then_n ⟨a5, z7.length, c5, (HF.keep HF.nil rfl), HT⟩
  rintro a w ⟨a4, n3, c4, HF, HT⟩
  obtain rfl := (HT.rdAt 0 rfl).neq
  refine ?_
  refine wp_seq ?_
  refine wc_text ?_
  refine wc_move HF nS rfl rfl rfl (fun a HF => ?_)
  refine wc_assign HF nS rfl rfl rfl (fun a HF => ?_)
  refine wc_assign HF nS rfl rfl rfl (fun a HF => ?_)
  refine wc_end ?_
  refine then_n ?_
  refine wp_ret ?_
  have hj5 := Option.some.inj h
  obtain ⟨hi5, hj6⟩ := Prod.mk.inj hj5
  subst hi5
  subst hj6
  refine bp_ret HF (res_two rfl HF rfl rfl) ?_
  exact ⟨a4, z6.length, c4, rfl, HT⟩

def m_spec_Serial (fuel : Nat) (x0_0 : List I4) (x0_1 : List KidD) (x1 : List Int) (x2_0 : List Int) (x2_1 : List Int) (x2_2 : Int) : Option (Int × List Int × List Int × List Int × Int) :=
  (
    (
      (m_spec_ProgOk fuel x0_0 x0_1).bind fun y1 =>
      if y1 = true then
        (m_spec_ThingsOk fuel x2_0 x2_1 x2_2).bind fun y2 =>
        some !(y2)
      else
      some true).bind fun z1 =>
    if z1 = true then
      some (.ret (0, ([] : List Int), ([] : List Int), ([] : List Int), 0))
    else
    some (.brk ())).bind <| contL <| un1 fun _ =>
  bind2 (m_spec_l7Order fuel x1 (x0_1.length : Int)) fun y3 y4 =>
  if y4 = true then
    if 0 ≤ (4 : Int) ∧ (4 : Int) ≤ 1048576 then
      bind5 (m_spec_l7Walk fuel x0_0 x0_1 y3 (List.replicate (4 : Int).toNat (0 : Int)) x2_0 x2_1 x2_2) fun y5 y6 y7 y8 y9 =>
      some (y5, y6, y7, y8, y9)
    else none
  else
  some (0, ([] : List Int), ([] : List Int), ([] : List Int), 0)

set_option maxRecDepth 100000 in
set_option maxHeartbeats 4000000 in
theorem w_spec_Serial (fuel : Nat) {x0_0 : List I4} {x0_1 : List KidD} {x1 : List Int} {x2_0 : List Int} {x2_1 : List Int} {x2_2 : Int} {a_x0_0 : Option Addr} {n_x0_0 c_x0_0 : Nat} {a_x0_1 : Option Addr} {n_x0_1 c_x0_1 : Nat} {a_x1 : Option Addr} {n_x1 c_x1 : Nat} {a_x2_0 : Option Addr} {n_x2_0 c_x2_0 : Nat} {a_x2_1 : Option Addr} {n_x2_1 c_x2_1 : Nat} {r0_0 : Int} {r0_1 : List Int} {r0_2 : List Int} {r0_3 : List Int} {r0_4 : Int} {w0 : World} (h : m_spec_Serial fuel x0_0 x0_1 x1 x2_0 x2_1 x2_2 = some (r0_0, r0_1, r0_2, r0_3, r0_4)) (hr_x0_0 : RdT (fun b => ¬ False) w0 (rowT x0_0) (.slice a_x0_0 n_x0_0 c_x0_0)) (hr_x0_1 : RdT (fun b => ¬ False) w0 (rowT x0_1) (.slice a_x0_1 n_x0_1 c_x0_1)) (hr_x1 : RdT (fun b => ¬ False) w0 (rowT x1) (.slice a_x1 n_x1 c_x1)) (hr_x2_0 : RdT (fun b => ¬ False) w0 (rowT x2_0) (.slice a_x2_0 n_x2_0 c_x2_0)) (hr_x2_1 : RdT (fun b => ¬ False) w0 (rowT x2_1) (.slice a_x2_1 n_x2_1 c_x2_1)) :
    Calls Try.prog 28 #[.agg #[.slice a_x0_0 n_x0_0 c_x0_0, .slice a_x0_1 n_x0_1 c_x0_1], .slice a_x1 n_x1 c_x1, .agg #[.slice a_x2_0 n_x2_0 c_x2_0, .slice a_x2_1 n_x2_1 c_x2_1, .int .i64 x2_2]] w0 fun e w => ∃ a_r0_1 n_r0_1 c_r0_1, ∃ a_r0_2 n_r0_2 c_r0_2, ∃ a_r0_3 n_r0_3 c_r0_3, e = .returned (.agg #[.int .i64 r0_0, .slice a_r0_1 n_r0_1 c_r0_1, .slice a_r0_2 n_r0_2 c_r0_2, .slice a_r0_3 n_r0_3 c_r0_3, .int .i64 r0_4]) ∧ St w0 (fun _ => False) w [Own 3 (rowT r0_1) (.slice a_r0_1 n_r0_1 c_r0_1), Own 3 (rowT r0_2) (.slice a_r0_2 n_r0_2 c_r0_2), Own 3 (rowT r0_3) (.slice a_r0_3 n_r0_3 c_r0_3)] := by
  obtain rfl := hr_x0_0.neq
  obtain rfl := hr_x0_1.neq
  obtain rfl := hr_x1.neq
  obtain rfl := hr_x2_0.neq
  obtain rfl := hr_x2_1.neq
  have HT : St w0 (fun _ => False) w0 [] := St.init0
  rw [m_spec_Serial] at h
  refine calls_fr (n := 37) [.agg #[.slice a_x0_0 x0_0.length c_x0_0, .slice a_x0_1 x0_1.length c_x0_1], .slice a_x1 x1.length c_x1, .agg #[.slice a_x2_0 x2_0.length c_x2_0, .slice a_x2_1 x2_1.length c_x2_1, .int .i64 x2_2]] Try.func28 rfl rfl rfl (fun a HF => ?_)
  have HT : St w0 (fun _ => False) w0 [] := HT
  refine wp_seq ?_
  refine wc_text ?_
  refine wc_box (cs := [.slice a_x0_0 x0_0.length c_x0_0, .slice a_x0_1 x0_1.length c_x0_1]) HF HT rfl rfl rfl rfl (fun p1 w HT hb => ⟨nS, fun a HF => ?_⟩)
  refine wc_box (cs := [.slice a_x2_0 x2_0.length c_x2_0, .slice a_x2_1 x2_1.length c_x2_1, .int .i64 x2_2]) HF HT rfl rfl rfl rfl (fun p2 w HT hb => ⟨nS, fun a HF => ?_⟩)
  refine wc_alloc (cs := [.int .i64 0, .slice none 0 0, .slice none 0 0, .slice none 0 0, .int .i64 0]) HF HT zr49 rfl rfl rfl (fun p3 w HT hb => ⟨nS, fun a HF => ?_⟩)
  refine wc_end ?_
  refine then_n ?_
  obtain ⟨q1, hx1, h⟩ := obs h
  refine wp_cut (fun a w => q1 = .brk () ∧ Fr a 37 [(1, .slice a_x1 x1.length c_x1), (3, .pointer (some ⟨p1, 0, none⟩)), (5, .pointer (some ⟨p2, 0, none⟩)), (6, .pointer (some ⟨p3, 0, none⟩))] ∧ St w0 (fun _ => False) w [Box p1 [.slice a_x0_0 x0_0.length c_x0_0, .slice a_x0_1 x0_1.length c_x0_1], Box p2 [.slice a_x2_0 x2_0.length c_x2_0, .slice a_x2_1 x2_1.length c_x2_1, .int .i64 x2_2], Box p3 [.int .i64 0, .slice none 0 0, .slice none 0 0, .slice none 0 0, .int .i64 0]]) ?_ ?_
  have hk1 := h
  have h := hx1
  obtain ⟨z1, hx2, h⟩ := obs h
  refine wp_cut (fun a w => Fr a 37 [(1, .slice a_x1 x1.length c_x1), (3, .pointer (some ⟨p1, 0, none⟩)), (5, .pointer (some ⟨p2, 0, none⟩)), (6, .pointer (some ⟨p3, 0, none⟩)), (16, .bool z1)] ∧ St w0 (fun _ => False) w [Box p1 [.slice a_x0_0 x0_0.length c_x0_0, .slice a_x0_1 x0_1.length c_x0_1], Box p2 [.slice a_x2_0 x2_0.length c_x2_0, .slice a_x2_1 x2_1.length c_x2_1, .int .i64 x2_2], Box p3 [.int .i64 0, .slice none 0 0, .slice none 0 0, .slice none 0 0, .int .i64 0]]) ?_ ?_
  have hk2 := h
  have h := hx2
  refine wc_text ?_
  refine wc_loadA (vs := [.slice a_x0_0 x0_0.length c_x0_0, .slice a_x0_1 x0_1.length c_x0_1]) HF rfl ag53 rfl ((HT.boxAt 2 rfl).part 0 2) rfl rfl (fun a HF => ?_)
  obtain ⟨y1, hx3, h⟩ := obs h
  refine wc_call HF cf72 rfl (w_spec_ProgOk fuel hx3 (HT.ro hr_x0_0).any (HT.ro hr_x0_1).any) rfl rfl ?_
  rintro e w ⟨rfl, hE⟩
  have hb := hE.below
  have HT := HT.pure hE
  have HT : St w0 (fun _ => False) w [Box p3 [.int .i64 0, .slice none 0 0, .slice none 0 0, .slice none 0 0, .int .i64 0], Box p2 [.slice a_x2_0 x2_0.length c_x2_0, .slice a_x2_1 x2_1.length c_x2_1, .int .i64 x2_2], Box p1 [.slice a_x0_0 x0_0.length c_x0_0, .slice a_x0_1 x0_1.length c_x0_1]] := HT
  refine ⟨_, rfl, nS, fun a HF => ?_⟩
  refine wc_not HF nS rfl rfl rfl (fun a HF => ?_)
  refine wc_move HF nS rfl rfl rfl (fun a HF => ?_)
  by_cases hb1 : y1 = true
  have h := (if_pos hb1).symm.trans h
  refine wc_loadA (vs := [.slice a_x2_0 x2_0.length c_x2_0, .slice a_x2_1 x2_1.length c_x2_1, .int .i64 x2_2]) HF rfl ag27 rfl ((HT.boxAt 1 rfl).part 0 3) (HF.wy rfl rfl rfl rfl (notT hb1)) rfl (fun a HF => ?_)
  obtain ⟨y2, hx4, h⟩ := obs h
  refine wc_call HF cf15 rfl (w_spec_ThingsOk fuel hx4 (HT.ro hr_x2_0).any (HT.ro hr_x2_1).any) (HF.wy rfl rfl rfl rfl (notT hb1)) rfl ?_
  rintro e w ⟨rfl, hE⟩
  have hb := hE.below
  have HT := HT.pure hE
  have HT : St w0 (fun _ => False) w [Box p3 [.int .i64 0, .slice none 0 0, .slice none 0 0, .slice none 0 0, .int .i64 0], Box p2 [.slice a_x2_0 x2_0.length c_x2_0, .slice a_x2_1 x2_1.length c_x2_1, .int .i64 x2_2], Box p1 [.slice a_x0_0 x0_0.length c_x0_0, .slice a_x0_1 x0_1.length c_x0_1]] := HT
  refine ⟨_, rfl, nS, fun a HF => ?_⟩
  refine wc_not HF nS rfl (HF.wy rfl rfl rfl rfl (notT hb1)) rfl (fun a HF => ?_)
  refine wc_pick (b := false) HF nS rfl (notT hb1) rfl rfl rfl (fun a HF => ?_)
  refine wc_end ?_
  have HT := HT.p1.p2
  obtain rfl := Option.some.inj h
  exact then_n ⟨(HF.keep (HF.keep (HF.keep (HF.keep (HF.keep HF.nil rfl) rfl) rfl) rfl) rfl), HT⟩
  have h := (if_neg hb1).symm.trans h
  refine wc_skip HF nS (HF.wn rfl rfl rfl rfl (notF (Bool.eq_false_iff.2 hb1))) rfl (fun a HF => ?_)
  refine wc_skip HF nS (HF.wn rfl rfl rfl rfl (notF (Bool.eq_false_iff.2 hb1))) rfl (fun a HF => ?_)
  refine wc_skip HF nS (HF.wn rfl rfl rfl rfl (notF (Bool.eq_false_iff.2 hb1))) rfl (fun a HF => ?_)
  refine wc_pick (b := true) HF nS rfl (notF (Bool.eq_false_iff.2 hb1)) rfl rfl rfl (fun a HF => ?_)
  refine wc_end ?_
  have HT := HT.p1.p2
  obtain rfl := Option.some.inj h
  exact then_n ⟨(HF.keep (HF.keep (HF.keep (HF.keep (HF.keep HF.nil rfl) rfl) rfl) rfl) rfl), HT⟩
  rintro a w ⟨HF, HT⟩
  refine ?_
  by_cases hb2 : z1 = true
  have h := (if_pos hb2).symm.trans h
  refine wp_if (b' := true) HF rfl hb2 ?_
  refine wp_seq ?_
  refine wc_text ?_
  refine wc_build (cs := #[.int .i64 0, .slice none 0 0, .slice none 0 0, .slice none 0 0, .int .i64 0]) HF nS bd49 rfl rfl rfl rfl (fun a HF => ?_)
  have HT := HT.p2
  refine wc_storeB (cs' := [.int .i64 0, .slice none 0 0, .slice none 0 0, .slice none 0 0, .int .i64 0]) HF HT rfl rfl (fun w => (ag49 w).2) rfl rfl rfl rfl rfl (fun w HT => ⟨nS, ?_⟩)
  refine wc_end ?_
  refine then_n ?_
  refine wp_ret ?_
  have HT := HT.nilrow (E := Int) 3
  have HT := HT.nilrow (E := Int) 3
  have HT := HT.nilrow (E := Int) 3
  obtain rfl := Option.some.inj h
  have h := retL hk1
  have hj1 := Option.some.inj h
  obtain ⟨hi1, hj2⟩ := Prod.mk.inj hj1
  subst hi1
  obtain ⟨hi2, hj3⟩ := Prod.mk.inj hj2
  subst hi2
  obtain ⟨hi3, hj4⟩ := Prod.mk.inj hj3
  subst hi3
  obtain ⟨hi4, hj5⟩ := Prod.mk.inj hj4
  subst hi4
  subst hj5
  refine then_r (?_)
  refine bp_ret HF (res_cell (vs := [.int .i64 0, .slice none 0 0, .slice none 0 0, .slice none 0 0, .int .i64 0]) rfl HF rfl ag49 rfl (HT.boxAt 3 rfl)) ?_
  have HT := HT.p1.p2.t3
  exact ⟨none, 0, 0, none, 0, 0, none, 0, 0, rfl, HT⟩
  have h := (if_neg hb2).symm.trans h
  refine wp_if (b' := false) HF rfl (Bool.eq_false_iff.2 hb2) ?_
  refine wp_skip ?_
  exact then_n ⟨(Option.some.inj h).symm, (HF.keep (HF.keep (HF.keep (HF.keep HF.nil rfl) rfl) rfl) rfl), HT⟩
  rintro a w ⟨rfl, HF, HT⟩
  have h := brkL1u h
  refine ?_
  refine wp_seq ?_
  refine wc_text ?_
  refine wc_move HF nS rfl rfl rfl (fun a HF => ?_)
  refine wc_faddr HF nS rfl fl53_1 rfl rfl (fun a HF => ?_)
  refine wc_load HF rfl sc51 ((HT.boxAt 0 rfl).get 1 rfl) rfl rfl (fun a HF => ?_)
  refine wc_lenR HF nS Try.underlying51 rfl rfl rfl (fun a HF => ?_)
  obtain ⟨y3, y4, hx5, h⟩ := obs2 h
  refine wc_call HF cf73 rfl (w_spec_l7Order fuel hx5 (HT.ro hr_x1).any) rfl rfl ?_
  rintro e w ⟨a1, n1, c1, rfl, hE⟩
  have hb := hE.below
  have HT := HT.pure hE
  obtain rfl := (HT.rdAt 0 rfl).neq
  have HT : St w0 (fun _ => False) w [Own 3 (rowT y3) (.slice a1 y3.length c1), Box p1 [.slice a_x0_0 x0_0.length c_x0_0, .slice a_x0_1 x0_1.length c_x0_1], Box p2 [.slice a_x2_0 x2_0.length c_x2_0, .slice a_x2_1 x2_1.length c_x2_1, .int .i64 x2_2], Box p3 [.int .i64 0, .slice none 0 0, .slice none 0 0, .slice none 0 0, .int .i64 0]] := HT
  refine ⟨_, rfl, nS, fun a HF => ?_⟩
  refine wc_move HF nS rfl rfl rfl (fun a HF => ?_)
  refine wc_extract (v := .slice a1 y3.length c1) HF nS rfl rfl rfl rfl (fun a HF => ?_)
  refine wc_extract (v := .bool y4) HF nS rfl rfl rfl rfl (fun a HF => ?_)
  refine wc_assign HF nS rfl rfl rfl (fun a HF => ?_)
  refine wc_assign HF nS rfl rfl rfl (fun a HF => ?_)
  refine wc_end ?_
  refine then_n ?_
  refine wp_seq ?_
  refine wp_seq ?_
  refine wc_text ?_
  refine wc_move HF nS rfl rfl rfl (fun a HF => ?_)
  refine wc_not HF nS rfl rfl rfl (fun a HF => ?_)
  refine wc_end ?_
  refine then_n ?_
  by_cases hb3 : y4 = true
  have h := (if_pos hb3).symm.trans h
  refine wp_if (b' := false) HF rfl (notT hb3) ?_
  refine wp_skip ?_
  refine then_n ?_
  refine wp_seq ?_
  refine wp_region_can [(0, false), (1, false), (2, false), (3, false), (4, false), (6, false), (5, false), (7, true), (8, true)] (fun w' => w'.cell? ⟨p1, 0, none⟩ = some (.slice a_x0_0 x0_0.length c_x0_0) ∧ w'.cell? ⟨p1, 1, none⟩ = some (.slice a_x0_1 x0_1.length c_x0_1) ∧ LdC w' p2 0 [.slice a_x2_0 x2_0.length c_x2_0, .slice a_x2_1 x2_1.length c_x2_1, .int .i64 x2_2] ∧ True) (by kernel_rfl) (by kernel_rfl) ?_
  have HT := HT.drew
  refine wc_faddr HF (fun _ => ⟨(HT.boxAt 1 rfl).get 0 rfl, (HT.boxAt 1 rfl).get 1 rfl, (HT.boxAt 2 rfl).part 0 3, trivial⟩) rfl fl53_0 rfl rfl (fun a HF => ?_)
  refine wc_loadS HF ⟨(HT.boxAt 1 rfl).get 0 rfl, (HT.boxAt 1 rfl).get 1 rfl, (HT.boxAt 2 rfl).part 0 3, trivial⟩ rfl sc36 (fun w hS => hS.1) rfl rfl (fun a HF => ?_)
  refine wc_faddr HF (fun _ => ⟨(HT.boxAt 1 rfl).get 0 rfl, (HT.boxAt 1 rfl).get 1 rfl, (HT.boxAt 2 rfl).part 0 3, trivial⟩) rfl fl53_1 rfl rfl (fun a HF => ?_)
  refine wc_loadS HF ⟨(HT.boxAt 1 rfl).get 0 rfl, (HT.boxAt 1 rfl).get 1 rfl, (HT.boxAt 2 rfl).part 0 3, trivial⟩ rfl sc51 (fun w hS => hS.2.1) rfl rfl (fun a HF => ?_)
  refine wc_move HF (fun _ => ⟨(HT.boxAt 1 rfl).get 0 rfl, (HT.boxAt 1 rfl).get 1 rfl, (HT.boxAt 2 rfl).part 0 3, trivial⟩) rfl rfl rfl (fun a HF => ?_)
  refine wc_loadAS (vs := [.slice a_x2_0 x2_0.length c_x2_0, .slice a_x2_1 x2_1.length c_x2_1, .int .i64 x2_2]) HF ⟨(HT.boxAt 1 rfl).get 0 rfl, (HT.boxAt 1 rfl).get 1 rfl, (HT.boxAt 2 rfl).part 0 3, trivial⟩ rfl ag27 rfl (fun w hS => hS.2.2.1) rfl rfl (fun a HF => ?_)
  obtain ⟨hg1, h⟩ := grd h
  refine wc_make (x := (0 : Int)) HF HT el22 rfl rfl hg1 rfl rfl rfl rfl (fun p4 w HT hb => ⟨(fun _ => ⟨(HT.boxAt 2 rfl).get 0 rfl, (HT.boxAt 2 rfl).get 1 rfl, (HT.boxAt 3 rfl).part 0 3, trivial⟩), fun a HF => ?_⟩)
  obtain ⟨y5, y6, y7, y8, y9, hx6, h⟩ := obs5 h
  refine wc_call HF cf66 rfl (w_spec_l7Walk fuel hx6 (HT.ro hr_x0_0).any (HT.ro hr_x0_1).any (HT.rdAt 1 rfl) (HT.rdAt 0 rfl) (HT.ro hr_x2_0).any (HT.ro hr_x2_1).any) rfl rfl ?_
  rintro e w ⟨a2, n2, c2, a3, n3, c3, a4, n4, c4, rfl, hE⟩
  have hb := hE.below
  have HT := HT.pure hE
  obtain rfl := (HT.rdAt 0 rfl).neq
  obtain rfl := (HT.rdAt 1 rfl).neq
  obtain rfl := (HT.rdAt 2 rfl).neq
  have HT : St w0 (fun _ => False) w [Own 3 (rowT y6) (.slice a2 y6.length c2), Own 3 (rowT y7) (.slice a3 y7.length c3), Own 3 (rowT y8) (.slice a4 y8.length c4), Own 3 (rowT (List.replicate (4 : Int).toNat (0 : Int))) (.slice (some ⟨p4, 0, none⟩) ((List.replicate (4 : Int).toNat (0 : Int)).length) ((List.replicate (4 : Int).toNat (0 : Int)).length)), Own 3 (rowT y3) (.slice a1 y3.length c1), Box p1 [.slice a_x0_0 x0_0.length c_x0_0, .slice a_x0_1 x0_1.length c_x0_1], Box p2 [.slice a_x2_0 x2_0.length c_x2_0, .slice a_x2_1 x2_1.length c_x2_1, .int .i64 x2_2], Box p3 [.int .i64 0, .slice none 0 0, .slice none 0 0, .slice none 0 0, .int .i64 0]] := HT
  refine ⟨_, rfl, nS, fun a HF => ?_⟩
  have HT := HT.p7
  refine wc_storeB (cs' := [.int .i64 y5, .slice a2 y6.length c2, .slice a3 y7.length c3, .slice a4 y8.length c4, .int .i64 y9]) HF HT rfl rfl (fun w => (ag49 w).2) rfl rfl rfl rfl rfl (fun w HT => ⟨nS, ?_⟩)
  refine wc_endN ?_
  refine then_n ?_
  refine wp_ret ?_
  have hj6 := Option.some.inj h
  obtain ⟨hi6, hj7⟩ := Prod.mk.inj hj6
  subst hi6
  obtain ⟨hi7, hj8⟩ := Prod.mk.inj hj7
  subst hi7
  obtain ⟨hi8, hj9⟩ := Prod.mk.inj hj8
  subst hi8
  obtain ⟨hi9, hj10⟩ := Prod.mk.inj hj9
  subst hi9
  subst hj10
  refine bp_ret HF (res_cell (vs := [.int .i64 y5, .slice a2 y6.length c2, .slice a3 y7.length c3, .slice a4 y8.length c4, .int .i64 y9]) rfl HF rfl ag49 rfl (HT.boxAt 0 rfl)) ?_
  have HT := HT.p3.p3.p3.t3
  exact ⟨a2, y6.length, c2, a3, y7.length, c3, a4, y8.length, c4, rfl, HT⟩
  have h := (if_neg hb3).symm.trans h
  refine wp_if (b' := true) HF rfl (notF (Bool.eq_false_iff.2 hb3)) ?_
  refine wp_seq ?_
  refine wc_text ?_
  refine wc_build (cs := #[.int .i64 0, .slice none 0 0, .slice none 0 0, .slice none 0 0, .int .i64 0]) HF nS bd49 rfl rfl rfl rfl (fun a HF => ?_)
  have HT := HT.p3
  refine wc_storeB (cs' := [.int .i64 0, .slice none 0 0, .slice none 0 0, .slice none 0 0, .int .i64 0]) HF HT rfl rfl (fun w => (ag49 w).2) rfl rfl rfl rfl rfl (fun w HT => ⟨nS, ?_⟩)
  refine wc_end ?_
  refine then_n ?_
  refine wp_ret ?_
  have HT := HT.nilrow (E := Int) 3
  have HT := HT.nilrow (E := Int) 3
  have HT := HT.nilrow (E := Int) 3
  have hj11 := Option.some.inj h
  obtain ⟨hi11, hj12⟩ := Prod.mk.inj hj11
  subst hi11
  obtain ⟨hi12, hj13⟩ := Prod.mk.inj hj12
  subst hi12
  obtain ⟨hi13, hj14⟩ := Prod.mk.inj hj13
  subst hi13
  obtain ⟨hi14, hj15⟩ := Prod.mk.inj hj14
  subst hi14
  subst hj15
  refine then_r (?_)
  refine bp_ret HF (res_cell (vs := [.int .i64 0, .slice none 0 0, .slice none 0 0, .slice none 0 0, .int .i64 0]) rfl HF rfl ag49 rfl (HT.boxAt 3 rfl)) ?_
  have HT := HT.p1.p2.t3
  exact ⟨none, 0, 0, none, 0, 0, none, 0, 0, rfl, HT⟩
end Go.Proofs.Ytknghnmcckjjbaa
