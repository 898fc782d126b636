/- Walks of functions, by program: impl.within, impl.isValue, impl.MemOk, impl.isCell, impl.LoadLock, impl.LoadVal, impl.copyMem, impl.isOwner, impl.Lock, impl.Store, impl.Tick, impl.Unlock, impl.Values, laws.big, laws.sameInts, laws.sameMem, spec.l1New, spec.l1Byte, spec.l1Below, spec.l1PickInt, spec.l1Once, spec.l3Draw, spec.l3Mem. -/
import Derived.Test.YtmhdjnmfioaciaaTy
namespace Go.Proofs.Ytmhdjnmfioaciaa
open Go Go.RowKit
set_option linter.unusedVariables false
set_option linter.unusedSimpArgs false
def m_impl_within (fuel : Nat) (x0 : Int) (x1 : Int) (x2 : Int) : Option Bool :=
  if x1 ≤ x0 then
    some (decide (x0 ≤ x2))
  else
    some false

set_option maxRecDepth 100000 in
set_option maxHeartbeats 4000000 in
theorem w_impl_within (fuel : Nat) {x0 : Int} {x1 : Int} {x2 : Int} {r0 : Bool} {w0 : World} (h : m_impl_within fuel x0 x1 x2 = some r0) :
    Calls Try.prog 50 #[.int .i64 x0, .int .i64 x1, .int .i64 x2] w0 fun e w => e = .returned (.bool r0) ∧ St w0 (fun _ => False) w [] := by
  have HT : St w0 (fun _ => False) w0 [] := St.init0
  rw [m_impl_within] at h
  refine calls_fr (n := 15) [.int .i64 x0, .int .i64 x1, .int .i64 x2] Try.func50 rfl rfl rfl (fun a HF => ?_)
  have HT : St w0 (fun _ => False) w0 [] := HT
  refine wp_seq ?_
  refine wc_text ?_
  refine wc_assign HF nS rfl rfl rfl (fun a HF => ?_)
  refine wc_end ?_
  refine then_n ?_
  refine wp_seq ?_
  refine wc_text ?_
  refine wc_move HF nS rfl rfl rfl (fun a HF => ?_)
  refine wc_move HF nS rfl rfl rfl (fun a HF => ?_)
  refine wc_bin HF nS rfl rfl b_ge rfl rfl (fun a HF => ?_)
  refine wc_move HF nS rfl rfl rfl (fun a HF => ?_)
  by_cases hb1 : x1 ≤ x0
  · have h := (if_pos hb1).symm.trans h
    refine wc_move HF nS rfl (HF.wy rfl rfl rfl rfl (decide_eq_true hb1)) rfl (fun a HF => ?_)
    refine wc_move HF nS rfl (HF.wy rfl rfl rfl rfl (decide_eq_true hb1)) rfl (fun a HF => ?_)
    refine wc_bin HF nS rfl rfl b_le (HF.wy rfl rfl rfl rfl (decide_eq_true hb1)) rfl (fun a HF => ?_)
    refine wc_pick (b := true) HF nS rfl (decide_eq_true hb1) rfl rfl rfl (fun a HF => ?_)
    refine wc_assign HF nS rfl rfl rfl (fun a HF => ?_)
    refine wc_end ?_
    refine then_n ?_
    refine wp_ret ?_
    obtain rfl := Option.some.inj h
    refine bp_ret HF (res_one rfl HF rfl) ?_
    exact ⟨rfl, HT⟩
  · have h := (if_neg hb1).symm.trans h
    refine wc_skip HF nS (HF.wn rfl rfl rfl rfl (decide_eq_false hb1)) rfl (fun a HF => ?_)
    refine wc_skip HF nS (HF.wn rfl rfl rfl rfl (decide_eq_false hb1)) rfl (fun a HF => ?_)
    refine wc_skip HF nS (HF.wn rfl rfl rfl rfl (decide_eq_false hb1)) rfl (fun a HF => ?_)
    refine wc_pick (b := false) HF nS rfl (decide_eq_false hb1) rfl rfl rfl (fun a HF => ?_)
    refine wc_assign HF nS rfl rfl rfl (fun a HF => ?_)
    refine wc_end ?_
    refine then_n ?_
    refine wp_ret ?_
    obtain rfl := Option.some.inj h
    refine bp_ret HF (res_one rfl HF rfl) ?_
    exact ⟨rfl, HT⟩

def m_impl_isValue (fuel : Nat) (x0 : Int) : Option Bool :=
  (m_impl_within fuel x0 0 65535).bind fun y1 =>
  some y1

set_option maxRecDepth 100000 in
set_option maxHeartbeats 4000000 in
theorem w_impl_isValue (fuel : Nat) {x0 : Int} {r0 : Bool} {w0 : World} (h : m_impl_isValue fuel x0 = some r0) :
    Calls Try.prog 49 #[.int .i64 x0] w0 fun e w => e = .returned (.bool r0) ∧ St w0 (fun _ => False) w [] := by
  have HT : St w0 (fun _ => False) w0 [] := St.init0
  rw [m_impl_isValue] at h
  refine calls_fr (n := 5) [.int .i64 x0] Try.func49 rfl rfl rfl (fun a HF => ?_)
  have HT : St w0 (fun _ => False) w0 [] := HT
  refine wp_seq ?_
  refine wc_text ?_
  refine wc_assign HF nS rfl rfl rfl (fun a HF => ?_)
  refine wc_end ?_
  refine then_n ?_
  refine wp_seq ?_
  refine wc_text ?_
  refine wc_move HF nS rfl rfl rfl (fun a HF => ?_)
  obtain ⟨y1, hx1, h⟩ := obs h
  refine wc_call HF cf50 rfl (w_impl_within fuel hx1) rfl rfl ?_
  rintro e w ⟨rfl, hE⟩
  have hb := hE.below
  have HT := HT.pure hE
  have HT : St w0 (fun _ => False) w [] := HT
  refine ⟨_, rfl, nS, fun a HF => ?_⟩
  refine wc_assign HF nS rfl rfl rfl (fun a HF => ?_)
  refine wc_end ?_
  refine then_n ?_
  refine wp_ret ?_
  obtain rfl := Option.some.inj h
  refine bp_ret HF (res_one rfl HF rfl) ?_
  exact ⟨rfl, HT⟩

def m_impl_MemOk_L0 (fuel : Nat) (x0_0 : Int) (x0_1 : List I3) : Nat → Int → Option (Lp Unit Bool)
  | 0, _ => none
  | k1 + 1, z1 =>
    if z1 < (x0_1.length : Int) then
      (at? x0_1 z1).bind fun e1 =>
      (m_impl_isValue fuel e1.a).bind fun y1 =>
      if y1 = true then
        (m_impl_within fuel e1.b 0 x0_0).bind fun y2 =>
        if y2 = true then
          (m_impl_within fuel e1.c 0 99).bind fun y3 =>
          if y3 = true then
            if in64 (z1 + 1) then
              m_impl_MemOk_L0 fuel x0_0 x0_1 k1 (z1 + 1)
            else none
          else
            some (.ret false)
        else
          some (.ret false)
      else
        some (.ret false)
    else
      some (.brk ())

def m_impl_MemOk (fuel : Nat) (x0_0 : Int) (x0_1 : List I3) : Option Bool :=
  (m_impl_MemOk_L0 fuel x0_0 x0_1 fuel 0).bind <| contL <| un1 fun _ =>
  if (x0_1.length : Int) = 8 then
    (m_impl_within fuel x0_0 0 1000000).bind fun y4 =>
    some y4
  else
    some false

set_option maxRecDepth 100000 in
set_option maxHeartbeats 4000000 in
theorem w_impl_MemOk (fuel : Nat) {x0_0 : Int} {x0_1 : List I3} {a_x0_1 : Option Addr} {n_x0_1 c_x0_1 : Nat} {r0 : Bool} {w0 : World} (h : m_impl_MemOk fuel x0_0 x0_1 = some r0) (hr_x0_1 : RdT (fun b => ¬ False) w0 (rowT x0_1) (.slice a_x0_1 n_x0_1 c_x0_1)) :
    Calls Try.prog 16 #[.agg #[.int .i64 x0_0, .slice a_x0_1 n_x0_1 c_x0_1]] w0 fun e w => e = .returned (.bool r0) ∧ St w0 (fun _ => False) w [] := by
  obtain rfl := hr_x0_1.neq
  have HT : St w0 (fun _ => False) w0 [] := St.init0
  rw [m_impl_MemOk] at h
  refine calls_fr (n := 40) [.agg #[.int .i64 x0_0, .slice a_x0_1 x0_1.length c_x0_1]] Try.func16 rfl rfl rfl (fun a HF => ?_)
  have HT : St w0 (fun _ => False) w0 [] := HT
  refine wp_seq ?_
  refine wc_text ?_
  refine wc_box (cs := [.int .i64 x0_0, .slice a_x0_1 x0_1.length c_x0_1]) HF HT rfl rfl rfl rfl (fun p1 w HT hb => ⟨nS, fun a HF => ?_⟩)
  refine wc_assign HF nS rfl rfl rfl (fun a HF => ?_)
  refine wc_end ?_
  refine then_n ?_
  obtain ⟨q1, hx1, h⟩ := obs h
  refine wp_cut (fun a w => q1 = .brk () ∧ Fr a 40 [(1, .pointer (some ⟨p1, 0, none⟩))] ∧ St w0 (fun _ => False) w [Box p1 [.int .i64 x0_0, .slice a_x0_1 x0_1.length c_x0_1]]) ?_ ?_
  · have hk1 := h
    have h := hx1
    refine wp_seq ?_
    refine wc_text ?_
    refine wc_faddr HF nS rfl fl29_1 rfl rfl (fun a HF => ?_)
    refine wc_load HF rfl sc27 ((HT.boxAt 0 rfl).get 1 rfl) rfl rfl (fun a HF => ?_)
    refine wc_lenR HF nS Try.underlying27 rfl rfl rfl (fun a HF => ?_)
    refine wc_move HF nS rfl rfl rfl (fun a HF => ?_)
    refine wc_end ?_
    refine then_n ?_
    refine wp_block ?_
    refine wp_loopN (fun k1 a w => ∃ z1, m_impl_MemOk_L0 fuel x0_0 x0_1 k1 z1 = some q1 ∧ Fr a 40 [(1, .pointer (some ⟨p1, 0, none⟩)), (6, .slice a_x0_1 x0_1.length c_x0_1), (7, .int .i64 (x0_1.length : Int)), (8, .int .i64 z1)] ∧ St w0 (fun _ => False) w [Box p1 [.int .i64 x0_0, .slice a_x0_1 x0_1.length c_x0_1]]) fuel ⟨0, h, (HF.keep (HF.keep (HF.keep (HF.keep HF.nil rfl) rfl) rfl) rfl), HT⟩ ?_
    rintro k1 a w ⟨z1, h, HF, HT⟩
    cases k1 with
    | zero => cases h
    | succ k1 =>
      rw [m_impl_MemOk_L0] at h
      refine ?_
      refine wp_seq ?_
      refine wc_text ?_
      refine wc_bin HF nS rfl rfl b_lt rfl rfl (fun a HF => ?_)
      refine wc_end ?_
      refine then_n ?_
      refine wp_seq ?_
      by_cases hb1 : z1 < (x0_1.length : Int)
      · have h := (if_pos hb1).symm.trans h
        refine wp_if (b' := true) HF rfl (decide_eq_true hb1) ?_
        refine wp_skip ?_
        refine then_n ?_
        refine wp_seq ?_
        refine wp_block ?_
        refine wp_seq ?_
        refine wc_text ?_
        obtain ⟨e1, hx2, h⟩ := obs h
        obtain ⟨b1, o1, ha1⟩ := (HT.ro hr_x0_1).any.addr hx2
        refine wc_ixaddr HF nS el27 rfl ha1 ((HT.ro hr_x0_1).any).neq rfl hx2 rfl rfl (fun a HF => ?_)
        have hc1 := (HT.ro hr_x0_1).any.flatAt ha1 hx2
        refine wc_loadA (vs := [.int .i64 e1.a, .int .i64 e1.b, .int .i64 e1.c]) HF rfl ag61 rfl (hc1.part 0 3) rfl rfl (fun a HF => ?_)
        refine wc_alloc (cs := [.int .i64 0, .int .i64 0, .int .i64 0]) HF HT zr61 rfl rfl rfl (fun p2 w HT hb => ⟨nS, fun a HF => ?_⟩)
        refine wc_storeB (cs' := [.int .i64 e1.a, .int .i64 e1.b, .int .i64 e1.c]) HF HT rfl rfl (fun w => (ag61 w).2) rfl rfl rfl rfl rfl (fun w HT => ⟨nS, ?_⟩)
        refine wc_end ?_
        refine then_n ?_
        refine wp_seq ?_
        refine wc_text ?_
        refine wc_faddr HF nS rfl fl61_0 rfl rfl (fun a HF => ?_)
        refine wc_load HF rfl sc3 ((HT.boxAt 0 rfl).get 0 rfl) rfl rfl (fun a HF => ?_)
        obtain ⟨y1, hx3, h⟩ := obs h
        refine wc_call HF cf49 rfl (w_impl_isValue fuel hx3) rfl rfl ?_
        rintro e w ⟨rfl, hE⟩
        have hb := hE.below
        have HT := HT.pure hE
        have HT : St w0 (fun _ => False) w [Box p2 [.int .i64 e1.a, .int .i64 e1.b, .int .i64 e1.c], Box p1 [.int .i64 x0_0, .slice a_x0_1 x0_1.length c_x0_1]] := HT
        refine ⟨_, rfl, nS, fun a HF => ?_⟩
        refine wc_not HF nS rfl rfl rfl (fun a HF => ?_)
        refine wc_move HF nS rfl rfl rfl (fun a HF => ?_)
        by_cases hb2 : y1 = true
        · have h := (if_pos hb2).symm.trans h
          refine wc_faddr HF nS rfl fl61_1 (HF.wy rfl rfl rfl rfl (notT hb2)) rfl (fun a HF => ?_)
          refine wc_load HF rfl sc3 ((HT.boxAt 0 rfl).get 1 rfl) (HF.wy rfl rfl rfl rfl (notT hb2)) rfl (fun a HF => ?_)
          refine wc_faddr HF nS rfl fl29_0 (HF.wy rfl rfl rfl rfl (notT hb2)) rfl (fun a HF => ?_)
          refine wc_load HF rfl sc3 ((HT.boxAt 1 rfl).get 0 rfl) (HF.wy rfl rfl rfl rfl (notT hb2)) rfl (fun a HF => ?_)
          obtain ⟨y2, hx4, h⟩ := obs h
          refine wc_call HF cf50 rfl (w_impl_within fuel hx4) (HF.wy rfl rfl rfl rfl (notT hb2)) rfl ?_
          rintro e w ⟨rfl, hE⟩
          have hb := hE.below
          have HT := HT.pure hE
          have HT : St w0 (fun _ => False) w [Box p2 [.int .i64 e1.a, .int .i64 e1.b, .int .i64 e1.c], Box p1 [.int .i64 x0_0, .slice a_x0_1 x0_1.length c_x0_1]] := HT
          refine ⟨_, rfl, nS, fun a HF => ?_⟩
          refine wc_not HF nS rfl (HF.wy rfl rfl rfl rfl (notT hb2)) rfl (fun a HF => ?_)
          refine wc_pick (b := false) HF nS rfl (notT hb2) rfl rfl rfl (fun a HF => ?_)
          refine wc_move HF nS rfl rfl rfl (fun a HF => ?_)
          by_cases hb3 : y2 = true
          · have h := (if_pos hb3).symm.trans h
            refine wc_faddr HF nS rfl fl61_2 (HF.wy rfl rfl rfl rfl (notT hb3)) rfl (fun a HF => ?_)
            refine wc_load HF rfl sc3 ((HT.boxAt 0 rfl).get 2 rfl) (HF.wy rfl rfl rfl rfl (notT hb3)) rfl (fun a HF => ?_)
            obtain ⟨y3, hx5, h⟩ := obs h
            refine wc_call HF cf50 rfl (w_impl_within fuel hx5) (HF.wy rfl rfl rfl rfl (notT hb3)) rfl ?_
            rintro e w ⟨rfl, hE⟩
            have hb := hE.below
            have HT := HT.pure hE
            have HT : St w0 (fun _ => False) w [Box p2 [.int .i64 e1.a, .int .i64 e1.b, .int .i64 e1.c], Box p1 [.int .i64 x0_0, .slice a_x0_1 x0_1.length c_x0_1]] := HT
            refine ⟨_, rfl, nS, fun a HF => ?_⟩
            refine wc_not HF nS rfl (HF.wy rfl rfl rfl rfl (notT hb3)) rfl (fun a HF => ?_)
            refine wc_pick (b := false) HF nS rfl (notT hb3) rfl rfl rfl (fun a HF => ?_)
            refine wc_end ?_
            refine then_n ?_
            by_cases hb4 : y3 = true
            · have h := (if_pos hb4).symm.trans h
              refine wp_if (b' := false) HF rfl (notT hb4) ?_
              refine wp_skip ?_
              refine blk_n ?_
              refine then_n ?_
              refine wc_text ?_
              obtain ⟨hg1, h⟩ := grd h
              refine wc_bin HF nS rfl rfl (b_add hg1) rfl rfl (fun a HF => ?_)
              refine wc_move HF nS rfl rfl rfl (fun a HF => ?_)
              refine wc_end ?_
              have HT : St w0 (fun _ => False) w [Box p1 [.int .i64 x0_0, .slice a_x0_1 x0_1.length c_x0_1], Box p2 [.int .i64 e1.a, .int .i64 e1.b, .int .i64 e1.c]] := HT.pick 1
              have HT : St w0 (fun _ => False) w [Box p1 [.int .i64 x0_0, .slice a_x0_1 x0_1.length c_x0_1]] := HT.take 1
              exact then_n ⟨k1, Nat.lt_succ_self k1, z1 + 1, h, (HF.keep (HF.keep (HF.keep (HF.keep HF.nil rfl) rfl) rfl) rfl), HT⟩
            · have h := (if_neg hb4).symm.trans h
              refine wp_if (b' := true) HF rfl (notF (Bool.eq_false_iff.2 hb4)) ?_
              refine wp_seq ?_
              refine wc_text ?_
              refine wc_assign HF nS rfl rfl rfl (fun a HF => ?_)
              refine wc_end ?_
              refine then_n ?_
              refine wp_ret ?_
              obtain rfl := Option.some.inj h
              have h := retL hk1
              obtain rfl := Option.some.inj h
              refine blk_r (then_r (then_r (blk_r (then_r (?_)))))
              refine bp_ret HF (res_one rfl HF rfl) ?_
              have HT : St w0 (fun _ => False) w [] := HT.take 0
              exact ⟨rfl, HT⟩
          · have h := (if_neg hb3).symm.trans h
            refine wc_skip HF nS (HF.wn rfl rfl rfl rfl (notF (Bool.eq_false_iff.2 hb3))) rfl (fun a HF => ?_)
            refine wc_skip HF nS (HF.wn rfl rfl rfl rfl (notF (Bool.eq_false_iff.2 hb3))) rfl (fun a HF => ?_)
            refine wc_skip HF nS (HF.wn rfl rfl rfl rfl (notF (Bool.eq_false_iff.2 hb3))) rfl (fun a HF => ?_)
            refine wc_skip HF nS (HF.wn rfl rfl rfl rfl (notF (Bool.eq_false_iff.2 hb3))) rfl (fun a HF => ?_)
            refine wc_pick (b := true) HF nS rfl (notF (Bool.eq_false_iff.2 hb3)) rfl rfl rfl (fun a HF => ?_)
            refine wc_end ?_
            refine then_n ?_
            refine wp_if (b' := true) HF rfl rfl ?_
            refine wp_seq ?_
            refine wc_text ?_
            refine wc_assign HF nS rfl rfl rfl (fun a HF => ?_)
            refine wc_end ?_
            refine then_n ?_
            refine wp_ret ?_
            obtain rfl := Option.some.inj h
            have h := retL hk1
            obtain rfl := Option.some.inj h
            refine blk_r (then_r (then_r (blk_r (then_r (?_)))))
            refine bp_ret HF (res_one rfl HF rfl) ?_
            have HT : St w0 (fun _ => False) w [] := HT.take 0
            exact ⟨rfl, HT⟩
        · have h := (if_neg hb2).symm.trans h
          refine wc_skip HF nS (HF.wn rfl rfl rfl rfl (notF (Bool.eq_false_iff.2 hb2))) rfl (fun a HF => ?_)
          refine wc_skip HF nS (HF.wn rfl rfl rfl rfl (notF (Bool.eq_false_iff.2 hb2))) rfl (fun a HF => ?_)
          refine wc_skip HF nS (HF.wn rfl rfl rfl rfl (notF (Bool.eq_false_iff.2 hb2))) rfl (fun a HF => ?_)
          refine wc_skip HF nS (HF.wn rfl rfl rfl rfl (notF (Bool.eq_false_iff.2 hb2))) rfl (fun a HF => ?_)
          refine wc_skip HF nS (HF.wn rfl rfl rfl rfl (notF (Bool.eq_false_iff.2 hb2))) rfl (fun a HF => ?_)
          refine wc_skip HF nS (HF.wn rfl rfl rfl rfl (notF (Bool.eq_false_iff.2 hb2))) rfl (fun a HF => ?_)
          refine wc_pick (b := true) HF nS rfl (notF (Bool.eq_false_iff.2 hb2)) rfl rfl rfl (fun a HF => ?_)
          refine wc_move HF nS rfl rfl rfl (fun a HF => ?_)
          refine wc_skip HF nS (HF.wn rfl rfl rfl rfl rfl) rfl (fun a HF => ?_)
          refine wc_skip HF nS (HF.wn rfl rfl rfl rfl rfl) rfl (fun a HF => ?_)
          refine wc_skip HF nS (HF.wn rfl rfl rfl rfl rfl) rfl (fun a HF => ?_)
          refine wc_skip HF nS (HF.wn rfl rfl rfl rfl rfl) rfl (fun a HF => ?_)
          refine wc_pick (b := true) HF nS rfl rfl rfl rfl rfl (fun a HF => ?_)
          refine wc_end ?_
          refine then_n ?_
          refine wp_if (b' := true) HF rfl rfl ?_
          refine wp_seq ?_
          refine wc_text ?_
          refine wc_assign HF nS rfl rfl rfl (fun a HF => ?_)
          refine wc_end ?_
          refine then_n ?_
          refine wp_ret ?_
          obtain rfl := Option.some.inj h
          have h := retL hk1
          obtain rfl := Option.some.inj h
          refine blk_r (then_r (then_r (blk_r (then_r (?_)))))
          refine bp_ret HF (res_one rfl HF rfl) ?_
          have HT : St w0 (fun _ => False) w [] := HT.take 0
          exact ⟨rfl, HT⟩
      · have h := (if_neg hb1).symm.trans h
        refine wp_if (b' := false) HF rfl (decide_eq_false hb1) ?_
        refine wp_exit ?_
        refine then_x (then_x (?_))
        refine blk_x ?_
        exact then_n ⟨(Option.some.inj h).symm, (HF.keep HF.nil rfl), HT⟩
  · rintro a w ⟨rfl, HF, HT⟩
    have h := brkL1u h
    refine ?_
    refine wp_seq ?_
    refine wc_text ?_
    refine wc_faddr HF nS rfl fl29_1 rfl rfl (fun a HF => ?_)
    refine wc_load HF rfl sc27 ((HT.boxAt 0 rfl).get 1 rfl) rfl rfl (fun a HF => ?_)
    refine wc_lenR HF nS Try.underlying27 rfl rfl rfl (fun a HF => ?_)
    refine wc_bin HF nS rfl rfl b_eq rfl rfl (fun a HF => ?_)
    refine wc_move HF nS rfl rfl rfl (fun a HF => ?_)
    by_cases hb5 : (x0_1.length : Int) = 8
    · have h := (if_pos hb5).symm.trans h
      refine wc_faddr HF nS rfl fl29_0 (HF.wy rfl rfl rfl rfl (decide_eq_true hb5)) rfl (fun a HF => ?_)
      refine wc_load HF rfl sc3 ((HT.boxAt 0 rfl).get 0 rfl) (HF.wy rfl rfl rfl rfl (decide_eq_true hb5)) rfl (fun a HF => ?_)
      obtain ⟨y4, hx6, h⟩ := obs h
      refine wc_call HF cf50 rfl (w_impl_within fuel hx6) (HF.wy rfl rfl rfl rfl (decide_eq_true hb5)) rfl ?_
      rintro e w ⟨rfl, hE⟩
      have hb := hE.below
      have HT := HT.pure hE
      have HT : St w0 (fun _ => False) w [Box p1 [.int .i64 x0_0, .slice a_x0_1 x0_1.length c_x0_1]] := HT
      refine ⟨_, rfl, nS, fun a HF => ?_⟩
      refine wc_pick (b := true) HF nS rfl (decide_eq_true hb5) rfl rfl rfl (fun a HF => ?_)
      refine wc_assign HF nS rfl rfl rfl (fun a HF => ?_)
      refine wc_end ?_
      refine then_n ?_
      refine wp_ret ?_
      obtain rfl := Option.some.inj h
      refine bp_ret HF (res_one rfl HF rfl) ?_
      have HT : St w0 (fun _ => False) w [] := HT.take 0
      exact ⟨rfl, HT⟩
    · have h := (if_neg hb5).symm.trans h
      refine wc_skip HF nS (HF.wn rfl rfl rfl rfl (decide_eq_false hb5)) rfl (fun a HF => ?_)
      refine wc_skip HF nS (HF.wn rfl rfl rfl rfl (decide_eq_false hb5)) rfl (fun a HF => ?_)
      refine wc_skip HF nS (HF.wn rfl rfl rfl rfl (decide_eq_false hb5)) rfl (fun a HF => ?_)
      refine wc_pick (b := false) HF nS rfl (decide_eq_false hb5) rfl rfl rfl (fun a HF => ?_)
      refine wc_assign HF nS rfl rfl rfl (fun a HF => ?_)
      refine wc_end ?_
      refine then_n ?_
      refine wp_ret ?_
      obtain rfl := Option.some.inj h
      refine bp_ret HF (res_one rfl HF rfl) ?_
      have HT : St w0 (fun _ => False) w [] := HT.take 0
      exact ⟨rfl, HT⟩

def m_impl_isCell (fuel : Nat) (x0 : Int) : Option Bool :=
  (m_impl_within fuel x0 0 7).bind fun y1 =>
  some y1

set_option maxRecDepth 100000 in
set_option maxHeartbeats 4000000 in
theorem w_impl_isCell (fuel : Nat) {x0 : Int} {r0 : Bool} {w0 : World} (h : m_impl_isCell fuel x0 = some r0) :
    Calls Try.prog 53 #[.int .i64 x0] w0 fun e w => e = .returned (.bool r0) ∧ St w0 (fun _ => False) w [] := by
  have HT : St w0 (fun _ => False) w0 [] := St.init0
  rw [m_impl_isCell] at h
  refine calls_fr (n := 5) [.int .i64 x0] Try.func53 rfl rfl rfl (fun a HF => ?_)
  have HT : St w0 (fun _ => False) w0 [] := HT
  refine wp_seq ?_
  refine wc_text ?_
  refine wc_assign HF nS rfl rfl rfl (fun a HF => ?_)
  refine wc_end ?_
  refine then_n ?_
  refine wp_seq ?_
  refine wc_text ?_
  refine wc_move HF nS rfl rfl rfl (fun a HF => ?_)
  obtain ⟨y1, hx1, h⟩ := obs h
  refine wc_call HF cf50 rfl (w_impl_within fuel hx1) rfl rfl ?_
  rintro e w ⟨rfl, hE⟩
  have hb := hE.below
  have HT := HT.pure hE
  have HT : St w0 (fun _ => False) w [] := HT
  refine ⟨_, rfl, nS, fun a HF => ?_⟩
  refine wc_assign HF nS rfl rfl rfl (fun a HF => ?_)
  refine wc_end ?_
  refine then_n ?_
  refine wp_ret ?_
  obtain rfl := Option.some.inj h
  refine bp_ret HF (res_one rfl HF rfl) ?_
  exact ⟨rfl, HT⟩

def m_impl_LoadLock (fuel : Nat) (x0_0 : Int) (x0_1 : List I3) (x1 : Int) : Option (Int × Int × Bool) :=
  (m_impl_MemOk fuel x0_0 x0_1).bind fun y1 =>
  if y1 = true then
    (m_impl_isCell fuel x1).bind fun y2 =>
    if y2 = true then
      (at? x0_1 x1).bind fun e1 =>
      some (e1.b, e1.c, true)
    else
      some (0, 0, false)
  else
    some (0, 0, false)

set_option maxRecDepth 100000 in
set_option maxHeartbeats 4000000 in
theorem w_impl_LoadLock (fuel : Nat) {x0_0 : Int} {x0_1 : List I3} {x1 : Int} {a_x0_1 : Option Addr} {n_x0_1 c_x0_1 : Nat} {r0 : Int} {r1 : Int} {r2 : Bool} {w0 : World} (h : m_impl_LoadLock fuel x0_0 x0_1 x1 = some (r0, r1, r2)) (hr_x0_1 : RdT (fun b => ¬ False) w0 (rowT x0_1) (.slice a_x0_1 n_x0_1 c_x0_1)) :
    Calls Try.prog 19 #[.agg #[.int .i64 x0_0, .slice a_x0_1 n_x0_1 c_x0_1], .int .i64 x1] w0 fun e w => e = .returned (.tuple #[.int .i64 r0, .int .i64 r1, .bool r2]) ∧ St w0 (fun _ => False) w [] := by
  obtain rfl := hr_x0_1.neq
  have HT : St w0 (fun _ => False) w0 [] := St.init0
  rw [m_impl_LoadLock] at h
  refine calls_fr (n := 27) [.agg #[.int .i64 x0_0, .slice a_x0_1 x0_1.length c_x0_1], .int .i64 x1] Try.func19 rfl rfl rfl (fun a HF => ?_)
  have HT : St w0 (fun _ => False) w0 [] := HT
  refine wp_seq ?_
  refine wc_text ?_
  refine wc_box (cs := [.int .i64 x0_0, .slice a_x0_1 x0_1.length c_x0_1]) HF HT rfl rfl rfl rfl (fun p1 w HT hb => ⟨nS, fun a HF => ?_⟩)
  refine wc_assign HF nS rfl rfl rfl (fun a HF => ?_)
  refine wc_assign HF nS rfl rfl rfl (fun a HF => ?_)
  refine wc_assign HF nS rfl rfl rfl (fun a HF => ?_)
  refine wc_end ?_
  refine then_n ?_
  refine wp_seq ?_
  refine wp_seq ?_
  refine wc_text ?_
  refine wc_loadA (vs := [.int .i64 x0_0, .slice a_x0_1 x0_1.length c_x0_1]) HF rfl ag29 rfl ((HT.boxAt 0 rfl).part 0 2) rfl rfl (fun a HF => ?_)
  obtain ⟨y1, hx1, h⟩ := obs h
  refine wc_call HF cf16 rfl (w_impl_MemOk fuel hx1 (HT.ro hr_x0_1).any) rfl rfl ?_
  rintro e w ⟨rfl, hE⟩
  have hb := hE.below
  have HT := HT.pure hE
  have HT : St w0 (fun _ => False) w [Box p1 [.int .i64 x0_0, .slice a_x0_1 x0_1.length c_x0_1]] := HT
  refine ⟨_, rfl, nS, fun a HF => ?_⟩
  refine wc_not HF nS rfl rfl rfl (fun a HF => ?_)
  refine wc_move HF nS rfl rfl rfl (fun a HF => ?_)
  by_cases hb1 : y1 = true
  · have h := (if_pos hb1).symm.trans h
    refine wc_move HF nS rfl (HF.wy rfl rfl rfl rfl (notT hb1)) rfl (fun a HF => ?_)
    obtain ⟨y2, hx2, h⟩ := obs h
    refine wc_call HF cf53 rfl (w_impl_isCell fuel hx2) (HF.wy rfl rfl rfl rfl (notT hb1)) rfl ?_
    rintro e w ⟨rfl, hE⟩
    have hb := hE.below
    have HT := HT.pure hE
    have HT : St w0 (fun _ => False) w [Box p1 [.int .i64 x0_0, .slice a_x0_1 x0_1.length c_x0_1]] := HT
    refine ⟨_, rfl, nS, fun a HF => ?_⟩
    refine wc_not HF nS rfl (HF.wy rfl rfl rfl rfl (notT hb1)) rfl (fun a HF => ?_)
    refine wc_pick (b := false) HF nS rfl (notT hb1) rfl rfl rfl (fun a HF => ?_)
    refine wc_end ?_
    refine then_n ?_
    by_cases hb2 : y2 = true
    · have h := (if_pos hb2).symm.trans h
      refine wp_if (b' := false) HF rfl (notT hb2) ?_
      refine wp_skip ?_
      refine then_n ?_
      refine wp_seq ?_
      refine wp_region_can [(0, true), (1, true), (2, true), (3, true), (4, true), (5, true), (6, true), (7, true), (8, true), (9, true), (10, true), (11, true), (12, true), (13, true), (14, true)] (fun w' => True) (by kernel_rfl) (by kernel_rfl) ?_
      have HT : St w0 (fun _ => False) w.drew [Box p1 [.int .i64 x0_0, .slice a_x0_1 x0_1.length c_x0_1]] := HT.drew
      refine wc_faddr HF nS rfl fl29_1 rfl rfl (fun a HF => ?_)
      refine wc_load HF rfl sc27 ((HT.boxAt 0 rfl).get 1 rfl) rfl rfl (fun a HF => ?_)
      refine wc_move HF nS rfl rfl rfl (fun a HF => ?_)
      obtain ⟨e1, hx3, h⟩ := obs h
      obtain ⟨b1, o1, ha1⟩ := (HT.ro hr_x0_1).any.addr hx3
      refine wc_ixaddr HF nS el27 rfl ha1 ((HT.ro hr_x0_1).any).neq rfl hx3 rfl rfl (fun a HF => ?_)
      refine wc_faddr HF nS rfl fl61_1 rfl rfl (fun a HF => ?_)
      have hc1 := (HT.ro hr_x0_1).any.flatAt ha1 hx3
      refine wc_load HF rfl sc3 (hc1.get 1 rfl) rfl rfl (fun a HF => ?_)
      refine wc_faddr HF nS rfl fl29_1 rfl rfl (fun a HF => ?_)
      refine wc_load HF rfl sc27 ((HT.boxAt 0 rfl).get 1 rfl) rfl rfl (fun a HF => ?_)
      refine wc_move HF nS rfl rfl rfl (fun a HF => ?_)
      refine wc_ixaddr HF nS el27 rfl ha1 ((HT.ro hr_x0_1).any).neq rfl hx3 rfl rfl (fun a HF => ?_)
      refine wc_faddr HF nS rfl fl61_2 rfl rfl (fun a HF => ?_)
      have hc2 := (HT.ro hr_x0_1).any.flatAt ha1 hx3
      refine wc_load HF rfl sc3 (hc2.get 2 rfl) rfl rfl (fun a HF => ?_)
      refine wc_assign HF nS rfl rfl rfl (fun a HF => ?_)
      refine wc_assign HF nS rfl rfl rfl (fun a HF => ?_)
      refine wc_assign HF nS rfl rfl rfl (fun a HF => ?_)
      refine wc_endN ?_
      refine then_n ?_
      refine wp_ret ?_
      have hj1 := Option.some.inj h
      obtain ⟨hi1, hj2⟩ := Prod.mk.inj hj1
      subst hi1
      obtain ⟨hi2, hj3⟩ := Prod.mk.inj hj2
      subst hi2
      subst hj3
      refine bp_ret HF (res_three rfl HF rfl rfl rfl) ?_
      have HT : St w0 (fun _ => False) w.drew [] := HT.take 0
      exact ⟨rfl, HT⟩
    · have h := (if_neg hb2).symm.trans h
      refine wp_if (b' := true) HF rfl (notF (Bool.eq_false_iff.2 hb2)) ?_
      refine wp_seq ?_
      refine wc_text ?_
      refine wc_assign HF nS rfl rfl rfl (fun a HF => ?_)
      refine wc_assign HF nS rfl rfl rfl (fun a HF => ?_)
      refine wc_assign HF nS rfl rfl rfl (fun a HF => ?_)
      refine wc_end ?_
      refine then_n ?_
      refine wp_ret ?_
      have hj4 := Option.some.inj h
      obtain ⟨hi4, hj5⟩ := Prod.mk.inj hj4
      subst hi4
      obtain ⟨hi5, hj6⟩ := Prod.mk.inj hj5
      subst hi5
      subst hj6
      refine then_r (?_)
      refine bp_ret HF (res_three rfl HF rfl rfl rfl) ?_
      have HT : St w0 (fun _ => False) w [] := HT.take 0
      exact ⟨rfl, HT⟩
  · have h := (if_neg hb1).symm.trans h
    refine wc_skip HF nS (HF.wn rfl rfl rfl rfl (notF (Bool.eq_false_iff.2 hb1))) rfl (fun a HF => ?_)
    refine wc_skip HF nS (HF.wn rfl rfl rfl rfl (notF (Bool.eq_false_iff.2 hb1))) rfl (fun a HF => ?_)
    refine wc_skip HF nS (HF.wn rfl rfl rfl rfl (notF (Bool.eq_false_iff.2 hb1))) rfl (fun a HF => ?_)
    refine wc_pick (b := true) HF nS rfl (notF (Bool.eq_false_iff.2 hb1)) rfl rfl rfl (fun a HF => ?_)
    refine wc_end ?_
    refine then_n ?_
    refine wp_if (b' := true) HF rfl rfl ?_
    refine wp_seq ?_
    refine wc_text ?_
    refine wc_assign HF nS rfl rfl rfl (fun a HF => ?_)
    refine wc_assign HF nS rfl rfl rfl (fun a HF => ?_)
    refine wc_assign HF nS rfl rfl rfl (fun a HF => ?_)
    refine wc_end ?_
    refine then_n ?_
    refine wp_ret ?_
    have hj7 := Option.some.inj h
    obtain ⟨hi7, hj8⟩ := Prod.mk.inj hj7
    subst hi7
    obtain ⟨hi8, hj9⟩ := Prod.mk.inj hj8
    subst hi8
    subst hj9
    refine then_r (?_)
    refine bp_ret HF (res_three rfl HF rfl rfl rfl) ?_
    have HT : St w0 (fun _ => False) w [] := HT.take 0
    exact ⟨rfl, HT⟩

def m_impl_LoadVal (fuel : Nat) (x0_0 : Int) (x0_1 : List I3) (x1 : Int) : Option (Int × Bool) :=
  (m_impl_MemOk fuel x0_0 x0_1).bind fun y1 =>
  if y1 = true then
    (m_impl_isCell fuel x1).bind fun y2 =>
    if y2 = true then
      (at? x0_1 x1).bind fun e1 =>
      some (e1.a, true)
    else
      some (0, false)
  else
    some (0, false)

set_option maxRecDepth 100000 in
set_option maxHeartbeats 4000000 in
theorem w_impl_LoadVal (fuel : Nat) {x0_0 : Int} {x0_1 : List I3} {x1 : Int} {a_x0_1 : Option Addr} {n_x0_1 c_x0_1 : Nat} {r0 : Int} {r1 : Bool} {w0 : World} (h : m_impl_LoadVal fuel x0_0 x0_1 x1 = some (r0, r1)) (hr_x0_1 : RdT (fun b => ¬ False) w0 (rowT x0_1) (.slice a_x0_1 n_x0_1 c_x0_1)) :
    Calls Try.prog 21 #[.agg #[.int .i64 x0_0, .slice a_x0_1 n_x0_1 c_x0_1], .int .i64 x1] w0 fun e w => e = .returned (.tuple #[.int .i64 r0, .bool r1]) ∧ St w0 (fun _ => False) w [] := by
  obtain rfl := hr_x0_1.neq
  have HT : St w0 (fun _ => False) w0 [] := St.init0
  rw [m_impl_LoadVal] at h
  refine calls_fr (n := 20) [.agg #[.int .i64 x0_0, .slice a_x0_1 x0_1.length c_x0_1], .int .i64 x1] Try.func21 rfl rfl rfl (fun a HF => ?_)
  have HT : St w0 (fun _ => False) w0 [] := HT
  refine wp_seq ?_
  refine wc_text ?_
  refine wc_box (cs := [.int .i64 x0_0, .slice a_x0_1 x0_1.length c_x0_1]) HF HT rfl rfl rfl rfl (fun p1 w HT hb => ⟨nS, fun a HF => ?_⟩)
  refine wc_assign HF nS rfl rfl rfl (fun a HF => ?_)
  refine wc_assign HF nS rfl rfl rfl (fun a HF => ?_)
  refine wc_end ?_
  refine then_n ?_
  refine wp_seq ?_
  refine wp_seq ?_
  refine wc_text ?_
  refine wc_loadA (vs := [.int .i64 x0_0, .slice a_x0_1 x0_1.length c_x0_1]) HF rfl ag29 rfl ((HT.boxAt 0 rfl).part 0 2) rfl rfl (fun a HF => ?_)
  obtain ⟨y1, hx1, h⟩ := obs h
  refine wc_call HF cf16 rfl (w_impl_MemOk fuel hx1 (HT.ro hr_x0_1).any) rfl rfl ?_
  rintro e w ⟨rfl, hE⟩
  have hb := hE.below
  have HT := HT.pure hE
  have HT : St w0 (fun _ => False) w [Box p1 [.int .i64 x0_0, .slice a_x0_1 x0_1.length c_x0_1]] := HT
  refine ⟨_, rfl, nS, fun a HF => ?_⟩
  refine wc_not HF nS rfl rfl rfl (fun a HF => ?_)
  refine wc_move HF nS rfl rfl rfl (fun a HF => ?_)
  by_cases hb1 : y1 = true
  · have h := (if_pos hb1).symm.trans h
    refine wc_move HF nS rfl (HF.wy rfl rfl rfl rfl (notT hb1)) rfl (fun a HF => ?_)
    obtain ⟨y2, hx2, h⟩ := obs h
    refine wc_call HF cf53 rfl (w_impl_isCell fuel hx2) (HF.wy rfl rfl rfl rfl (notT hb1)) rfl ?_
    rintro e w ⟨rfl, hE⟩
    have hb := hE.below
    have HT := HT.pure hE
    have HT : St w0 (fun _ => False) w [Box p1 [.int .i64 x0_0, .slice a_x0_1 x0_1.length c_x0_1]] := HT
    refine ⟨_, rfl, nS, fun a HF => ?_⟩
    refine wc_not HF nS rfl (HF.wy rfl rfl rfl rfl (notT hb1)) rfl (fun a HF => ?_)
    refine wc_pick (b := false) HF nS rfl (notT hb1) rfl rfl rfl (fun a HF => ?_)
    refine wc_end ?_
    refine then_n ?_
    by_cases hb2 : y2 = true
    · have h := (if_pos hb2).symm.trans h
      refine wp_if (b' := false) HF rfl (notT hb2) ?_
      refine wp_skip ?_
      refine then_n ?_
      refine wp_seq ?_
      refine wc_text ?_
      refine wc_faddr HF nS rfl fl29_1 rfl rfl (fun a HF => ?_)
      refine wc_load HF rfl sc27 ((HT.boxAt 0 rfl).get 1 rfl) rfl rfl (fun a HF => ?_)
      refine wc_move HF nS rfl rfl rfl (fun a HF => ?_)
      obtain ⟨e1, hx3, h⟩ := obs h
      obtain ⟨b1, o1, ha1⟩ := (HT.ro hr_x0_1).any.addr hx3
      refine wc_ixaddr HF nS el27 rfl ha1 ((HT.ro hr_x0_1).any).neq rfl hx3 rfl rfl (fun a HF => ?_)
      refine wc_faddr HF nS rfl fl61_0 rfl rfl (fun a HF => ?_)
      have hc1 := (HT.ro hr_x0_1).any.flatAt ha1 hx3
      refine wc_load HF rfl sc3 (hc1.get 0 rfl) rfl rfl (fun a HF => ?_)
      refine wc_assign HF nS rfl rfl rfl (fun a HF => ?_)
      refine wc_assign HF nS rfl rfl rfl (fun a HF => ?_)
      refine wc_end ?_
      refine then_n ?_
      refine wp_ret ?_
      have hj1 := Option.some.inj h
      obtain ⟨hi1, hj2⟩ := Prod.mk.inj hj1
      subst hi1
      subst hj2
      refine bp_ret HF (res_two rfl HF rfl rfl) ?_
      have HT : St w0 (fun _ => False) w [] := HT.take 0
      exact ⟨rfl, HT⟩
    · have h := (if_neg hb2).symm.trans h
      refine wp_if (b' := true) HF rfl (notF (Bool.eq_false_iff.2 hb2)) ?_
      refine wp_seq ?_
      refine wc_text ?_
      refine wc_assign HF nS rfl rfl rfl (fun a HF => ?_)
      refine wc_assign HF nS rfl rfl rfl (fun a HF => ?_)
      refine wc_end ?_
      refine then_n ?_
      refine wp_ret ?_
      have hj3 := Option.some.inj h
      obtain ⟨hi3, hj4⟩ := Prod.mk.inj hj3
      subst hi3
      subst hj4
      refine then_r (?_)
      refine bp_ret HF (res_two rfl HF rfl rfl) ?_
      have HT : St w0 (fun _ => False) w [] := HT.take 0
      exact ⟨rfl, HT⟩
  · have h := (if_neg hb1).symm.trans h
    refine wc_skip HF nS (HF.wn rfl rfl rfl rfl (notF (Bool.eq_false_iff.2 hb1))) rfl (fun a HF => ?_)
    refine wc_skip HF nS (HF.wn rfl rfl rfl rfl (notF (Bool.eq_false_iff.2 hb1))) rfl (fun a HF => ?_)
    refine wc_skip HF nS (HF.wn rfl rfl rfl rfl (notF (Bool.eq_false_iff.2 hb1))) rfl (fun a HF => ?_)
    refine wc_pick (b := true) HF nS rfl (notF (Bool.eq_false_iff.2 hb1)) rfl rfl rfl (fun a HF => ?_)
    refine wc_end ?_
    refine then_n ?_
    refine wp_if (b' := true) HF rfl rfl ?_
    refine wp_seq ?_
    refine wc_text ?_
    refine wc_assign HF nS rfl rfl rfl (fun a HF => ?_)
    refine wc_assign HF nS rfl rfl rfl (fun a HF => ?_)
    refine wc_end ?_
    refine then_n ?_
    refine wp_ret ?_
    have hj5 := Option.some.inj h
    obtain ⟨hi5, hj6⟩ := Prod.mk.inj hj5
    subst hi5
    subst hj6
    refine then_r (?_)
    refine bp_ret HF (res_two rfl HF rfl rfl) ?_
    have HT : St w0 (fun _ => False) w [] := HT.take 0
    exact ⟨rfl, HT⟩

def m_impl_copyMem (fuel : Nat) (x0_0 : Int) (x0_1 : List I3) : Option (Int × List I3) :=
  if ([] : List I3).length + x0_1.length ≤ 17179869184 then
    some (x0_0, ([] : List I3) ++ x0_1)
  else none

set_option maxRecDepth 100000 in
set_option maxHeartbeats 4000000 in
theorem w_impl_copyMem (fuel : Nat) {x0_0 : Int} {x0_1 : List I3} {a_x0_1 : Option Addr} {n_x0_1 c_x0_1 : Nat} {r0_0 : Int} {r0_1 : List I3} {w0 : World} (h : m_impl_copyMem fuel x0_0 x0_1 = some (r0_0, r0_1)) (hr_x0_1 : RdT (fun b => ¬ False) w0 (rowT x0_1) (.slice a_x0_1 n_x0_1 c_x0_1)) :
    Calls Try.prog 59 #[.agg #[.int .i64 x0_0, .slice a_x0_1 n_x0_1 c_x0_1]] w0 fun e w => ∃ a_r0_1 n_r0_1 c_r0_1, e = .returned (.agg #[.int .i64 r0_0, .slice a_r0_1 n_r0_1 c_r0_1]) ∧ St w0 (fun _ => False) w [Own 61 (rowT r0_1) (.slice a_r0_1 n_r0_1 c_r0_1)] := by
  obtain rfl := hr_x0_1.neq
  have HT : St w0 (fun _ => False) w0 [] := St.init0
  rw [m_impl_copyMem] at h
  refine calls_fr (n := 9) [.agg #[.int .i64 x0_0, .slice a_x0_1 x0_1.length c_x0_1]] Try.func59 rfl rfl rfl (fun a HF => ?_)
  have HT : St w0 (fun _ => False) w0 [] := HT
  refine wp_seq ?_
  refine wc_text ?_
  refine wc_box (cs := [.int .i64 x0_0, .slice a_x0_1 x0_1.length c_x0_1]) HF HT rfl rfl rfl rfl (fun p1 w HT hb => ⟨nS, fun a HF => ?_⟩)
  refine wc_alloc (cs := [.int .i64 0, .slice none 0 0]) HF HT zr29 rfl rfl rfl (fun p2 w HT hb => ⟨nS, fun a HF => ?_⟩)
  refine wc_end ?_
  refine then_n ?_
  refine wp_seq ?_
  refine wp_region_can [(0, false), (1, false), (2, true), (3, true), (4, false), (5, true), (6, true)] (fun w' => w'.cell? ⟨p1, 0, none⟩ = some (.int .i64 x0_0) ∧ True) (by kernel_rfl) (by kernel_rfl) ?_
  have HT : St w0 (fun _ => False) w.drew [Box p2 [.int .i64 0, .slice none 0 0], Box p1 [.int .i64 x0_0, .slice a_x0_1 x0_1.length c_x0_1]] := HT.drew
  refine wc_faddr HF (fun _ => ⟨(HT.boxAt 1 rfl).get 0 rfl, trivial⟩) rfl fl29_0 rfl rfl (fun a HF => ?_)
  refine wc_loadS HF ⟨(HT.boxAt 1 rfl).get 0 rfl, trivial⟩ rfl sc3 (fun w hS => hS.1) rfl rfl (fun a HF => ?_)
  refine wc_faddr HF nS rfl fl29_1 rfl rfl (fun a HF => ?_)
  refine wc_load HF rfl sc27 ((HT.boxAt 1 rfl).get 1 rfl) rfl rfl (fun a HF => ?_)
  have HT : St w0 (fun _ => False) w.drew [Own 61 (rowT ([] : List I3)) (.slice none 0 0), Box p2 [.int .i64 0, .slice none 0 0], Box p1 [.int .i64 x0_0, .slice a_x0_1 x0_1.length c_x0_1]] := HT.nilrow 61
  obtain ⟨hg1, h⟩ := grd h
  refine wc_appendR HF HT (HT.ro hr_x0_1).any el27 rfl rfl hg1 rfl rfl rfl (fun a1 c1 w HT => ⟨(fun _ => ⟨(HT.boxAt 2 rfl).get 0 rfl, trivial⟩), fun a HF => ?_⟩)
  refine wc_build (cs := #[.int .i64 x0_0, .slice a1 ((([] : List I3) ++ x0_1).length) c1]) HF nS bd29 rfl rfl rfl rfl (fun a HF => ?_)
  have HT : St w0 (fun _ => False) w [Box p2 [.int .i64 0, .slice none 0 0], Own 61 (rowT (([] : List I3) ++ x0_1)) (.slice a1 ((([] : List I3) ++ x0_1).length) c1), Box p1 [.int .i64 x0_0, .slice a_x0_1 x0_1.length c_x0_1]] := HT.pick 1
  refine wc_storeB (cs' := [.int .i64 x0_0, .slice a1 ((([] : List I3) ++ x0_1).length) c1]) HF HT rfl rfl (fun w => (ag29 w).2) rfl rfl rfl rfl rfl (fun w HT => ⟨nS, ?_⟩)
  refine wc_endN ?_
  refine then_n ?_
  refine wp_ret ?_
  have hj1 := Option.some.inj h
  obtain ⟨hi1, hj2⟩ := Prod.mk.inj hj1
  subst hi1
  subst hj2
  refine bp_ret HF (res_cell (vs := [.int .i64 x0_0, .slice a1 ((([] : List I3) ++ x0_1).length) c1]) rfl HF rfl ag29 rfl (HT.boxAt 0 rfl)) ?_
  have HT : St w0 (fun _ => False) w [Own 61 (rowT (([] : List I3) ++ x0_1)) (.slice a1 ((([] : List I3) ++ x0_1).length) c1), Box p2 [.int .i64 x0_0, .slice a1 ((([] : List I3) ++ x0_1).length) c1], Box p1 [.int .i64 x0_0, .slice a_x0_1 x0_1.length c_x0_1]] := HT.pick 1
  have HT : St w0 (fun _ => False) w [Own 61 (rowT (([] : List I3) ++ x0_1)) (.slice a1 ((([] : List I3) ++ x0_1).length) c1)] := HT.take 1
  exact ⟨a1, (([] : List I3) ++ x0_1).length, c1, rfl, HT⟩

def m_impl_isOwner (fuel : Nat) (x0 : Int) : Option Bool :=
  (m_impl_within fuel x0 1 99).bind fun y1 =>
  some y1

set_option maxRecDepth 100000 in
set_option maxHeartbeats 4000000 in
theorem w_impl_isOwner (fuel : Nat) {x0 : Int} {r0 : Bool} {w0 : World} (h : m_impl_isOwner fuel x0 = some r0) :
    Calls Try.prog 60 #[.int .i64 x0] w0 fun e w => e = .returned (.bool r0) ∧ St w0 (fun _ => False) w [] := by
  have HT : St w0 (fun _ => False) w0 [] := St.init0
  rw [m_impl_isOwner] at h
  refine calls_fr (n := 5) [.int .i64 x0] Try.func60 rfl rfl rfl (fun a HF => ?_)
  have HT : St w0 (fun _ => False) w0 [] := HT
  refine wp_seq ?_
  refine wc_text ?_
  refine wc_assign HF nS rfl rfl rfl (fun a HF => ?_)
  refine wc_end ?_
  refine then_n ?_
  refine wp_seq ?_
  refine wc_text ?_
  refine wc_move HF nS rfl rfl rfl (fun a HF => ?_)
  obtain ⟨y1, hx1, h⟩ := obs h
  refine wc_call HF cf50 rfl (w_impl_within fuel hx1) rfl rfl ?_
  rintro e w ⟨rfl, hE⟩
  have hb := hE.below
  have HT := HT.pure hE
  have HT : St w0 (fun _ => False) w [] := HT
  refine ⟨_, rfl, nS, fun a HF => ?_⟩
  refine wc_assign HF nS rfl rfl rfl (fun a HF => ?_)
  refine wc_end ?_
  refine then_n ?_
  refine wp_ret ?_
  obtain rfl := Option.some.inj h
  refine bp_ret HF (res_one rfl HF rfl) ?_
  exact ⟨rfl, HT⟩

def m_impl_Lock (fuel : Nat) (x0_0 : Int) (x0_1 : List I3) (x1 : Int) (x2 : Int) : Option (Int × List I3 × Bool) :=
  bind2 (m_impl_copyMem fuel x0_0 x0_1) fun y1 y2 =>
  (m_impl_MemOk fuel x0_0 x0_1).bind fun y3 =>
  if y3 = true then
    (m_impl_isCell fuel x1).bind fun y4 =>
    if y4 = true then
      (m_impl_isOwner fuel x2).bind fun y5 =>
      if y5 = true then
        (at? x0_1 x1).bind fun e1 =>
        if e1.c = 0 then
          (at? y2 x1).bind fun e2 =>
          some (y1, y2.set x1.toNat (⟨e2.a, e2.b, x2⟩ : I3), true)
        else
          some (y1, y2, false)
      else
        some (y1, y2, false)
    else
      some (y1, y2, false)
  else
    some (y1, y2, false)

set_option maxRecDepth 100000 in
set_option maxHeartbeats 4000000 in
theorem w_impl_Lock (fuel : Nat) {x0_0 : Int} {x0_1 : List I3} {x1 : Int} {x2 : Int} {a_x0_1 : Option Addr} {n_x0_1 c_x0_1 : Nat} {r0_0 : Int} {r0_1 : List I3} {r1 : Bool} {w0 : World} (h : m_impl_Lock fuel x0_0 x0_1 x1 x2 = some (r0_0, r0_1, r1)) (hr_x0_1 : RdT (fun b => ¬ False) w0 (rowT x0_1) (.slice a_x0_1 n_x0_1 c_x0_1)) :
    Calls Try.prog 35 #[.agg #[.int .i64 x0_0, .slice a_x0_1 n_x0_1 c_x0_1], .int .i64 x1, .int .i64 x2] w0 fun e w => ∃ a_r0_1 n_r0_1 c_r0_1, e = .returned (.tuple #[.agg #[.int .i64 r0_0, .slice a_r0_1 n_r0_1 c_r0_1], .bool r1]) ∧ St w0 (fun _ => False) w [Own 61 (rowT r0_1) (.slice a_r0_1 n_r0_1 c_r0_1)] := by
  obtain rfl := hr_x0_1.neq
  have HT : St w0 (fun _ => False) w0 [] := St.init0
  rw [m_impl_Lock] at h
  refine calls_fr (n := 41) [.agg #[.int .i64 x0_0, .slice a_x0_1 x0_1.length c_x0_1], .int .i64 x1, .int .i64 x2] Try.func35 rfl rfl rfl (fun a HF => ?_)
  have HT : St w0 (fun _ => False) w0 [] := HT
  refine wp_seq ?_
  refine wc_text ?_
  refine wc_box (cs := [.int .i64 x0_0, .slice a_x0_1 x0_1.length c_x0_1]) HF HT rfl rfl rfl rfl (fun p1 w HT hb => ⟨nS, fun a HF => ?_⟩)
  refine wc_alloc (cs := [.int .i64 0, .slice none 0 0]) HF HT zr29 rfl rfl rfl (fun p2 w HT hb => ⟨nS, fun a HF => ?_⟩)
  refine wc_assign HF nS rfl rfl rfl (fun a HF => ?_)
  refine wc_end ?_
  refine then_n ?_
  refine wp_seq ?_
  refine wc_text ?_
  refine wc_loadA (vs := [.int .i64 x0_0, .slice a_x0_1 x0_1.length c_x0_1]) HF rfl ag29 rfl ((HT.boxAt 1 rfl).part 0 2) rfl rfl (fun a HF => ?_)
  obtain ⟨y1, y2, hx1, h⟩ := obs2 h
  refine wc_call HF cf59 rfl (w_impl_copyMem fuel hx1 (HT.ro hr_x0_1).any) rfl rfl ?_
  rintro e w ⟨a1, n1, c1, rfl, hE⟩
  have hb := hE.below
  have HT := HT.pure hE
  obtain rfl := (HT.rdAt 0 rfl).neq
  have HT : St w0 (fun _ => False) w [Own 61 (rowT y2) (.slice a1 y2.length c1), Box p2 [.int .i64 0, .slice none 0 0], Box p1 [.int .i64 x0_0, .slice a_x0_1 x0_1.length c_x0_1]] := HT
  refine ⟨_, rfl, nS, fun a HF => ?_⟩
  refine wc_alloc (cs := [.int .i64 0, .slice none 0 0]) HF HT zr29 rfl rfl rfl (fun p3 w HT hb => ⟨nS, fun a HF => ?_⟩)
  refine wc_storeB (cs' := [.int .i64 y1, .slice a1 y2.length c1]) HF HT rfl rfl (fun w => (ag29 w).2) rfl rfl rfl rfl rfl (fun w HT => ⟨nS, ?_⟩)
  refine wc_end ?_
  refine then_n ?_
  refine wp_seq ?_
  refine wp_seq ?_
  refine wc_text ?_
  refine wc_loadA (vs := [.int .i64 x0_0, .slice a_x0_1 x0_1.length c_x0_1]) HF rfl ag29 rfl ((HT.boxAt 3 rfl).part 0 2) rfl rfl (fun a HF => ?_)
  obtain ⟨y3, hx2, h⟩ := obs h
  refine wc_call HF cf16 rfl (w_impl_MemOk fuel hx2 (HT.ro hr_x0_1).any) rfl rfl ?_
  rintro e w ⟨rfl, hE⟩
  have hb := hE.below
  have HT := HT.pure hE
  have HT : St w0 (fun _ => False) w [Box p3 [.int .i64 y1, .slice a1 y2.length c1], Own 61 (rowT y2) (.slice a1 y2.length c1), Box p2 [.int .i64 0, .slice none 0 0], Box p1 [.int .i64 x0_0, .slice a_x0_1 x0_1.length c_x0_1]] := HT
  refine ⟨_, rfl, nS, fun a HF => ?_⟩
  refine wc_not HF nS rfl rfl rfl (fun a HF => ?_)
  refine wc_move HF nS rfl rfl rfl (fun a HF => ?_)
  by_cases hb1 : y3 = true
  · have h := (if_pos hb1).symm.trans h
    refine wc_move HF nS rfl (HF.wy rfl rfl rfl rfl (notT hb1)) rfl (fun a HF => ?_)
    obtain ⟨y4, hx3, h⟩ := obs h
    refine wc_call HF cf53 rfl (w_impl_isCell fuel hx3) (HF.wy rfl rfl rfl rfl (notT hb1)) rfl ?_
    rintro e w ⟨rfl, hE⟩
    have hb := hE.below
    have HT := HT.pure hE
    have HT : St w0 (fun _ => False) w [Box p3 [.int .i64 y1, .slice a1 y2.length c1], Own 61 (rowT y2) (.slice a1 y2.length c1), Box p2 [.int .i64 0, .slice none 0 0], Box p1 [.int .i64 x0_0, .slice a_x0_1 x0_1.length c_x0_1]] := HT
    refine ⟨_, rfl, nS, fun a HF => ?_⟩
    refine wc_not HF nS rfl (HF.wy rfl rfl rfl rfl (notT hb1)) rfl (fun a HF => ?_)
    refine wc_pick (b := false) HF nS rfl (notT hb1) rfl rfl rfl (fun a HF => ?_)
    refine wc_move HF nS rfl rfl rfl (fun a HF => ?_)
    by_cases hb2 : y4 = true
    · have h := (if_pos hb2).symm.trans h
      refine wc_move HF nS rfl (HF.wy rfl rfl rfl rfl (notT hb2)) rfl (fun a HF => ?_)
      obtain ⟨y5, hx4, h⟩ := obs h
      refine wc_call HF cf60 rfl (w_impl_isOwner fuel hx4) (HF.wy rfl rfl rfl rfl (notT hb2)) rfl ?_
      rintro e w ⟨rfl, hE⟩
      have hb := hE.below
      have HT := HT.pure hE
      have HT : St w0 (fun _ => False) w [Box p3 [.int .i64 y1, .slice a1 y2.length c1], Own 61 (rowT y2) (.slice a1 y2.length c1), Box p2 [.int .i64 0, .slice none 0 0], Box p1 [.int .i64 x0_0, .slice a_x0_1 x0_1.length c_x0_1]] := HT
      refine ⟨_, rfl, nS, fun a HF => ?_⟩
      refine wc_not HF nS rfl (HF.wy rfl rfl rfl rfl (notT hb2)) rfl (fun a HF => ?_)
      refine wc_pick (b := false) HF nS rfl (notT hb2) rfl rfl rfl (fun a HF => ?_)
      refine wc_move HF nS rfl rfl rfl (fun a HF => ?_)
      by_cases hb3 : y5 = true
      · have h := (if_pos hb3).symm.trans h
        refine wc_faddr HF nS rfl fl29_1 (HF.wy rfl rfl rfl rfl (notT hb3)) rfl (fun a HF => ?_)
        refine wc_load HF rfl sc27 ((HT.boxAt 3 rfl).get 1 rfl) (HF.wy rfl rfl rfl rfl (notT hb3)) rfl (fun a HF => ?_)
        refine wc_move HF nS rfl (HF.wy rfl rfl rfl rfl (notT hb3)) rfl (fun a HF => ?_)
        obtain ⟨e1, hx5, h⟩ := obs h
        obtain ⟨b1, o1, ha1⟩ := (HT.ro hr_x0_1).any.addr hx5
        refine wc_ixaddr HF nS el27 rfl ha1 ((HT.ro hr_x0_1).any).neq rfl hx5 (HF.wy rfl rfl rfl rfl (notT hb3)) rfl (fun a HF => ?_)
        refine wc_faddr HF nS rfl fl61_2 (HF.wy rfl rfl rfl rfl (notT hb3)) rfl (fun a HF => ?_)
        have hc1 := (HT.ro hr_x0_1).any.flatAt ha1 hx5
        refine wc_load HF rfl sc3 (hc1.get 2 rfl) (HF.wy rfl rfl rfl rfl (notT hb3)) rfl (fun a HF => ?_)
        refine wc_bin HF nS rfl rfl b_ne (HF.wy rfl rfl rfl rfl (notT hb3)) rfl (fun a HF => ?_)
        refine wc_pick (b := false) HF nS rfl (notT hb3) rfl rfl rfl (fun a HF => ?_)
        refine wc_end ?_
        refine then_n ?_
        by_cases hb4 : e1.c = 0
        · have h := (if_pos hb4).symm.trans h
          refine wp_if (b' := false) HF rfl (notT (decide_eq_true hb4)) ?_
          refine wp_skip ?_
          refine then_n ?_
          refine wp_seq ?_
          refine wc_text ?_
          refine wc_faddr HF nS rfl fl29_1 rfl rfl (fun a HF => ?_)
          refine wc_load HF rfl sc27 ((HT.boxAt 0 rfl).get 1 rfl) rfl rfl (fun a HF => ?_)
          refine wc_move HF nS rfl rfl rfl (fun a HF => ?_)
          refine wc_move HF nS rfl rfl rfl (fun a HF => ?_)
          obtain ⟨e2, hx6, h⟩ := obs h
          obtain ⟨b2, o2, ha2⟩ := (HT.rdAt 1 rfl).addr hx6
          refine wc_ixaddr HF nS el27 rfl ha2 ((HT.rdAt 1 rfl)).neq rfl hx6 rfl rfl (fun a HF => ?_)
          refine wc_faddr HF nS rfl fl61_2 rfl rfl (fun a HF => ?_)
          have HT : St w0 (fun _ => False) w [Own 61 (rowT y2) (.slice a1 y2.length c1), Box p3 [.int .i64 y1, .slice a1 y2.length c1], Box p2 [.int .i64 0, .slice none 0 0], Box p1 [.int .i64 x0_0, .slice a_x0_1 x0_1.length c_x0_1]] := HT.pick 1
          refine wc_storeR (i := x1) (j := 2) (x' := (⟨e2.a, e2.b, x2⟩ : I3)) HF HT ha2 rfl rfl (fun w => (sc3 w).2) rfl rfl hx6 rfl rfl rfl rfl (fun w HT => ⟨nS, ?_⟩)
          refine wc_end ?_
          refine then_n ?_
          refine wp_seq ?_
          refine wc_text ?_
          refine wc_loadA (vs := [.int .i64 y1, .slice a1 y2.length c1]) HF rfl ag29 rfl ((HT.boxAt 1 rfl).part 0 2) rfl rfl (fun a HF => ?_)
          have HT : St w0 (fun _ => False) w [Box p2 [.int .i64 0, .slice none 0 0], Own 61 (rowT (y2.set x1.toNat (⟨e2.a, e2.b, x2⟩ : I3))) (.slice a1 y2.length c1), Box p3 [.int .i64 y1, .slice a1 y2.length c1], Box p1 [.int .i64 x0_0, .slice a_x0_1 x0_1.length c_x0_1]] := HT.pick 2
          refine wc_storeB (cs' := [.int .i64 y1, .slice a1 y2.length c1]) HF HT rfl rfl (fun w => (ag29 w).2) rfl rfl rfl rfl rfl (fun w HT => ⟨nS, ?_⟩)
          refine wc_assign HF nS rfl rfl rfl (fun a HF => ?_)
          refine wc_end ?_
          refine then_n ?_
          refine wp_ret ?_
          have hj1 := Option.some.inj h
          obtain ⟨hi1, hj2⟩ := Prod.mk.inj hj1
          subst hi1
          obtain ⟨hi2, hj3⟩ := Prod.mk.inj hj2
          subst hi2
          subst hj3
          refine bp_ret HF (res_cell_tmp (vs := [.int .i64 y1, .slice a1 y2.length c1]) rfl HF rfl ag29 rfl (HT.boxAt 0 rfl) rfl) ?_
          have HT : St w0 (fun _ => False) w [Own 61 (rowT (y2.set x1.toNat (⟨e2.a, e2.b, x2⟩ : I3))) (.slice a1 y2.length c1), Box p2 [.int .i64 y1, .slice a1 y2.length c1], Box p3 [.int .i64 y1, .slice a1 y2.length c1], Box p1 [.int .i64 x0_0, .slice a_x0_1 x0_1.length c_x0_1]] := HT.pick 1
          have HT : St w0 (fun _ => False) w [Own 61 (rowT (y2.set x1.toNat (⟨e2.a, e2.b, x2⟩ : I3))) (.slice a1 y2.length c1)] := HT.take 1
          exact ⟨a1, y2.length, c1, rfl, HT⟩
        · have h := (if_neg hb4).symm.trans h
          refine wp_if (b' := true) HF rfl (notF (decide_eq_false hb4)) ?_
          refine wp_seq ?_
          refine wc_text ?_
          refine wc_loadA (vs := [.int .i64 y1, .slice a1 y2.length c1]) HF rfl ag29 rfl ((HT.boxAt 0 rfl).part 0 2) rfl rfl (fun a HF => ?_)
          have HT : St w0 (fun _ => False) w [Box p2 [.int .i64 0, .slice none 0 0], Box p3 [.int .i64 y1, .slice a1 y2.length c1], Own 61 (rowT y2) (.slice a1 y2.length c1), Box p1 [.int .i64 x0_0, .slice a_x0_1 x0_1.length c_x0_1]] := HT.pick 2
          refine wc_storeB (cs' := [.int .i64 y1, .slice a1 y2.length c1]) HF HT rfl rfl (fun w => (ag29 w).2) rfl rfl rfl rfl rfl (fun w HT => ⟨nS, ?_⟩)
          refine wc_assign HF nS rfl rfl rfl (fun a HF => ?_)
          refine wc_end ?_
          refine then_n ?_
          refine wp_ret ?_
          have hj4 := Option.some.inj h
          obtain ⟨hi4, hj5⟩ := Prod.mk.inj hj4
          subst hi4
          obtain ⟨hi5, hj6⟩ := Prod.mk.inj hj5
          subst hi5
          subst hj6
          refine then_r (?_)
          refine bp_ret HF (res_cell_tmp (vs := [.int .i64 y1, .slice a1 y2.length c1]) rfl HF rfl ag29 rfl (HT.boxAt 0 rfl) rfl) ?_
          have HT : St w0 (fun _ => False) w [Own 61 (rowT y2) (.slice a1 y2.length c1), Box p2 [.int .i64 y1, .slice a1 y2.length c1], Box p3 [.int .i64 y1, .slice a1 y2.length c1], Box p1 [.int .i64 x0_0, .slice a_x0_1 x0_1.length c_x0_1]] := HT.pick 2
          have HT : St w0 (fun _ => False) w [Own 61 (rowT y2) (.slice a1 y2.length c1)] := HT.take 1
          exact ⟨a1, y2.length, c1, rfl, HT⟩
      · have h := (if_neg hb3).symm.trans h
        refine wc_skip HF nS (HF.wn rfl rfl rfl rfl (notF (Bool.eq_false_iff.2 hb3))) rfl (fun a HF => ?_)
        refine wc_skip HF nS (HF.wn rfl rfl rfl rfl (notF (Bool.eq_false_iff.2 hb3))) rfl (fun a HF => ?_)
        refine wc_skip HF nS (HF.wn rfl rfl rfl rfl (notF (Bool.eq_false_iff.2 hb3))) rfl (fun a HF => ?_)
        refine wc_skip HF nS (HF.wn rfl rfl rfl rfl (notF (Bool.eq_false_iff.2 hb3))) rfl (fun a HF => ?_)
        refine wc_skip HF nS (HF.wn rfl rfl rfl rfl (notF (Bool.eq_false_iff.2 hb3))) rfl (fun a HF => ?_)
        refine wc_skip HF nS (HF.wn rfl rfl rfl rfl (notF (Bool.eq_false_iff.2 hb3))) rfl (fun a HF => ?_)
        refine wc_skip HF nS (HF.wn rfl rfl rfl rfl (notF (Bool.eq_false_iff.2 hb3))) rfl (fun a HF => ?_)
        refine wc_pick (b := true) HF nS rfl (notF (Bool.eq_false_iff.2 hb3)) rfl rfl rfl (fun a HF => ?_)
        refine wc_end ?_
        refine then_n ?_
        refine wp_if (b' := true) HF rfl rfl ?_
        refine wp_seq ?_
        refine wc_text ?_
        refine wc_loadA (vs := [.int .i64 y1, .slice a1 y2.length c1]) HF rfl ag29 rfl ((HT.boxAt 0 rfl).part 0 2) rfl rfl (fun a HF => ?_)
        have HT : St w0 (fun _ => False) w [Box p2 [.int .i64 0, .slice none 0 0], Box p3 [.int .i64 y1, .slice a1 y2.length c1], Own 61 (rowT y2) (.slice a1 y2.length c1), Box p1 [.int .i64 x0_0, .slice a_x0_1 x0_1.length c_x0_1]] := HT.pick 2
        refine wc_storeB (cs' := [.int .i64 y1, .slice a1 y2.length c1]) HF HT rfl rfl (fun w => (ag29 w).2) rfl rfl rfl rfl rfl (fun w HT => ⟨nS, ?_⟩)
        refine wc_assign HF nS rfl rfl rfl (fun a HF => ?_)
        refine wc_end ?_
        refine then_n ?_
        refine wp_ret ?_
        have hj7 := Option.some.inj h
        obtain ⟨hi7, hj8⟩ := Prod.mk.inj hj7
        subst hi7
        obtain ⟨hi8, hj9⟩ := Prod.mk.inj hj8
        subst hi8
        subst hj9
        refine then_r (?_)
        refine bp_ret HF (res_cell_tmp (vs := [.int .i64 y1, .slice a1 y2.length c1]) rfl HF rfl ag29 rfl (HT.boxAt 0 rfl) rfl) ?_
        have HT : St w0 (fun _ => False) w [Own 61 (rowT y2) (.slice a1 y2.length c1), Box p2 [.int .i64 y1, .slice a1 y2.length c1], Box p3 [.int .i64 y1, .slice a1 y2.length c1], Box p1 [.int .i64 x0_0, .slice a_x0_1 x0_1.length c_x0_1]] := HT.pick 2
        have HT : St w0 (fun _ => False) w [Own 61 (rowT y2) (.slice a1 y2.length c1)] := HT.take 1
        exact ⟨a1, y2.length, c1, rfl, HT⟩
    · have h := (if_neg hb2).symm.trans h
      refine wc_skip HF nS (HF.wn rfl rfl rfl rfl (notF (Bool.eq_false_iff.2 hb2))) rfl (fun a HF => ?_)
      refine wc_skip HF nS (HF.wn rfl rfl rfl rfl (notF (Bool.eq_false_iff.2 hb2))) rfl (fun a HF => ?_)
      refine wc_skip HF nS (HF.wn rfl rfl rfl rfl (notF (Bool.eq_false_iff.2 hb2))) rfl (fun a HF => ?_)
      refine wc_pick (b := true) HF nS rfl (notF (Bool.eq_false_iff.2 hb2)) rfl rfl rfl (fun a HF => ?_)
      refine wc_move HF nS rfl rfl rfl (fun a HF => ?_)
      refine wc_skip HF nS (HF.wn rfl rfl rfl rfl rfl) rfl (fun a HF => ?_)
      refine wc_skip HF nS (HF.wn rfl rfl rfl rfl rfl) rfl (fun a HF => ?_)
      refine wc_skip HF nS (HF.wn rfl rfl rfl rfl rfl) rfl (fun a HF => ?_)
      refine wc_skip HF nS (HF.wn rfl rfl rfl rfl rfl) rfl (fun a HF => ?_)
      refine wc_skip HF nS (HF.wn rfl rfl rfl rfl rfl) rfl (fun a HF => ?_)
      refine wc_skip HF nS (HF.wn rfl rfl rfl rfl rfl) rfl (fun a HF => ?_)
      refine wc_skip HF nS (HF.wn rfl rfl rfl rfl rfl) rfl (fun a HF => ?_)
      refine wc_pick (b := true) HF nS rfl rfl rfl rfl rfl (fun a HF => ?_)
      refine wc_end ?_
      refine then_n ?_
      refine wp_if (b' := true) HF rfl rfl ?_
      refine wp_seq ?_
      refine wc_text ?_
      refine wc_loadA (vs := [.int .i64 y1, .slice a1 y2.length c1]) HF rfl ag29 rfl ((HT.boxAt 0 rfl).part 0 2) rfl rfl (fun a HF => ?_)
      have HT : St w0 (fun _ => False) w [Box p2 [.int .i64 0, .slice none 0 0], Box p3 [.int .i64 y1, .slice a1 y2.length c1], Own 61 (rowT y2) (.slice a1 y2.length c1), Box p1 [.int .i64 x0_0, .slice a_x0_1 x0_1.length c_x0_1]] := HT.pick 2
      refine wc_storeB (cs' := [.int .i64 y1, .slice a1 y2.length c1]) HF HT rfl rfl (fun w => (ag29 w).2) rfl rfl rfl rfl rfl (fun w HT => ⟨nS, ?_⟩)
      refine wc_assign HF nS rfl rfl rfl (fun a HF => ?_)
      refine wc_end ?_
      refine then_n ?_
      refine wp_ret ?_
      have hj10 := Option.some.inj h
      obtain ⟨hi10, hj11⟩ := Prod.mk.inj hj10
      subst hi10
      obtain ⟨hi11, hj12⟩ := Prod.mk.inj hj11
      subst hi11
      subst hj12
      refine then_r (?_)
      refine bp_ret HF (res_cell_tmp (vs := [.int .i64 y1, .slice a1 y2.length c1]) rfl HF rfl ag29 rfl (HT.boxAt 0 rfl) rfl) ?_
      have HT : St w0 (fun _ => False) w [Own 61 (rowT y2) (.slice a1 y2.length c1), Box p2 [.int .i64 y1, .slice a1 y2.length c1], Box p3 [.int .i64 y1, .slice a1 y2.length c1], Box p1 [.int .i64 x0_0, .slice a_x0_1 x0_1.length c_x0_1]] := HT.pick 2
      have HT : St w0 (fun _ => False) w [Own 61 (rowT y2) (.slice a1 y2.length c1)] := HT.take 1
      exact ⟨a1, y2.length, c1, rfl, HT⟩
  · have h := (if_neg hb1).symm.trans h
    refine wc_skip HF nS (HF.wn rfl rfl rfl rfl (notF (Bool.eq_false_iff.2 hb1))) rfl (fun a HF => ?_)
    refine wc_skip HF nS (HF.wn rfl rfl rfl rfl (notF (Bool.eq_false_iff.2 hb1))) rfl (fun a HF => ?_)
    refine wc_skip HF nS (HF.wn rfl rfl rfl rfl (notF (Bool.eq_false_iff.2 hb1))) rfl (fun a HF => ?_)
    refine wc_pick (b := true) HF nS rfl (notF (Bool.eq_false_iff.2 hb1)) rfl rfl rfl (fun a HF => ?_)
    refine wc_move HF nS rfl rfl rfl (fun a HF => ?_)
    refine wc_skip HF nS (HF.wn rfl rfl rfl rfl rfl) rfl (fun a HF => ?_)
    refine wc_skip HF nS (HF.wn rfl rfl rfl rfl rfl) rfl (fun a HF => ?_)
    refine wc_skip HF nS (HF.wn rfl rfl rfl rfl rfl) rfl (fun a HF => ?_)
    refine wc_pick (b := true) HF nS rfl rfl rfl rfl rfl (fun a HF => ?_)
    refine wc_move HF nS rfl rfl rfl (fun a HF => ?_)
    refine wc_skip HF nS (HF.wn rfl rfl rfl rfl rfl) rfl (fun a HF => ?_)
    refine wc_skip HF nS (HF.wn rfl rfl rfl rfl rfl) rfl (fun a HF => ?_)
    refine wc_skip HF nS (HF.wn rfl rfl rfl rfl rfl) rfl (fun a HF => ?_)
    refine wc_skip HF nS (HF.wn rfl rfl rfl rfl rfl) rfl (fun a HF => ?_)
    refine wc_skip HF nS (HF.wn rfl rfl rfl rfl rfl) rfl (fun a HF => ?_)
    refine wc_skip HF nS (HF.wn rfl rfl rfl rfl rfl) rfl (fun a HF => ?_)
    refine wc_skip HF nS (HF.wn rfl rfl rfl rfl rfl) rfl (fun a HF => ?_)
    refine wc_pick (b := true) HF nS rfl rfl rfl rfl rfl (fun a HF => ?_)
    refine wc_end ?_
    refine then_n ?_
    refine wp_if (b' := true) HF rfl rfl ?_
    refine wp_seq ?_
    refine wc_text ?_
    refine wc_loadA (vs := [.int .i64 y1, .slice a1 y2.length c1]) HF rfl ag29 rfl ((HT.boxAt 0 rfl).part 0 2) rfl rfl (fun a HF => ?_)
    have HT : St w0 (fun _ => False) w [Box p2 [.int .i64 0, .slice none 0 0], Box p3 [.int .i64 y1, .slice a1 y2.length c1], Own 61 (rowT y2) (.slice a1 y2.length c1), Box p1 [.int .i64 x0_0, .slice a_x0_1 x0_1.length c_x0_1]] := HT.pick 2
    refine wc_storeB (cs' := [.int .i64 y1, .slice a1 y2.length c1]) HF HT rfl rfl (fun w => (ag29 w).2) rfl rfl rfl rfl rfl (fun w HT => ⟨nS, ?_⟩)
    refine wc_assign HF nS rfl rfl rfl (fun a HF => ?_)
    refine wc_end ?_
    refine then_n ?_
    refine wp_ret ?_
    have hj13 := Option.some.inj h
    obtain ⟨hi13, hj14⟩ := Prod.mk.inj hj13
    subst hi13
    obtain ⟨hi14, hj15⟩ := Prod.mk.inj hj14
    subst hi14
    subst hj15
    refine then_r (?_)
    refine bp_ret HF (res_cell_tmp (vs := [.int .i64 y1, .slice a1 y2.length c1]) rfl HF rfl ag29 rfl (HT.boxAt 0 rfl) rfl) ?_
    have HT : St w0 (fun _ => False) w [Own 61 (rowT y2) (.slice a1 y2.length c1), Box p2 [.int .i64 y1, .slice a1 y2.length c1], Box p3 [.int .i64 y1, .slice a1 y2.length c1], Box p1 [.int .i64 x0_0, .slice a_x0_1 x0_1.length c_x0_1]] := HT.pick 2
    have HT : St w0 (fun _ => False) w [Own 61 (rowT y2) (.slice a1 y2.length c1)] := HT.take 1
    exact ⟨a1, y2.length, c1, rfl, HT⟩

def m_impl_Store (fuel : Nat) (x0_0 : Int) (x0_1 : List I3) (x1 : Int) (x2 : Int) (x3 : Int) : Option (Int × List I3 × Bool) :=
  bind2 (m_impl_copyMem fuel x0_0 x0_1) fun y1 y2 =>
  (m_impl_MemOk fuel x0_0 x0_1).bind fun y3 =>
  if y3 = true then
    (m_impl_isCell fuel x1).bind fun y4 =>
    if y4 = true then
      (m_impl_isOwner fuel x2).bind fun y5 =>
      if y5 = true then
        (at? x0_1 x1).bind fun e1 =>
        if e1.c = x2 then
          (m_impl_isValue fuel x3).bind fun y6 =>
          if y6 = true then
            (at? y2 x1).bind fun e2 =>
            some (y1, y2.set x1.toNat (⟨x3, e2.b, e2.c⟩ : I3), true)
          else
            some (y1, y2, false)
        else
          some (y1, y2, false)
      else
        some (y1, y2, false)
    else
      some (y1, y2, false)
  else
    some (y1, y2, false)

set_option maxRecDepth 100000 in
set_option maxHeartbeats 4000000 in
theorem w_impl_Store (fuel : Nat) {x0_0 : Int} {x0_1 : List I3} {x1 : Int} {x2 : Int} {x3 : Int} {a_x0_1 : Option Addr} {n_x0_1 c_x0_1 : Nat} {r0_0 : Int} {r0_1 : List I3} {r1 : Bool} {w0 : World} (h : m_impl_Store fuel x0_0 x0_1 x1 x2 x3 = some (r0_0, r0_1, r1)) (hr_x0_1 : RdT (fun b => ¬ False) w0 (rowT x0_1) (.slice a_x0_1 n_x0_1 c_x0_1)) :
    Calls Try.prog 37 #[.agg #[.int .i64 x0_0, .slice a_x0_1 n_x0_1 c_x0_1], .int .i64 x1, .int .i64 x2, .int .i64 x3] w0 fun e w => ∃ a_r0_1 n_r0_1 c_r0_1, e = .returned (.tuple #[.agg #[.int .i64 r0_0, .slice a_r0_1 n_r0_1 c_r0_1], .bool r1]) ∧ St w0 (fun _ => False) w [Own 61 (rowT r0_1) (.slice a_r0_1 n_r0_1 c_r0_1)] := by
  obtain rfl := hr_x0_1.neq
  have HT : St w0 (fun _ => False) w0 [] := St.init0
  rw [m_impl_Store] at h
  refine calls_fr (n := 49) [.agg #[.int .i64 x0_0, .slice a_x0_1 x0_1.length c_x0_1], .int .i64 x1, .int .i64 x2, .int .i64 x3] Try.func37 rfl rfl rfl (fun a HF => ?_)
  have HT : St w0 (fun _ => False) w0 [] := HT
  refine wp_seq ?_
  refine wc_text ?_
  refine wc_box (cs := [.int .i64 x0_0, .slice a_x0_1 x0_1.length c_x0_1]) HF HT rfl rfl rfl rfl (fun p1 w HT hb => ⟨nS, fun a HF => ?_⟩)
  refine wc_alloc (cs := [.int .i64 0, .slice none 0 0]) HF HT zr29 rfl rfl rfl (fun p2 w HT hb => ⟨nS, fun a HF => ?_⟩)
  refine wc_assign HF nS rfl rfl rfl (fun a HF => ?_)
  refine wc_end ?_
  refine then_n ?_
  refine wp_seq ?_
  refine wc_text ?_
  refine wc_loadA (vs := [.int .i64 x0_0, .slice a_x0_1 x0_1.length c_x0_1]) HF rfl ag29 rfl ((HT.boxAt 1 rfl).part 0 2) rfl rfl (fun a HF => ?_)
  obtain ⟨y1, y2, hx1, h⟩ := obs2 h
  refine wc_call HF cf59 rfl (w_impl_copyMem fuel hx1 (HT.ro hr_x0_1).any) rfl rfl ?_
  rintro e w ⟨a1, n1, c1, rfl, hE⟩
  have hb := hE.below
  have HT := HT.pure hE
  obtain rfl := (HT.rdAt 0 rfl).neq
  have HT : St w0 (fun _ => False) w [Own 61 (rowT y2) (.slice a1 y2.length c1), Box p2 [.int .i64 0, .slice none 0 0], Box p1 [.int .i64 x0_0, .slice a_x0_1 x0_1.length c_x0_1]] := HT
  refine ⟨_, rfl, nS, fun a HF => ?_⟩
  refine wc_alloc (cs := [.int .i64 0, .slice none 0 0]) HF HT zr29 rfl rfl rfl (fun p3 w HT hb => ⟨nS, fun a HF => ?_⟩)
  refine wc_storeB (cs' := [.int .i64 y1, .slice a1 y2.length c1]) HF HT rfl rfl (fun w => (ag29 w).2) rfl rfl rfl rfl rfl (fun w HT => ⟨nS, ?_⟩)
  refine wc_end ?_
  refine then_n ?_
  refine wp_seq ?_
  refine wp_seq ?_
  refine wc_text ?_
  refine wc_loadA (vs := [.int .i64 x0_0, .slice a_x0_1 x0_1.length c_x0_1]) HF rfl ag29 rfl ((HT.boxAt 3 rfl).part 0 2) rfl rfl (fun a HF => ?_)
  obtain ⟨y3, hx2, h⟩ := obs h
  refine wc_call HF cf16 rfl (w_impl_MemOk fuel hx2 (HT.ro hr_x0_1).any) rfl rfl ?_
  rintro e w ⟨rfl, hE⟩
  have hb := hE.below
  have HT := HT.pure hE
  have HT : St w0 (fun _ => False) w [Box p3 [.int .i64 y1, .slice a1 y2.length c1], Own 61 (rowT y2) (.slice a1 y2.length c1), Box p2 [.int .i64 0, .slice none 0 0], Box p1 [.int .i64 x0_0, .slice a_x0_1 x0_1.length c_x0_1]] := HT
  refine ⟨_, rfl, nS, fun a HF => ?_⟩
  refine wc_not HF nS rfl rfl rfl (fun a HF => ?_)
  refine wc_move HF nS rfl rfl rfl (fun a HF => ?_)
  by_cases hb1 : y3 = true
  · have h := (if_pos hb1).symm.trans h
    refine wc_move HF nS rfl (HF.wy rfl rfl rfl rfl (notT hb1)) rfl (fun a HF => ?_)
    obtain ⟨y4, hx3, h⟩ := obs h
    refine wc_call HF cf53 rfl (w_impl_isCell fuel hx3) (HF.wy rfl rfl rfl rfl (notT hb1)) rfl ?_
    rintro e w ⟨rfl, hE⟩
    have hb := hE.below
    have HT := HT.pure hE
    have HT : St w0 (fun _ => False) w [Box p3 [.int .i64 y1, .slice a1 y2.length c1], Own 61 (rowT y2) (.slice a1 y2.length c1), Box p2 [.int .i64 0, .slice none 0 0], Box p1 [.int .i64 x0_0, .slice a_x0_1 x0_1.length c_x0_1]] := HT
    refine ⟨_, rfl, nS, fun a HF => ?_⟩
    refine wc_not HF nS rfl (HF.wy rfl rfl rfl rfl (notT hb1)) rfl (fun a HF => ?_)
    refine wc_pick (b := false) HF nS rfl (notT hb1) rfl rfl rfl (fun a HF => ?_)
    refine wc_move HF nS rfl rfl rfl (fun a HF => ?_)
    by_cases hb2 : y4 = true
    · have h := (if_pos hb2).symm.trans h
      refine wc_move HF nS rfl (HF.wy rfl rfl rfl rfl (notT hb2)) rfl (fun a HF => ?_)
      obtain ⟨y5, hx4, h⟩ := obs h
      refine wc_call HF cf60 rfl (w_impl_isOwner fuel hx4) (HF.wy rfl rfl rfl rfl (notT hb2)) rfl ?_
      rintro e w ⟨rfl, hE⟩
      have hb := hE.below
      have HT := HT.pure hE
      have HT : St w0 (fun _ => False) w [Box p3 [.int .i64 y1, .slice a1 y2.length c1], Own 61 (rowT y2) (.slice a1 y2.length c1), Box p2 [.int .i64 0, .slice none 0 0], Box p1 [.int .i64 x0_0, .slice a_x0_1 x0_1.length c_x0_1]] := HT
      refine ⟨_, rfl, nS, fun a HF => ?_⟩
      refine wc_not HF nS rfl (HF.wy rfl rfl rfl rfl (notT hb2)) rfl (fun a HF => ?_)
      refine wc_pick (b := false) HF nS rfl (notT hb2) rfl rfl rfl (fun a HF => ?_)
      refine wc_move HF nS rfl rfl rfl (fun a HF => ?_)
      by_cases hb3 : y5 = true
      · have h := (if_pos hb3).symm.trans h
        refine wc_faddr HF nS rfl fl29_1 (HF.wy rfl rfl rfl rfl (notT hb3)) rfl (fun a HF => ?_)
        refine wc_load HF rfl sc27 ((HT.boxAt 3 rfl).get 1 rfl) (HF.wy rfl rfl rfl rfl (notT hb3)) rfl (fun a HF => ?_)
        refine wc_move HF nS rfl (HF.wy rfl rfl rfl rfl (notT hb3)) rfl (fun a HF => ?_)
        obtain ⟨e1, hx5, h⟩ := obs h
        obtain ⟨b1, o1, ha1⟩ := (HT.ro hr_x0_1).any.addr hx5
        refine wc_ixaddr HF nS el27 rfl ha1 ((HT.ro hr_x0_1).any).neq rfl hx5 (HF.wy rfl rfl rfl rfl (notT hb3)) rfl (fun a HF => ?_)
        refine wc_faddr HF nS rfl fl61_2 (HF.wy rfl rfl rfl rfl (notT hb3)) rfl (fun a HF => ?_)
        have hc1 := (HT.ro hr_x0_1).any.flatAt ha1 hx5
        refine wc_load HF rfl sc3 (hc1.get 2 rfl) (HF.wy rfl rfl rfl rfl (notT hb3)) rfl (fun a HF => ?_)
        refine wc_move HF nS rfl (HF.wy rfl rfl rfl rfl (notT hb3)) rfl (fun a HF => ?_)
        refine wc_bin HF nS rfl rfl b_ne (HF.wy rfl rfl rfl rfl (notT hb3)) rfl (fun a HF => ?_)
        refine wc_pick (b := false) HF nS rfl (notT hb3) rfl rfl rfl (fun a HF => ?_)
        refine wc_move HF nS rfl rfl rfl (fun a HF => ?_)
        by_cases hb4 : e1.c = x2
        · have h := (if_pos hb4).symm.trans h
          refine wc_move HF nS rfl (HF.wy rfl rfl rfl rfl (notT (decide_eq_true hb4))) rfl (fun a HF => ?_)
          obtain ⟨y6, hx6, h⟩ := obs h
          refine wc_call HF cf49 rfl (w_impl_isValue fuel hx6) (HF.wy rfl rfl rfl rfl (notT (decide_eq_true hb4))) rfl ?_
          rintro e w ⟨rfl, hE⟩
          have hb := hE.below
          have HT := HT.pure hE
          have HT : St w0 (fun _ => False) w [Box p3 [.int .i64 y1, .slice a1 y2.length c1], Own 61 (rowT y2) (.slice a1 y2.length c1), Box p2 [.int .i64 0, .slice none 0 0], Box p1 [.int .i64 x0_0, .slice a_x0_1 x0_1.length c_x0_1]] := HT
          refine ⟨_, rfl, nS, fun a HF => ?_⟩
          refine wc_not HF nS rfl (HF.wy rfl rfl rfl rfl (notT (decide_eq_true hb4))) rfl (fun a HF => ?_)
          refine wc_pick (b := false) HF nS rfl (notT (decide_eq_true hb4)) rfl rfl rfl (fun a HF => ?_)
          refine wc_end ?_
          refine then_n ?_
          by_cases hb5 : y6 = true
          · have h := (if_pos hb5).symm.trans h
            refine wp_if (b' := false) HF rfl (notT hb5) ?_
            refine wp_skip ?_
            refine then_n ?_
            refine wp_seq ?_
            refine wc_text ?_
            refine wc_faddr HF nS rfl fl29_1 rfl rfl (fun a HF => ?_)
            refine wc_load HF rfl sc27 ((HT.boxAt 0 rfl).get 1 rfl) rfl rfl (fun a HF => ?_)
            refine wc_move HF nS rfl rfl rfl (fun a HF => ?_)
            refine wc_move HF nS rfl rfl rfl (fun a HF => ?_)
            obtain ⟨e2, hx7, h⟩ := obs h
            obtain ⟨b2, o2, ha2⟩ := (HT.rdAt 1 rfl).addr hx7
            refine wc_ixaddr HF nS el27 rfl ha2 ((HT.rdAt 1 rfl)).neq rfl hx7 rfl rfl (fun a HF => ?_)
            refine wc_faddr HF nS rfl fl61_0 rfl rfl (fun a HF => ?_)
            have HT : St w0 (fun _ => False) w [Own 61 (rowT y2) (.slice a1 y2.length c1), Box p3 [.int .i64 y1, .slice a1 y2.length c1], Box p2 [.int .i64 0, .slice none 0 0], Box p1 [.int .i64 x0_0, .slice a_x0_1 x0_1.length c_x0_1]] := HT.pick 1
            refine wc_storeR (i := x1) (j := 0) (x' := (⟨x3, e2.b, e2.c⟩ : I3)) HF HT ha2 rfl rfl (fun w => (sc3 w).2) rfl rfl hx7 rfl rfl rfl rfl (fun w HT => ⟨nS, ?_⟩)
            refine wc_end ?_
            refine then_n ?_
            refine wp_seq ?_
            refine wc_text ?_
            refine wc_loadA (vs := [.int .i64 y1, .slice a1 y2.length c1]) HF rfl ag29 rfl ((HT.boxAt 1 rfl).part 0 2) rfl rfl (fun a HF => ?_)
            have HT : St w0 (fun _ => False) w [Box p2 [.int .i64 0, .slice none 0 0], Own 61 (rowT (y2.set x1.toNat (⟨x3, e2.b, e2.c⟩ : I3))) (.slice a1 y2.length c1), Box p3 [.int .i64 y1, .slice a1 y2.length c1], Box p1 [.int .i64 x0_0, .slice a_x0_1 x0_1.length c_x0_1]] := HT.pick 2
            refine wc_storeB (cs' := [.int .i64 y1, .slice a1 y2.length c1]) HF HT rfl rfl (fun w => (ag29 w).2) rfl rfl rfl rfl rfl (fun w HT => ⟨nS, ?_⟩)
            refine wc_assign HF nS rfl rfl rfl (fun a HF => ?_)
            refine wc_end ?_
            refine then_n ?_
            refine wp_ret ?_
            have hj1 := Option.some.inj h
            obtain ⟨hi1, hj2⟩ := Prod.mk.inj hj1
            subst hi1
            obtain ⟨hi2, hj3⟩ := Prod.mk.inj hj2
            subst hi2
            subst hj3
            refine bp_ret HF (res_cell_tmp (vs := [.int .i64 y1, .slice a1 y2.length c1]) rfl HF rfl ag29 rfl (HT.boxAt 0 rfl) rfl) ?_
            have HT : St w0 (fun _ => False) w [Own 61 (rowT (y2.set x1.toNat (⟨x3, e2.b, e2.c⟩ : I3))) (.slice a1 y2.length c1), Box p2 [.int .i64 y1, .slice a1 y2.length c1], Box p3 [.int .i64 y1, .slice a1 y2.length c1], Box p1 [.int .i64 x0_0, .slice a_x0_1 x0_1.length c_x0_1]] := HT.pick 1
            have HT : St w0 (fun _ => False) w [Own 61 (rowT (y2.set x1.toNat (⟨x3, e2.b, e2.c⟩ : I3))) (.slice a1 y2.length c1)] := HT.take 1
            exact ⟨a1, y2.length, c1, rfl, HT⟩
          · have h := (if_neg hb5).symm.trans h
            refine wp_if (b' := true) HF rfl (notF (Bool.eq_false_iff.2 hb5)) ?_
            refine wp_seq ?_
            refine wc_text ?_
            refine wc_loadA (vs := [.int .i64 y1, .slice a1 y2.length c1]) HF rfl ag29 rfl ((HT.boxAt 0 rfl).part 0 2) rfl rfl (fun a HF => ?_)
            have HT : St w0 (fun _ => False) w [Box p2 [.int .i64 0, .slice none 0 0], Box p3 [.int .i64 y1, .slice a1 y2.length c1], Own 61 (rowT y2) (.slice a1 y2.length c1), Box p1 [.int .i64 x0_0, .slice a_x0_1 x0_1.length c_x0_1]] := HT.pick 2
            refine wc_storeB (cs' := [.int .i64 y1, .slice a1 y2.length c1]) HF HT rfl rfl (fun w => (ag29 w).2) rfl rfl rfl rfl rfl (fun w HT => ⟨nS, ?_⟩)
            refine wc_assign HF nS rfl rfl rfl (fun a HF => ?_)
            refine wc_end ?_
            refine then_n ?_
            refine wp_ret ?_
            have hj4 := Option.some.inj h
            obtain ⟨hi4, hj5⟩ := Prod.mk.inj hj4
            subst hi4
            obtain ⟨hi5, hj6⟩ := Prod.mk.inj hj5
            subst hi5
            subst hj6
            refine then_r (?_)
            refine bp_ret HF (res_cell_tmp (vs := [.int .i64 y1, .slice a1 y2.length c1]) rfl HF rfl ag29 rfl (HT.boxAt 0 rfl) rfl) ?_
            have HT : St w0 (fun _ => False) w [Own 61 (rowT y2) (.slice a1 y2.length c1), Box p2 [.int .i64 y1, .slice a1 y2.length c1], Box p3 [.int .i64 y1, .slice a1 y2.length c1], Box p1 [.int .i64 x0_0, .slice a_x0_1 x0_1.length c_x0_1]] := HT.pick 2
            have HT : St w0 (fun _ => False) w [Own 61 (rowT y2) (.slice a1 y2.length c1)] := HT.take 1
            exact ⟨a1, y2.length, c1, rfl, HT⟩
        · have h := (if_neg hb4).symm.trans h
          refine wc_skip HF nS (HF.wn rfl rfl rfl rfl (notF (decide_eq_false hb4))) rfl (fun a HF => ?_)
          refine wc_skip HF nS (HF.wn rfl rfl rfl rfl (notF (decide_eq_false hb4))) rfl (fun a HF => ?_)
          refine wc_skip HF nS (HF.wn rfl rfl rfl rfl (notF (decide_eq_false hb4))) rfl (fun a HF => ?_)
          refine wc_pick (b := true) HF nS rfl (notF (decide_eq_false hb4)) rfl rfl rfl (fun a HF => ?_)
          refine wc_end ?_
          refine then_n ?_
          refine wp_if (b' := true) HF rfl rfl ?_
          refine wp_seq ?_
          refine wc_text ?_
          refine wc_loadA (vs := [.int .i64 y1, .slice a1 y2.length c1]) HF rfl ag29 rfl ((HT.boxAt 0 rfl).part 0 2) rfl rfl (fun a HF => ?_)
          have HT : St w0 (fun _ => False) w [Box p2 [.int .i64 0, .slice none 0 0], Box p3 [.int .i64 y1, .slice a1 y2.length c1], Own 61 (rowT y2) (.slice a1 y2.length c1), Box p1 [.int .i64 x0_0, .slice a_x0_1 x0_1.length c_x0_1]] := HT.pick 2
          refine wc_storeB (cs' := [.int .i64 y1, .slice a1 y2.length c1]) HF HT rfl rfl (fun w => (ag29 w).2) rfl rfl rfl rfl rfl (fun w HT => ⟨nS, ?_⟩)
          refine wc_assign HF nS rfl rfl rfl (fun a HF => ?_)
          refine wc_end ?_
          refine then_n ?_
          refine wp_ret ?_
          have hj7 := Option.some.inj h
          obtain ⟨hi7, hj8⟩ := Prod.mk.inj hj7
          subst hi7
          obtain ⟨hi8, hj9⟩ := Prod.mk.inj hj8
          subst hi8
          subst hj9
          refine then_r (?_)
          refine bp_ret HF (res_cell_tmp (vs := [.int .i64 y1, .slice a1 y2.length c1]) rfl HF rfl ag29 rfl (HT.boxAt 0 rfl) rfl) ?_
          have HT : St w0 (fun _ => False) w [Own 61 (rowT y2) (.slice a1 y2.length c1), Box p2 [.int .i64 y1, .slice a1 y2.length c1], Box p3 [.int .i64 y1, .slice a1 y2.length c1], Box p1 [.int .i64 x0_0, .slice a_x0_1 x0_1.length c_x0_1]] := HT.pick 2
          have HT : St w0 (fun _ => False) w [Own 61 (rowT y2) (.slice a1 y2.length c1)] := HT.take 1
          exact ⟨a1, y2.length, c1, rfl, HT⟩
      · have h := (if_neg hb3).symm.trans h
        refine wc_skip HF nS (HF.wn rfl rfl rfl rfl (notF (Bool.eq_false_iff.2 hb3))) rfl (fun a HF => ?_)
        refine wc_skip HF nS (HF.wn rfl rfl rfl rfl (notF (Bool.eq_false_iff.2 hb3))) rfl (fun a HF => ?_)
        refine wc_skip HF nS (HF.wn rfl rfl rfl rfl (notF (Bool.eq_false_iff.2 hb3))) rfl (fun a HF => ?_)
        refine wc_skip HF nS (HF.wn rfl rfl rfl rfl (notF (Bool.eq_false_iff.2 hb3))) rfl (fun a HF => ?_)
        refine wc_skip HF nS (HF.wn rfl rfl rfl rfl (notF (Bool.eq_false_iff.2 hb3))) rfl (fun a HF => ?_)
        refine wc_skip HF nS (HF.wn rfl rfl rfl rfl (notF (Bool.eq_false_iff.2 hb3))) rfl (fun a HF => ?_)
        refine wc_skip HF nS (HF.wn rfl rfl rfl rfl (notF (Bool.eq_false_iff.2 hb3))) rfl (fun a HF => ?_)
        refine wc_skip HF nS (HF.wn rfl rfl rfl rfl (notF (Bool.eq_false_iff.2 hb3))) rfl (fun a HF => ?_)
        refine wc_pick (b := true) HF nS rfl (notF (Bool.eq_false_iff.2 hb3)) rfl rfl rfl (fun a HF => ?_)
        refine wc_move HF nS rfl rfl rfl (fun a HF => ?_)
        refine wc_skip HF nS (HF.wn rfl rfl rfl rfl rfl) rfl (fun a HF => ?_)
        refine wc_skip HF nS (HF.wn rfl rfl rfl rfl rfl) rfl (fun a HF => ?_)
        refine wc_skip HF nS (HF.wn rfl rfl rfl rfl rfl) rfl (fun a HF => ?_)
        refine wc_pick (b := true) HF nS rfl rfl rfl rfl rfl (fun a HF => ?_)
        refine wc_end ?_
        refine then_n ?_
        refine wp_if (b' := true) HF rfl rfl ?_
        refine wp_seq ?_
        refine wc_text ?_
        refine wc_loadA (vs := [.int .i64 y1, .slice a1 y2.length c1]) HF rfl ag29 rfl ((HT.boxAt 0 rfl).part 0 2) rfl rfl (fun a HF => ?_)
        have HT : St w0 (fun _ => False) w [Box p2 [.int .i64 0, .slice none 0 0], Box p3 [.int .i64 y1, .slice a1 y2.length c1], Own 61 (rowT y2) (.slice a1 y2.length c1), Box p1 [.int .i64 x0_0, .slice a_x0_1 x0_1.length c_x0_1]] := HT.pick 2
        refine wc_storeB (cs' := [.int .i64 y1, .slice a1 y2.length c1]) HF HT rfl rfl (fun w => (ag29 w).2) rfl rfl rfl rfl rfl (fun w HT => ⟨nS, ?_⟩)
        refine wc_assign HF nS rfl rfl rfl (fun a HF => ?_)
        refine wc_end ?_
        refine then_n ?_
        refine wp_ret ?_
        have hj10 := Option.some.inj h
        obtain ⟨hi10, hj11⟩ := Prod.mk.inj hj10
        subst hi10
        obtain ⟨hi11, hj12⟩ := Prod.mk.inj hj11
        subst hi11
        subst hj12
        refine then_r (?_)
        refine bp_ret HF (res_cell_tmp (vs := [.int .i64 y1, .slice a1 y2.length c1]) rfl HF rfl ag29 rfl (HT.boxAt 0 rfl) rfl) ?_
        have HT : St w0 (fun _ => False) w [Own 61 (rowT y2) (.slice a1 y2.length c1), Box p2 [.int .i64 y1, .slice a1 y2.length c1], Box p3 [.int .i64 y1, .slice a1 y2.length c1], Box p1 [.int .i64 x0_0, .slice a_x0_1 x0_1.length c_x0_1]] := HT.pick 2
        have HT : St w0 (fun _ => False) w [Own 61 (rowT y2) (.slice a1 y2.length c1)] := HT.take 1
        exact ⟨a1, y2.length, c1, rfl, HT⟩
    · have h := (if_neg hb2).symm.trans h
      refine wc_skip HF nS (HF.wn rfl rfl rfl rfl (notF (Bool.eq_false_iff.2 hb2))) rfl (fun a HF => ?_)
      refine wc_skip HF nS (HF.wn rfl rfl rfl rfl (notF (Bool.eq_false_iff.2 hb2))) rfl (fun a HF => ?_)
      refine wc_skip HF nS (HF.wn rfl rfl rfl rfl (notF (Bool.eq_false_iff.2 hb2))) rfl (fun a HF => ?_)
      refine wc_pick (b := true) HF nS rfl (notF (Bool.eq_false_iff.2 hb2)) rfl rfl rfl (fun a HF => ?_)
      refine wc_move HF nS rfl rfl rfl (fun a HF => ?_)
      refine wc_skip HF nS (HF.wn rfl rfl rfl rfl rfl) rfl (fun a HF => ?_)
      refine wc_skip HF nS (HF.wn rfl rfl rfl rfl rfl) rfl (fun a HF => ?_)
      refine wc_skip HF nS (HF.wn rfl rfl rfl rfl rfl) rfl (fun a HF => ?_)
      refine wc_skip HF nS (HF.wn rfl rfl rfl rfl rfl) rfl (fun a HF => ?_)
      refine wc_skip HF nS (HF.wn rfl rfl rfl rfl rfl) rfl (fun a HF => ?_)
      refine wc_skip HF nS (HF.wn rfl rfl rfl rfl rfl) rfl (fun a HF => ?_)
      refine wc_skip HF nS (HF.wn rfl rfl rfl rfl rfl) rfl (fun a HF => ?_)
      refine wc_skip HF nS (HF.wn rfl rfl rfl rfl rfl) rfl (fun a HF => ?_)
      refine wc_pick (b := true) HF nS rfl rfl rfl rfl rfl (fun a HF => ?_)
      refine wc_move HF nS rfl rfl rfl (fun a HF => ?_)
      refine wc_skip HF nS (HF.wn rfl rfl rfl rfl rfl) rfl (fun a HF => ?_)
      refine wc_skip HF nS (HF.wn rfl rfl rfl rfl rfl) rfl (fun a HF => ?_)
      refine wc_skip HF nS (HF.wn rfl rfl rfl rfl rfl) rfl (fun a HF => ?_)
      refine wc_pick (b := true) HF nS rfl rfl rfl rfl rfl (fun a HF => ?_)
      refine wc_end ?_
      refine then_n ?_
      refine wp_if (b' := true) HF rfl rfl ?_
      refine wp_seq ?_
      refine wc_text ?_
      refine wc_loadA (vs := [.int .i64 y1, .slice a1 y2.length c1]) HF rfl ag29 rfl ((HT.boxAt 0 rfl).part 0 2) rfl rfl (fun a HF => ?_)
      have HT : St w0 (fun _ => False) w [Box p2 [.int .i64 0, .slice none 0 0], Box p3 [.int .i64 y1, .slice a1 y2.length c1], Own 61 (rowT y2) (.slice a1 y2.length c1), Box p1 [.int .i64 x0_0, .slice a_x0_1 x0_1.length c_x0_1]] := HT.pick 2
      refine wc_storeB (cs' := [.int .i64 y1, .slice a1 y2.length c1]) HF HT rfl rfl (fun w => (ag29 w).2) rfl rfl rfl rfl rfl (fun w HT => ⟨nS, ?_⟩)
      refine wc_assign HF nS rfl rfl rfl (fun a HF => ?_)
      refine wc_end ?_
      refine then_n ?_
      refine wp_ret ?_
      have hj13 := Option.some.inj h
      obtain ⟨hi13, hj14⟩ := Prod.mk.inj hj13
      subst hi13
      obtain ⟨hi14, hj15⟩ := Prod.mk.inj hj14
      subst hi14
      subst hj15
      refine then_r (?_)
      refine bp_ret HF (res_cell_tmp (vs := [.int .i64 y1, .slice a1 y2.length c1]) rfl HF rfl ag29 rfl (HT.boxAt 0 rfl) rfl) ?_
      have HT : St w0 (fun _ => False) w [Own 61 (rowT y2) (.slice a1 y2.length c1), Box p2 [.int .i64 y1, .slice a1 y2.length c1], Box p3 [.int .i64 y1, .slice a1 y2.length c1], Box p1 [.int .i64 x0_0, .slice a_x0_1 x0_1.length c_x0_1]] := HT.pick 2
      have HT : St w0 (fun _ => False) w [Own 61 (rowT y2) (.slice a1 y2.length c1)] := HT.take 1
      exact ⟨a1, y2.length, c1, rfl, HT⟩
  · have h := (if_neg hb1).symm.trans h
    refine wc_skip HF nS (HF.wn rfl rfl rfl rfl (notF (Bool.eq_false_iff.2 hb1))) rfl (fun a HF => ?_)
    refine wc_skip HF nS (HF.wn rfl rfl rfl rfl (notF (Bool.eq_false_iff.2 hb1))) rfl (fun a HF => ?_)
    refine wc_skip HF nS (HF.wn rfl rfl rfl rfl (notF (Bool.eq_false_iff.2 hb1))) rfl (fun a HF => ?_)
    refine wc_pick (b := true) HF nS rfl (notF (Bool.eq_false_iff.2 hb1)) rfl rfl rfl (fun a HF => ?_)
    refine wc_move HF nS rfl rfl rfl (fun a HF => ?_)
    refine wc_skip HF nS (HF.wn rfl rfl rfl rfl rfl) rfl (fun a HF => ?_)
    refine wc_skip HF nS (HF.wn rfl rfl rfl rfl rfl) rfl (fun a HF => ?_)
    refine wc_skip HF nS (HF.wn rfl rfl rfl rfl rfl) rfl (fun a HF => ?_)
    refine wc_pick (b := true) HF nS rfl rfl rfl rfl rfl (fun a HF => ?_)
    refine wc_move HF nS rfl rfl rfl (fun a HF => ?_)
    refine wc_skip HF nS (HF.wn rfl rfl rfl rfl rfl) rfl (fun a HF => ?_)
    refine wc_skip HF nS (HF.wn rfl rfl rfl rfl rfl) rfl (fun a HF => ?_)
    refine wc_skip HF nS (HF.wn rfl rfl rfl rfl rfl) rfl (fun a HF => ?_)
    refine wc_skip HF nS (HF.wn rfl rfl rfl rfl rfl) rfl (fun a HF => ?_)
    refine wc_skip HF nS (HF.wn rfl rfl rfl rfl rfl) rfl (fun a HF => ?_)
    refine wc_skip HF nS (HF.wn rfl rfl rfl rfl rfl) rfl (fun a HF => ?_)
    refine wc_skip HF nS (HF.wn rfl rfl rfl rfl rfl) rfl (fun a HF => ?_)
    refine wc_skip HF nS (HF.wn rfl rfl rfl rfl rfl) rfl (fun a HF => ?_)
    refine wc_pick (b := true) HF nS rfl rfl rfl rfl rfl (fun a HF => ?_)
    refine wc_move HF nS rfl rfl rfl (fun a HF => ?_)
    refine wc_skip HF nS (HF.wn rfl rfl rfl rfl rfl) rfl (fun a HF => ?_)
    refine wc_skip HF nS (HF.wn rfl rfl rfl rfl rfl) rfl (fun a HF => ?_)
    refine wc_skip HF nS (HF.wn rfl rfl rfl rfl rfl) rfl (fun a HF => ?_)
    refine wc_pick (b := true) HF nS rfl rfl rfl rfl rfl (fun a HF => ?_)
    refine wc_end ?_
    refine then_n ?_
    refine wp_if (b' := true) HF rfl rfl ?_
    refine wp_seq ?_
    refine wc_text ?_
    refine wc_loadA (vs := [.int .i64 y1, .slice a1 y2.length c1]) HF rfl ag29 rfl ((HT.boxAt 0 rfl).part 0 2) rfl rfl (fun a HF => ?_)
    have HT : St w0 (fun _ => False) w [Box p2 [.int .i64 0, .slice none 0 0], Box p3 [.int .i64 y1, .slice a1 y2.length c1], Own 61 (rowT y2) (.slice a1 y2.length c1), Box p1 [.int .i64 x0_0, .slice a_x0_1 x0_1.length c_x0_1]] := HT.pick 2
    refine wc_storeB (cs' := [.int .i64 y1, .slice a1 y2.length c1]) HF HT rfl rfl (fun w => (ag29 w).2) rfl rfl rfl rfl rfl (fun w HT => ⟨nS, ?_⟩)
    refine wc_assign HF nS rfl rfl rfl (fun a HF => ?_)
    refine wc_end ?_
    refine then_n ?_
    refine wp_ret ?_
    have hj16 := Option.some.inj h
    obtain ⟨hi16, hj17⟩ := Prod.mk.inj hj16
    subst hi16
    obtain ⟨hi17, hj18⟩ := Prod.mk.inj hj17
    subst hi17
    subst hj18
    refine then_r (?_)
    refine bp_ret HF (res_cell_tmp (vs := [.int .i64 y1, .slice a1 y2.length c1]) rfl HF rfl ag29 rfl (HT.boxAt 0 rfl) rfl) ?_
    have HT : St w0 (fun _ => False) w [Own 61 (rowT y2) (.slice a1 y2.length c1), Box p2 [.int .i64 y1, .slice a1 y2.length c1], Box p3 [.int .i64 y1, .slice a1 y2.length c1], Box p1 [.int .i64 x0_0, .slice a_x0_1 x0_1.length c_x0_1]] := HT.pick 2
    have HT : St w0 (fun _ => False) w [Own 61 (rowT y2) (.slice a1 y2.length c1)] := HT.take 1
    exact ⟨a1, y2.length, c1, rfl, HT⟩

def m_impl_Tick (fuel : Nat) (x0_0 : Int) (x0_1 : List I3) : Option (Int × List I3 × Int) :=
  bind2 (m_impl_copyMem fuel x0_0 x0_1) fun y1 y2 =>
  (m_impl_MemOk fuel x0_0 x0_1).bind fun y3 =>
  if y3 = true then
    if x0_0 = 1000000 then
      some (y1, y2, 0)
    else
      if in64 (y1 + 1) then
        some (y1 + 1, y2, y1 + 1)
      else none
  else
    some (y1, y2, 0)

set_option maxRecDepth 100000 in
set_option maxHeartbeats 4000000 in
theorem w_impl_Tick (fuel : Nat) {x0_0 : Int} {x0_1 : List I3} {a_x0_1 : Option Addr} {n_x0_1 c_x0_1 : Nat} {r0_0 : Int} {r0_1 : List I3} {r1 : Int} {w0 : World} (h : m_impl_Tick fuel x0_0 x0_1 = some (r0_0, r0_1, r1)) (hr_x0_1 : RdT (fun b => ¬ False) w0 (rowT x0_1) (.slice a_x0_1 n_x0_1 c_x0_1)) :
    Calls Try.prog 30 #[.agg #[.int .i64 x0_0, .slice a_x0_1 n_x0_1 c_x0_1]] w0 fun e w => ∃ a_r0_1 n_r0_1 c_r0_1, e = .returned (.tuple #[.agg #[.int .i64 r0_0, .slice a_r0_1 n_r0_1 c_r0_1], .int .i64 r1]) ∧ St w0 (fun _ => False) w [Own 61 (rowT r0_1) (.slice a_r0_1 n_r0_1 c_r0_1)] := by
  obtain rfl := hr_x0_1.neq
  have HT : St w0 (fun _ => False) w0 [] := St.init0
  rw [m_impl_Tick] at h
  refine calls_fr (n := 23) [.agg #[.int .i64 x0_0, .slice a_x0_1 x0_1.length c_x0_1]] Try.func30 rfl rfl rfl (fun a HF => ?_)
  have HT : St w0 (fun _ => False) w0 [] := HT
  refine wp_seq ?_
  refine wc_text ?_
  refine wc_box (cs := [.int .i64 x0_0, .slice a_x0_1 x0_1.length c_x0_1]) HF HT rfl rfl rfl rfl (fun p1 w HT hb => ⟨nS, fun a HF => ?_⟩)
  refine wc_alloc (cs := [.int .i64 0, .slice none 0 0]) HF HT zr29 rfl rfl rfl (fun p2 w HT hb => ⟨nS, fun a HF => ?_⟩)
  refine wc_assign HF nS rfl rfl rfl (fun a HF => ?_)
  refine wc_end ?_
  refine then_n ?_
  refine wp_seq ?_
  refine wc_text ?_
  refine wc_loadA (vs := [.int .i64 x0_0, .slice a_x0_1 x0_1.length c_x0_1]) HF rfl ag29 rfl ((HT.boxAt 1 rfl).part 0 2) rfl rfl (fun a HF => ?_)
  obtain ⟨y1, y2, hx1, h⟩ := obs2 h
  refine wc_call HF cf59 rfl (w_impl_copyMem fuel hx1 (HT.ro hr_x0_1).any) rfl rfl ?_
  rintro e w ⟨a1, n1, c1, rfl, hE⟩
  have hb := hE.below
  have HT := HT.pure hE
  obtain rfl := (HT.rdAt 0 rfl).neq
  have HT : St w0 (fun _ => False) w [Own 61 (rowT y2) (.slice a1 y2.length c1), Box p2 [.int .i64 0, .slice none 0 0], Box p1 [.int .i64 x0_0, .slice a_x0_1 x0_1.length c_x0_1]] := HT
  refine ⟨_, rfl, nS, fun a HF => ?_⟩
  refine wc_alloc (cs := [.int .i64 0, .slice none 0 0]) HF HT zr29 rfl rfl rfl (fun p3 w HT hb => ⟨nS, fun a HF => ?_⟩)
  refine wc_storeB (cs' := [.int .i64 y1, .slice a1 y2.length c1]) HF HT rfl rfl (fun w => (ag29 w).2) rfl rfl rfl rfl rfl (fun w HT => ⟨nS, ?_⟩)
  refine wc_end ?_
  refine then_n ?_
  refine wp_seq ?_
  refine wp_seq ?_
  refine wc_text ?_
  refine wc_loadA (vs := [.int .i64 x0_0, .slice a_x0_1 x0_1.length c_x0_1]) HF rfl ag29 rfl ((HT.boxAt 3 rfl).part 0 2) rfl rfl (fun a HF => ?_)
  obtain ⟨y3, hx2, h⟩ := obs h
  refine wc_call HF cf16 rfl (w_impl_MemOk fuel hx2 (HT.ro hr_x0_1).any) rfl rfl ?_
  rintro e w ⟨rfl, hE⟩
  have hb := hE.below
  have HT := HT.pure hE
  have HT : St w0 (fun _ => False) w [Box p3 [.int .i64 y1, .slice a1 y2.length c1], Own 61 (rowT y2) (.slice a1 y2.length c1), Box p2 [.int .i64 0, .slice none 0 0], Box p1 [.int .i64 x0_0, .slice a_x0_1 x0_1.length c_x0_1]] := HT
  refine ⟨_, rfl, nS, fun a HF => ?_⟩
  refine wc_not HF nS rfl rfl rfl (fun a HF => ?_)
  refine wc_move HF nS rfl rfl rfl (fun a HF => ?_)
  by_cases hb1 : y3 = true
  · have h := (if_pos hb1).symm.trans h
    refine wc_faddr HF nS rfl fl29_0 (HF.wy rfl rfl rfl rfl (notT hb1)) rfl (fun a HF => ?_)
    refine wc_load HF rfl sc3 ((HT.boxAt 3 rfl).get 0 rfl) (HF.wy rfl rfl rfl rfl (notT hb1)) rfl (fun a HF => ?_)
    refine wc_bin HF nS rfl rfl b_eq (HF.wy rfl rfl rfl rfl (notT hb1)) rfl (fun a HF => ?_)
    refine wc_pick (b := false) HF nS rfl (notT hb1) rfl rfl rfl (fun a HF => ?_)
    refine wc_end ?_
    refine then_n ?_
    by_cases hb2 : x0_0 = 1000000
    · have h := (if_pos hb2).symm.trans h
      refine wp_if (b' := true) HF rfl (decide_eq_true hb2) ?_
      refine wp_seq ?_
      refine wc_text ?_
      refine wc_loadA (vs := [.int .i64 y1, .slice a1 y2.length c1]) HF rfl ag29 rfl ((HT.boxAt 0 rfl).part 0 2) rfl rfl (fun a HF => ?_)
      have HT : St w0 (fun _ => False) w [Box p2 [.int .i64 0, .slice none 0 0], Box p3 [.int .i64 y1, .slice a1 y2.length c1], Own 61 (rowT y2) (.slice a1 y2.length c1), Box p1 [.int .i64 x0_0, .slice a_x0_1 x0_1.length c_x0_1]] := HT.pick 2
      refine wc_storeB (cs' := [.int .i64 y1, .slice a1 y2.length c1]) HF HT rfl rfl (fun w => (ag29 w).2) rfl rfl rfl rfl rfl (fun w HT => ⟨nS, ?_⟩)
      refine wc_assign HF nS rfl rfl rfl (fun a HF => ?_)
      refine wc_end ?_
      refine then_n ?_
      refine wp_ret ?_
      have hj1 := Option.some.inj h
      obtain ⟨hi1, hj2⟩ := Prod.mk.inj hj1
      subst hi1
      obtain ⟨hi2, hj3⟩ := Prod.mk.inj hj2
      subst hi2
      subst hj3
      refine then_r (?_)
      refine bp_ret HF (res_cell_tmp (vs := [.int .i64 y1, .slice a1 y2.length c1]) rfl HF rfl ag29 rfl (HT.boxAt 0 rfl) rfl) ?_
      have HT : St w0 (fun _ => False) w [Own 61 (rowT y2) (.slice a1 y2.length c1), Box p2 [.int .i64 y1, .slice a1 y2.length c1], Box p3 [.int .i64 y1, .slice a1 y2.length c1], Box p1 [.int .i64 x0_0, .slice a_x0_1 x0_1.length c_x0_1]] := HT.pick 2
      have HT : St w0 (fun _ => False) w [Own 61 (rowT y2) (.slice a1 y2.length c1)] := HT.take 1
      exact ⟨a1, y2.length, c1, rfl, HT⟩
    · have h := (if_neg hb2).symm.trans h
      refine wp_if (b' := false) HF rfl (decide_eq_false hb2) ?_
      refine wp_skip ?_
      refine then_n ?_
      refine wp_seq ?_
      refine wc_text ?_
      refine wc_faddr HF nS rfl fl29_0 rfl rfl (fun a HF => ?_)
      refine wc_load HF rfl sc3 ((HT.boxAt 0 rfl).get 0 rfl) rfl rfl (fun a HF => ?_)
      obtain ⟨hg1, h⟩ := grd h
      refine wc_bin HF nS rfl rfl (b_add hg1) rfl rfl (fun a HF => ?_)
      refine wc_faddr HF nS rfl fl29_0 rfl rfl (fun a HF => ?_)
      refine wc_storeB (cs' := [.int .i64 (y1 + 1), .slice a1 y2.length c1]) HF HT rfl rfl (fun w => (sc3 w).2) rfl rfl rfl rfl rfl (fun w HT => ⟨nS, ?_⟩)
      refine wc_end ?_
      refine then_n ?_
      refine wp_seq ?_
      refine wp_region_can [(0, true), (1, false), (2, false), (3, false), (4, true)] (fun w' => w'.cell? ⟨p3, 0, none⟩ = some (.int .i64 (y1 + 1)) ∧ True) (by kernel_rfl) (by kernel_rfl) ?_
      have HT : St w0 (fun _ => False) w.drew [Box p3 [.int .i64 (y1 + 1), .slice a1 y2.length c1], Own 61 (rowT y2) (.slice a1 y2.length c1), Box p2 [.int .i64 0, .slice none 0 0], Box p1 [.int .i64 x0_0, .slice a_x0_1 x0_1.length c_x0_1]] := HT.drew
      refine wc_loadA (vs := [.int .i64 (y1 + 1), .slice a1 y2.length c1]) HF rfl ag29 rfl ((HT.boxAt 0 rfl).part 0 2) rfl rfl (fun a HF => ?_)
      refine wc_faddr HF (fun _ => ⟨(HT.boxAt 0 rfl).get 0 rfl, trivial⟩) rfl fl29_0 rfl rfl (fun a HF => ?_)
      refine wc_loadS HF ⟨(HT.boxAt 0 rfl).get 0 rfl, trivial⟩ rfl sc3 (fun w hS => hS.1) rfl rfl (fun a HF => ?_)
      have HT : St w0 (fun _ => False) w.drew [Box p2 [.int .i64 0, .slice none 0 0], Box p3 [.int .i64 (y1 + 1), .slice a1 y2.length c1], Own 61 (rowT y2) (.slice a1 y2.length c1), Box p1 [.int .i64 x0_0, .slice a_x0_1 x0_1.length c_x0_1]] := HT.pick 2
      refine wc_storeB (cs' := [.int .i64 (y1 + 1), .slice a1 y2.length c1]) HF HT rfl rfl (fun w => (ag29 w).2) rfl rfl rfl rfl rfl (fun w HT => ⟨(fun _ => ⟨(HT.boxAt 1 rfl).get 0 rfl, trivial⟩), ?_⟩)
      refine wc_assign HF nS rfl rfl rfl (fun a HF => ?_)
      refine wc_endN ?_
      refine then_n ?_
      refine wp_ret ?_
      have hj4 := Option.some.inj h
      obtain ⟨hi4, hj5⟩ := Prod.mk.inj hj4
      subst hi4
      obtain ⟨hi5, hj6⟩ := Prod.mk.inj hj5
      subst hi5
      subst hj6
      refine bp_ret HF (res_cell_tmp (vs := [.int .i64 (y1 + 1), .slice a1 y2.length c1]) rfl HF rfl ag29 rfl (HT.boxAt 0 rfl) rfl) ?_
      have HT : St w0 (fun _ => False) w [Own 61 (rowT y2) (.slice a1 y2.length c1), Box p2 [.int .i64 (y1 + 1), .slice a1 y2.length c1], Box p3 [.int .i64 (y1 + 1), .slice a1 y2.length c1], Box p1 [.int .i64 x0_0, .slice a_x0_1 x0_1.length c_x0_1]] := HT.pick 2
      have HT : St w0 (fun _ => False) w [Own 61 (rowT y2) (.slice a1 y2.length c1)] := HT.take 1
      exact ⟨a1, y2.length, c1, rfl, HT⟩
  · have h := (if_neg hb1).symm.trans h
    refine wc_skip HF nS (HF.wn rfl rfl rfl rfl (notF (Bool.eq_false_iff.2 hb1))) rfl (fun a HF => ?_)
    refine wc_skip HF nS (HF.wn rfl rfl rfl rfl (notF (Bool.eq_false_iff.2 hb1))) rfl (fun a HF => ?_)
    refine wc_skip HF nS (HF.wn rfl rfl rfl rfl (notF (Bool.eq_false_iff.2 hb1))) rfl (fun a HF => ?_)
    refine wc_pick (b := true) HF nS rfl (notF (Bool.eq_false_iff.2 hb1)) rfl rfl rfl (fun a HF => ?_)
    refine wc_end ?_
    refine then_n ?_
    refine wp_if (b' := true) HF rfl rfl ?_
    refine wp_seq ?_
    refine wc_text ?_
    refine wc_loadA (vs := [.int .i64 y1, .slice a1 y2.length c1]) HF rfl ag29 rfl ((HT.boxAt 0 rfl).part 0 2) rfl rfl (fun a HF => ?_)
    have HT : St w0 (fun _ => False) w [Box p2 [.int .i64 0, .slice none 0 0], Box p3 [.int .i64 y1, .slice a1 y2.length c1], Own 61 (rowT y2) (.slice a1 y2.length c1), Box p1 [.int .i64 x0_0, .slice a_x0_1 x0_1.length c_x0_1]] := HT.pick 2
    refine wc_storeB (cs' := [.int .i64 y1, .slice a1 y2.length c1]) HF HT rfl rfl (fun w => (ag29 w).2) rfl rfl rfl rfl rfl (fun w HT => ⟨nS, ?_⟩)
    refine wc_assign HF nS rfl rfl rfl (fun a HF => ?_)
    refine wc_end ?_
    refine then_n ?_
    refine wp_ret ?_
    have hj7 := Option.some.inj h
    obtain ⟨hi7, hj8⟩ := Prod.mk.inj hj7
    subst hi7
    obtain ⟨hi8, hj9⟩ := Prod.mk.inj hj8
    subst hi8
    subst hj9
    refine then_r (?_)
    refine bp_ret HF (res_cell_tmp (vs := [.int .i64 y1, .slice a1 y2.length c1]) rfl HF rfl ag29 rfl (HT.boxAt 0 rfl) rfl) ?_
    have HT : St w0 (fun _ => False) w [Own 61 (rowT y2) (.slice a1 y2.length c1), Box p2 [.int .i64 y1, .slice a1 y2.length c1], Box p3 [.int .i64 y1, .slice a1 y2.length c1], Box p1 [.int .i64 x0_0, .slice a_x0_1 x0_1.length c_x0_1]] := HT.pick 2
    have HT : St w0 (fun _ => False) w [Own 61 (rowT y2) (.slice a1 y2.length c1)] := HT.take 1
    exact ⟨a1, y2.length, c1, rfl, HT⟩

def m_impl_Unlock (fuel : Nat) (x0_0 : Int) (x0_1 : List I3) (x1 : Int) (x2 : Int) (x3 : Int) : Option (Int × List I3 × Bool) :=
  bind2 (m_impl_copyMem fuel x0_0 x0_1) fun y1 y2 =>
  (m_impl_MemOk fuel x0_0 x0_1).bind fun y3 =>
  if y3 = true then
    (m_impl_isCell fuel x1).bind fun y4 =>
    if y4 = true then
      (m_impl_isOwner fuel x2).bind fun y5 =>
      if y5 = true then
        (at? x0_1 x1).bind fun e1 =>
        if e1.c = x2 then
          (m_impl_within fuel x3 e1.b x0_0).bind fun y6 =>
          if y6 = true then
            (at? y2 x1).bind fun e3 =>
            (at? (y2.set x1.toNat (⟨e3.a, e3.b, 0⟩ : I3)) x1).bind fun e4 =>
            some (y1, (y2.set x1.toNat (⟨e3.a, e3.b, 0⟩ : I3)).set x1.toNat (⟨e4.a, x3, e4.c⟩ : I3), true)
          else
            some (y1, y2, false)
        else
          some (y1, y2, false)
      else
        some (y1, y2, false)
    else
      some (y1, y2, false)
  else
    some (y1, y2, false)

set_option maxRecDepth 100000 in
set_option maxHeartbeats 4000000 in
theorem w_impl_Unlock (fuel : Nat) {x0_0 : Int} {x0_1 : List I3} {x1 : Int} {x2 : Int} {x3 : Int} {a_x0_1 : Option Addr} {n_x0_1 c_x0_1 : Nat} {r0_0 : Int} {r0_1 : List I3} {r1 : Bool} {w0 : World} (h : m_impl_Unlock fuel x0_0 x0_1 x1 x2 x3 = some (r0_0, r0_1, r1)) (hr_x0_1 : RdT (fun b => ¬ False) w0 (rowT x0_1) (.slice a_x0_1 n_x0_1 c_x0_1)) :
    Calls Try.prog 39 #[.agg #[.int .i64 x0_0, .slice a_x0_1 n_x0_1 c_x0_1], .int .i64 x1, .int .i64 x2, .int .i64 x3] w0 fun e w => ∃ a_r0_1 n_r0_1 c_r0_1, e = .returned (.tuple #[.agg #[.int .i64 r0_0, .slice a_r0_1 n_r0_1 c_r0_1], .bool r1]) ∧ St w0 (fun _ => False) w [Own 61 (rowT r0_1) (.slice a_r0_1 n_r0_1 c_r0_1)] := by
  obtain rfl := hr_x0_1.neq
  have HT : St w0 (fun _ => False) w0 [] := St.init0
  rw [m_impl_Unlock] at h
  refine calls_fr (n := 62) [.agg #[.int .i64 x0_0, .slice a_x0_1 x0_1.length c_x0_1], .int .i64 x1, .int .i64 x2, .int .i64 x3] Try.func39 rfl rfl rfl (fun a HF => ?_)
  have HT : St w0 (fun _ => False) w0 [] := HT
  refine wp_seq ?_
  refine wc_text ?_
  refine wc_box (cs := [.int .i64 x0_0, .slice a_x0_1 x0_1.length c_x0_1]) HF HT rfl rfl rfl rfl (fun p1 w HT hb => ⟨nS, fun a HF => ?_⟩)
  refine wc_alloc (cs := [.int .i64 0, .slice none 0 0]) HF HT zr29 rfl rfl rfl (fun p2 w HT hb => ⟨nS, fun a HF => ?_⟩)
  refine wc_assign HF nS rfl rfl rfl (fun a HF => ?_)
  refine wc_end ?_
  refine then_n ?_
  refine wp_seq ?_
  refine wc_text ?_
  refine wc_loadA (vs := [.int .i64 x0_0, .slice a_x0_1 x0_1.length c_x0_1]) HF rfl ag29 rfl ((HT.boxAt 1 rfl).part 0 2) rfl rfl (fun a HF => ?_)
  obtain ⟨y1, y2, hx1, h⟩ := obs2 h
  refine wc_call HF cf59 rfl (w_impl_copyMem fuel hx1 (HT.ro hr_x0_1).any) rfl rfl ?_
  rintro e w ⟨a1, n1, c1, rfl, hE⟩
  have hb := hE.below
  have HT := HT.pure hE
  obtain rfl := (HT.rdAt 0 rfl).neq
  have HT : St w0 (fun _ => False) w [Own 61 (rowT y2) (.slice a1 y2.length c1), Box p2 [.int .i64 0, .slice none 0 0], Box p1 [.int .i64 x0_0, .slice a_x0_1 x0_1.length c_x0_1]] := HT
  refine ⟨_, rfl, nS, fun a HF => ?_⟩
  refine wc_alloc (cs := [.int .i64 0, .slice none 0 0]) HF HT zr29 rfl rfl rfl (fun p3 w HT hb => ⟨nS, fun a HF => ?_⟩)
  refine wc_storeB (cs' := [.int .i64 y1, .slice a1 y2.length c1]) HF HT rfl rfl (fun w => (ag29 w).2) rfl rfl rfl rfl rfl (fun w HT => ⟨nS, ?_⟩)
  refine wc_end ?_
  refine then_n ?_
  refine wp_seq ?_
  refine wp_seq ?_
  refine wp_region_can [(0, true), (1, true), (2, true), (3, true), (4, true), (5, true), (6, true), (7, true), (8, true), (9, true), (10, true), (11, true), (12, true), (13, true), (14, true), (15, true), (16, true), (17, true), (18, true), (19, true), (20, true), (21, true), (22, true), (23, true), (24, true), (25, true), (26, true), (27, true), (28, true), (29, true), (30, true), (31, true), (32, true), (33, true), (34, true), (35, true)] (fun w' => True) (by kernel_rfl) (by kernel_rfl) ?_
  have HT : St w0 (fun _ => False) w.drew [Box p3 [.int .i64 y1, .slice a1 y2.length c1], Own 61 (rowT y2) (.slice a1 y2.length c1), Box p2 [.int .i64 0, .slice none 0 0], Box p1 [.int .i64 x0_0, .slice a_x0_1 x0_1.length c_x0_1]] := HT.drew
  refine wc_loadA (vs := [.int .i64 x0_0, .slice a_x0_1 x0_1.length c_x0_1]) HF rfl ag29 rfl ((HT.boxAt 3 rfl).part 0 2) rfl rfl (fun a HF => ?_)
  obtain ⟨y3, hx2, h⟩ := obs h
  refine wc_call HF cf16 rfl (w_impl_MemOk fuel hx2 (HT.ro hr_x0_1).any) rfl rfl ?_
  rintro e w ⟨rfl, hE⟩
  have hb := hE.below
  have HT := HT.pure hE
  have HT : St w0 (fun _ => False) w [Box p3 [.int .i64 y1, .slice a1 y2.length c1], Own 61 (rowT y2) (.slice a1 y2.length c1), Box p2 [.int .i64 0, .slice none 0 0], Box p1 [.int .i64 x0_0, .slice a_x0_1 x0_1.length c_x0_1]] := HT
  refine ⟨_, rfl, nS, fun a HF => ?_⟩
  refine wc_not HF nS rfl rfl rfl (fun a HF => ?_)
  refine wc_move HF nS rfl rfl rfl (fun a HF => ?_)
  by_cases hb1 : y3 = true
  · have h := (if_pos hb1).symm.trans h
    refine wc_move HF nS rfl (HF.wy rfl rfl rfl rfl (notT hb1)) rfl (fun a HF => ?_)
    obtain ⟨y4, hx3, h⟩ := obs h
    refine wc_call HF cf53 rfl (w_impl_isCell fuel hx3) (HF.wy rfl rfl rfl rfl (notT hb1)) rfl ?_
    rintro e w ⟨rfl, hE⟩
    have hb := hE.below
    have HT := HT.pure hE
    have HT : St w0 (fun _ => False) w [Box p3 [.int .i64 y1, .slice a1 y2.length c1], Own 61 (rowT y2) (.slice a1 y2.length c1), Box p2 [.int .i64 0, .slice none 0 0], Box p1 [.int .i64 x0_0, .slice a_x0_1 x0_1.length c_x0_1]] := HT
    refine ⟨_, rfl, nS, fun a HF => ?_⟩
    refine wc_not HF nS rfl (HF.wy rfl rfl rfl rfl (notT hb1)) rfl (fun a HF => ?_)
    refine wc_pick (b := false) HF nS rfl (notT hb1) rfl rfl rfl (fun a HF => ?_)
    refine wc_move HF nS rfl rfl rfl (fun a HF => ?_)
    by_cases hb2 : y4 = true
    · have h := (if_pos hb2).symm.trans h
      refine wc_move HF nS rfl (HF.wy rfl rfl rfl rfl (notT hb2)) rfl (fun a HF => ?_)
      obtain ⟨y5, hx4, h⟩ := obs h
      refine wc_call HF cf60 rfl (w_impl_isOwner fuel hx4) (HF.wy rfl rfl rfl rfl (notT hb2)) rfl ?_
      rintro e w ⟨rfl, hE⟩
      have hb := hE.below
      have HT := HT.pure hE
      have HT : St w0 (fun _ => False) w [Box p3 [.int .i64 y1, .slice a1 y2.length c1], Own 61 (rowT y2) (.slice a1 y2.length c1), Box p2 [.int .i64 0, .slice none 0 0], Box p1 [.int .i64 x0_0, .slice a_x0_1 x0_1.length c_x0_1]] := HT
      refine ⟨_, rfl, nS, fun a HF => ?_⟩
      refine wc_not HF nS rfl (HF.wy rfl rfl rfl rfl (notT hb2)) rfl (fun a HF => ?_)
      refine wc_pick (b := false) HF nS rfl (notT hb2) rfl rfl rfl (fun a HF => ?_)
      refine wc_move HF nS rfl rfl rfl (fun a HF => ?_)
      by_cases hb3 : y5 = true
      · have h := (if_pos hb3).symm.trans h
        refine wc_faddr HF nS rfl fl29_1 (HF.wy rfl rfl rfl rfl (notT hb3)) rfl (fun a HF => ?_)
        refine wc_load HF rfl sc27 ((HT.boxAt 3 rfl).get 1 rfl) (HF.wy rfl rfl rfl rfl (notT hb3)) rfl (fun a HF => ?_)
        refine wc_move HF nS rfl (HF.wy rfl rfl rfl rfl (notT hb3)) rfl (fun a HF => ?_)
        obtain ⟨e1, hx5, h⟩ := obs h
        obtain ⟨b1, o1, ha1⟩ := (HT.ro hr_x0_1).any.addr hx5
        refine wc_ixaddr HF nS el27 rfl ha1 ((HT.ro hr_x0_1).any).neq rfl hx5 (HF.wy rfl rfl rfl rfl (notT hb3)) rfl (fun a HF => ?_)
        refine wc_faddr HF nS rfl fl61_2 (HF.wy rfl rfl rfl rfl (notT hb3)) rfl (fun a HF => ?_)
        have hc1 := (HT.ro hr_x0_1).any.flatAt ha1 hx5
        refine wc_load HF rfl sc3 (hc1.get 2 rfl) (HF.wy rfl rfl rfl rfl (notT hb3)) rfl (fun a HF => ?_)
        refine wc_move HF nS rfl (HF.wy rfl rfl rfl rfl (notT hb3)) rfl (fun a HF => ?_)
        refine wc_bin HF nS rfl rfl b_ne (HF.wy rfl rfl rfl rfl (notT hb3)) rfl (fun a HF => ?_)
        refine wc_pick (b := false) HF nS rfl (notT hb3) rfl rfl rfl (fun a HF => ?_)
        refine wc_move HF nS rfl rfl rfl (fun a HF => ?_)
        by_cases hb4 : e1.c = x2
        · have h := (if_pos hb4).symm.trans h
          refine wc_move HF nS rfl (HF.wy rfl rfl rfl rfl (notT (decide_eq_true hb4))) rfl (fun a HF => ?_)
          refine wc_faddr HF nS rfl fl29_1 (HF.wy rfl rfl rfl rfl (notT (decide_eq_true hb4))) rfl (fun a HF => ?_)
          refine wc_load HF rfl sc27 ((HT.boxAt 3 rfl).get 1 rfl) (HF.wy rfl rfl rfl rfl (notT (decide_eq_true hb4))) rfl (fun a HF => ?_)
          refine wc_move HF nS rfl (HF.wy rfl rfl rfl rfl (notT (decide_eq_true hb4))) rfl (fun a HF => ?_)
          refine wc_ixaddr HF nS el27 rfl ha1 ((HT.ro hr_x0_1).any).neq rfl hx5 (HF.wy rfl rfl rfl rfl (notT (decide_eq_true hb4))) rfl (fun a HF => ?_)
          refine wc_faddr HF nS rfl fl61_1 (HF.wy rfl rfl rfl rfl (notT (decide_eq_true hb4))) rfl (fun a HF => ?_)
          have hc2 := (HT.ro hr_x0_1).any.flatAt ha1 hx5
          refine wc_load HF rfl sc3 (hc2.get 1 rfl) (HF.wy rfl rfl rfl rfl (notT (decide_eq_true hb4))) rfl (fun a HF => ?_)
          refine wc_faddr HF nS rfl fl29_0 (HF.wy rfl rfl rfl rfl (notT (decide_eq_true hb4))) rfl (fun a HF => ?_)
          refine wc_load HF rfl sc3 ((HT.boxAt 3 rfl).get 0 rfl) (HF.wy rfl rfl rfl rfl (notT (decide_eq_true hb4))) rfl (fun a HF => ?_)
          obtain ⟨y6, hx6, h⟩ := obs h
          refine wc_call HF cf50 rfl (w_impl_within fuel hx6) (HF.wy rfl rfl rfl rfl (notT (decide_eq_true hb4))) rfl ?_
          rintro e w ⟨rfl, hE⟩
          have hb := hE.below
          have HT := HT.pure hE
          have HT : St w0 (fun _ => False) w [Box p3 [.int .i64 y1, .slice a1 y2.length c1], Own 61 (rowT y2) (.slice a1 y2.length c1), Box p2 [.int .i64 0, .slice none 0 0], Box p1 [.int .i64 x0_0, .slice a_x0_1 x0_1.length c_x0_1]] := HT
          refine ⟨_, rfl, nS, fun a HF => ?_⟩
          refine wc_not HF nS rfl (HF.wy rfl rfl rfl rfl (notT (decide_eq_true hb4))) rfl (fun a HF => ?_)
          refine wc_pick (b := false) HF nS rfl (notT (decide_eq_true hb4)) rfl rfl rfl (fun a HF => ?_)
          refine wc_endN ?_
          refine then_n ?_
          by_cases hb5 : y6 = true
          · have h := (if_pos hb5).symm.trans h
            refine wp_if (b' := false) HF rfl (notT hb5) ?_
            refine wp_skip ?_
            refine then_n ?_
            refine wp_seq ?_
            refine wc_text ?_
            refine wc_faddr HF nS rfl fl29_1 rfl rfl (fun a HF => ?_)
            refine wc_load HF rfl sc27 ((HT.boxAt 0 rfl).get 1 rfl) rfl rfl (fun a HF => ?_)
            refine wc_move HF nS rfl rfl rfl (fun a HF => ?_)
            obtain ⟨e3, hx7, h⟩ := obs h
            obtain ⟨b2, o2, ha2⟩ := (HT.rdAt 1 rfl).addr hx7
            refine wc_ixaddr HF nS el27 rfl ha2 ((HT.rdAt 1 rfl)).neq rfl hx7 rfl rfl (fun a HF => ?_)
            refine wc_faddr HF nS rfl fl61_2 rfl rfl (fun a HF => ?_)
            have HT : St w0 (fun _ => False) w [Own 61 (rowT y2) (.slice a1 y2.length c1), Box p3 [.int .i64 y1, .slice a1 y2.length c1], Box p2 [.int .i64 0, .slice none 0 0], Box p1 [.int .i64 x0_0, .slice a_x0_1 x0_1.length c_x0_1]] := HT.pick 1
            refine wc_storeR (i := x1) (j := 2) (x' := (⟨e3.a, e3.b, 0⟩ : I3)) HF HT ha2 rfl rfl (fun w => (sc3 w).2) rfl rfl hx7 rfl rfl rfl rfl (fun w HT => ⟨nS, ?_⟩)
            refine wc_end ?_
            refine then_n ?_
            refine wp_seq ?_
            refine wc_text ?_
            refine wc_faddr HF nS rfl fl29_1 rfl rfl (fun a HF => ?_)
            refine wc_load HF rfl sc27 ((HT.boxAt 1 rfl).get 1 rfl) rfl rfl (fun a HF => ?_)
            refine wc_move HF nS rfl rfl rfl (fun a HF => ?_)
            refine wc_move HF nS rfl rfl rfl (fun a HF => ?_)
            obtain ⟨e4, hx8, h⟩ := obs h
            refine wc_ixaddr HF nS el27 rfl ha2 ((HT.rdAt 0 rfl)).neq rfl hx8 rfl rfl (fun a HF => ?_)
            refine wc_faddr HF nS rfl fl61_1 rfl rfl (fun a HF => ?_)
            refine wc_storeR (i := x1) (j := 1) (x' := (⟨e4.a, x3, e4.c⟩ : I3)) HF HT ha2 rfl rfl (fun w => (sc3 w).2) rfl rfl hx8 rfl rfl rfl rfl (fun w HT => ⟨nS, ?_⟩)
            refine wc_end ?_
            refine then_n ?_
            refine wp_seq ?_
            refine wc_text ?_
            refine wc_loadA (vs := [.int .i64 y1, .slice a1 y2.length c1]) HF rfl ag29 rfl ((HT.boxAt 1 rfl).part 0 2) rfl rfl (fun a HF => ?_)
            have HT : St w0 (fun _ => False) w [Box p2 [.int .i64 0, .slice none 0 0], Own 61 (rowT ((y2.set x1.toNat (⟨e3.a, e3.b, 0⟩ : I3)).set x1.toNat (⟨e4.a, x3, e4.c⟩ : I3))) (.slice a1 y2.length c1), Box p3 [.int .i64 y1, .slice a1 y2.length c1], Box p1 [.int .i64 x0_0, .slice a_x0_1 x0_1.length c_x0_1]] := HT.pick 2
            refine wc_storeB (cs' := [.int .i64 y1, .slice a1 y2.length c1]) HF HT rfl rfl (fun w => (ag29 w).2) rfl rfl rfl rfl rfl (fun w HT => ⟨nS, ?_⟩)
            refine wc_assign HF nS rfl rfl rfl (fun a HF => ?_)
            refine wc_end ?_
            refine then_n ?_
            refine wp_ret ?_
            have hj1 := Option.some.inj h
            obtain ⟨hi1, hj2⟩ := Prod.mk.inj hj1
            subst hi1
            obtain ⟨hi2, hj3⟩ := Prod.mk.inj hj2
            subst hi2
            subst hj3
            refine bp_ret HF (res_cell_tmp (vs := [.int .i64 y1, .slice a1 y2.length c1]) rfl HF rfl ag29 rfl (HT.boxAt 0 rfl) rfl) ?_
            have HT : St w0 (fun _ => False) w [Own 61 (rowT ((y2.set x1.toNat (⟨e3.a, e3.b, 0⟩ : I3)).set x1.toNat (⟨e4.a, x3, e4.c⟩ : I3))) (.slice a1 y2.length c1), Box p2 [.int .i64 y1, .slice a1 y2.length c1], Box p3 [.int .i64 y1, .slice a1 y2.length c1], Box p1 [.int .i64 x0_0, .slice a_x0_1 x0_1.length c_x0_1]] := HT.pick 1
            have HT : St w0 (fun _ => False) w [Own 61 (rowT ((y2.set x1.toNat (⟨e3.a, e3.b, 0⟩ : I3)).set x1.toNat (⟨e4.a, x3, e4.c⟩ : I3))) (.slice a1 y2.length c1)] := HT.take 1
            exact ⟨a1, y2.length, c1, rfl, HT⟩
          · have h := (if_neg hb5).symm.trans h
            refine wp_if (b' := true) HF rfl (notF (Bool.eq_false_iff.2 hb5)) ?_
            refine wp_seq ?_
            refine wc_text ?_
            refine wc_loadA (vs := [.int .i64 y1, .slice a1 y2.length c1]) HF rfl ag29 rfl ((HT.boxAt 0 rfl).part 0 2) rfl rfl (fun a HF => ?_)
            have HT : St w0 (fun _ => False) w [Box p2 [.int .i64 0, .slice none 0 0], Box p3 [.int .i64 y1, .slice a1 y2.length c1], Own 61 (rowT y2) (.slice a1 y2.length c1), Box p1 [.int .i64 x0_0, .slice a_x0_1 x0_1.length c_x0_1]] := HT.pick 2
            refine wc_storeB (cs' := [.int .i64 y1, .slice a1 y2.length c1]) HF HT rfl rfl (fun w => (ag29 w).2) rfl rfl rfl rfl rfl (fun w HT => ⟨nS, ?_⟩)
            refine wc_assign HF nS rfl rfl rfl (fun a HF => ?_)
            refine wc_end ?_
            refine then_n ?_
            refine wp_ret ?_
            have hj4 := Option.some.inj h
            obtain ⟨hi4, hj5⟩ := Prod.mk.inj hj4
            subst hi4
            obtain ⟨hi5, hj6⟩ := Prod.mk.inj hj5
            subst hi5
            subst hj6
            refine then_r (?_)
            refine bp_ret HF (res_cell_tmp (vs := [.int .i64 y1, .slice a1 y2.length c1]) rfl HF rfl ag29 rfl (HT.boxAt 0 rfl) rfl) ?_
            have HT : St w0 (fun _ => False) w [Own 61 (rowT y2) (.slice a1 y2.length c1), Box p2 [.int .i64 y1, .slice a1 y2.length c1], Box p3 [.int .i64 y1, .slice a1 y2.length c1], Box p1 [.int .i64 x0_0, .slice a_x0_1 x0_1.length c_x0_1]] := HT.pick 2
            have HT : St w0 (fun _ => False) w [Own 61 (rowT y2) (.slice a1 y2.length c1)] := HT.take 1
            exact ⟨a1, y2.length, c1, rfl, HT⟩
        · have h := (if_neg hb4).symm.trans h
          refine wc_skip HF nS (HF.wn rfl rfl rfl rfl (notF (decide_eq_false hb4))) rfl (fun a HF => ?_)
          refine wc_skip HF nS (HF.wn rfl rfl rfl rfl (notF (decide_eq_false hb4))) rfl (fun a HF => ?_)
          refine wc_skip HF nS (HF.wn rfl rfl rfl rfl (notF (decide_eq_false hb4))) rfl (fun a HF => ?_)
          refine wc_skip HF nS (HF.wn rfl rfl rfl rfl (notF (decide_eq_false hb4))) rfl (fun a HF => ?_)
          refine wc_skip HF nS (HF.wn rfl rfl rfl rfl (notF (decide_eq_false hb4))) rfl (fun a HF => ?_)
          refine wc_skip HF nS (HF.wn rfl rfl rfl rfl (notF (decide_eq_false hb4))) rfl (fun a HF => ?_)
          refine wc_skip HF nS (HF.wn rfl rfl rfl rfl (notF (decide_eq_false hb4))) rfl (fun a HF => ?_)
          refine wc_skip HF nS (HF.wn rfl rfl rfl rfl (notF (decide_eq_false hb4))) rfl (fun a HF => ?_)
          refine wc_skip HF nS (HF.wn rfl rfl rfl rfl (notF (decide_eq_false hb4))) rfl (fun a HF => ?_)
          refine wc_skip HF nS (HF.wn rfl rfl rfl rfl (notF (decide_eq_false hb4))) rfl (fun a HF => ?_)
          refine wc_skip HF nS (HF.wn rfl rfl rfl rfl (notF (decide_eq_false hb4))) rfl (fun a HF => ?_)
          refine wc_pick (b := true) HF nS rfl (notF (decide_eq_false hb4)) rfl rfl rfl (fun a HF => ?_)
          refine wc_endN ?_
          refine then_n ?_
          refine wp_if (b' := true) HF rfl rfl ?_
          refine wp_seq ?_
          refine wc_text ?_
          refine wc_loadA (vs := [.int .i64 y1, .slice a1 y2.length c1]) HF rfl ag29 rfl ((HT.boxAt 0 rfl).part 0 2) rfl rfl (fun a HF => ?_)
          have HT : St w0 (fun _ => False) w [Box p2 [.int .i64 0, .slice none 0 0], Box p3 [.int .i64 y1, .slice a1 y2.length c1], Own 61 (rowT y2) (.slice a1 y2.length c1), Box p1 [.int .i64 x0_0, .slice a_x0_1 x0_1.length c_x0_1]] := HT.pick 2
          refine wc_storeB (cs' := [.int .i64 y1, .slice a1 y2.length c1]) HF HT rfl rfl (fun w => (ag29 w).2) rfl rfl rfl rfl rfl (fun w HT => ⟨nS, ?_⟩)
          refine wc_assign HF nS rfl rfl rfl (fun a HF => ?_)
          refine wc_end ?_
          refine then_n ?_
          refine wp_ret ?_
          have hj7 := Option.some.inj h
          obtain ⟨hi7, hj8⟩ := Prod.mk.inj hj7
          subst hi7
          obtain ⟨hi8, hj9⟩ := Prod.mk.inj hj8
          subst hi8
          subst hj9
          refine then_r (?_)
          refine bp_ret HF (res_cell_tmp (vs := [.int .i64 y1, .slice a1 y2.length c1]) rfl HF rfl ag29 rfl (HT.boxAt 0 rfl) rfl) ?_
          have HT : St w0 (fun _ => False) w [Own 61 (rowT y2) (.slice a1 y2.length c1), Box p2 [.int .i64 y1, .slice a1 y2.length c1], Box p3 [.int .i64 y1, .slice a1 y2.length c1], Box p1 [.int .i64 x0_0, .slice a_x0_1 x0_1.length c_x0_1]] := HT.pick 2
          have HT : St w0 (fun _ => False) w [Own 61 (rowT y2) (.slice a1 y2.length c1)] := HT.take 1
          exact ⟨a1, y2.length, c1, rfl, HT⟩
      · have h := (if_neg hb3).symm.trans h
        refine wc_skip HF nS (HF.wn rfl rfl rfl rfl (notF (Bool.eq_false_iff.2 hb3))) rfl (fun a HF => ?_)
        refine wc_skip HF nS (HF.wn rfl rfl rfl rfl (notF (Bool.eq_false_iff.2 hb3))) rfl (fun a HF => ?_)
        refine wc_skip HF nS (HF.wn rfl rfl rfl rfl (notF (Bool.eq_false_iff.2 hb3))) rfl (fun a HF => ?_)
        refine wc_skip HF nS (HF.wn rfl rfl rfl rfl (notF (Bool.eq_false_iff.2 hb3))) rfl (fun a HF => ?_)
        refine wc_skip HF nS (HF.wn rfl rfl rfl rfl (notF (Bool.eq_false_iff.2 hb3))) rfl (fun a HF => ?_)
        refine wc_skip HF nS (HF.wn rfl rfl rfl rfl (notF (Bool.eq_false_iff.2 hb3))) rfl (fun a HF => ?_)
        refine wc_skip HF nS (HF.wn rfl rfl rfl rfl (notF (Bool.eq_false_iff.2 hb3))) rfl (fun a HF => ?_)
        refine wc_skip HF nS (HF.wn rfl rfl rfl rfl (notF (Bool.eq_false_iff.2 hb3))) rfl (fun a HF => ?_)
        refine wc_pick (b := true) HF nS rfl (notF (Bool.eq_false_iff.2 hb3)) rfl rfl rfl (fun a HF => ?_)
        refine wc_move HF nS rfl rfl rfl (fun a HF => ?_)
        refine wc_skip HF nS (HF.wn rfl rfl rfl rfl rfl) rfl (fun a HF => ?_)
        refine wc_skip HF nS (HF.wn rfl rfl rfl rfl rfl) rfl (fun a HF => ?_)
        refine wc_skip HF nS (HF.wn rfl rfl rfl rfl rfl) rfl (fun a HF => ?_)
        refine wc_skip HF nS (HF.wn rfl rfl rfl rfl rfl) rfl (fun a HF => ?_)
        refine wc_skip HF nS (HF.wn rfl rfl rfl rfl rfl) rfl (fun a HF => ?_)
        refine wc_skip HF nS (HF.wn rfl rfl rfl rfl rfl) rfl (fun a HF => ?_)
        refine wc_skip HF nS (HF.wn rfl rfl rfl rfl rfl) rfl (fun a HF => ?_)
        refine wc_skip HF nS (HF.wn rfl rfl rfl rfl rfl) rfl (fun a HF => ?_)
        refine wc_skip HF nS (HF.wn rfl rfl rfl rfl rfl) rfl (fun a HF => ?_)
        refine wc_skip HF nS (HF.wn rfl rfl rfl rfl rfl) rfl (fun a HF => ?_)
        refine wc_skip HF nS (HF.wn rfl rfl rfl rfl rfl) rfl (fun a HF => ?_)
        refine wc_pick (b := true) HF nS rfl rfl rfl rfl rfl (fun a HF => ?_)
        refine wc_endN ?_
        refine then_n ?_
        refine wp_if (b' := true) HF rfl rfl ?_
        refine wp_seq ?_
        refine wc_text ?_
        refine wc_loadA (vs := [.int .i64 y1, .slice a1 y2.length c1]) HF rfl ag29 rfl ((HT.boxAt 0 rfl).part 0 2) rfl rfl (fun a HF => ?_)
        have HT : St w0 (fun _ => False) w [Box p2 [.int .i64 0, .slice none 0 0], Box p3 [.int .i64 y1, .slice a1 y2.length c1], Own 61 (rowT y2) (.slice a1 y2.length c1), Box p1 [.int .i64 x0_0, .slice a_x0_1 x0_1.length c_x0_1]] := HT.pick 2
        refine wc_storeB (cs' := [.int .i64 y1, .slice a1 y2.length c1]) HF HT rfl rfl (fun w => (ag29 w).2) rfl rfl rfl rfl rfl (fun w HT => ⟨nS, ?_⟩)
        refine wc_assign HF nS rfl rfl rfl (fun a HF => ?_)
        refine wc_end ?_
        refine then_n ?_
        refine wp_ret ?_
        have hj10 := Option.some.inj h
        obtain ⟨hi10, hj11⟩ := Prod.mk.inj hj10
        subst hi10
        obtain ⟨hi11, hj12⟩ := Prod.mk.inj hj11
        subst hi11
        subst hj12
        refine then_r (?_)
        refine bp_ret HF (res_cell_tmp (vs := [.int .i64 y1, .slice a1 y2.length c1]) rfl HF rfl ag29 rfl (HT.boxAt 0 rfl) rfl) ?_
        have HT : St w0 (fun _ => False) w [Own 61 (rowT y2) (.slice a1 y2.length c1), Box p2 [.int .i64 y1, .slice a1 y2.length c1], Box p3 [.int .i64 y1, .slice a1 y2.length c1], Box p1 [.int .i64 x0_0, .slice a_x0_1 x0_1.length c_x0_1]] := HT.pick 2
        have HT : St w0 (fun _ => False) w [Own 61 (rowT y2) (.slice a1 y2.length c1)] := HT.take 1
        exact ⟨a1, y2.length, c1, rfl, HT⟩
    · have h := (if_neg hb2).symm.trans h
      refine wc_skip HF nS (HF.wn rfl rfl rfl rfl (notF (Bool.eq_false_iff.2 hb2))) rfl (fun a HF => ?_)
      refine wc_skip HF nS (HF.wn rfl rfl rfl rfl (notF (Bool.eq_false_iff.2 hb2))) rfl (fun a HF => ?_)
      refine wc_skip HF nS (HF.wn rfl rfl rfl rfl (notF (Bool.eq_false_iff.2 hb2))) rfl (fun a HF => ?_)
      refine wc_pick (b := true) HF nS rfl (notF (Bool.eq_false_iff.2 hb2)) rfl rfl rfl (fun a HF => ?_)
      refine wc_move HF nS rfl rfl rfl (fun a HF => ?_)
      refine wc_skip HF nS (HF.wn rfl rfl rfl rfl rfl) rfl (fun a HF => ?_)
      refine wc_skip HF nS (HF.wn rfl rfl rfl rfl rfl) rfl (fun a HF => ?_)
      refine wc_skip HF nS (HF.wn rfl rfl rfl rfl rfl) rfl (fun a HF => ?_)
      refine wc_skip HF nS (HF.wn rfl rfl rfl rfl rfl) rfl (fun a HF => ?_)
      refine wc_skip HF nS (HF.wn rfl rfl rfl rfl rfl) rfl (fun a HF => ?_)
      refine wc_skip HF nS (HF.wn rfl rfl rfl rfl rfl) rfl (fun a HF => ?_)
      refine wc_skip HF nS (HF.wn rfl rfl rfl rfl rfl) rfl (fun a HF => ?_)
      refine wc_skip HF nS (HF.wn rfl rfl rfl rfl rfl) rfl (fun a HF => ?_)
      refine wc_pick (b := true) HF nS rfl rfl rfl rfl rfl (fun a HF => ?_)
      refine wc_move HF nS rfl rfl rfl (fun a HF => ?_)
      refine wc_skip HF nS (HF.wn rfl rfl rfl rfl rfl) rfl (fun a HF => ?_)
      refine wc_skip HF nS (HF.wn rfl rfl rfl rfl rfl) rfl (fun a HF => ?_)
      refine wc_skip HF nS (HF.wn rfl rfl rfl rfl rfl) rfl (fun a HF => ?_)
      refine wc_skip HF nS (HF.wn rfl rfl rfl rfl rfl) rfl (fun a HF => ?_)
      refine wc_skip HF nS (HF.wn rfl rfl rfl rfl rfl) rfl (fun a HF => ?_)
      refine wc_skip HF nS (HF.wn rfl rfl rfl rfl rfl) rfl (fun a HF => ?_)
      refine wc_skip HF nS (HF.wn rfl rfl rfl rfl rfl) rfl (fun a HF => ?_)
      refine wc_skip HF nS (HF.wn rfl rfl rfl rfl rfl) rfl (fun a HF => ?_)
      refine wc_skip HF nS (HF.wn rfl rfl rfl rfl rfl) rfl (fun a HF => ?_)
      refine wc_skip HF nS (HF.wn rfl rfl rfl rfl rfl) rfl (fun a HF => ?_)
      refine wc_skip HF nS (HF.wn rfl rfl rfl rfl rfl) rfl (fun a HF => ?_)
      refine wc_pick (b := true) HF nS rfl rfl rfl rfl rfl (fun a HF => ?_)
      refine wc_endN ?_
      refine then_n ?_
      refine wp_if (b' := true) HF rfl rfl ?_
      refine wp_seq ?_
      refine wc_text ?_
      refine wc_loadA (vs := [.int .i64 y1, .slice a1 y2.length c1]) HF rfl ag29 rfl ((HT.boxAt 0 rfl).part 0 2) rfl rfl (fun a HF => ?_)
      have HT : St w0 (fun _ => False) w [Box p2 [.int .i64 0, .slice none 0 0], Box p3 [.int .i64 y1, .slice a1 y2.length c1], Own 61 (rowT y2) (.slice a1 y2.length c1), Box p1 [.int .i64 x0_0, .slice a_x0_1 x0_1.length c_x0_1]] := HT.pick 2
      refine wc_storeB (cs' := [.int .i64 y1, .slice a1 y2.length c1]) HF HT rfl rfl (fun w => (ag29 w).2) rfl rfl rfl rfl rfl (fun w HT => ⟨nS, ?_⟩)
      refine wc_assign HF nS rfl rfl rfl (fun a HF => ?_)
      refine wc_end ?_
      refine then_n ?_
      refine wp_ret ?_
      have hj13 := Option.some.inj h
      obtain ⟨hi13, hj14⟩ := Prod.mk.inj hj13
      subst hi13
      obtain ⟨hi14, hj15⟩ := Prod.mk.inj hj14
      subst hi14
      subst hj15
      refine then_r (?_)
      refine bp_ret HF (res_cell_tmp (vs := [.int .i64 y1, .slice a1 y2.length c1]) rfl HF rfl ag29 rfl (HT.boxAt 0 rfl) rfl) ?_
      have HT : St w0 (fun _ => False) w [Own 61 (rowT y2) (.slice a1 y2.length c1), Box p2 [.int .i64 y1, .slice a1 y2.length c1], Box p3 [.int .i64 y1, .slice a1 y2.length c1], Box p1 [.int .i64 x0_0, .slice a_x0_1 x0_1.length c_x0_1]] := HT.pick 2
      have HT : St w0 (fun _ => False) w [Own 61 (rowT y2) (.slice a1 y2.length c1)] := HT.take 1
      exact ⟨a1, y2.length, c1, rfl, HT⟩
  · have h := (if_neg hb1).symm.trans h
    refine wc_skip HF nS (HF.wn rfl rfl rfl rfl (notF (Bool.eq_false_iff.2 hb1))) rfl (fun a HF => ?_)
    refine wc_skip HF nS (HF.wn rfl rfl rfl rfl (notF (Bool.eq_false_iff.2 hb1))) rfl (fun a HF => ?_)
    refine wc_skip HF nS (HF.wn rfl rfl rfl rfl (notF (Bool.eq_false_iff.2 hb1))) rfl (fun a HF => ?_)
    refine wc_pick (b := true) HF nS rfl (notF (Bool.eq_false_iff.2 hb1)) rfl rfl rfl (fun a HF => ?_)
    refine wc_move HF nS rfl rfl rfl (fun a HF => ?_)
    refine wc_skip HF nS (HF.wn rfl rfl rfl rfl rfl) rfl (fun a HF => ?_)
    refine wc_skip HF nS (HF.wn rfl rfl rfl rfl rfl) rfl (fun a HF => ?_)
    refine wc_skip HF nS (HF.wn rfl rfl rfl rfl rfl) rfl (fun a HF => ?_)
    refine wc_pick (b := true) HF nS rfl rfl rfl rfl rfl (fun a HF => ?_)
    refine wc_move HF nS rfl rfl rfl (fun a HF => ?_)
    refine wc_skip HF nS (HF.wn rfl rfl rfl rfl rfl) rfl (fun a HF => ?_)
    refine wc_skip HF nS (HF.wn rfl rfl rfl rfl rfl) rfl (fun a HF => ?_)
    refine wc_skip HF nS (HF.wn rfl rfl rfl rfl rfl) rfl (fun a HF => ?_)
    refine wc_skip HF nS (HF.wn rfl rfl rfl rfl rfl) rfl (fun a HF => ?_)
    refine wc_skip HF nS (HF.wn rfl rfl rfl rfl rfl) rfl (fun a HF => ?_)
    refine wc_skip HF nS (HF.wn rfl rfl rfl rfl rfl) rfl (fun a HF => ?_)
    refine wc_skip HF nS (HF.wn rfl rfl rfl rfl rfl) rfl (fun a HF => ?_)
    refine wc_skip HF nS (HF.wn rfl rfl rfl rfl rfl) rfl (fun a HF => ?_)
    refine wc_pick (b := true) HF nS rfl rfl rfl rfl rfl (fun a HF => ?_)
    refine wc_move HF nS rfl rfl rfl (fun a HF => ?_)
    refine wc_skip HF nS (HF.wn rfl rfl rfl rfl rfl) rfl (fun a HF => ?_)
    refine wc_skip HF nS (HF.wn rfl rfl rfl rfl rfl) rfl (fun a HF => ?_)
    refine wc_skip HF nS (HF.wn rfl rfl rfl rfl rfl) rfl (fun a HF => ?_)
    refine wc_skip HF nS (HF.wn rfl rfl rfl rfl rfl) rfl (fun a HF => ?_)
    refine wc_skip HF nS (HF.wn rfl rfl rfl rfl rfl) rfl (fun a HF => ?_)
    refine wc_skip HF nS (HF.wn rfl rfl rfl rfl rfl) rfl (fun a HF => ?_)
    refine wc_skip HF nS (HF.wn rfl rfl rfl rfl rfl) rfl (fun a HF => ?_)
    refine wc_skip HF nS (HF.wn rfl rfl rfl rfl rfl) rfl (fun a HF => ?_)
    refine wc_skip HF nS (HF.wn rfl rfl rfl rfl rfl) rfl (fun a HF => ?_)
    refine wc_skip HF nS (HF.wn rfl rfl rfl rfl rfl) rfl (fun a HF => ?_)
    refine wc_skip HF nS (HF.wn rfl rfl rfl rfl rfl) rfl (fun a HF => ?_)
    refine wc_pick (b := true) HF nS rfl rfl rfl rfl rfl (fun a HF => ?_)
    refine wc_endN ?_
    refine then_n ?_
    refine wp_if (b' := true) HF rfl rfl ?_
    refine wp_seq ?_
    refine wc_text ?_
    refine wc_loadA (vs := [.int .i64 y1, .slice a1 y2.length c1]) HF rfl ag29 rfl ((HT.boxAt 0 rfl).part 0 2) rfl rfl (fun a HF => ?_)
    have HT : St w0 (fun _ => False) w [Box p2 [.int .i64 0, .slice none 0 0], Box p3 [.int .i64 y1, .slice a1 y2.length c1], Own 61 (rowT y2) (.slice a1 y2.length c1), Box p1 [.int .i64 x0_0, .slice a_x0_1 x0_1.length c_x0_1]] := HT.pick 2
    refine wc_storeB (cs' := [.int .i64 y1, .slice a1 y2.length c1]) HF HT rfl rfl (fun w => (ag29 w).2) rfl rfl rfl rfl rfl (fun w HT => ⟨nS, ?_⟩)
    refine wc_assign HF nS rfl rfl rfl (fun a HF => ?_)
    refine wc_end ?_
    refine then_n ?_
    refine wp_ret ?_
    have hj16 := Option.some.inj h
    obtain ⟨hi16, hj17⟩ := Prod.mk.inj hj16
    subst hi16
    obtain ⟨hi17, hj18⟩ := Prod.mk.inj hj17
    subst hi17
    subst hj18
    refine then_r (?_)
    refine bp_ret HF (res_cell_tmp (vs := [.int .i64 y1, .slice a1 y2.length c1]) rfl HF rfl ag29 rfl (HT.boxAt 0 rfl) rfl) ?_
    have HT : St w0 (fun _ => False) w [Own 61 (rowT y2) (.slice a1 y2.length c1), Box p2 [.int .i64 y1, .slice a1 y2.length c1], Box p3 [.int .i64 y1, .slice a1 y2.length c1], Box p1 [.int .i64 x0_0, .slice a_x0_1 x0_1.length c_x0_1]] := HT.pick 2
    have HT : St w0 (fun _ => False) w [Own 61 (rowT y2) (.slice a1 y2.length c1)] := HT.take 1
    exact ⟨a1, y2.length, c1, rfl, HT⟩

def m_impl_Values_L0 (fuel : Nat) (x0_1 : List I3) : Nat → (List Int) → Int → Option (List Int)
  | 0, _, _ => none
  | k1 + 1, z2, z3 =>
    if z3 < (x0_1.length : Int) then
      (at? x0_1 z3).bind fun e1 =>
      if z2.length + 1 ≤ 17179869184 then
        if in64 (z3 + 1) then
          m_impl_Values_L0 fuel x0_1 k1 (z2 ++ ([e1.a] : List Int)) (z3 + 1)
        else none
      else none
    else
      some z2

def m_impl_Values (fuel : Nat) (x0_0 : Int) (x0_1 : List I3) : Option (List Int) :=
  (m_impl_MemOk fuel x0_0 x0_1).bind fun y1 =>
  if y1 = true then
    (m_impl_Values_L0 fuel x0_1 fuel ([] : List Int) 0).bind fun z1 =>
    some z1
  else
    some ([] : List Int)

set_option maxRecDepth 100000 in
set_option maxHeartbeats 4000000 in
theorem w_impl_Values (fuel : Nat) {x0_0 : Int} {x0_1 : List I3} {a_x0_1 : Option Addr} {n_x0_1 c_x0_1 : Nat} {r0 : List Int} {w0 : World} (h : m_impl_Values fuel x0_0 x0_1 = some r0) (hr_x0_1 : RdT (fun b => ¬ False) w0 (rowT x0_1) (.slice a_x0_1 n_x0_1 c_x0_1)) :
    Calls Try.prog 32 #[.agg #[.int .i64 x0_0, .slice a_x0_1 n_x0_1 c_x0_1]] w0 fun e w => ∃ a_r0 n_r0 c_r0, e = .returned (.slice a_r0 n_r0 c_r0) ∧ St w0 (fun _ => False) w [Own 3 (rowT r0) (.slice a_r0 n_r0 c_r0)] := by
  obtain rfl := hr_x0_1.neq
  have HT : St w0 (fun _ => False) w0 [] := St.init0
  rw [m_impl_Values] at h
  refine calls_fr (n := 24) [.agg #[.int .i64 x0_0, .slice a_x0_1 x0_1.length c_x0_1]] Try.func32 rfl rfl rfl (fun a HF => ?_)
  have HT : St w0 (fun _ => False) w0 [] := HT
  refine wp_seq ?_
  refine wc_text ?_
  refine wc_box (cs := [.int .i64 x0_0, .slice a_x0_1 x0_1.length c_x0_1]) HF HT rfl rfl rfl rfl (fun p1 w HT hb => ⟨nS, fun a HF => ?_⟩)
  refine wc_assign HF nS rfl rfl rfl (fun a HF => ?_)
  refine wc_end ?_
  refine then_n ?_
  refine wp_seq ?_
  refine wp_seq ?_
  refine wc_text ?_
  refine wc_loadA (vs := [.int .i64 x0_0, .slice a_x0_1 x0_1.length c_x0_1]) HF rfl ag29 rfl ((HT.boxAt 0 rfl).part 0 2) rfl rfl (fun a HF => ?_)
  obtain ⟨y1, hx1, h⟩ := obs h
  refine wc_call HF cf16 rfl (w_impl_MemOk fuel hx1 (HT.ro hr_x0_1).any) rfl rfl ?_
  rintro e w ⟨rfl, hE⟩
  have hb := hE.below
  have HT := HT.pure hE
  have HT : St w0 (fun _ => False) w [Box p1 [.int .i64 x0_0, .slice a_x0_1 x0_1.length c_x0_1]] := HT
  refine ⟨_, rfl, nS, fun a HF => ?_⟩
  refine wc_not HF nS rfl rfl rfl (fun a HF => ?_)
  refine wc_end ?_
  refine then_n ?_
  by_cases hb1 : y1 = true
  · have h := (if_pos hb1).symm.trans h
    refine wp_if (b' := false) HF rfl (notT hb1) ?_
    refine wp_skip ?_
    refine then_n ?_
    refine wp_seq ?_
    refine wc_text ?_
    refine wc_bslice (l := ([] : List Int)) (cs := []) (A := []) HF HT bs38_0 rfl rfl (gives_flat rfl) rfl (by decide) rfl rfl (fun p2 w HT hb => ⟨nS, fun a HF => ?_⟩)
    refine wc_assign HF nS rfl rfl rfl (fun a HF => ?_)
    refine wc_end ?_
    refine then_n ?_
    obtain ⟨z1, hx2, h⟩ := obs h
    refine wp_cut (fun a w => ∃ a1 n1 c1, Fr a 24 [(3, .slice a1 n1 c1)] ∧ St w0 (fun _ => False) w [Own 3 (rowT z1) (.slice a1 n1 c1)]) ?_ ?_
    · have hk1 := h
      have h := hx2
      refine wp_seq ?_
      refine wc_text ?_
      refine wc_faddr HF nS rfl fl29_1 rfl rfl (fun a HF => ?_)
      refine wc_load HF rfl sc27 ((HT.boxAt 1 rfl).get 1 rfl) rfl rfl (fun a HF => ?_)
      refine wc_lenR HF nS Try.underlying27 rfl rfl rfl (fun a HF => ?_)
      refine wc_move HF nS rfl rfl rfl (fun a HF => ?_)
      refine wc_end ?_
      refine then_n ?_
      refine wp_block ?_
      have HT : St w0 (fun _ => False) w [Own 3 (rowT ([] : List Int)) (.slice (some ⟨p2, 0, none⟩) 0 0)] := HT.take 1
      refine wp_loopN (fun k1 a w => ∃ z2 z3 a2 n2 c2, m_impl_Values_L0 fuel x0_1 k1 z2 z3 = some z1 ∧ Fr a 24 [(3, .slice a2 n2 c2), (11, .slice a_x0_1 x0_1.length c_x0_1), (12, .int .i64 (x0_1.length : Int)), (13, .int .i64 z3)] ∧ St w0 (fun _ => False) w [Own 3 (rowT z2) (.slice a2 n2 c2)]) fuel ⟨([] : List Int), 0, (some ⟨p2, 0, none⟩), 0, 0, h, (HF.keep (HF.keep (HF.keep (HF.keep HF.nil rfl) rfl) rfl) rfl), HT⟩ ?_
      rintro k1 a w ⟨z2, z3, a2, n2, c2, h, HF, HT⟩
      cases k1 with
      | zero => cases h
      | succ k1 =>
        rw [m_impl_Values_L0] at h
        obtain rfl := (HT.rdAt 0 rfl).neq
        refine ?_
        refine wp_seq ?_
        refine wc_text ?_
        refine wc_bin HF nS rfl rfl b_lt rfl rfl (fun a HF => ?_)
        refine wc_end ?_
        refine then_n ?_
        refine wp_seq ?_
        by_cases hb2 : z3 < (x0_1.length : Int)
        · have h := (if_pos hb2).symm.trans h
          refine wp_if (b' := true) HF rfl (decide_eq_true hb2) ?_
          refine wp_skip ?_
          refine then_n ?_
          refine wp_seq ?_
          refine wp_block ?_
          refine wp_seq ?_
          refine wc_text ?_
          obtain ⟨e1, hx3, h⟩ := obs h
          obtain ⟨b1, o1, ha1⟩ := (HT.ro hr_x0_1).any.addr hx3
          refine wc_ixaddr HF nS el27 rfl ha1 ((HT.ro hr_x0_1).any).neq rfl hx3 rfl rfl (fun a HF => ?_)
          have hc1 := (HT.ro hr_x0_1).any.flatAt ha1 hx3
          refine wc_loadA (vs := [.int .i64 e1.a, .int .i64 e1.b, .int .i64 e1.c]) HF rfl ag61 rfl (hc1.part 0 3) rfl rfl (fun a HF => ?_)
          refine wc_alloc (cs := [.int .i64 0, .int .i64 0, .int .i64 0]) HF HT zr61 rfl rfl rfl (fun p3 w HT hb => ⟨nS, fun a HF => ?_⟩)
          refine wc_storeB (cs' := [.int .i64 e1.a, .int .i64 e1.b, .int .i64 e1.c]) HF HT rfl rfl (fun w => (ag61 w).2) rfl rfl rfl rfl rfl (fun w HT => ⟨nS, ?_⟩)
          refine wc_end ?_
          refine then_n ?_
          refine wc_text ?_
          refine wc_move HF nS rfl rfl rfl (fun a HF => ?_)
          refine wc_faddr HF nS rfl fl61_0 rfl rfl (fun a HF => ?_)
          refine wc_load HF rfl sc3 ((HT.boxAt 0 rfl).get 0 rfl) rfl rfl (fun a HF => ?_)
          refine wc_bslice (l := ([e1.a] : List Int)) (cs := [.int .i64 e1.a]) (A := []) HF HT bs38_1 rfl rfl (gives_flat rfl) rfl (by decide) rfl rfl (fun p4 w HT hb => ⟨nS, fun a HF => ?_⟩)
          obtain ⟨hg1, h⟩ := grd h
          have HT : St w0 (fun _ => False) w [Own 3 (rowT z2) (.slice a2 z2.length c2), Own 3 (rowT ([e1.a] : List Int)) (.slice (some ⟨p4, 0, none⟩) 1 1), Box p3 [.int .i64 e1.a, .int .i64 e1.b, .int .i64 e1.c]] := HT.pick 2
          refine wc_append HF HT el38 rfl rfl (Nat.zero_lt_succ _) hg1 rfl rfl rfl (fun a3 c3 w HT => ⟨nS, fun a HF => ?_⟩)
          refine wc_assign HF nS rfl rfl rfl (fun a HF => ?_)
          refine wc_end ?_
          refine blk_n ?_
          refine then_n ?_
          refine wc_text ?_
          obtain ⟨hg2, h⟩ := grd h
          refine wc_bin HF nS rfl rfl (b_add hg2) rfl rfl (fun a HF => ?_)
          refine wc_move HF nS rfl rfl rfl (fun a HF => ?_)
          refine wc_end ?_
          have HT : St w0 (fun _ => False) w [Own 3 (rowT (z2 ++ ([e1.a] : List Int))) (.slice a3 ((z2 ++ ([e1.a] : List Int)).length) c3)] := HT.take 1
          exact then_n ⟨k1, Nat.lt_succ_self k1, z2 ++ ([e1.a] : List Int), z3 + 1, a3, (z2 ++ ([e1.a] : List Int)).length, c3, h, (HF.keep (HF.keep (HF.keep (HF.keep HF.nil rfl) rfl) rfl) rfl), HT⟩
        · have h := (if_neg hb2).symm.trans h
          refine wp_if (b' := false) HF rfl (decide_eq_false hb2) ?_
          refine wp_exit ?_
          refine then_x (then_x (?_))
          refine blk_x ?_
          obtain rfl := Option.some.inj h
          exact then_n ⟨a2, z2.length, c2, (HF.keep HF.nil rfl), HT⟩
    · rintro a w ⟨a1, n1, c1, HF, HT⟩
      obtain rfl := (HT.rdAt 0 rfl).neq
      refine ?_
      refine wp_seq ?_
      refine wc_text ?_
      refine wc_move HF nS rfl rfl rfl (fun a HF => ?_)
      refine wc_assign HF nS rfl rfl rfl (fun a HF => ?_)
      refine wc_end ?_
      refine then_n ?_
      refine wp_ret ?_
      obtain rfl := Option.some.inj h
      refine bp_ret HF (res_one rfl HF rfl) ?_
      exact ⟨a1, z1.length, c1, rfl, HT⟩
  · have h := (if_neg hb1).symm.trans h
    refine wp_if (b' := true) HF rfl (notF (Bool.eq_false_iff.2 hb1)) ?_
    refine wp_seq ?_
    refine wc_text ?_
    refine wc_assign HF nS rfl rfl rfl (fun a HF => ?_)
    refine wc_end ?_
    refine then_n ?_
    refine wp_ret ?_
    have HT : St w0 (fun _ => False) w [Own 3 (rowT ([] : List Int)) (.slice none 0 0), Box p1 [.int .i64 x0_0, .slice a_x0_1 x0_1.length c_x0_1]] := HT.nilrow 3
    obtain rfl := Option.some.inj h
    refine then_r (?_)
    refine bp_ret HF (res_one rfl HF rfl) ?_
    have HT : St w0 (fun _ => False) w [Own 3 (rowT ([] : List Int)) (.slice none 0 0)] := HT.take 1
    exact ⟨none, 0, 0, rfl, HT⟩

def m_laws_big (fuel : Nat) (x0 : List UInt8) : Option Bool :=
  some (decide (1048576 < (x0.length : Int)))

set_option maxRecDepth 100000 in
set_option maxHeartbeats 4000000 in
theorem w_laws_big (fuel : Nat) {x0 : List UInt8} {a_x0 : Option Addr} {n_x0 c_x0 : Nat} {r0 : Bool} {w0 : World} (h : m_laws_big fuel x0 = some r0) (hr_x0 : RdT (fun b => ¬ False) w0 (rowT x0) (.slice a_x0 n_x0 c_x0)) :
    Calls Try.prog 40 #[.slice a_x0 n_x0 c_x0] w0 fun e w => e = .returned (.bool r0) ∧ St w0 (fun _ => False) w [] := by
  obtain rfl := hr_x0.neq
  have HT : St w0 (fun _ => False) w0 [] := St.init0
  rw [m_laws_big] at h
  refine calls_fr (n := 6) [.slice a_x0 x0.length c_x0] Try.func40 rfl rfl rfl (fun a HF => ?_)
  have HT : St w0 (fun _ => False) w0 [] := HT
  refine wp_seq ?_
  refine wc_text ?_
  refine wc_assign HF nS rfl rfl rfl (fun a HF => ?_)
  refine wc_end ?_
  refine then_n ?_
  refine wp_seq ?_
  refine wc_text ?_
  refine wc_move HF nS rfl rfl rfl (fun a HF => ?_)
  refine wc_lenR HF nS Try.underlying53 rfl rfl rfl (fun a HF => ?_)
  refine wc_bin HF nS rfl rfl b_gt rfl rfl (fun a HF => ?_)
  refine wc_assign HF nS rfl rfl rfl (fun a HF => ?_)
  refine wc_end ?_
  refine then_n ?_
  refine wp_ret ?_
  obtain rfl := Option.some.inj h
  refine bp_ret HF (res_one rfl HF rfl) ?_
  exact ⟨rfl, HT⟩

def m_laws_sameInts_L0 (fuel : Nat) (x0 : List Int) (x1 : List Int) : Nat → Int → Option (Lp Unit Bool)
  | 0, _ => none
  | k1 + 1, z1 =>
    if z1 < (x0.length : Int) then
      (at? x0 z1).bind fun e1 =>
      (at? x1 z1).bind fun e2 =>
      if e1 = e2 then
        if in64 (z1 + 1) then
          m_laws_sameInts_L0 fuel x0 x1 k1 (z1 + 1)
        else none
      else
        some (.ret false)
    else
      some (.brk ())

def m_laws_sameInts (fuel : Nat) (x0 : List Int) (x1 : List Int) : Option Bool :=
  if (x0.length : Int) = (x1.length : Int) then
    (m_laws_sameInts_L0 fuel x0 x1 fuel 0).bind <| contL <| un1 fun _ =>
    some true
  else
    some false

set_option maxRecDepth 100000 in
set_option maxHeartbeats 4000000 in
theorem w_laws_sameInts (fuel : Nat) {x0 : List Int} {x1 : List Int} {a_x0 : Option Addr} {n_x0 c_x0 : Nat} {a_x1 : Option Addr} {n_x1 c_x1 : Nat} {r0 : Bool} {w0 : World} (h : m_laws_sameInts fuel x0 x1 = some r0) (hr_x0 : RdT (fun b => ¬ False) w0 (rowT x0) (.slice a_x0 n_x0 c_x0)) (hr_x1 : RdT (fun b => ¬ False) w0 (rowT x1) (.slice a_x1 n_x1 c_x1)) :
    Calls Try.prog 44 #[.slice a_x0 n_x0 c_x0, .slice a_x1 n_x1 c_x1] w0 fun e w => e = .returned (.bool r0) ∧ St w0 (fun _ => False) w [] := by
  obtain rfl := hr_x0.neq
  obtain rfl := hr_x1.neq
  have HT : St w0 (fun _ => False) w0 [] := St.init0
  rw [m_laws_sameInts] at h
  refine calls_fr (n := 26) [.slice a_x0 x0.length c_x0, .slice a_x1 x1.length c_x1] Try.func44 rfl rfl rfl (fun a HF => ?_)
  have HT : St w0 (fun _ => False) w0 [] := HT
  refine wp_seq ?_
  refine wc_text ?_
  refine wc_assign HF nS rfl rfl rfl (fun a HF => ?_)
  refine wc_end ?_
  refine then_n ?_
  refine wp_seq ?_
  refine wp_seq ?_
  refine wc_text ?_
  refine wc_move HF nS rfl rfl rfl (fun a HF => ?_)
  refine wc_lenR HF nS Try.underlying38 rfl rfl rfl (fun a HF => ?_)
  refine wc_move HF nS rfl rfl rfl (fun a HF => ?_)
  refine wc_lenR HF nS Try.underlying38 rfl rfl rfl (fun a HF => ?_)
  refine wc_bin HF nS rfl rfl b_ne rfl rfl (fun a HF => ?_)
  refine wc_end ?_
  refine then_n ?_
  by_cases hb1 : (x0.length : Int) = (x1.length : Int)
  · have h := (if_pos hb1).symm.trans h
    refine wp_if (b' := false) HF rfl (notT (decide_eq_true hb1)) ?_
    refine wp_skip ?_
    refine then_n ?_
    obtain ⟨q1, hx1, h⟩ := obs h
    refine wp_cut (fun a w => q1 = .brk () ∧ Fr a 26 [] ∧ St w0 (fun _ => False) w []) ?_ ?_
    · have hk1 := h
      have h := hx1
      refine wp_seq ?_
      refine wc_text ?_
      refine wc_assign HF nS rfl rfl rfl (fun a HF => ?_)
      refine wc_end ?_
      refine then_n ?_
      refine wp_block ?_
      refine wp_loopN (fun k1 a w => ∃ z1, m_laws_sameInts_L0 fuel x0 x1 k1 z1 = some q1 ∧ Fr a 26 [(0, .slice a_x0 x0.length c_x0), (1, .slice a_x1 x1.length c_x1), (5, .int .i64 z1)] ∧ St w0 (fun _ => False) w []) fuel ⟨0, h, (HF.keep (HF.keep (HF.keep HF.nil rfl) rfl) rfl), HT⟩ ?_
      rintro k1 a w ⟨z1, h, HF, HT⟩
      cases k1 with
      | zero => cases h
      | succ k1 =>
        rw [m_laws_sameInts_L0] at h
        refine ?_
        refine wp_seq ?_
        refine wp_seq ?_
        refine wc_text ?_
        refine wc_move HF nS rfl rfl rfl (fun a HF => ?_)
        refine wc_move HF nS rfl rfl rfl (fun a HF => ?_)
        refine wc_lenR HF nS Try.underlying38 rfl rfl rfl (fun a HF => ?_)
        refine wc_bin HF nS rfl rfl b_lt rfl rfl (fun a HF => ?_)
        refine wc_end ?_
        refine then_n ?_
        by_cases hb2 : z1 < (x0.length : Int)
        · have h := (if_pos hb2).symm.trans h
          refine wp_if (b' := true) HF rfl (decide_eq_true hb2) ?_
          refine wp_skip ?_
          refine then_n ?_
          refine wp_seq ?_
          refine wp_block ?_
          refine wp_seq ?_
          refine wp_region_can [(0, true), (1, true), (2, true), (3, true), (4, true), (5, true), (6, true), (7, true), (8, true)] (fun w' => True) (by kernel_rfl) (by kernel_rfl) ?_
          have HT : St w0 (fun _ => False) w.drew [] := HT.drew
          refine wc_move HF nS rfl rfl rfl (fun a HF => ?_)
          refine wc_move HF nS rfl rfl rfl (fun a HF => ?_)
          obtain ⟨e1, hx2, h⟩ := obs h
          obtain ⟨b1, o1, ha1⟩ := (HT.ro hr_x0).any.addr hx2
          refine wc_ixaddr HF nS el38 rfl ha1 ((HT.ro hr_x0).any).neq rfl hx2 rfl rfl (fun a HF => ?_)
          have hc1 := (HT.ro hr_x0).any.flatAt ha1 hx2
          refine wc_load HF rfl sc3 (hc1.get 0 rfl) rfl rfl (fun a HF => ?_)
          refine wc_move HF nS rfl rfl rfl (fun a HF => ?_)
          refine wc_move HF nS rfl rfl rfl (fun a HF => ?_)
          obtain ⟨e2, hx3, h⟩ := obs h
          obtain ⟨b2, o2, ha2⟩ := (HT.ro hr_x1).any.addr hx3
          refine wc_ixaddr HF nS el38 rfl ha2 ((HT.ro hr_x1).any).neq rfl hx3 rfl rfl (fun a HF => ?_)
          have hc2 := (HT.ro hr_x1).any.flatAt ha2 hx3
          refine wc_load HF rfl sc3 (hc2.get 0 rfl) rfl rfl (fun a HF => ?_)
          refine wc_bin HF nS rfl rfl b_ne rfl rfl (fun a HF => ?_)
          refine wc_endN ?_
          refine then_n ?_
          by_cases hb3 : e1 = e2
          · have h := (if_pos hb3).symm.trans h
            refine wp_if (b' := false) HF rfl (notT (decide_eq_true hb3)) ?_
            refine wp_skip ?_
            refine blk_n ?_
            refine then_n ?_
            refine wc_text ?_
            refine wc_move HF nS rfl rfl rfl (fun a HF => ?_)
            obtain ⟨hg1, h⟩ := grd h
            refine wc_bin HF nS rfl rfl (b_add hg1) rfl rfl (fun a HF => ?_)
            refine wc_assign HF nS rfl rfl rfl (fun a HF => ?_)
            refine wc_end ?_
            exact then_n ⟨k1, Nat.lt_succ_self k1, z1 + 1, h, (HF.keep (HF.keep (HF.keep HF.nil rfl) rfl) rfl), HT⟩
          · have h := (if_neg hb3).symm.trans h
            refine wp_if (b' := true) HF rfl (notF (decide_eq_false hb3)) ?_
            refine wp_seq ?_
            refine wc_text ?_
            refine wc_assign HF nS rfl rfl rfl (fun a HF => ?_)
            refine wc_end ?_
            refine then_n ?_
            refine wp_ret ?_
            obtain rfl := Option.some.inj h
            have h := retL hk1
            obtain rfl := Option.some.inj h
            refine blk_r (then_r (then_r (blk_r (then_r (?_)))))
            refine bp_ret HF (res_one rfl HF rfl) ?_
            exact ⟨rfl, HT⟩
        · have h := (if_neg hb2).symm.trans h
          refine wp_if (b' := false) HF rfl (decide_eq_false hb2) ?_
          refine wp_exit ?_
          refine then_x (then_x (?_))
          refine blk_x ?_
          exact then_n ⟨(Option.some.inj h).symm, HF.nil, HT⟩
    · rintro a w ⟨rfl, HF, HT⟩
      have h := brkL1u h
      refine ?_
      refine wp_seq ?_
      refine wc_text ?_
      refine wc_assign HF nS rfl rfl rfl (fun a HF => ?_)
      refine wc_end ?_
      refine then_n ?_
      refine wp_ret ?_
      obtain rfl := Option.some.inj h
      refine bp_ret HF (res_one rfl HF rfl) ?_
      exact ⟨rfl, HT⟩
  · have h := (if_neg hb1).symm.trans h
    refine wp_if (b' := true) HF rfl (notF (decide_eq_false hb1)) ?_
    refine wp_seq ?_
    refine wc_text ?_
    refine wc_assign HF nS rfl rfl rfl (fun a HF => ?_)
    refine wc_end ?_
    refine then_n ?_
    refine wp_ret ?_
    obtain rfl := Option.some.inj h
    refine then_r (?_)
    refine bp_ret HF (res_one rfl HF rfl) ?_
    exact ⟨rfl, HT⟩

def m_laws_sameMem_L0 (fuel : Nat) (x0_1 : List I3) (x1_1 : List I3) : Nat → Int → Option (Lp Unit Bool)
  | 0, _ => none
  | k1 + 1, z1 =>
    if z1 < (x0_1.length : Int) then
      (at? x0_1 z1).bind fun e1 =>
      (at? x1_1 z1).bind fun e2 =>
      if [e1.a, e1.b, e1.c] = [e2.a, e2.b, e2.c] then
        if in64 (z1 + 1) then
          m_laws_sameMem_L0 fuel x0_1 x1_1 k1 (z1 + 1)
        else none
      else
        some (.ret false)
    else
      some (.brk ())

def m_laws_sameMem (fuel : Nat) (x0_0 : Int) (x0_1 : List I3) (x1_0 : Int) (x1_1 : List I3) : Option Bool :=
  if x0_0 = x1_0 then
    if (x0_1.length : Int) = (x1_1.length : Int) then
      (m_laws_sameMem_L0 fuel x0_1 x1_1 fuel 0).bind <| contL <| un1 fun _ =>
      some true
    else
      some false
  else
    some false

set_option maxRecDepth 100000 in
set_option maxHeartbeats 4000000 in
theorem w_laws_sameMem (fuel : Nat) {x0_0 : Int} {x0_1 : List I3} {x1_0 : Int} {x1_1 : List I3} {a_x0_1 : Option Addr} {n_x0_1 c_x0_1 : Nat} {a_x1_1 : Option Addr} {n_x1_1 c_x1_1 : Nat} {r0 : Bool} {w0 : World} (h : m_laws_sameMem fuel x0_0 x0_1 x1_0 x1_1 = some r0) (hr_x0_1 : RdT (fun b => ¬ False) w0 (rowT x0_1) (.slice a_x0_1 n_x0_1 c_x0_1)) (hr_x1_1 : RdT (fun b => ¬ False) w0 (rowT x1_1) (.slice a_x1_1 n_x1_1 c_x1_1)) :
    Calls Try.prog 42 #[.agg #[.int .i64 x0_0, .slice a_x0_1 n_x0_1 c_x0_1], .agg #[.int .i64 x1_0, .slice a_x1_1 n_x1_1 c_x1_1]] w0 fun e w => e = .returned (.bool r0) ∧ St w0 (fun _ => False) w [] := by
  obtain rfl := hr_x0_1.neq
  obtain rfl := hr_x1_1.neq
  have HT : St w0 (fun _ => False) w0 [] := St.init0
  rw [m_laws_sameMem] at h
  refine calls_fr (n := 38) [.agg #[.int .i64 x0_0, .slice a_x0_1 x0_1.length c_x0_1], .agg #[.int .i64 x1_0, .slice a_x1_1 x1_1.length c_x1_1]] Try.func42 rfl rfl rfl (fun a HF => ?_)
  have HT : St w0 (fun _ => False) w0 [] := HT
  refine wp_seq ?_
  refine wc_text ?_
  refine wc_box (cs := [.int .i64 x0_0, .slice a_x0_1 x0_1.length c_x0_1]) HF HT rfl rfl rfl rfl (fun p1 w HT hb => ⟨nS, fun a HF => ?_⟩)
  refine wc_box (cs := [.int .i64 x1_0, .slice a_x1_1 x1_1.length c_x1_1]) HF HT rfl rfl rfl rfl (fun p2 w HT hb => ⟨nS, fun a HF => ?_⟩)
  refine wc_assign HF nS rfl rfl rfl (fun a HF => ?_)
  refine wc_end ?_
  refine then_n ?_
  refine wp_seq ?_
  refine wp_seq ?_
  refine wc_text ?_
  refine wc_faddr HF nS rfl fl29_0 rfl rfl (fun a HF => ?_)
  refine wc_load HF rfl sc3 ((HT.boxAt 1 rfl).get 0 rfl) rfl rfl (fun a HF => ?_)
  refine wc_faddr HF nS rfl fl29_0 rfl rfl (fun a HF => ?_)
  refine wc_load HF rfl sc3 ((HT.boxAt 0 rfl).get 0 rfl) rfl rfl (fun a HF => ?_)
  refine wc_bin HF nS rfl rfl b_ne rfl rfl (fun a HF => ?_)
  refine wc_move HF nS rfl rfl rfl (fun a HF => ?_)
  by_cases hb1 : x0_0 = x1_0
  · have h := (if_pos hb1).symm.trans h
    refine wc_faddr HF nS rfl fl29_1 (HF.wy rfl rfl rfl rfl (notT (decide_eq_true hb1))) rfl (fun a HF => ?_)
    refine wc_load HF rfl sc27 ((HT.boxAt 1 rfl).get 1 rfl) (HF.wy rfl rfl rfl rfl (notT (decide_eq_true hb1))) rfl (fun a HF => ?_)
    refine wc_lenR HF nS Try.underlying27 rfl (HF.wy rfl rfl rfl rfl (notT (decide_eq_true hb1))) rfl (fun a HF => ?_)
    refine wc_faddr HF nS rfl fl29_1 (HF.wy rfl rfl rfl rfl (notT (decide_eq_true hb1))) rfl (fun a HF => ?_)
    refine wc_load HF rfl sc27 ((HT.boxAt 0 rfl).get 1 rfl) (HF.wy rfl rfl rfl rfl (notT (decide_eq_true hb1))) rfl (fun a HF => ?_)
    refine wc_lenR HF nS Try.underlying27 rfl (HF.wy rfl rfl rfl rfl (notT (decide_eq_true hb1))) rfl (fun a HF => ?_)
    refine wc_bin HF nS rfl rfl b_ne (HF.wy rfl rfl rfl rfl (notT (decide_eq_true hb1))) rfl (fun a HF => ?_)
    refine wc_pick (b := false) HF nS rfl (notT (decide_eq_true hb1)) rfl rfl rfl (fun a HF => ?_)
    refine wc_end ?_
    refine then_n ?_
    by_cases hb2 : (x0_1.length : Int) = (x1_1.length : Int)
    · have h := (if_pos hb2).symm.trans h
      refine wp_if (b' := false) HF rfl (notT (decide_eq_true hb2)) ?_
      refine wp_skip ?_
      refine then_n ?_
      obtain ⟨q1, hx1, h⟩ := obs h
      refine wp_cut (fun a w => q1 = .brk () ∧ Fr a 38 [] ∧ St w0 (fun _ => False) w []) ?_ ?_
      · have hk1 := h
        have h := hx1
        refine wp_seq ?_
        refine wc_text ?_
        refine wc_assign HF nS rfl rfl rfl (fun a HF => ?_)
        refine wc_end ?_
        refine then_n ?_
        refine wp_block ?_
        have HT : St w0 (fun _ => False) w [Box p1 [.int .i64 x0_0, .slice a_x0_1 x0_1.length c_x0_1], Box p2 [.int .i64 x1_0, .slice a_x1_1 x1_1.length c_x1_1]] := HT.pick 1
        refine wp_loopN (fun k1 a w => ∃ z1, m_laws_sameMem_L0 fuel x0_1 x1_1 k1 z1 = some q1 ∧ Fr a 38 [(2, .pointer (some ⟨p1, 0, none⟩)), (3, .pointer (some ⟨p2, 0, none⟩)), (5, .int .i64 z1)] ∧ St w0 (fun _ => False) w [Box p1 [.int .i64 x0_0, .slice a_x0_1 x0_1.length c_x0_1], Box p2 [.int .i64 x1_0, .slice a_x1_1 x1_1.length c_x1_1]]) fuel ⟨0, h, (HF.keep (HF.keep (HF.keep HF.nil rfl) rfl) rfl), HT⟩ ?_
        rintro k1 a w ⟨z1, h, HF, HT⟩
        cases k1 with
        | zero => cases h
        | succ k1 =>
          rw [m_laws_sameMem_L0] at h
          refine ?_
          refine wp_seq ?_
          refine wp_seq ?_
          refine wc_text ?_
          refine wc_move HF nS rfl rfl rfl (fun a HF => ?_)
          refine wc_faddr HF nS rfl fl29_1 rfl rfl (fun a HF => ?_)
          refine wc_load HF rfl sc27 ((HT.boxAt 0 rfl).get 1 rfl) rfl rfl (fun a HF => ?_)
          refine wc_lenR HF nS Try.underlying27 rfl rfl rfl (fun a HF => ?_)
          refine wc_bin HF nS rfl rfl b_lt rfl rfl (fun a HF => ?_)
          refine wc_end ?_
          refine then_n ?_
          by_cases hb3 : z1 < (x0_1.length : Int)
          · have h := (if_pos hb3).symm.trans h
            refine wp_if (b' := true) HF rfl (decide_eq_true hb3) ?_
            refine wp_skip ?_
            refine then_n ?_
            refine wp_seq ?_
            refine wp_block ?_
            refine wp_seq ?_
            refine wp_region_can [(0, true), (1, true), (2, true), (3, true), (4, true), (5, true), (6, true), (7, true), (8, true), (9, true), (10, true)] (fun w' => True) (by kernel_rfl) (by kernel_rfl) ?_
            have HT : St w0 (fun _ => False) w.drew [Box p1 [.int .i64 x0_0, .slice a_x0_1 x0_1.length c_x0_1], Box p2 [.int .i64 x1_0, .slice a_x1_1 x1_1.length c_x1_1]] := HT.drew
            refine wc_faddr HF nS rfl fl29_1 rfl rfl (fun a HF => ?_)
            refine wc_load HF rfl sc27 ((HT.boxAt 0 rfl).get 1 rfl) rfl rfl (fun a HF => ?_)
            refine wc_move HF nS rfl rfl rfl (fun a HF => ?_)
            obtain ⟨e1, hx2, h⟩ := obs h
            obtain ⟨b1, o1, ha1⟩ := (HT.ro hr_x0_1).any.addr hx2
            refine wc_ixaddr HF nS el27 rfl ha1 ((HT.ro hr_x0_1).any).neq rfl hx2 rfl rfl (fun a HF => ?_)
            have hc1 := (HT.ro hr_x0_1).any.flatAt ha1 hx2
            refine wc_loadA (vs := [.int .i64 e1.a, .int .i64 e1.b, .int .i64 e1.c]) HF rfl ag61 rfl (hc1.part 0 3) rfl rfl (fun a HF => ?_)
            refine wc_faddr HF nS rfl fl29_1 rfl rfl (fun a HF => ?_)
            refine wc_load HF rfl sc27 ((HT.boxAt 1 rfl).get 1 rfl) rfl rfl (fun a HF => ?_)
            refine wc_move HF nS rfl rfl rfl (fun a HF => ?_)
            obtain ⟨e2, hx3, h⟩ := obs h
            obtain ⟨b2, o2, ha2⟩ := (HT.ro hr_x1_1).any.addr hx3
            refine wc_ixaddr HF nS el27 rfl ha2 ((HT.ro hr_x1_1).any).neq rfl hx3 rfl rfl (fun a HF => ?_)
            have hc2 := (HT.ro hr_x1_1).any.flatAt ha2 hx3
            refine wc_loadA (vs := [.int .i64 e2.a, .int .i64 e2.b, .int .i64 e2.c]) HF rfl ag61 rfl (hc2.part 0 3) rfl rfl (fun a HF => ?_)
            refine wc_bin HF nS rfl rfl (b_ane eq61 [e1.a, e1.b, e1.c] [e2.a, e2.b, e2.c] rfl rfl) rfl rfl (fun a HF => ?_)
            refine wc_endN ?_
            refine then_n ?_
            by_cases hb4 : [e1.a, e1.b, e1.c] = [e2.a, e2.b, e2.c]
            · have h := (if_pos hb4).symm.trans h
              refine wp_if (b' := false) HF rfl (notT (decide_eq_true hb4)) ?_
              refine wp_skip ?_
              refine blk_n ?_
              refine then_n ?_
              refine wc_text ?_
              refine wc_move HF nS rfl rfl rfl (fun a HF => ?_)
              obtain ⟨hg1, h⟩ := grd h
              refine wc_bin HF nS rfl rfl (b_add hg1) rfl rfl (fun a HF => ?_)
              refine wc_assign HF nS rfl rfl rfl (fun a HF => ?_)
              refine wc_end ?_
              exact then_n ⟨k1, Nat.lt_succ_self k1, z1 + 1, h, (HF.keep (HF.keep (HF.keep HF.nil rfl) rfl) rfl), HT⟩
            · have h := (if_neg hb4).symm.trans h
              refine wp_if (b' := true) HF rfl (notF (decide_eq_false hb4)) ?_
              refine wp_seq ?_
              refine wc_text ?_
              refine wc_assign HF nS rfl rfl rfl (fun a HF => ?_)
              refine wc_end ?_
              refine then_n ?_
              refine wp_ret ?_
              obtain rfl := Option.some.inj h
              have h := retL hk1
              obtain rfl := Option.some.inj h
              refine blk_r (then_r (then_r (blk_r (then_r (?_)))))
              refine bp_ret HF (res_one rfl HF rfl) ?_
              have HT : St w0 (fun _ => False) w.drew [] := HT.take 0
              exact ⟨rfl, HT⟩
          · have h := (if_neg hb3).symm.trans h
            refine wp_if (b' := false) HF rfl (decide_eq_false hb3) ?_
            refine wp_exit ?_
            refine then_x (then_x (?_))
            refine blk_x ?_
            have HT : St w0 (fun _ => False) w [] := HT.take 0
            exact then_n ⟨(Option.some.inj h).symm, HF.nil, HT⟩
      · rintro a w ⟨rfl, HF, HT⟩
        have h := brkL1u h
        refine ?_
        refine wp_seq ?_
        refine wc_text ?_
        refine wc_assign HF nS rfl rfl rfl (fun a HF => ?_)
        refine wc_end ?_
        refine then_n ?_
        refine wp_ret ?_
        obtain rfl := Option.some.inj h
        refine bp_ret HF (res_one rfl HF rfl) ?_
        exact ⟨rfl, HT⟩
    · have h := (if_neg hb2).symm.trans h
      refine wp_if (b' := true) HF rfl (notF (decide_eq_false hb2)) ?_
      refine wp_seq ?_
      refine wc_text ?_
      refine wc_assign HF nS rfl rfl rfl (fun a HF => ?_)
      refine wc_end ?_
      refine then_n ?_
      refine wp_ret ?_
      obtain rfl := Option.some.inj h
      refine then_r (?_)
      refine bp_ret HF (res_one rfl HF rfl) ?_
      have HT : St w0 (fun _ => False) w [] := HT.take 0
      exact ⟨rfl, HT⟩
  · have h := (if_neg hb1).symm.trans h
    refine wc_skip HF nS (HF.wn rfl rfl rfl rfl (notF (decide_eq_false hb1))) rfl (fun a HF => ?_)
    refine wc_skip HF nS (HF.wn rfl rfl rfl rfl (notF (decide_eq_false hb1))) rfl (fun a HF => ?_)
    refine wc_skip HF nS (HF.wn rfl rfl rfl rfl (notF (decide_eq_false hb1))) rfl (fun a HF => ?_)
    refine wc_skip HF nS (HF.wn rfl rfl rfl rfl (notF (decide_eq_false hb1))) rfl (fun a HF => ?_)
    refine wc_skip HF nS (HF.wn rfl rfl rfl rfl (notF (decide_eq_false hb1))) rfl (fun a HF => ?_)
    refine wc_skip HF nS (HF.wn rfl rfl rfl rfl (notF (decide_eq_false hb1))) rfl (fun a HF => ?_)
    refine wc_skip HF nS (HF.wn rfl rfl rfl rfl (notF (decide_eq_false hb1))) rfl (fun a HF => ?_)
    refine wc_pick (b := true) HF nS rfl (notF (decide_eq_false hb1)) rfl rfl rfl (fun a HF => ?_)
    refine wc_end ?_
    refine then_n ?_
    refine wp_if (b' := true) HF rfl rfl ?_
    refine wp_seq ?_
    refine wc_text ?_
    refine wc_assign HF nS rfl rfl rfl (fun a HF => ?_)
    refine wc_end ?_
    refine then_n ?_
    refine wp_ret ?_
    obtain rfl := Option.some.inj h
    refine then_r (?_)
    refine bp_ret HF (res_one rfl HF rfl) ?_
    have HT : St w0 (fun _ => False) w [] := HT.take 0
    exact ⟨rfl, HT⟩

def m_spec_l1New_L0 (fuel : Nat) (x0 : List UInt8) : Nat → Int → Int → Option Int
  | 0, _, _ => none
  | k1 + 1, z2, z3 =>
    if z3 < (x0.length : Int) then
      if z3 < 4000 then
        if in64 (z2 * 131) then
          (at? x0 z3).bind fun e1 =>
          if in64 ((z2 * 131) + (e1.toNat : Int)) then
            if in64 (((z2 * 131) + (e1.toNat : Int)) + 7) then
              if in64 (z3 + 1) then
                m_spec_l1New_L0 fuel x0 k1 (bits .and .i64 (((z2 * 131) + (e1.toNat : Int)) + 7) 1073741823) (z3 + 1)
              else none
            else none
          else none
        else none
      else
        some z2
    else
      some z2

def m_spec_l1New (fuel : Nat) (x0 : List UInt8) : Option (Int × Int) :=
  if in64 (10101 + (x0.length : Int)) then
    (m_spec_l1New_L0 fuel x0 fuel (10101 + (x0.length : Int)) 0).bind fun z1 =>
    some (0, z1)
  else none

set_option maxRecDepth 100000 in
set_option maxHeartbeats 4000000 in
theorem w_spec_l1New (fuel : Nat) {x0 : List UInt8} {a_x0 : Option Addr} {n_x0 c_x0 : Nat} {r0_1 : Int} {r0_2 : Int} {w0 : World} (h : m_spec_l1New fuel x0 = some (r0_1, r0_2)) (hr_x0 : RdT (fun b => ¬ False) w0 (rowT x0) (.slice a_x0 n_x0 c_x0)) :
    Calls Try.prog 62 #[.slice a_x0 n_x0 c_x0] w0 fun e w => ∃ q_r0, e = .returned (.pointer (some ⟨q_r0, 0, none⟩)) ∧ St w0 (fun _ => False) w [Box q_r0 [.slice a_x0 n_x0 c_x0, .int .i64 r0_1, .int .i64 r0_2]] := by
  obtain rfl := hr_x0.neq
  have HT : St w0 (fun _ => False) w0 [] := St.init0
  rw [m_spec_l1New] at h
  refine calls_fr (n := 32) [.slice a_x0 x0.length c_x0] Try.func62 rfl rfl rfl (fun a HF => ?_)
  have HT : St w0 (fun _ => False) w0 [] := HT
  refine wp_seq ?_
  refine wc_text ?_
  refine wc_assign HF nS rfl rfl rfl (fun a HF => ?_)
  refine wc_end ?_
  refine then_n ?_
  refine wp_seq ?_
  refine wc_text ?_
  refine wc_move HF nS rfl rfl rfl (fun a HF => ?_)
  refine wc_lenR HF nS Try.underlying53 rfl rfl rfl (fun a HF => ?_)
  obtain ⟨hg1, h⟩ := grd h
  refine wc_bin HF nS rfl rfl (b_add hg1) rfl rfl (fun a HF => ?_)
  refine wc_assign HF nS rfl rfl rfl (fun a HF => ?_)
  refine wc_end ?_
  refine then_n ?_
  obtain ⟨z1, hx1, h⟩ := obs h
  refine wp_cut (fun a w => Fr a 32 [(0, .slice a_x0 x0.length c_x0), (3, .int .i64 z1)] ∧ St w0 (fun _ => False) w []) ?_ ?_
  · have hk1 := h
    have h := hx1
    refine wp_seq ?_
    refine wc_text ?_
    refine wc_assign HF nS rfl rfl rfl (fun a HF => ?_)
    refine wc_end ?_
    refine then_n ?_
    refine wp_block ?_
    refine wp_loopN (fun k1 a w => ∃ z2 z3, m_spec_l1New_L0 fuel x0 k1 z2 z3 = some z1 ∧ Fr a 32 [(0, .slice a_x0 x0.length c_x0), (3, .int .i64 z2), (4, .int .i64 z3)] ∧ St w0 (fun _ => False) w []) fuel ⟨10101 + (x0.length : Int), 0, h, (HF.keep (HF.keep (HF.keep HF.nil rfl) rfl) rfl), HT⟩ ?_
    rintro k1 a w ⟨z2, z3, h, HF, HT⟩
    cases k1 with
    | zero => cases h
    | succ k1 =>
      rw [m_spec_l1New_L0] at h
      refine ?_
      refine wp_seq ?_
      refine wp_seq ?_
      refine wc_text ?_
      refine wc_move HF nS rfl rfl rfl (fun a HF => ?_)
      refine wc_move HF nS rfl rfl rfl (fun a HF => ?_)
      refine wc_lenR HF nS Try.underlying53 rfl rfl rfl (fun a HF => ?_)
      refine wc_bin HF nS rfl rfl b_lt rfl rfl (fun a HF => ?_)
      refine wc_move HF nS rfl rfl rfl (fun a HF => ?_)
      by_cases hb1 : z3 < (x0.length : Int)
      · have h := (if_pos hb1).symm.trans h
        refine wc_move HF nS rfl (HF.wy rfl rfl rfl rfl (decide_eq_true hb1)) rfl (fun a HF => ?_)
        refine wc_bin HF nS rfl rfl b_lt (HF.wy rfl rfl rfl rfl (decide_eq_true hb1)) rfl (fun a HF => ?_)
        refine wc_pick (b := true) HF nS rfl (decide_eq_true hb1) rfl rfl rfl (fun a HF => ?_)
        refine wc_end ?_
        refine then_n ?_
        by_cases hb2 : z3 < 4000
        · have h := (if_pos hb2).symm.trans h
          refine wp_if (b' := true) HF rfl (decide_eq_true hb2) ?_
          refine wp_skip ?_
          refine then_n ?_
          refine wp_seq ?_
          refine wp_block ?_
          refine wc_text ?_
          refine wc_move HF nS rfl rfl rfl (fun a HF => ?_)
          obtain ⟨hg2, h⟩ := grd h
          refine wc_bin HF nS rfl rfl (b_mul hg2) rfl rfl (fun a HF => ?_)
          refine wc_move HF nS rfl rfl rfl (fun a HF => ?_)
          refine wc_move HF nS rfl rfl rfl (fun a HF => ?_)
          obtain ⟨e1, hx2, h⟩ := obs h
          obtain ⟨b1, o1, ha1⟩ := (HT.ro hr_x0).any.addr hx2
          refine wc_ixaddr HF nS el53 rfl ha1 ((HT.ro hr_x0).any).neq rfl hx2 rfl rfl (fun a HF => ?_)
          have hc1 := (HT.ro hr_x0).any.flatAt ha1 hx2
          refine wc_load HF rfl sc5 (hc1.get 0 rfl) rfl rfl (fun a HF => ?_)
          refine wc_cvu HF nS Try.underlying3 Try.underlying5 rfl rfl rfl (fun a HF => ?_)
          obtain ⟨hg3, h⟩ := grd h
          refine wc_bin HF nS rfl rfl (b_add hg3) rfl rfl (fun a HF => ?_)
          obtain ⟨hg4, h⟩ := grd h
          refine wc_bin HF nS rfl rfl (b_add hg4) rfl rfl (fun a HF => ?_)
          refine wc_bin HF nS rfl rfl b_and rfl rfl (fun a HF => ?_)
          refine wc_assign HF nS rfl rfl rfl (fun a HF => ?_)
          refine wc_end ?_
          refine blk_n ?_
          refine then_n ?_
          refine wc_text ?_
          refine wc_move HF nS rfl rfl rfl (fun a HF => ?_)
          obtain ⟨hg5, h⟩ := grd h
          refine wc_bin HF nS rfl rfl (b_add hg5) rfl rfl (fun a HF => ?_)
          refine wc_assign HF nS rfl rfl rfl (fun a HF => ?_)
          refine wc_end ?_
          exact then_n ⟨k1, Nat.lt_succ_self k1, bits .and .i64 (((z2 * 131) + (e1.toNat : Int)) + 7) 1073741823, z3 + 1, h, (HF.keep (HF.keep (HF.keep HF.nil rfl) rfl) rfl), HT⟩
        · have h := (if_neg hb2).symm.trans h
          refine wp_if (b' := false) HF rfl (decide_eq_false hb2) ?_
          refine wp_exit ?_
          refine then_x (then_x (?_))
          refine blk_x ?_
          obtain rfl := Option.some.inj h
          exact then_n ⟨(HF.keep (HF.keep HF.nil rfl) rfl), HT⟩
      · have h := (if_neg hb1).symm.trans h
        refine wc_skip HF nS (HF.wn rfl rfl rfl rfl (decide_eq_false hb1)) rfl (fun a HF => ?_)
        refine wc_skip HF nS (HF.wn rfl rfl rfl rfl (decide_eq_false hb1)) rfl (fun a HF => ?_)
        refine wc_pick (b := false) HF nS rfl (decide_eq_false hb1) rfl rfl rfl (fun a HF => ?_)
        refine wc_end ?_
        refine then_n ?_
        refine wp_if (b' := false) HF rfl rfl ?_
        refine wp_exit ?_
        refine then_x (then_x (?_))
        refine blk_x ?_
        obtain rfl := Option.some.inj h
        exact then_n ⟨(HF.keep (HF.keep HF.nil rfl) rfl), HT⟩
  · rintro a w ⟨HF, HT⟩
    refine ?_
    refine wp_seq ?_
    refine wc_text ?_
    refine wc_move HF nS rfl rfl rfl (fun a HF => ?_)
    refine wc_move HF nS rfl rfl rfl (fun a HF => ?_)
    refine wc_build (cs := #[.slice a_x0 x0.length c_x0, .int .i64 0, .int .i64 z1]) HF nS bd78 rfl rfl rfl rfl (fun a HF => ?_)
    refine wc_box (cs := [.slice a_x0 x0.length c_x0, .int .i64 0, .int .i64 z1]) HF HT rfl rfl rfl rfl (fun p1 w HT hb => ⟨nS, fun a HF => ?_⟩)
    refine wc_assign HF nS rfl rfl rfl (fun a HF => ?_)
    refine wc_end ?_
    refine then_n ?_
    refine wp_ret ?_
    have hj1 := Option.some.inj h
    obtain ⟨hi1, hj2⟩ := Prod.mk.inj hj1
    subst hi1
    subst hj2
    refine bp_ret HF (res_one rfl HF rfl) ?_
    exact ⟨p1, rfl, HT⟩

def m_spec_l1Byte (fuel : Nat) (x0_0 : List UInt8) (x0_1 : Int) (x0_2 : Int) : Option (Int × Int × Int) :=
  bind3 (
    if x0_1 < (x0_0.length : Int) then
      (at? x0_0 x0_1).bind fun e1 =>
      some (bits .and .i64 (IntKind.i64.wrap ((bits .and .i64 (bits .xor .i64 ((IntKind.i64.wrap ((IntKind.i64.wrap (x0_2 * 6364136223846793005)) + 1442695040888963407)) / 2 ^ 33) ((IntKind.i64.wrap ((IntKind.i64.wrap (x0_2 * 6364136223846793005)) + 1442695040888963407)) / 2 ^ 45)) 255) + (e1.toNat : Int))) 255, IntKind.i64.wrap (x0_1 + 1), IntKind.i64.wrap ((IntKind.i64.wrap (x0_2 * 6364136223846793005)) + 1442695040888963407))
    else
      some (bits .and .i64 (bits .xor .i64 ((IntKind.i64.wrap ((IntKind.i64.wrap (x0_2 * 6364136223846793005)) + 1442695040888963407)) / 2 ^ 33) ((IntKind.i64.wrap ((IntKind.i64.wrap (x0_2 * 6364136223846793005)) + 1442695040888963407)) / 2 ^ 45)) 255, x0_1, IntKind.i64.wrap ((IntKind.i64.wrap (x0_2 * 6364136223846793005)) + 1442695040888963407))) fun z1 z2 z3 =>
  some (z1, z2, z3)

set_option maxRecDepth 100000 in
set_option maxHeartbeats 4000000 in
theorem w_spec_l1Byte (fuel : Nat) {x0_0 : List UInt8} {x0_1 : Int} {x0_2 : Int} {a_x0_0 : Option Addr} {n_x0_0 c_x0_0 : Nat} {p_0 : Nat} {r0 : Int} {x0_1' : Int} {x0_2' : Int} {w0 : World} {F : Foot} (h : m_spec_l1Byte fuel x0_0 x0_1 x0_2 = some (r0, x0_1', x0_2')) (hA : StF w0 F [Box p_0 [.slice a_x0_0 n_x0_0 c_x0_0, .int .i64 x0_1, .int .i64 x0_2]]) (hr_x0_0 : RdT (fun b => ¬ F b) w0 (rowT x0_0) (.slice a_x0_0 n_x0_0 c_x0_0)) :
    Calls Try.prog 72 #[.pointer (some ⟨p_0, 0, none⟩)] w0 fun e w => e = .returned (.int .i64 r0) ∧ St w0 F w [Box p_0 [.slice a_x0_0 n_x0_0 c_x0_0, .int .i64 x0_1', .int .i64 x0_2']] := by
  have HT0 := St.init hA
  obtain rfl := hr_x0_0.neq
  have HT : St w0 F w0 [Box p_0 [.slice a_x0_0 x0_0.length c_x0_0, .int .i64 x0_1, .int .i64 x0_2]] := St.init hA
  rw [m_spec_l1Byte] at h
  refine calls_fr (n := 58) [.pointer (some ⟨p_0, 0, none⟩)] Try.func72 rfl rfl rfl (fun a HF => ?_)
  have HT : St w0 F w0 [Box p_0 [.slice a_x0_0 x0_0.length c_x0_0, .int .i64 x0_1, .int .i64 x0_2]] := HT
  refine wp_seq ?_
  refine wc_text ?_
  refine wc_assign HF nS rfl rfl rfl (fun a HF => ?_)
  refine wc_end ?_
  refine then_n ?_
  refine wp_seq ?_
  refine wc_text ?_
  refine wc_move HF nS rfl rfl rfl (fun a HF => ?_)
  refine wc_move HF nS rfl rfl rfl (fun a HF => ?_)
  refine wc_nilCheck HF nS rfl rfl rfl (fun a HF => ?_)
  refine wc_faddr HF nS rfl fl78_2 rfl rfl (fun a HF => ?_)
  refine wc_load HF rfl sc3 ((HT.boxAt 0 rfl).get 2 rfl) rfl rfl (fun a HF => ?_)
  refine wc_bin HF nS rfl rfl b_mulw rfl rfl (fun a HF => ?_)
  refine wc_bin HF nS rfl rfl b_addw rfl rfl (fun a HF => ?_)
  refine wc_nilCheck HF nS rfl rfl rfl (fun a HF => ?_)
  refine wc_faddr HF nS rfl fl78_2 rfl rfl (fun a HF => ?_)
  refine wc_storeB (cs' := [.slice a_x0_0 x0_0.length c_x0_0, .int .i64 x0_1, .int .i64 (IntKind.i64.wrap ((IntKind.i64.wrap (x0_2 * 6364136223846793005)) + 1442695040888963407))]) HF HT rfl rfl (fun w => (sc3 w).2) rfl rfl rfl rfl rfl (fun w HT => ⟨nS, ?_⟩)
  refine wc_end ?_
  refine then_n ?_
  refine wp_seq ?_
  refine wp_region_can [(0, true), (1, true), (2, true), (3, true), (4, true), (5, true), (6, true), (7, true), (8, true), (9, true), (10, true), (11, true), (12, true)] (fun w' => True) (by kernel_rfl) (by kernel_rfl) ?_
  have HT : St w0 F w.drew [Box p_0 [.slice a_x0_0 x0_0.length c_x0_0, .int .i64 x0_1, .int .i64 (IntKind.i64.wrap ((IntKind.i64.wrap (x0_2 * 6364136223846793005)) + 1442695040888963407))]] := HT.drew
  refine wc_move HF nS rfl rfl rfl (fun a HF => ?_)
  refine wc_nilCheck HF nS rfl rfl rfl (fun a HF => ?_)
  refine wc_faddr HF nS rfl fl78_2 rfl rfl (fun a HF => ?_)
  refine wc_load HF rfl sc3 ((HT.boxAt 0 rfl).get 2 rfl) rfl rfl (fun a HF => ?_)
  refine wc_bin HF nS rfl rfl (b_shrk (k := 33) (by decide)) rfl rfl (fun a HF => ?_)
  refine wc_move HF nS rfl rfl rfl (fun a HF => ?_)
  refine wc_nilCheck HF nS rfl rfl rfl (fun a HF => ?_)
  refine wc_faddr HF nS rfl fl78_2 rfl rfl (fun a HF => ?_)
  refine wc_load HF rfl sc3 ((HT.boxAt 0 rfl).get 2 rfl) rfl rfl (fun a HF => ?_)
  refine wc_bin HF nS rfl rfl (b_shrk (k := 45) (by decide)) rfl rfl (fun a HF => ?_)
  refine wc_bin HF nS rfl rfl b_xor rfl rfl (fun a HF => ?_)
  refine wc_bin HF nS rfl rfl b_and rfl rfl (fun a HF => ?_)
  refine wc_assign HF nS rfl rfl rfl (fun a HF => ?_)
  refine wc_endN ?_
  refine then_n ?_
  obtain ⟨z1, z2, z3, hx1, h⟩ := obs3 h
  refine wp_cut (fun a w => Fr a 58 [(3, .int .i64 z1)] ∧ St w0 F w [Box p_0 [.slice a_x0_0 x0_0.length c_x0_0, .int .i64 z2, .int .i64 z3]]) ?_ ?_
  · have hk1 := h
    have h := hx1
    refine wp_seq ?_
    refine wp_region_can [(0, true), (1, true), (2, true), (3, true), (4, true), (5, true), (6, true), (7, true), (8, true), (9, true)] (fun w' => True) (by kernel_rfl) (by kernel_rfl) ?_
    have HT : St w0 F w.drew.drew [Box p_0 [.slice a_x0_0 x0_0.length c_x0_0, .int .i64 x0_1, .int .i64 (IntKind.i64.wrap ((IntKind.i64.wrap (x0_2 * 6364136223846793005)) + 1442695040888963407))]] := HT.drew
    refine wc_move HF nS rfl rfl rfl (fun a HF => ?_)
    refine wc_nilCheck HF nS rfl rfl rfl (fun a HF => ?_)
    refine wc_faddr HF nS rfl fl78_1 rfl rfl (fun a HF => ?_)
    refine wc_load HF rfl sc3 ((HT.boxAt 0 rfl).get 1 rfl) rfl rfl (fun a HF => ?_)
    refine wc_move HF nS rfl rfl rfl (fun a HF => ?_)
    refine wc_nilCheck HF nS rfl rfl rfl (fun a HF => ?_)
    refine wc_faddr HF nS rfl fl78_0 rfl rfl (fun a HF => ?_)
    refine wc_load HF rfl sc53 ((HT.boxAt 0 rfl).get 0 rfl) rfl rfl (fun a HF => ?_)
    refine wc_lenR HF nS Try.underlying53 rfl rfl rfl (fun a HF => ?_)
    refine wc_bin HF nS rfl rfl b_lt rfl rfl (fun a HF => ?_)
    refine wc_endN ?_
    refine then_n ?_
    by_cases hb1 : x0_1 < (x0_0.length : Int)
    · have h := (if_pos hb1).symm.trans h
      refine wp_if (b' := true) HF rfl (decide_eq_true hb1) ?_
      refine wp_seq ?_
      refine wp_region_can [(0, true), (1, true), (2, true), (3, true), (4, true), (5, true), (6, true), (7, true), (8, true), (9, true), (10, true), (11, true), (12, true), (13, true), (14, true)] (fun w' => True) (by kernel_rfl) (by kernel_rfl) ?_
      have HT : St w0 F w.drew.drew.drew [Box p_0 [.slice a_x0_0 x0_0.length c_x0_0, .int .i64 x0_1, .int .i64 (IntKind.i64.wrap ((IntKind.i64.wrap (x0_2 * 6364136223846793005)) + 1442695040888963407))]] := HT.drew
      refine wc_move HF nS rfl rfl rfl (fun a HF => ?_)
      refine wc_move HF nS rfl rfl rfl (fun a HF => ?_)
      refine wc_nilCheck HF nS rfl rfl rfl (fun a HF => ?_)
      refine wc_faddr HF nS rfl fl78_0 rfl rfl (fun a HF => ?_)
      refine wc_load HF rfl sc53 ((HT.boxAt 0 rfl).get 0 rfl) rfl rfl (fun a HF => ?_)
      refine wc_move HF nS rfl rfl rfl (fun a HF => ?_)
      refine wc_nilCheck HF nS rfl rfl rfl (fun a HF => ?_)
      refine wc_faddr HF nS rfl fl78_1 rfl rfl (fun a HF => ?_)
      refine wc_load HF rfl sc3 ((HT.boxAt 0 rfl).get 1 rfl) rfl rfl (fun a HF => ?_)
      obtain ⟨e1, hx2, h⟩ := obs h
      obtain ⟨b1, o1, ha1⟩ := (HT.ro hr_x0_0).any.addr hx2
      refine wc_ixaddr HF nS el53 rfl ha1 ((HT.ro hr_x0_0).any).neq rfl hx2 rfl rfl (fun a HF => ?_)
      have hc1 := (HT.ro hr_x0_0).any.flatAt ha1 hx2
      refine wc_load HF rfl sc5 (hc1.get 0 rfl) rfl rfl (fun a HF => ?_)
      refine wc_cvu HF nS Try.underlying3 Try.underlying5 rfl rfl rfl (fun a HF => ?_)
      refine wc_bin HF nS rfl rfl b_addw rfl rfl (fun a HF => ?_)
      refine wc_bin HF nS rfl rfl b_and rfl rfl (fun a HF => ?_)
      refine wc_assign HF nS rfl rfl rfl (fun a HF => ?_)
      refine wc_endN ?_
      refine then_n ?_
      refine wc_text ?_
      refine wc_move HF nS rfl rfl rfl (fun a HF => ?_)
      refine wc_move HF nS rfl rfl rfl (fun a HF => ?_)
      refine wc_nilCheck HF nS rfl rfl rfl (fun a HF => ?_)
      refine wc_faddr HF nS rfl fl78_1 rfl rfl (fun a HF => ?_)
      refine wc_load HF rfl sc3 ((HT.boxAt 0 rfl).get 1 rfl) rfl rfl (fun a HF => ?_)
      refine wc_bin HF nS rfl rfl b_addw rfl rfl (fun a HF => ?_)
      refine wc_nilCheck HF nS rfl rfl rfl (fun a HF => ?_)
      refine wc_faddr HF nS rfl fl78_1 rfl rfl (fun a HF => ?_)
      refine wc_storeB (cs' := [.slice a_x0_0 x0_0.length c_x0_0, .int .i64 (IntKind.i64.wrap (x0_1 + 1)), .int .i64 (IntKind.i64.wrap ((IntKind.i64.wrap (x0_2 * 6364136223846793005)) + 1442695040888963407))]) HF HT rfl rfl (fun w => (sc3 w).2) rfl rfl rfl rfl rfl (fun w HT => ⟨nS, ?_⟩)
      refine wc_end ?_
      have hj1 := Option.some.inj h
      obtain ⟨hi1, hj2⟩ := Prod.mk.inj hj1
      subst hi1
      obtain ⟨hi2, hj3⟩ := Prod.mk.inj hj2
      subst hi2
      subst hj3
      exact then_n ⟨(HF.keep HF.nil rfl), HT⟩
    · have h := (if_neg hb1).symm.trans h
      refine wp_if (b' := false) HF rfl (decide_eq_false hb1) ?_
      refine wp_skip ?_
      have hj4 := Option.some.inj h
      obtain ⟨hi4, hj5⟩ := Prod.mk.inj hj4
      subst hi4
      obtain ⟨hi5, hj6⟩ := Prod.mk.inj hj5
      subst hi5
      subst hj6
      exact then_n ⟨(HF.keep HF.nil rfl), HT⟩
  · rintro a w ⟨HF, HT⟩
    refine ?_
    refine wp_seq ?_
    refine wc_text ?_
    refine wc_move HF nS rfl rfl rfl (fun a HF => ?_)
    refine wc_assign HF nS rfl rfl rfl (fun a HF => ?_)
    refine wc_end ?_
    refine then_n ?_
    refine wp_ret ?_
    have hj7 := Option.some.inj h
    obtain ⟨hi7, hj8⟩ := Prod.mk.inj hj7
    subst hi7
    obtain ⟨hi8, hj9⟩ := Prod.mk.inj hj8
    subst hi8
    subst hj9
    refine bp_ret HF (res_one rfl HF rfl) ?_
    exact ⟨rfl, HT⟩

def m_spec_l1Below (fuel : Nat) (x0_0 : List UInt8) (x0_1 : Int) (x0_2 : Int) (x1 : Int) : Option (Int × Int × Int) :=
  if x1 ≤ 0 then
    some (0, x0_1, x0_2)
  else
    if x1 ≤ 256 then
      bind3 (m_spec_l1Byte fuel x0_0 x0_1 x0_2) fun y1 y2 y3 =>
      if (x1 : Int) ≠ 0 then
        some (y1.tmod x1, y2, y3)
      else none
    else
      bind3 (m_spec_l1Byte fuel x0_0 x0_1 x0_2) fun y4 y5 y6 =>
      bind3 (m_spec_l1Byte fuel x0_0 y5 y6) fun y7 y8 y9 =>
      bind3 (m_spec_l1Byte fuel x0_0 y8 y9) fun y10 y11 y12 =>
      bind3 (m_spec_l1Byte fuel x0_0 y11 y12) fun y13 y14 y15 =>
      if in64 (y4 * 16777216) then
        if in64 (y7 * 65536) then
          if in64 ((y4 * 16777216) + (y7 * 65536)) then
            if in64 (y10 * 256) then
              if in64 (((y4 * 16777216) + (y7 * 65536)) + (y10 * 256)) then
                if in64 ((((y4 * 16777216) + (y7 * 65536)) + (y10 * 256)) + y13) then
                  if (x1 : Int) ≠ 0 then
                    some (((((y4 * 16777216) + (y7 * 65536)) + (y10 * 256)) + y13).tmod x1, y14, y15)
                  else none
                else none
              else none
            else none
          else none
        else none
      else none

set_option maxRecDepth 100000 in
set_option maxHeartbeats 4000000 in
theorem w_spec_l1Below (fuel : Nat) {x0_0 : List UInt8} {x0_1 : Int} {x0_2 : Int} {x1 : Int} {a_x0_0 : Option Addr} {n_x0_0 c_x0_0 : Nat} {p_0 : Nat} {r0 : Int} {x0_1' : Int} {x0_2' : Int} {w0 : World} {F : Foot} (h : m_spec_l1Below fuel x0_0 x0_1 x0_2 x1 = some (r0, x0_1', x0_2')) (hA : StF w0 F [Box p_0 [.slice a_x0_0 n_x0_0 c_x0_0, .int .i64 x0_1, .int .i64 x0_2]]) (hr_x0_0 : RdT (fun b => ¬ F b) w0 (rowT x0_0) (.slice a_x0_0 n_x0_0 c_x0_0)) :
    Calls Try.prog 69 #[.pointer (some ⟨p_0, 0, none⟩), .int .i64 x1] w0 fun e w => e = .returned (.int .i64 r0) ∧ St w0 F w [Box p_0 [.slice a_x0_0 n_x0_0 c_x0_0, .int .i64 x0_1', .int .i64 x0_2']] := by
  have HT0 := St.init hA
  obtain rfl := hr_x0_0.neq
  have HT : St w0 F w0 [Box p_0 [.slice a_x0_0 x0_0.length c_x0_0, .int .i64 x0_1, .int .i64 x0_2]] := St.init hA
  rw [m_spec_l1Below] at h
  refine calls_fr (n := 37) [.pointer (some ⟨p_0, 0, none⟩), .int .i64 x1] Try.func69 rfl rfl rfl (fun a HF => ?_)
  have HT : St w0 F w0 [Box p_0 [.slice a_x0_0 x0_0.length c_x0_0, .int .i64 x0_1, .int .i64 x0_2]] := HT
  refine wp_seq ?_
  refine wc_text ?_
  refine wc_assign HF nS rfl rfl rfl (fun a HF => ?_)
  refine wc_end ?_
  refine then_n ?_
  refine wp_seq ?_
  refine wp_seq ?_
  refine wc_text ?_
  refine wc_move HF nS rfl rfl rfl (fun a HF => ?_)
  refine wc_bin HF nS rfl rfl b_le rfl rfl (fun a HF => ?_)
  refine wc_end ?_
  refine then_n ?_
  by_cases hb1 : x1 ≤ 0
  · have h := (if_pos hb1).symm.trans h
    refine wp_if (b' := true) HF rfl (decide_eq_true hb1) ?_
    refine wp_seq ?_
    refine wc_text ?_
    refine wc_assign HF nS rfl rfl rfl (fun a HF => ?_)
    refine wc_end ?_
    refine then_n ?_
    refine wp_ret ?_
    have hj1 := Option.some.inj h
    obtain ⟨hi1, hj2⟩ := Prod.mk.inj hj1
    subst hi1
    obtain ⟨hi2, hj3⟩ := Prod.mk.inj hj2
    subst hi2
    subst hj3
    refine then_r (?_)
    refine bp_ret HF (res_one rfl HF rfl) ?_
    exact ⟨rfl, HT⟩
  · have h := (if_neg hb1).symm.trans h
    refine wp_if (b' := false) HF rfl (decide_eq_false hb1) ?_
    refine wp_skip ?_
    refine then_n ?_
    refine wp_seq ?_
    refine wp_seq ?_
    refine wc_text ?_
    refine wc_move HF nS rfl rfl rfl (fun a HF => ?_)
    refine wc_bin HF nS rfl rfl b_le rfl rfl (fun a HF => ?_)
    refine wc_end ?_
    refine then_n ?_
    by_cases hb2 : x1 ≤ 256
    · have h := (if_pos hb2).symm.trans h
      refine wp_if (b' := true) HF rfl (decide_eq_true hb2) ?_
      refine wp_seq ?_
      refine wc_text ?_
      refine wc_move HF nS rfl rfl rfl (fun a HF => ?_)
      obtain ⟨y1, y2, y3, hx1, h⟩ := obs3 h
      obtain ⟨F1, hAF1, hFF1, hbackF1, hroF1, hownF1⟩ := St.handR (A := [Box p_0 [.slice a_x0_0 x0_0.length c_x0_0, .int .i64 x0_1, .int .i64 x0_2]]) HT
      refine wc_call HF cf72 rfl (w_spec_l1Byte fuel hx1 hAF1 (hroF1 hr_x0_0)) rfl rfl ?_
      rintro e w ⟨rfl, hE⟩
      have HT := hbackF1 _ _ hE
      have HT : St w0 F w [Box p_0 [.slice a_x0_0 x0_0.length c_x0_0, .int .i64 y2, .int .i64 y3]] := HT
      refine ⟨_, rfl, nS, fun a HF => ?_⟩
      refine wc_move HF nS rfl rfl rfl (fun a HF => ?_)
      obtain ⟨hg1, h⟩ := grd h
      refine wc_bin HF nS rfl rfl (b_rem hg1) rfl rfl (fun a HF => ?_)
      refine wc_assign HF nS rfl rfl rfl (fun a HF => ?_)
      refine wc_end ?_
      refine then_n ?_
      refine wp_ret ?_
      have hj4 := Option.some.inj h
      obtain ⟨hi4, hj5⟩ := Prod.mk.inj hj4
      subst hi4
      obtain ⟨hi5, hj6⟩ := Prod.mk.inj hj5
      subst hi5
      subst hj6
      refine then_r (?_)
      refine bp_ret HF (res_one rfl HF rfl) ?_
      exact ⟨rfl, HT⟩
    · have h := (if_neg hb2).symm.trans h
      refine wp_if (b' := false) HF rfl (decide_eq_false hb2) ?_
      refine wp_skip ?_
      refine then_n ?_
      refine wp_seq ?_
      refine wc_text ?_
      refine wc_move HF nS rfl rfl rfl (fun a HF => ?_)
      obtain ⟨y4, y5, y6, hx2, h⟩ := obs3 h
      obtain ⟨F2, hAF2, hFF2, hbackF2, hroF2, hownF2⟩ := St.handR (A := [Box p_0 [.slice a_x0_0 x0_0.length c_x0_0, .int .i64 x0_1, .int .i64 x0_2]]) HT
      refine wc_call HF cf72 rfl (w_spec_l1Byte fuel hx2 hAF2 (hroF2 hr_x0_0)) rfl rfl ?_
      rintro e w ⟨rfl, hE⟩
      have HT := hbackF2 _ _ hE
      have HT : St w0 F w [Box p_0 [.slice a_x0_0 x0_0.length c_x0_0, .int .i64 y5, .int .i64 y6]] := HT
      refine ⟨_, rfl, nS, fun a HF => ?_⟩
      refine wc_assign HF nS rfl rfl rfl (fun a HF => ?_)
      refine wc_end ?_
      refine then_n ?_
      refine wp_seq ?_
      refine wc_text ?_
      refine wc_move HF nS rfl rfl rfl (fun a HF => ?_)
      obtain ⟨y7, y8, y9, hx3, h⟩ := obs3 h
      obtain ⟨F3, hAF3, hFF3, hbackF3, hroF3, hownF3⟩ := St.handR (A := [Box p_0 [.slice a_x0_0 x0_0.length c_x0_0, .int .i64 y5, .int .i64 y6]]) HT
      refine wc_call HF cf72 rfl (w_spec_l1Byte fuel hx3 hAF3 (hroF3 hr_x0_0)) rfl rfl ?_
      rintro e w ⟨rfl, hE⟩
      have HT := hbackF3 _ _ hE
      have HT : St w0 F w [Box p_0 [.slice a_x0_0 x0_0.length c_x0_0, .int .i64 y8, .int .i64 y9]] := HT
      refine ⟨_, rfl, nS, fun a HF => ?_⟩
      refine wc_assign HF nS rfl rfl rfl (fun a HF => ?_)
      refine wc_end ?_
      refine then_n ?_
      refine wp_seq ?_
      refine wc_text ?_
      refine wc_move HF nS rfl rfl rfl (fun a HF => ?_)
      obtain ⟨y10, y11, y12, hx4, h⟩ := obs3 h
      obtain ⟨F4, hAF4, hFF4, hbackF4, hroF4, hownF4⟩ := St.handR (A := [Box p_0 [.slice a_x0_0 x0_0.length c_x0_0, .int .i64 y8, .int .i64 y9]]) HT
      refine wc_call HF cf72 rfl (w_spec_l1Byte fuel hx4 hAF4 (hroF4 hr_x0_0)) rfl rfl ?_
      rintro e w ⟨rfl, hE⟩
      have HT := hbackF4 _ _ hE
      have HT : St w0 F w [Box p_0 [.slice a_x0_0 x0_0.length c_x0_0, .int .i64 y11, .int .i64 y12]] := HT
      refine ⟨_, rfl, nS, fun a HF => ?_⟩
      refine wc_assign HF nS rfl rfl rfl (fun a HF => ?_)
      refine wc_end ?_
      refine then_n ?_
      refine wp_seq ?_
      refine wc_text ?_
      refine wc_move HF nS rfl rfl rfl (fun a HF => ?_)
      obtain ⟨y13, y14, y15, hx5, h⟩ := obs3 h
      obtain ⟨F5, hAF5, hFF5, hbackF5, hroF5, hownF5⟩ := St.handR (A := [Box p_0 [.slice a_x0_0 x0_0.length c_x0_0, .int .i64 y11, .int .i64 y12]]) HT
      refine wc_call HF cf72 rfl (w_spec_l1Byte fuel hx5 hAF5 (hroF5 hr_x0_0)) rfl rfl ?_
      rintro e w ⟨rfl, hE⟩
      have HT := hbackF5 _ _ hE
      have HT : St w0 F w [Box p_0 [.slice a_x0_0 x0_0.length c_x0_0, .int .i64 y14, .int .i64 y15]] := HT
      refine ⟨_, rfl, nS, fun a HF => ?_⟩
      refine wc_assign HF nS rfl rfl rfl (fun a HF => ?_)
      refine wc_end ?_
      refine then_n ?_
      refine wp_seq ?_
      refine wc_text ?_
      refine wc_move HF nS rfl rfl rfl (fun a HF => ?_)
      obtain ⟨hg2, h⟩ := grd h
      refine wc_bin HF nS rfl rfl (b_mul hg2) rfl rfl (fun a HF => ?_)
      refine wc_move HF nS rfl rfl rfl (fun a HF => ?_)
      obtain ⟨hg3, h⟩ := grd h
      refine wc_bin HF nS rfl rfl (b_mul hg3) rfl rfl (fun a HF => ?_)
      obtain ⟨hg4, h⟩ := grd h
      refine wc_bin HF nS rfl rfl (b_add hg4) rfl rfl (fun a HF => ?_)
      refine wc_move HF nS rfl rfl rfl (fun a HF => ?_)
      obtain ⟨hg5, h⟩ := grd h
      refine wc_bin HF nS rfl rfl (b_mul hg5) rfl rfl (fun a HF => ?_)
      obtain ⟨hg6, h⟩ := grd h
      refine wc_bin HF nS rfl rfl (b_add hg6) rfl rfl (fun a HF => ?_)
      refine wc_move HF nS rfl rfl rfl (fun a HF => ?_)
      obtain ⟨hg7, h⟩ := grd h
      refine wc_bin HF nS rfl rfl (b_add hg7) rfl rfl (fun a HF => ?_)
      refine wc_move HF nS rfl rfl rfl (fun a HF => ?_)
      obtain ⟨hg8, h⟩ := grd h
      refine wc_bin HF nS rfl rfl (b_rem hg8) rfl rfl (fun a HF => ?_)
      refine wc_assign HF nS rfl rfl rfl (fun a HF => ?_)
      refine wc_end ?_
      refine then_n ?_
      refine wp_ret ?_
      have hj7 := Option.some.inj h
      obtain ⟨hi7, hj8⟩ := Prod.mk.inj hj7
      subst hi7
      obtain ⟨hi8, hj9⟩ := Prod.mk.inj hj8
      subst hi8
      subst hj9
      refine bp_ret HF (res_one rfl HF rfl) ?_
      exact ⟨rfl, HT⟩

def m_spec_l1PickInt (fuel : Nat) (x0_0 : List UInt8) (x0_1 : Int) (x0_2 : Int) (x1 : List Int) : Option (Int × Int × Int) :=
  bind3 (m_spec_l1Below fuel x0_0 x0_1 x0_2 (x1.length : Int)) fun y1 y2 y3 =>
  (at? x1 y1).bind fun e1 =>
  some (e1, y2, y3)

set_option maxRecDepth 100000 in
set_option maxHeartbeats 4000000 in
theorem w_spec_l1PickInt (fuel : Nat) {x0_0 : List UInt8} {x0_1 : Int} {x0_2 : Int} {x1 : List Int} {a_x0_0 : Option Addr} {n_x0_0 c_x0_0 : Nat} {a_x1 : Option Addr} {n_x1 c_x1 : Nat} {p_0 : Nat} {r0 : Int} {x0_1' : Int} {x0_2' : Int} {w0 : World} {F : Foot} (h : m_spec_l1PickInt fuel x0_0 x0_1 x0_2 x1 = some (r0, x0_1', x0_2')) (hA : StF w0 F [Box p_0 [.slice a_x0_0 n_x0_0 c_x0_0, .int .i64 x0_1, .int .i64 x0_2]]) (hr_x0_0 : RdT (fun b => ¬ F b) w0 (rowT x0_0) (.slice a_x0_0 n_x0_0 c_x0_0)) (hr_x1 : RdT (fun b => ¬ F b) w0 (rowT x1) (.slice a_x1 n_x1 c_x1)) :
    Calls Try.prog 65 #[.pointer (some ⟨p_0, 0, none⟩), .slice a_x1 n_x1 c_x1] w0 fun e w => e = .returned (.int .i64 r0) ∧ St w0 F w [Box p_0 [.slice a_x0_0 n_x0_0 c_x0_0, .int .i64 x0_1', .int .i64 x0_2']] := by
  have HT0 := St.init hA
  obtain rfl := hr_x0_0.neq
  obtain rfl := hr_x1.neq
  have HT : St w0 F w0 [Box p_0 [.slice a_x0_0 x0_0.length c_x0_0, .int .i64 x0_1, .int .i64 x0_2]] := St.init hA
  rw [m_spec_l1PickInt] at h
  refine calls_fr (n := 12) [.pointer (some ⟨p_0, 0, none⟩), .slice a_x1 x1.length c_x1] Try.func65 rfl rfl rfl (fun a HF => ?_)
  have HT : St w0 F w0 [Box p_0 [.slice a_x0_0 x0_0.length c_x0_0, .int .i64 x0_1, .int .i64 x0_2]] := HT
  refine wp_seq ?_
  refine wc_text ?_
  refine wc_assign HF nS rfl rfl rfl (fun a HF => ?_)
  refine wc_end ?_
  refine then_n ?_
  refine wp_seq ?_
  refine wc_text ?_
  refine wc_move HF nS rfl rfl rfl (fun a HF => ?_)
  refine wc_move HF nS rfl rfl rfl (fun a HF => ?_)
  refine wc_move HF nS rfl rfl rfl (fun a HF => ?_)
  refine wc_lenR HF nS Try.underlying38 rfl rfl rfl (fun a HF => ?_)
  obtain ⟨y1, y2, y3, hx1, h⟩ := obs3 h
  obtain ⟨F1, hAF1, hFF1, hbackF1, hroF1, hownF1⟩ := St.handR (A := [Box p_0 [.slice a_x0_0 x0_0.length c_x0_0, .int .i64 x0_1, .int .i64 x0_2]]) HT
  refine wc_call HF cf69 rfl (w_spec_l1Below fuel hx1 hAF1 (hroF1 hr_x0_0)) rfl rfl ?_
  rintro e w ⟨rfl, hE⟩
  have HT := hbackF1 _ _ hE
  have HT : St w0 F w [Box p_0 [.slice a_x0_0 x0_0.length c_x0_0, .int .i64 y2, .int .i64 y3]] := HT
  refine ⟨_, rfl, nS, fun a HF => ?_⟩
  obtain ⟨e1, hx2, h⟩ := obs h
  obtain ⟨b1, o1, ha1⟩ := (HT.ro hr_x1).any.addr hx2
  refine wc_ixaddr HF nS el38 rfl ha1 ((HT.ro hr_x1).any).neq rfl hx2 rfl rfl (fun a HF => ?_)
  have hc1 := (HT.ro hr_x1).any.flatAt ha1 hx2
  refine wc_load HF rfl sc3 (hc1.get 0 rfl) rfl rfl (fun a HF => ?_)
  refine wc_assign HF nS rfl rfl rfl (fun a HF => ?_)
  refine wc_end ?_
  refine then_n ?_
  refine wp_ret ?_
  have hj1 := Option.some.inj h
  obtain ⟨hi1, hj2⟩ := Prod.mk.inj hj1
  subst hi1
  obtain ⟨hi2, hj3⟩ := Prod.mk.inj hj2
  subst hi2
  subst hj3
  refine bp_ret HF (res_one rfl HF rfl) ?_
  exact ⟨rfl, HT⟩

def m_spec_l1Once (fuel : Nat) (x0_0 : List UInt8) (x0_1 : Int) (x0_2 : Int) (x1 : Int) : Option (Bool × Int × Int) :=
  bind3 (m_spec_l1Below fuel x0_0 x0_1 x0_2 x1) fun y1 y2 y3 =>
  some (decide (y1 = 0), y2, y3)

set_option maxRecDepth 100000 in
set_option maxHeartbeats 4000000 in
theorem w_spec_l1Once (fuel : Nat) {x0_0 : List UInt8} {x0_1 : Int} {x0_2 : Int} {x1 : Int} {a_x0_0 : Option Addr} {n_x0_0 c_x0_0 : Nat} {p_0 : Nat} {r0 : Bool} {x0_1' : Int} {x0_2' : Int} {w0 : World} {F : Foot} (h : m_spec_l1Once fuel x0_0 x0_1 x0_2 x1 = some (r0, x0_1', x0_2')) (hA : StF w0 F [Box p_0 [.slice a_x0_0 n_x0_0 c_x0_0, .int .i64 x0_1, .int .i64 x0_2]]) (hr_x0_0 : RdT (fun b => ¬ F b) w0 (rowT x0_0) (.slice a_x0_0 n_x0_0 c_x0_0)) :
    Calls Try.prog 70 #[.pointer (some ⟨p_0, 0, none⟩), .int .i64 x1] w0 fun e w => e = .returned (.bool r0) ∧ St w0 F w [Box p_0 [.slice a_x0_0 n_x0_0 c_x0_0, .int .i64 x0_1', .int .i64 x0_2']] := by
  have HT0 := St.init hA
  obtain rfl := hr_x0_0.neq
  have HT : St w0 F w0 [Box p_0 [.slice a_x0_0 x0_0.length c_x0_0, .int .i64 x0_1, .int .i64 x0_2]] := St.init hA
  rw [m_spec_l1Once] at h
  refine calls_fr (n := 9) [.pointer (some ⟨p_0, 0, none⟩), .int .i64 x1] Try.func70 rfl rfl rfl (fun a HF => ?_)
  have HT : St w0 F w0 [Box p_0 [.slice a_x0_0 x0_0.length c_x0_0, .int .i64 x0_1, .int .i64 x0_2]] := HT
  refine wp_seq ?_
  refine wc_text ?_
  refine wc_assign HF nS rfl rfl rfl (fun a HF => ?_)
  refine wc_end ?_
  refine then_n ?_
  refine wp_seq ?_
  refine wc_text ?_
  refine wc_move HF nS rfl rfl rfl (fun a HF => ?_)
  refine wc_move HF nS rfl rfl rfl (fun a HF => ?_)
  obtain ⟨y1, y2, y3, hx1, h⟩ := obs3 h
  obtain ⟨F1, hAF1, hFF1, hbackF1, hroF1, hownF1⟩ := St.handR (A := [Box p_0 [.slice a_x0_0 x0_0.length c_x0_0, .int .i64 x0_1, .int .i64 x0_2]]) HT
  refine wc_call HF cf69 rfl (w_spec_l1Below fuel hx1 hAF1 (hroF1 hr_x0_0)) rfl rfl ?_
  rintro e w ⟨rfl, hE⟩
  have HT := hbackF1 _ _ hE
  have HT : St w0 F w [Box p_0 [.slice a_x0_0 x0_0.length c_x0_0, .int .i64 y2, .int .i64 y3]] := HT
  refine ⟨_, rfl, nS, fun a HF => ?_⟩
  refine wc_bin HF nS rfl rfl b_eq rfl rfl (fun a HF => ?_)
  refine wc_assign HF nS rfl rfl rfl (fun a HF => ?_)
  refine wc_end ?_
  refine then_n ?_
  refine wp_ret ?_
  have hj1 := Option.some.inj h
  obtain ⟨hi1, hj2⟩ := Prod.mk.inj hj1
  subst hi1
  obtain ⟨hi2, hj3⟩ := Prod.mk.inj hj2
  subst hi2
  subst hj3
  refine bp_ret HF (res_one rfl HF rfl) ?_
  exact ⟨rfl, HT⟩

def m_spec_l3Draw (fuel : Nat) (x0_0 : List UInt8) (x0_1 : Int) (x0_2 : Int) : Option (Int × Int × Int) :=
  bind3 (m_spec_l1Once fuel x0_0 x0_1 x0_2 6) fun y1 y2 y3 =>
  if y1 = true then
    bind3 (m_spec_l1PickInt fuel x0_0 y2 y3 ([0, 65535, 65534, 256] : List Int)) fun y4 y5 y6 =>
    some (y4, y5, y6)
  else
    bind3 (m_spec_l1Below fuel x0_0 y2 y3 9) fun y7 y8 y9 =>
    some (y7, y8, y9)

set_option maxRecDepth 100000 in
set_option maxHeartbeats 4000000 in
theorem w_spec_l3Draw (fuel : Nat) {x0_0 : List UInt8} {x0_1 : Int} {x0_2 : Int} {a_x0_0 : Option Addr} {n_x0_0 c_x0_0 : Nat} {p_0 : Nat} {r0 : Int} {x0_1' : Int} {x0_2' : Int} {w0 : World} {F : Foot} (h : m_spec_l3Draw fuel x0_0 x0_1 x0_2 = some (r0, x0_1', x0_2')) (hA : StF w0 F [Box p_0 [.slice a_x0_0 n_x0_0 c_x0_0, .int .i64 x0_1, .int .i64 x0_2]]) (hr_x0_0 : RdT (fun b => ¬ F b) w0 (rowT x0_0) (.slice a_x0_0 n_x0_0 c_x0_0)) :
    Calls Try.prog 71 #[.pointer (some ⟨p_0, 0, none⟩)] w0 fun e w => e = .returned (.int .i64 r0) ∧ St w0 F w [Box p_0 [.slice a_x0_0 n_x0_0 c_x0_0, .int .i64 x0_1', .int .i64 x0_2']] := by
  have HT0 := St.init hA
  obtain rfl := hr_x0_0.neq
  have HT : St w0 F w0 [Box p_0 [.slice a_x0_0 x0_0.length c_x0_0, .int .i64 x0_1, .int .i64 x0_2]] := St.init hA
  rw [m_spec_l3Draw] at h
  refine calls_fr (n := 10) [.pointer (some ⟨p_0, 0, none⟩)] Try.func71 rfl rfl rfl (fun a HF => ?_)
  have HT : St w0 F w0 [Box p_0 [.slice a_x0_0 x0_0.length c_x0_0, .int .i64 x0_1, .int .i64 x0_2]] := HT
  refine wp_seq ?_
  refine wc_text ?_
  refine wc_assign HF nS rfl rfl rfl (fun a HF => ?_)
  refine wc_end ?_
  refine then_n ?_
  refine wp_seq ?_
  refine wp_seq ?_
  refine wc_text ?_
  refine wc_move HF nS rfl rfl rfl (fun a HF => ?_)
  obtain ⟨y1, y2, y3, hx1, h⟩ := obs3 h
  obtain ⟨F1, hAF1, hFF1, hbackF1, hroF1, hownF1⟩ := St.handR (A := [Box p_0 [.slice a_x0_0 x0_0.length c_x0_0, .int .i64 x0_1, .int .i64 x0_2]]) HT
  refine wc_call HF cf70 rfl (w_spec_l1Once fuel hx1 hAF1 (hroF1 hr_x0_0)) rfl rfl ?_
  rintro e w ⟨rfl, hE⟩
  have HT := hbackF1 _ _ hE
  have HT : St w0 F w [Box p_0 [.slice a_x0_0 x0_0.length c_x0_0, .int .i64 y2, .int .i64 y3]] := HT
  refine ⟨_, rfl, nS, fun a HF => ?_⟩
  refine wc_end ?_
  refine then_n ?_
  by_cases hb1 : y1 = true
  · have h := (if_pos hb1).symm.trans h
    refine wp_if (b' := true) HF rfl hb1 ?_
    refine wp_seq ?_
    refine wc_text ?_
    refine wc_move HF nS rfl rfl rfl (fun a HF => ?_)
    refine wc_bslice (l := ([0, 65535, 65534, 256] : List Int)) (cs := [.int .i64 0, .int .i64 65535, .int .i64 65534, .int .i64 256]) (A := []) HF HT bs38_4 rfl rfl (gives_flat rfl) rfl (by decide) rfl rfl (fun p1 w HT hb => ⟨nS, fun a HF => ?_⟩)
    obtain ⟨y4, y5, y6, hx2, h⟩ := obs3 h
    have HT : St w0 F w [Box p_0 [.slice a_x0_0 x0_0.length c_x0_0, .int .i64 y2, .int .i64 y3], Own 3 (rowT ([0, 65535, 65534, 256] : List Int)) (.slice (some ⟨p1, 0, none⟩) 4 4)] := HT.pick 1
    obtain ⟨F2, hAF2, hFF2, hbackF2, hroF2, hownF2⟩ := St.handR (A := [Box p_0 [.slice a_x0_0 x0_0.length c_x0_0, .int .i64 y2, .int .i64 y3]]) HT
    refine wc_call HF cf65 rfl (w_spec_l1PickInt fuel hx2 hAF2 (hroF2 hr_x0_0) (hownF2 _ _ _ (List.mem_of_getElem? (i := 0) rfl))) rfl rfl ?_
    rintro e w ⟨rfl, hE⟩
    have HT := hbackF2 _ _ hE
    have HT : St w0 F w [Box p_0 [.slice a_x0_0 x0_0.length c_x0_0, .int .i64 y5, .int .i64 y6], Own 3 (rowT ([0, 65535, 65534, 256] : List Int)) (.slice (some ⟨p1, 0, none⟩) 4 4)] := HT
    refine ⟨_, rfl, nS, fun a HF => ?_⟩
    refine wc_assign HF nS rfl rfl rfl (fun a HF => ?_)
    refine wc_end ?_
    refine then_n ?_
    refine wp_ret ?_
    have hj1 := Option.some.inj h
    obtain ⟨hi1, hj2⟩ := Prod.mk.inj hj1
    subst hi1
    obtain ⟨hi2, hj3⟩ := Prod.mk.inj hj2
    subst hi2
    subst hj3
    refine then_r (?_)
    refine bp_ret HF (res_one rfl HF rfl) ?_
    have HT : St w0 F w [Box p_0 [.slice a_x0_0 x0_0.length c_x0_0, .int .i64 y5, .int .i64 y6]] := HT.take 1
    exact ⟨rfl, HT⟩
  · have h := (if_neg hb1).symm.trans h
    refine wp_if (b' := false) HF rfl (Bool.eq_false_iff.2 hb1) ?_
    refine wp_skip ?_
    refine then_n ?_
    refine wp_seq ?_
    refine wc_text ?_
    refine wc_move HF nS rfl rfl rfl (fun a HF => ?_)
    obtain ⟨y7, y8, y9, hx3, h⟩ := obs3 h
    obtain ⟨F3, hAF3, hFF3, hbackF3, hroF3, hownF3⟩ := St.handR (A := [Box p_0 [.slice a_x0_0 x0_0.length c_x0_0, .int .i64 y2, .int .i64 y3]]) HT
    refine wc_call HF cf69 rfl (w_spec_l1Below fuel hx3 hAF3 (hroF3 hr_x0_0)) rfl rfl ?_
    rintro e w ⟨rfl, hE⟩
    have HT := hbackF3 _ _ hE
    have HT : St w0 F w [Box p_0 [.slice a_x0_0 x0_0.length c_x0_0, .int .i64 y8, .int .i64 y9]] := HT
    refine ⟨_, rfl, nS, fun a HF => ?_⟩
    refine wc_assign HF nS rfl rfl rfl (fun a HF => ?_)
    refine wc_end ?_
    refine then_n ?_
    refine wp_ret ?_
    have hj4 := Option.some.inj h
    obtain ⟨hi4, hj5⟩ := Prod.mk.inj hj4
    subst hi4
    obtain ⟨hi5, hj6⟩ := Prod.mk.inj hj5
    subst hi5
    subst hj6
    refine bp_ret HF (res_one rfl HF rfl) ?_
    exact ⟨rfl, HT⟩

def m_spec_l3Mem_L0 (fuel : Nat) (x0_0 : List UInt8) (z3 : Int) (y10 : Int) : Nat → Int → Int → (List I3) → Int → Option (List I3 × Int × Int)
  | 0, _, _, _, _ => none
  | k1 + 1, z7, z8, z9, z10 =>
    if z10 < 8 then
      bind3 (
        bind3 (m_spec_l3Draw fuel x0_0 z7 z8) fun y13 y14 y15 =>
        if in64 (z3 + 1) then
          bind3 (m_spec_l1Below fuel x0_0 y14 y15 (z3 + 1)) fun y16 y17 y18 =>
          bind3 (
            if 0 < y10 then
              bind3 (m_spec_l1Once fuel x0_0 y17 y18 4) fun y19 y20 y21 =>
              if y19 = true then
                bind3 (m_spec_l1Below fuel x0_0 y20 y21 4) fun y22 y23 y24 =>
                if in64 (1 + y22) then
                  some (y23, y24, 1 + y22)
                else none
              else
                some (y20, y21, 0)
            else
              some (y17, y18, 0)) fun z14 z15 z16 =>
          if z9.length + 1 ≤ 17179869184 then
            some (z14, z15, z9 ++ ([(⟨y13, y16, z16⟩ : I3)] : List I3))
          else none
        else none) fun z11 z12 z13 =>
      if in64 (z10 + 1) then
        m_spec_l3Mem_L0 fuel x0_0 z3 y10 k1 z11 z12 z13 (z10 + 1)
      else none
    else
      some (z9, z7, z8)

def m_spec_l3Mem (fuel : Nat) (x0_0 : List UInt8) (x0_1 : Int) (x0_2 : Int) : Option (Int × List I3 × Int × Int) :=
  bind3 (m_spec_l1Below fuel x0_0 x0_1 x0_2 12) fun y1 y2 y3 =>
  bind3 (
    bind3 (m_spec_l1Once fuel x0_0 y2 y3 20) fun y4 y5 y6 =>
    if y4 = true then
      bind3 (m_spec_l1Below fuel x0_0 y5 y6 2) fun y7 y8 y9 =>
      if in64 (1000000 - y7) then
        some (y8, y9, 1000000 - y7)
      else none
    else
      some (y5, y6, y1)) fun z1 z2 z3 =>
  bind3 (m_spec_l1Below fuel x0_0 z1 z2 3) fun y10 y11 y12 =>
  bind3 (m_spec_l3Mem_L0 fuel x0_0 z3 y10 fuel y11 y12 ([] : List I3) 0) fun z4 z5 z6 =>
  some (z3, z4, z5, z6)

set_option maxRecDepth 100000 in
set_option maxHeartbeats 4000000 in
theorem w_spec_l3Mem (fuel : Nat) {x0_0 : List UInt8} {x0_1 : Int} {x0_2 : Int} {a_x0_0 : Option Addr} {n_x0_0 c_x0_0 : Nat} {p_0 : Nat} {r0_0 : Int} {r0_1 : List I3} {x0_1' : Int} {x0_2' : Int} {w0 : World} {F : Foot} (h : m_spec_l3Mem fuel x0_0 x0_1 x0_2 = some (r0_0, r0_1, x0_1', x0_2')) (hA : StF w0 F [Box p_0 [.slice a_x0_0 n_x0_0 c_x0_0, .int .i64 x0_1, .int .i64 x0_2]]) (hr_x0_0 : RdT (fun b => ¬ F b) w0 (rowT x0_0) (.slice a_x0_0 n_x0_0 c_x0_0)) :
    Calls Try.prog 68 #[.pointer (some ⟨p_0, 0, none⟩)] w0 fun e w => ∃ a_r0_1 n_r0_1 c_r0_1, e = .returned (.agg #[.int .i64 r0_0, .slice a_r0_1 n_r0_1 c_r0_1]) ∧ St w0 F w [Own 61 (rowT r0_1) (.slice a_r0_1 n_r0_1 c_r0_1), Box p_0 [.slice a_x0_0 n_x0_0 c_x0_0, .int .i64 x0_1', .int .i64 x0_2']] := by
  have HT0 := St.init hA
  obtain rfl := hr_x0_0.neq
  have HT : St w0 F w0 [Box p_0 [.slice a_x0_0 x0_0.length c_x0_0, .int .i64 x0_1, .int .i64 x0_2]] := St.init hA
  rw [m_spec_l3Mem] at h
  refine calls_fr (n := 48) [.pointer (some ⟨p_0, 0, none⟩)] Try.func68 rfl rfl rfl (fun a HF => ?_)
  have HT : St w0 F w0 [Box p_0 [.slice a_x0_0 x0_0.length c_x0_0, .int .i64 x0_1, .int .i64 x0_2]] := HT
  refine wp_seq ?_
  refine wc_text ?_
  refine wc_alloc (cs := [.int .i64 0, .slice none 0 0]) HF HT zr29 rfl rfl rfl (fun p1 w HT hb => ⟨nS, fun a HF => ?_⟩)
  refine wc_end ?_
  refine then_n ?_
  refine wp_seq ?_
  refine wc_text ?_
  refine wc_move HF nS rfl rfl rfl (fun a HF => ?_)
  obtain ⟨y1, y2, y3, hx1, h⟩ := obs3 h
  have HT : St w0 F w [Box p_0 [.slice a_x0_0 x0_0.length c_x0_0, .int .i64 x0_1, .int .i64 x0_2], Box p1 [.int .i64 0, .slice none 0 0]] := HT.pick 1
  obtain ⟨F1, hAF1, hFF1, hbackF1, hroF1, hownF1⟩ := St.handR (A := [Box p_0 [.slice a_x0_0 x0_0.length c_x0_0, .int .i64 x0_1, .int .i64 x0_2]]) HT
  refine wc_call HF cf69 rfl (w_spec_l1Below fuel hx1 hAF1 (hroF1 hr_x0_0)) rfl rfl ?_
  rintro e w ⟨rfl, hE⟩
  have HT := hbackF1 _ _ hE
  have HT : St w0 F w [Box p_0 [.slice a_x0_0 x0_0.length c_x0_0, .int .i64 y2, .int .i64 y3], Box p1 [.int .i64 0, .slice none 0 0]] := HT
  refine ⟨_, rfl, nS, fun a HF => ?_⟩
  refine wc_build (cs := #[.int .i64 y1, .slice none 0 0]) HF nS bd29 rfl rfl rfl rfl (fun a HF => ?_)
  refine wc_alloc (cs := [.int .i64 0, .slice none 0 0]) HF HT zr29 rfl rfl rfl (fun p2 w HT hb => ⟨nS, fun a HF => ?_⟩)
  refine wc_storeB (cs' := [.int .i64 y1, .slice none 0 0]) HF HT rfl rfl (fun w => (ag29 w).2) rfl rfl rfl rfl rfl (fun w HT => ⟨nS, ?_⟩)
  refine wc_end ?_
  refine then_n ?_
  obtain ⟨z1, z2, z3, hx2, h⟩ := obs3 h
  refine wp_cut (fun a w => Fr a 48 [(0, .pointer (some ⟨p_0, 0, none⟩)), (2, .pointer (some ⟨p1, 0, none⟩)), (3, .pointer (some ⟨p2, 0, none⟩))] ∧ St w0 F w [Box p_0 [.slice a_x0_0 x0_0.length c_x0_0, .int .i64 z1, .int .i64 z2], Box p1 [.int .i64 0, .slice none 0 0], Box p2 [.int .i64 z3, .slice none 0 0]]) ?_ ?_
  · have hk1 := h
    have h := hx2
    refine wp_seq ?_
    refine wc_text ?_
    refine wc_move HF nS rfl rfl rfl (fun a HF => ?_)
    obtain ⟨y4, y5, y6, hx3, h⟩ := obs3 h
    have HT : St w0 F w [Box p_0 [.slice a_x0_0 x0_0.length c_x0_0, .int .i64 y2, .int .i64 y3], Box p2 [.int .i64 y1, .slice none 0 0], Box p1 [.int .i64 0, .slice none 0 0]] := HT.pick 1
    obtain ⟨F2, hAF2, hFF2, hbackF2, hroF2, hownF2⟩ := St.handR (A := [Box p_0 [.slice a_x0_0 x0_0.length c_x0_0, .int .i64 y2, .int .i64 y3]]) HT
    refine wc_call HF cf70 rfl (w_spec_l1Once fuel hx3 hAF2 (hroF2 hr_x0_0)) rfl rfl ?_
    rintro e w ⟨rfl, hE⟩
    have HT := hbackF2 _ _ hE
    have HT : St w0 F w [Box p_0 [.slice a_x0_0 x0_0.length c_x0_0, .int .i64 y5, .int .i64 y6], Box p2 [.int .i64 y1, .slice none 0 0], Box p1 [.int .i64 0, .slice none 0 0]] := HT
    refine ⟨_, rfl, nS, fun a HF => ?_⟩
    refine wc_end ?_
    refine then_n ?_
    by_cases hb1 : y4 = true
    · have h := (if_pos hb1).symm.trans h
      refine wp_if (b' := true) HF rfl hb1 ?_
      refine wc_text ?_
      refine wc_move HF nS rfl rfl rfl (fun a HF => ?_)
      obtain ⟨y7, y8, y9, hx4, h⟩ := obs3 h
      obtain ⟨F3, hAF3, hFF3, hbackF3, hroF3, hownF3⟩ := St.handR (A := [Box p_0 [.slice a_x0_0 x0_0.length c_x0_0, .int .i64 y5, .int .i64 y6]]) HT
      refine wc_call HF cf69 rfl (w_spec_l1Below fuel hx4 hAF3 (hroF3 hr_x0_0)) rfl rfl ?_
      rintro e w ⟨rfl, hE⟩
      have HT := hbackF3 _ _ hE
      have HT : St w0 F w [Box p_0 [.slice a_x0_0 x0_0.length c_x0_0, .int .i64 y8, .int .i64 y9], Box p2 [.int .i64 y1, .slice none 0 0], Box p1 [.int .i64 0, .slice none 0 0]] := HT
      refine ⟨_, rfl, nS, fun a HF => ?_⟩
      obtain ⟨hg1, h⟩ := grd h
      refine wc_bin HF nS rfl rfl (b_sub hg1) rfl rfl (fun a HF => ?_)
      refine wc_faddr HF nS rfl fl29_0 rfl rfl (fun a HF => ?_)
      have HT : St w0 F w [Box p2 [.int .i64 y1, .slice none 0 0], Box p_0 [.slice a_x0_0 x0_0.length c_x0_0, .int .i64 y8, .int .i64 y9], Box p1 [.int .i64 0, .slice none 0 0]] := HT.pick 1
      refine wc_storeB (cs' := [.int .i64 (1000000 - y7), .slice none 0 0]) HF HT rfl rfl (fun w => (sc3 w).2) rfl rfl rfl rfl rfl (fun w HT => ⟨nS, ?_⟩)
      refine wc_end ?_
      have HT : St w0 F w [Box p1 [.int .i64 0, .slice none 0 0], Box p2 [.int .i64 (1000000 - y7), .slice none 0 0], Box p_0 [.slice a_x0_0 x0_0.length c_x0_0, .int .i64 y8, .int .i64 y9]] := HT.pick 2
      have HT : St w0 F w [Box p_0 [.slice a_x0_0 x0_0.length c_x0_0, .int .i64 y8, .int .i64 y9], Box p1 [.int .i64 0, .slice none 0 0], Box p2 [.int .i64 (1000000 - y7), .slice none 0 0]] := HT.pick 2
      have hj1 := Option.some.inj h
      obtain ⟨hi1, hj2⟩ := Prod.mk.inj hj1
      subst hi1
      obtain ⟨hi2, hj3⟩ := Prod.mk.inj hj2
      subst hi2
      subst hj3
      exact then_n ⟨(HF.keep (HF.keep (HF.keep HF.nil rfl) rfl) rfl), HT⟩
    · have h := (if_neg hb1).symm.trans h
      refine wp_if (b' := false) HF rfl (Bool.eq_false_iff.2 hb1) ?_
      refine wp_skip ?_
      have HT : St w0 F w [Box p2 [.int .i64 y1, .slice none 0 0], Box p_0 [.slice a_x0_0 x0_0.length c_x0_0, .int .i64 y5, .int .i64 y6], Box p1 [.int .i64 0, .slice none 0 0]] := HT.pick 1
      have HT : St w0 F w [Box p1 [.int .i64 0, .slice none 0 0], Box p2 [.int .i64 y1, .slice none 0 0], Box p_0 [.slice a_x0_0 x0_0.length c_x0_0, .int .i64 y5, .int .i64 y6]] := HT.pick 2
      have HT : St w0 F w [Box p_0 [.slice a_x0_0 x0_0.length c_x0_0, .int .i64 y5, .int .i64 y6], Box p1 [.int .i64 0, .slice none 0 0], Box p2 [.int .i64 y1, .slice none 0 0]] := HT.pick 2
      have hj4 := Option.some.inj h
      obtain ⟨hi4, hj5⟩ := Prod.mk.inj hj4
      subst hi4
      obtain ⟨hi5, hj6⟩ := Prod.mk.inj hj5
      subst hi5
      subst hj6
      exact then_n ⟨(HF.keep (HF.keep (HF.keep HF.nil rfl) rfl) rfl), HT⟩
  · rintro a w ⟨HF, HT⟩
    refine ?_
    refine wp_seq ?_
    refine wc_text ?_
    refine wc_move HF nS rfl rfl rfl (fun a HF => ?_)
    obtain ⟨y10, y11, y12, hx5, h⟩ := obs3 h
    obtain ⟨F4, hAF4, hFF4, hbackF4, hroF4, hownF4⟩ := St.handR (A := [Box p_0 [.slice a_x0_0 x0_0.length c_x0_0, .int .i64 z1, .int .i64 z2]]) HT
    refine wc_call HF cf69 rfl (w_spec_l1Below fuel hx5 hAF4 (hroF4 hr_x0_0)) rfl rfl ?_
    rintro e w ⟨rfl, hE⟩
    have HT := hbackF4 _ _ hE
    have HT : St w0 F w [Box p_0 [.slice a_x0_0 x0_0.length c_x0_0, .int .i64 y11, .int .i64 y12], Box p1 [.int .i64 0, .slice none 0 0], Box p2 [.int .i64 z3, .slice none 0 0]] := HT
    refine ⟨_, rfl, nS, fun a HF => ?_⟩
    refine wc_assign HF nS rfl rfl rfl (fun a HF => ?_)
    refine wc_end ?_
    refine then_n ?_
    obtain ⟨z4, z5, z6, hx6, h⟩ := obs3 h
    refine wp_cut (fun a w => ∃ a1 n1 c1, Fr a 48 [(2, .pointer (some ⟨p1, 0, none⟩)), (3, .pointer (some ⟨p2, 0, none⟩))] ∧ St w0 F w [Box p1 [.int .i64 0, .slice none 0 0], Own 61 (rowT z4) (.slice a1 n1 c1), Box p2 [.int .i64 z3, .slice a1 n1 c1], Box p_0 [.slice a_x0_0 x0_0.length c_x0_0, .int .i64 z5, .int .i64 z6]]) ?_ ?_
    · have hk1 := h
      have h := hx6
      refine wp_seq ?_
      refine wc_text ?_
      refine wc_assign HF nS rfl rfl rfl (fun a HF => ?_)
      refine wc_end ?_
      refine then_n ?_
      refine wp_block ?_
      have HT : St w0 F w [Own 61 (rowT ([] : List I3)) (.slice none 0 0), Box p_0 [.slice a_x0_0 x0_0.length c_x0_0, .int .i64 y11, .int .i64 y12], Box p1 [.int .i64 0, .slice none 0 0], Box p2 [.int .i64 z3, .slice none 0 0]] := HT.nilrow 61
      have HT : St w0 F w [Box p2 [.int .i64 z3, .slice none 0 0], Own 61 (rowT ([] : List I3)) (.slice none 0 0), Box p_0 [.slice a_x0_0 x0_0.length c_x0_0, .int .i64 y11, .int .i64 y12], Box p1 [.int .i64 0, .slice none 0 0]] := HT.pick 3
      have HT : St w0 F w [Own 61 (rowT ([] : List I3)) (.slice none 0 0), Box p2 [.int .i64 z3, .slice none 0 0], Box p_0 [.slice a_x0_0 x0_0.length c_x0_0, .int .i64 y11, .int .i64 y12], Box p1 [.int .i64 0, .slice none 0 0]] := HT.pick 1
      have HT : St w0 F w [Box p1 [.int .i64 0, .slice none 0 0], Own 61 (rowT ([] : List I3)) (.slice none 0 0), Box p2 [.int .i64 z3, .slice none 0 0], Box p_0 [.slice a_x0_0 x0_0.length c_x0_0, .int .i64 y11, .int .i64 y12]] := HT.pick 3
      have HT : St w0 F w [Box p_0 [.slice a_x0_0 x0_0.length c_x0_0, .int .i64 y11, .int .i64 y12], Box p1 [.int .i64 0, .slice none 0 0], Own 61 (rowT ([] : List I3)) (.slice none 0 0), Box p2 [.int .i64 z3, .slice none 0 0]] := HT.pick 3
      refine wp_loopN (fun k1 a w => ∃ z7 z8 z9 z10 a2 n2 c2, m_spec_l3Mem_L0 fuel x0_0 z3 y10 k1 z7 z8 z9 z10 = some (z4, z5, z6) ∧ Fr a 48 [(0, .pointer (some ⟨p_0, 0, none⟩)), (2, .pointer (some ⟨p1, 0, none⟩)), (3, .pointer (some ⟨p2, 0, none⟩)), (4, .int .i64 y10), (5, .int .i64 z10)] ∧ St w0 F w [Box p_0 [.slice a_x0_0 x0_0.length c_x0_0, .int .i64 z7, .int .i64 z8], Box p1 [.int .i64 0, .slice none 0 0], Own 61 (rowT z9) (.slice a2 n2 c2), Box p2 [.int .i64 z3, .slice a2 n2 c2]]) fuel ⟨y11, y12, ([] : List I3), 0, none, 0, 0, h, (HF.keep (HF.keep (HF.keep (HF.keep (HF.keep HF.nil rfl) rfl) rfl) rfl) rfl), HT⟩ ?_
      rintro k1 a w ⟨z7, z8, z9, z10, a2, n2, c2, h, HF, HT⟩
      cases k1 with
      | zero => cases h
      | succ k1 =>
        rw [m_spec_l3Mem_L0] at h
        obtain rfl := (HT.rdAt 2 rfl).neq
        refine ?_
        refine wp_seq ?_
        refine wp_seq ?_
        refine wc_text ?_
        refine wc_move HF nS rfl rfl rfl (fun a HF => ?_)
        refine wc_bin HF nS rfl rfl b_lt rfl rfl (fun a HF => ?_)
        refine wc_end ?_
        refine then_n ?_
        by_cases hb2 : z10 < 8
        · have h := (if_pos hb2).symm.trans h
          refine wp_if (b' := true) HF rfl (decide_eq_true hb2) ?_
          refine wp_skip ?_
          refine then_n ?_
          obtain ⟨z11, z12, z13, hx7, h⟩ := obs3 h
          refine wp_cut (fun a w => ∃ a3 n3 c3, Fr a 48 [(0, .pointer (some ⟨p_0, 0, none⟩)), (2, .pointer (some ⟨p1, 0, none⟩)), (3, .pointer (some ⟨p2, 0, none⟩)), (4, .int .i64 y10), (5, .int .i64 z10)] ∧ St w0 F w [Box p_0 [.slice a_x0_0 x0_0.length c_x0_0, .int .i64 z11, .int .i64 z12], Box p1 [.int .i64 0, .slice none 0 0], Own 61 (rowT z13) (.slice a3 n3 c3), Box p2 [.int .i64 z3, .slice a3 n3 c3]]) ?_ ?_
          · have hk2 := h
            have h := hx7
            refine wp_block ?_
            refine wp_seq ?_
            refine wc_text ?_
            refine wc_move HF nS rfl rfl rfl (fun a HF => ?_)
            obtain ⟨y13, y14, y15, hx8, h⟩ := obs3 h
            obtain ⟨F5, hAF5, hFF5, hbackF5, hroF5, hownF5⟩ := St.handR (A := [Box p_0 [.slice a_x0_0 x0_0.length c_x0_0, .int .i64 z7, .int .i64 z8]]) HT
            refine wc_call HF cf71 rfl (w_spec_l3Draw fuel hx8 hAF5 (hroF5 hr_x0_0)) rfl rfl ?_
            rintro e w ⟨rfl, hE⟩
            have HT := hbackF5 _ _ hE
            have HT : St w0 F w [Box p_0 [.slice a_x0_0 x0_0.length c_x0_0, .int .i64 y14, .int .i64 y15], Box p1 [.int .i64 0, .slice none 0 0], Own 61 (rowT z9) (.slice a2 z9.length c2), Box p2 [.int .i64 z3, .slice a2 z9.length c2]] := HT
            refine ⟨_, rfl, nS, fun a HF => ?_⟩
            refine wc_build (cs := #[.int .i64 y13, .int .i64 0, .int .i64 0]) HF nS bd61 rfl rfl rfl rfl (fun a HF => ?_)
            refine wc_alloc (cs := [.int .i64 0, .int .i64 0, .int .i64 0]) HF HT zr61 rfl rfl rfl (fun p3 w HT hb => ⟨nS, fun a HF => ?_⟩)
            refine wc_storeB (cs' := [.int .i64 y13, .int .i64 0, .int .i64 0]) HF HT rfl rfl (fun w => (ag61 w).2) rfl rfl rfl rfl rfl (fun w HT => ⟨nS, ?_⟩)
            refine wc_end ?_
            refine then_n ?_
            refine wp_seq ?_
            refine wc_text ?_
            refine wc_move HF nS rfl rfl rfl (fun a HF => ?_)
            refine wc_faddr HF nS rfl fl29_0 rfl rfl (fun a HF => ?_)
            refine wc_load HF rfl sc3 ((HT.boxAt 4 rfl).get 0 rfl) rfl rfl (fun a HF => ?_)
            obtain ⟨hg2, h⟩ := grd h
            refine wc_bin HF nS rfl rfl (b_add hg2) rfl rfl (fun a HF => ?_)
            obtain ⟨y16, y17, y18, hx9, h⟩ := obs3 h
            have HT : St w0 F w [Box p_0 [.slice a_x0_0 x0_0.length c_x0_0, .int .i64 y14, .int .i64 y15], Box p3 [.int .i64 y13, .int .i64 0, .int .i64 0], Box p1 [.int .i64 0, .slice none 0 0], Own 61 (rowT z9) (.slice a2 z9.length c2), Box p2 [.int .i64 z3, .slice a2 z9.length c2]] := HT.pick 1
            obtain ⟨F6, hAF6, hFF6, hbackF6, hroF6, hownF6⟩ := St.handR (A := [Box p_0 [.slice a_x0_0 x0_0.length c_x0_0, .int .i64 y14, .int .i64 y15]]) HT
            refine wc_call HF cf69 rfl (w_spec_l1Below fuel hx9 hAF6 (hroF6 hr_x0_0)) rfl rfl ?_
            rintro e w ⟨rfl, hE⟩
            have HT := hbackF6 _ _ hE
            have HT : St w0 F w [Box p_0 [.slice a_x0_0 x0_0.length c_x0_0, .int .i64 y17, .int .i64 y18], Box p3 [.int .i64 y13, .int .i64 0, .int .i64 0], Box p1 [.int .i64 0, .slice none 0 0], Own 61 (rowT z9) (.slice a2 z9.length c2), Box p2 [.int .i64 z3, .slice a2 z9.length c2]] := HT
            refine ⟨_, rfl, nS, fun a HF => ?_⟩
            refine wc_faddr HF nS rfl fl61_1 rfl rfl (fun a HF => ?_)
            have HT : St w0 F w [Box p3 [.int .i64 y13, .int .i64 0, .int .i64 0], Box p_0 [.slice a_x0_0 x0_0.length c_x0_0, .int .i64 y17, .int .i64 y18], Box p1 [.int .i64 0, .slice none 0 0], Own 61 (rowT z9) (.slice a2 z9.length c2), Box p2 [.int .i64 z3, .slice a2 z9.length c2]] := HT.pick 1
            refine wc_storeB (cs' := [.int .i64 y13, .int .i64 y16, .int .i64 0]) HF HT rfl rfl (fun w => (sc3 w).2) rfl rfl rfl rfl rfl (fun w HT => ⟨nS, ?_⟩)
            refine wc_end ?_
            refine then_n ?_
            obtain ⟨z14, z15, z16, hx10, h⟩ := obs3 h
            refine wp_cut (fun a w => Fr a 48 [(0, .pointer (some ⟨p_0, 0, none⟩)), (2, .pointer (some ⟨p1, 0, none⟩)), (3, .pointer (some ⟨p2, 0, none⟩)), (4, .int .i64 y10), (5, .int .i64 z10), (6, .pointer (some ⟨p3, 0, none⟩))] ∧ St w0 F w [Box p_0 [.slice a_x0_0 x0_0.length c_x0_0, .int .i64 z14, .int .i64 z15], Box p1 [.int .i64 0, .slice none 0 0], Own 61 (rowT z9) (.slice a2 z9.length c2), Box p2 [.int .i64 z3, .slice a2 z9.length c2], Box p3 [.int .i64 y13, .int .i64 y16, .int .i64 z16]]) ?_ ?_
            · have hk3 := h
              have h := hx10
              refine wp_seq ?_
              refine wc_text ?_
              refine wc_move HF nS rfl rfl rfl (fun a HF => ?_)
              refine wc_bin HF nS rfl rfl b_gt rfl rfl (fun a HF => ?_)
              refine wc_move HF nS rfl rfl rfl (fun a HF => ?_)
              by_cases hb3 : 0 < y10
              · have h := (if_pos hb3).symm.trans h
                refine wc_move HF nS rfl (HF.wy rfl rfl rfl rfl (decide_eq_true hb3)) rfl (fun a HF => ?_)
                obtain ⟨y19, y20, y21, hx11, h⟩ := obs3 h
                have HT : St w0 F w [Box p_0 [.slice a_x0_0 x0_0.length c_x0_0, .int .i64 y17, .int .i64 y18], Box p3 [.int .i64 y13, .int .i64 y16, .int .i64 0], Box p1 [.int .i64 0, .slice none 0 0], Own 61 (rowT z9) (.slice a2 z9.length c2), Box p2 [.int .i64 z3, .slice a2 z9.length c2]] := HT.pick 1
                obtain ⟨F7, hAF7, hFF7, hbackF7, hroF7, hownF7⟩ := St.handR (A := [Box p_0 [.slice a_x0_0 x0_0.length c_x0_0, .int .i64 y17, .int .i64 y18]]) HT
                refine wc_call HF cf70 rfl (w_spec_l1Once fuel hx11 hAF7 (hroF7 hr_x0_0)) (HF.wy rfl rfl rfl rfl (decide_eq_true hb3)) rfl ?_
                rintro e w ⟨rfl, hE⟩
                have HT := hbackF7 _ _ hE
                have HT : St w0 F w [Box p_0 [.slice a_x0_0 x0_0.length c_x0_0, .int .i64 y20, .int .i64 y21], Box p3 [.int .i64 y13, .int .i64 y16, .int .i64 0], Box p1 [.int .i64 0, .slice none 0 0], Own 61 (rowT z9) (.slice a2 z9.length c2), Box p2 [.int .i64 z3, .slice a2 z9.length c2]] := HT
                refine ⟨_, rfl, nS, fun a HF => ?_⟩
                refine wc_pick (b := true) HF nS rfl (decide_eq_true hb3) rfl rfl rfl (fun a HF => ?_)
                refine wc_end ?_
                refine then_n ?_
                by_cases hb4 : y19 = true
                · have h := (if_pos hb4).symm.trans h
                  refine wp_if (b' := true) HF rfl hb4 ?_
                  refine wc_text ?_
                  refine wc_move HF nS rfl rfl rfl (fun a HF => ?_)
                  obtain ⟨y22, y23, y24, hx12, h⟩ := obs3 h
                  obtain ⟨F8, hAF8, hFF8, hbackF8, hroF8, hownF8⟩ := St.handR (A := [Box p_0 [.slice a_x0_0 x0_0.length c_x0_0, .int .i64 y20, .int .i64 y21]]) HT
                  refine wc_call HF cf69 rfl (w_spec_l1Below fuel hx12 hAF8 (hroF8 hr_x0_0)) rfl rfl ?_
                  rintro e w ⟨rfl, hE⟩
                  have HT := hbackF8 _ _ hE
                  have HT : St w0 F w [Box p_0 [.slice a_x0_0 x0_0.length c_x0_0, .int .i64 y23, .int .i64 y24], Box p3 [.int .i64 y13, .int .i64 y16, .int .i64 0], Box p1 [.int .i64 0, .slice none 0 0], Own 61 (rowT z9) (.slice a2 z9.length c2), Box p2 [.int .i64 z3, .slice a2 z9.length c2]] := HT
                  refine ⟨_, rfl, nS, fun a HF => ?_⟩
                  obtain ⟨hg3, h⟩ := grd h
                  refine wc_bin HF nS rfl rfl (b_add hg3) rfl rfl (fun a HF => ?_)
                  refine wc_faddr HF nS rfl fl61_2 rfl rfl (fun a HF => ?_)
                  have HT : St w0 F w [Box p3 [.int .i64 y13, .int .i64 y16, .int .i64 0], Box p_0 [.slice a_x0_0 x0_0.length c_x0_0, .int .i64 y23, .int .i64 y24], Box p1 [.int .i64 0, .slice none 0 0], Own 61 (rowT z9) (.slice a2 z9.length c2), Box p2 [.int .i64 z3, .slice a2 z9.length c2]] := HT.pick 1
                  refine wc_storeB (cs' := [.int .i64 y13, .int .i64 y16, .int .i64 (1 + y22)]) HF HT rfl rfl (fun w => (sc3 w).2) rfl rfl rfl rfl rfl (fun w HT => ⟨nS, ?_⟩)
                  refine wc_end ?_
                  have HT : St w0 F w [Box p2 [.int .i64 z3, .slice a2 z9.length c2], Box p3 [.int .i64 y13, .int .i64 y16, .int .i64 (1 + y22)], Box p_0 [.slice a_x0_0 x0_0.length c_x0_0, .int .i64 y23, .int .i64 y24], Box p1 [.int .i64 0, .slice none 0 0], Own 61 (rowT z9) (.slice a2 z9.length c2)] := HT.pick 4
                  have HT : St w0 F w [Own 61 (rowT z9) (.slice a2 z9.length c2), Box p2 [.int .i64 z3, .slice a2 z9.length c2], Box p3 [.int .i64 y13, .int .i64 y16, .int .i64 (1 + y22)], Box p_0 [.slice a_x0_0 x0_0.length c_x0_0, .int .i64 y23, .int .i64 y24], Box p1 [.int .i64 0, .slice none 0 0]] := HT.pick 4
                  have HT : St w0 F w [Box p1 [.int .i64 0, .slice none 0 0], Own 61 (rowT z9) (.slice a2 z9.length c2), Box p2 [.int .i64 z3, .slice a2 z9.length c2], Box p3 [.int .i64 y13, .int .i64 y16, .int .i64 (1 + y22)], Box p_0 [.slice a_x0_0 x0_0.length c_x0_0, .int .i64 y23, .int .i64 y24]] := HT.pick 4
                  have HT : St w0 F w [Box p_0 [.slice a_x0_0 x0_0.length c_x0_0, .int .i64 y23, .int .i64 y24], Box p1 [.int .i64 0, .slice none 0 0], Own 61 (rowT z9) (.slice a2 z9.length c2), Box p2 [.int .i64 z3, .slice a2 z9.length c2], Box p3 [.int .i64 y13, .int .i64 y16, .int .i64 (1 + y22)]] := HT.pick 4
                  have hj7 := Option.some.inj h
                  obtain ⟨hi7, hj8⟩ := Prod.mk.inj hj7
                  subst hi7
                  obtain ⟨hi8, hj9⟩ := Prod.mk.inj hj8
                  subst hi8
                  subst hj9
                  exact then_n ⟨(HF.keep (HF.keep (HF.keep (HF.keep (HF.keep (HF.keep HF.nil rfl) rfl) rfl) rfl) rfl) rfl), HT⟩
                · have h := (if_neg hb4).symm.trans h
                  refine wp_if (b' := false) HF rfl (Bool.eq_false_iff.2 hb4) ?_
                  refine wp_skip ?_
                  have HT : St w0 F w [Box p3 [.int .i64 y13, .int .i64 y16, .int .i64 0], Box p_0 [.slice a_x0_0 x0_0.length c_x0_0, .int .i64 y20, .int .i64 y21], Box p1 [.int .i64 0, .slice none 0 0], Own 61 (rowT z9) (.slice a2 z9.length c2), Box p2 [.int .i64 z3, .slice a2 z9.length c2]] := HT.pick 1
                  have HT : St w0 F w [Box p2 [.int .i64 z3, .slice a2 z9.length c2], Box p3 [.int .i64 y13, .int .i64 y16, .int .i64 0], Box p_0 [.slice a_x0_0 x0_0.length c_x0_0, .int .i64 y20, .int .i64 y21], Box p1 [.int .i64 0, .slice none 0 0], Own 61 (rowT z9) (.slice a2 z9.length c2)] := HT.pick 4
                  have HT : St w0 F w [Own 61 (rowT z9) (.slice a2 z9.length c2), Box p2 [.int .i64 z3, .slice a2 z9.length c2], Box p3 [.int .i64 y13, .int .i64 y16, .int .i64 0], Box p_0 [.slice a_x0_0 x0_0.length c_x0_0, .int .i64 y20, .int .i64 y21], Box p1 [.int .i64 0, .slice none 0 0]] := HT.pick 4
                  have HT : St w0 F w [Box p1 [.int .i64 0, .slice none 0 0], Own 61 (rowT z9) (.slice a2 z9.length c2), Box p2 [.int .i64 z3, .slice a2 z9.length c2], Box p3 [.int .i64 y13, .int .i64 y16, .int .i64 0], Box p_0 [.slice a_x0_0 x0_0.length c_x0_0, .int .i64 y20, .int .i64 y21]] := HT.pick 4
                  have HT : St w0 F w [Box p_0 [.slice a_x0_0 x0_0.length c_x0_0, .int .i64 y20, .int .i64 y21], Box p1 [.int .i64 0, .slice none 0 0], Own 61 (rowT z9) (.slice a2 z9.length c2), Box p2 [.int .i64 z3, .slice a2 z9.length c2], Box p3 [.int .i64 y13, .int .i64 y16, .int .i64 0]] := HT.pick 4
                  have hj10 := Option.some.inj h
                  obtain ⟨hi10, hj11⟩ := Prod.mk.inj hj10
                  subst hi10
                  obtain ⟨hi11, hj12⟩ := Prod.mk.inj hj11
                  subst hi11
                  subst hj12
                  exact then_n ⟨(HF.keep (HF.keep (HF.keep (HF.keep (HF.keep (HF.keep HF.nil rfl) rfl) rfl) rfl) rfl) rfl), HT⟩
              · have h := (if_neg hb3).symm.trans h
                refine wc_skip HF nS (HF.wn rfl rfl rfl rfl (decide_eq_false hb3)) rfl (fun a HF => ?_)
                refine wc_skip HF nS (HF.wn rfl rfl rfl rfl (decide_eq_false hb3)) rfl (fun a HF => ?_)
                refine wc_pick (b := false) HF nS rfl (decide_eq_false hb3) rfl rfl rfl (fun a HF => ?_)
                refine wc_end ?_
                refine then_n ?_
                refine wp_if (b' := false) HF rfl rfl ?_
                refine wp_skip ?_
                have HT : St w0 F w [Box p2 [.int .i64 z3, .slice a2 z9.length c2], Box p3 [.int .i64 y13, .int .i64 y16, .int .i64 0], Box p_0 [.slice a_x0_0 x0_0.length c_x0_0, .int .i64 y17, .int .i64 y18], Box p1 [.int .i64 0, .slice none 0 0], Own 61 (rowT z9) (.slice a2 z9.length c2)] := HT.pick 4
                have HT : St w0 F w [Own 61 (rowT z9) (.slice a2 z9.length c2), Box p2 [.int .i64 z3, .slice a2 z9.length c2], Box p3 [.int .i64 y13, .int .i64 y16, .int .i64 0], Box p_0 [.slice a_x0_0 x0_0.length c_x0_0, .int .i64 y17, .int .i64 y18], Box p1 [.int .i64 0, .slice none 0 0]] := HT.pick 4
                have HT : St w0 F w [Box p1 [.int .i64 0, .slice none 0 0], Own 61 (rowT z9) (.slice a2 z9.length c2), Box p2 [.int .i64 z3, .slice a2 z9.length c2], Box p3 [.int .i64 y13, .int .i64 y16, .int .i64 0], Box p_0 [.slice a_x0_0 x0_0.length c_x0_0, .int .i64 y17, .int .i64 y18]] := HT.pick 4
                have HT : St w0 F w [Box p_0 [.slice a_x0_0 x0_0.length c_x0_0, .int .i64 y17, .int .i64 y18], Box p1 [.int .i64 0, .slice none 0 0], Own 61 (rowT z9) (.slice a2 z9.length c2), Box p2 [.int .i64 z3, .slice a2 z9.length c2], Box p3 [.int .i64 y13, .int .i64 y16, .int .i64 0]] := HT.pick 4
                have hj13 := Option.some.inj h
                obtain ⟨hi13, hj14⟩ := Prod.mk.inj hj13
                subst hi13
                obtain ⟨hi14, hj15⟩ := Prod.mk.inj hj14
                subst hi14
                subst hj15
                exact then_n ⟨(HF.keep (HF.keep (HF.keep (HF.keep (HF.keep (HF.keep HF.nil rfl) rfl) rfl) rfl) rfl) rfl), HT⟩
            · rintro a w ⟨HF, HT⟩
              refine ?_
              refine wc_text ?_
              refine wc_faddr HF nS rfl fl29_1 rfl rfl (fun a HF => ?_)
              refine wc_load HF rfl sc27 ((HT.boxAt 3 rfl).get 1 rfl) rfl rfl (fun a HF => ?_)
              refine wc_loadA (vs := [.int .i64 y13, .int .i64 y16, .int .i64 z16]) HF rfl ag61 rfl ((HT.boxAt 4 rfl).part 0 3) rfl rfl (fun a HF => ?_)
              refine wc_bslice (l := ([(⟨y13, y16, z16⟩ : I3)] : List I3)) (cs := [.int .i64 y13, .int .i64 y16, .int .i64 z16]) (A := []) HF HT bs27_1 rfl rfl (gives_flat rfl) rfl (by decide) rfl rfl (fun p4 w HT hb => ⟨nS, fun a HF => ?_⟩)
              obtain ⟨hg4, h⟩ := grd h
              have HT : St w0 F w [Own 61 (rowT z9) (.slice a2 z9.length c2), Own 61 (rowT ([(⟨y13, y16, z16⟩ : I3)] : List I3)) (.slice (some ⟨p4, 0, none⟩) 1 1), Box p_0 [.slice a_x0_0 x0_0.length c_x0_0, .int .i64 z14, .int .i64 z15], Box p1 [.int .i64 0, .slice none 0 0], Box p2 [.int .i64 z3, .slice a2 z9.length c2], Box p3 [.int .i64 y13, .int .i64 y16, .int .i64 z16]] := HT.pick 3
              refine wc_append HF HT el27 rfl rfl (Nat.zero_lt_succ _) hg4 rfl rfl rfl (fun a4 c4 w HT => ⟨nS, fun a HF => ?_⟩)
              refine wc_faddr HF nS rfl fl29_1 rfl rfl (fun a HF => ?_)
              have HT : St w0 F w [Box p2 [.int .i64 z3, .slice a2 z9.length c2], Own 61 (rowT (z9 ++ ([(⟨y13, y16, z16⟩ : I3)] : List I3))) (.slice a4 ((z9 ++ ([(⟨y13, y16, z16⟩ : I3)] : List I3)).length) c4), Box p_0 [.slice a_x0_0 x0_0.length c_x0_0, .int .i64 z14, .int .i64 z15], Box p1 [.int .i64 0, .slice none 0 0], Box p3 [.int .i64 y13, .int .i64 y16, .int .i64 z16]] := HT.pick 3
              refine wc_storeB (cs' := [.int .i64 z3, .slice a4 ((z9 ++ ([(⟨y13, y16, z16⟩ : I3)] : List I3)).length) c4]) HF HT rfl rfl (fun w => (sc27 w).2) rfl rfl rfl rfl rfl (fun w HT => ⟨nS, ?_⟩)
              refine wc_end ?_
              refine blk_n ?_
              have HT : St w0 F w [Own 61 (rowT (z9 ++ ([(⟨y13, y16, z16⟩ : I3)] : List I3))) (.slice a4 ((z9 ++ ([(⟨y13, y16, z16⟩ : I3)] : List I3)).length) c4), Box p2 [.int .i64 z3, .slice a4 ((z9 ++ ([(⟨y13, y16, z16⟩ : I3)] : List I3)).length) c4], Box p_0 [.slice a_x0_0 x0_0.length c_x0_0, .int .i64 z14, .int .i64 z15], Box p1 [.int .i64 0, .slice none 0 0], Box p3 [.int .i64 y13, .int .i64 y16, .int .i64 z16]] := HT.pick 1
              have HT : St w0 F w [Box p1 [.int .i64 0, .slice none 0 0], Own 61 (rowT (z9 ++ ([(⟨y13, y16, z16⟩ : I3)] : List I3))) (.slice a4 ((z9 ++ ([(⟨y13, y16, z16⟩ : I3)] : List I3)).length) c4), Box p2 [.int .i64 z3, .slice a4 ((z9 ++ ([(⟨y13, y16, z16⟩ : I3)] : List I3)).length) c4], Box p_0 [.slice a_x0_0 x0_0.length c_x0_0, .int .i64 z14, .int .i64 z15], Box p3 [.int .i64 y13, .int .i64 y16, .int .i64 z16]] := HT.pick 3
              have HT : St w0 F w [Box p_0 [.slice a_x0_0 x0_0.length c_x0_0, .int .i64 z14, .int .i64 z15], Box p1 [.int .i64 0, .slice none 0 0], Own 61 (rowT (z9 ++ ([(⟨y13, y16, z16⟩ : I3)] : List I3))) (.slice a4 ((z9 ++ ([(⟨y13, y16, z16⟩ : I3)] : List I3)).length) c4), Box p2 [.int .i64 z3, .slice a4 ((z9 ++ ([(⟨y13, y16, z16⟩ : I3)] : List I3)).length) c4], Box p3 [.int .i64 y13, .int .i64 y16, .int .i64 z16]] := HT.pick 3
              have HT : St w0 F w [Box p_0 [.slice a_x0_0 x0_0.length c_x0_0, .int .i64 z14, .int .i64 z15], Box p1 [.int .i64 0, .slice none 0 0], Own 61 (rowT (z9 ++ ([(⟨y13, y16, z16⟩ : I3)] : List I3))) (.slice a4 ((z9 ++ ([(⟨y13, y16, z16⟩ : I3)] : List I3)).length) c4), Box p2 [.int .i64 z3, .slice a4 ((z9 ++ ([(⟨y13, y16, z16⟩ : I3)] : List I3)).length) c4]] := HT.take 4
              have hj16 := Option.some.inj h
              obtain ⟨hi16, hj17⟩ := Prod.mk.inj hj16
              subst hi16
              obtain ⟨hi17, hj18⟩ := Prod.mk.inj hj17
              subst hi17
              subst hj18
              exact then_n ⟨a4, (z9 ++ ([(⟨y13, y16, z16⟩ : I3)] : List I3)).length, c4, (HF.keep (HF.keep (HF.keep (HF.keep (HF.keep HF.nil rfl) rfl) rfl) rfl) rfl), HT⟩
          · rintro a w ⟨a3, n3, c3, HF, HT⟩
            obtain rfl := (HT.rdAt 2 rfl).neq
            refine ?_
            refine wc_text ?_
            refine wc_move HF nS rfl rfl rfl (fun a HF => ?_)
            obtain ⟨hg5, h⟩ := grd h
            refine wc_bin HF nS rfl rfl (b_add hg5) rfl rfl (fun a HF => ?_)
            refine wc_assign HF nS rfl rfl rfl (fun a HF => ?_)
            refine wc_end ?_
            exact then_n ⟨k1, Nat.lt_succ_self k1, z11, z12, z13, z10 + 1, a3, z13.length, c3, h, (HF.keep (HF.keep (HF.keep (HF.keep (HF.keep HF.nil rfl) rfl) rfl) rfl) rfl), HT⟩
        · have h := (if_neg hb2).symm.trans h
          refine wp_if (b' := false) HF rfl (decide_eq_false hb2) ?_
          refine wp_exit ?_
          refine then_x (then_x (?_))
          refine blk_x ?_
          have HT : St w0 F w [Box p2 [.int .i64 z3, .slice a2 z9.length c2], Box p_0 [.slice a_x0_0 x0_0.length c_x0_0, .int .i64 z7, .int .i64 z8], Box p1 [.int .i64 0, .slice none 0 0], Own 61 (rowT z9) (.slice a2 z9.length c2)] := HT.pick 3
          have HT : St w0 F w [Own 61 (rowT z9) (.slice a2 z9.length c2), Box p2 [.int .i64 z3, .slice a2 z9.length c2], Box p_0 [.slice a_x0_0 x0_0.length c_x0_0, .int .i64 z7, .int .i64 z8], Box p1 [.int .i64 0, .slice none 0 0]] := HT.pick 3
          have HT : St w0 F w [Box p1 [.int .i64 0, .slice none 0 0], Own 61 (rowT z9) (.slice a2 z9.length c2), Box p2 [.int .i64 z3, .slice a2 z9.length c2], Box p_0 [.slice a_x0_0 x0_0.length c_x0_0, .int .i64 z7, .int .i64 z8]] := HT.pick 3
          have hj19 := Option.some.inj h
          obtain ⟨hi19, hj20⟩ := Prod.mk.inj hj19
          subst hi19
          obtain ⟨hi20, hj21⟩ := Prod.mk.inj hj20
          subst hi20
          subst hj21
          exact then_n ⟨a2, z9.length, c2, (HF.keep (HF.keep HF.nil rfl) rfl), HT⟩
    · rintro a w ⟨a1, n1, c1, HF, HT⟩
      obtain rfl := (HT.rdAt 1 rfl).neq
      refine ?_
      refine wp_seq ?_
      refine wc_text ?_
      refine wc_loadA (vs := [.int .i64 z3, .slice a1 z4.length c1]) HF rfl ag29 rfl ((HT.boxAt 2 rfl).part 0 2) rfl rfl (fun a HF => ?_)
      refine wc_storeB (cs' := [.int .i64 z3, .slice a1 z4.length c1]) HF HT rfl rfl (fun w => (ag29 w).2) rfl rfl rfl rfl rfl (fun w HT => ⟨nS, ?_⟩)
      refine wc_end ?_
      refine then_n ?_
      refine wp_ret ?_
      have hj22 := Option.some.inj h
      obtain ⟨hi22, hj23⟩ := Prod.mk.inj hj22
      subst hi22
      obtain ⟨hi23, hj24⟩ := Prod.mk.inj hj23
      subst hi23
      obtain ⟨hi24, hj25⟩ := Prod.mk.inj hj24
      subst hi24
      subst hj25
      refine bp_ret HF (res_cell (vs := [.int .i64 z3, .slice a1 z4.length c1]) rfl HF rfl ag29 rfl (HT.boxAt 0 rfl)) ?_
      have HT : St w0 F w [Box p_0 [.slice a_x0_0 x0_0.length c_x0_0, .int .i64 z5, .int .i64 z6], Box p1 [.int .i64 z3, .slice a1 z4.length c1], Own 61 (rowT z4) (.slice a1 z4.length c1), Box p2 [.int .i64 z3, .slice a1 z4.length c1]] := HT.pick 3
      have HT : St w0 F w [Own 61 (rowT z4) (.slice a1 z4.length c1), Box p_0 [.slice a_x0_0 x0_0.length c_x0_0, .int .i64 z5, .int .i64 z6], Box p1 [.int .i64 z3, .slice a1 z4.length c1], Box p2 [.int .i64 z3, .slice a1 z4.length c1]] := HT.pick 2
      have HT : St w0 F w [Own 61 (rowT z4) (.slice a1 z4.length c1), Box p_0 [.slice a_x0_0 x0_0.length c_x0_0, .int .i64 z5, .int .i64 z6]] := HT.take 2
      exact ⟨a1, z4.length, c1, rfl, HT⟩
end Go.Proofs.Ytmhdjnmfioaciaa
