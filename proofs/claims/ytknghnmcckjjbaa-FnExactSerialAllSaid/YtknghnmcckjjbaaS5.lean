/- Walks of functions, by program: laws.eqProgS, laws.eqRunS, laws.heldRunS, laws.markOrderS, laws.markProgS, laws.markRunS, laws.szOrder, laws.szOrderS, laws.szProgS, laws.toOrder, laws.toOrderS, laws.toProgS, spec.SerialAll, laws.FnExactSerialAll, laws.big, laws.sameInts, spec.l1Byte, spec.l1Below, spec.l1New, spec.l1Once, spec.l1PickInt. -/
import Derived.Test.YtknghnmcckjjbaaTy
import Derived.Test.YtknghnmcckjjbaaS4
namespace Go.Proofs.Ytknghnmcckjjbaa
open Go Go.RowKit
set_option linter.unusedVariables false
set_option linter.unusedSimpArgs false
def m_laws_eqProgS_L0 (fuel : Nat) (x0 : List ProgD) (x1 : List ProgD) : Nat → Int → Option (Lp Unit Bool)
  | 0, _ => none
  | k1 + 1, z1 =>
    if z1 < (x0.length : Int) then
      (at? x0 z1).bind fun e1 =>
      (at? x1 z1).bind fun e2 =>
      (m_laws_eqProg fuel e1.code e1.kids e2.code e2.kids).bind fun y1 =>
      if y1 = true then
        if in64 (z1 + 1) then
          m_laws_eqProgS_L0 fuel x0 x1 k1 (z1 + 1)
        else none
      else
      some (.ret false)
    else
    some (.brk ())

def m_laws_eqProgS (fuel : Nat) (x0 : List ProgD) (x1 : List ProgD) : Option Bool :=
  if (x0.length : Int) = (x1.length : Int) then
    (m_laws_eqProgS_L0 fuel x0 x1 fuel 0).bind <| contL <| un1 fun _ =>
    some true
  else
  some false

set_option maxRecDepth 100000 in
set_option maxHeartbeats 4000000 in
theorem w_laws_eqProgS (fuel : Nat) {x0 : List ProgD} {x1 : List ProgD} {a_x0 : Option Addr} {n_x0 c_x0 : Nat} {a_x1 : Option Addr} {n_x1 c_x1 : Nat} {r0 : Bool} {w0 : World} (h : m_laws_eqProgS fuel x0 x1 = some r0) (hr_x0 : RdT (fun b => ¬ False) w0 (rowT x0) (.slice a_x0 n_x0 c_x0)) (hr_x1 : RdT (fun b => ¬ False) w0 (rowT x1) (.slice a_x1 n_x1 c_x1)) :
    Calls Try.prog 44 #[.slice a_x0 n_x0 c_x0, .slice a_x1 n_x1 c_x1] w0 fun e w => e = .returned (.bool r0) ∧ St w0 (fun _ => False) w [] := by
  obtain rfl := hr_x0.neq
  obtain rfl := hr_x1.neq
  have HT : St w0 (fun _ => False) w0 [] := St.init0
  rw [m_laws_eqProgS] at h
  refine calls_fr (n := 27) [.slice a_x0 x0.length c_x0, .slice a_x1 x1.length c_x1] Try.func44 rfl rfl rfl fun a HF => ?_
  have HT : St w0 (fun _ => False) w0 [] := HT
  refine wp_seq (wc_text (wa HF rfl rfl rfl fun a HF => ?_))
  refine wc_end (then_n (wp_seq (wp_seq (wc_text (wm HF rfl rfl rfl fun a HF => ?_)))))
  refine wc_lenR HF nS Try.underlying68 rfl rfl rfl fun a HF => ?_
  refine wm HF rfl rfl rfl fun a HF => ?_
  refine wc_lenR HF nS Try.underlying68 rfl rfl rfl fun a HF => ?_
  refine wc_bin HF nS rfl rfl b_ne rfl rfl fun a HF => ?_
  refine wc_end (then_n ?_)
  by_cases hb1 : (x0.length : Int) = (x1.length : Int)
  have h := ifp hb1 h
  refine wp_if (b' := false) HF rfl (notT (decide_eq_true hb1)) ?_
  refine wp_skip (then_n ?_)
  obtain ⟨q1, hx1, h⟩ := obs h
  refine wp_cut (fun a w => q1 = .brk () ∧ Fr a 27 [] ∧ St w0 (fun _ => False) w []) ?_ ?_
  have hk1 := h
  have h := hx1
  refine wp_seq (wc_text (wa HF rfl rfl rfl fun a HF => ?_))
  refine wc_end (then_n (wp_block (wp_loopN (fun k1 a w => ∃ z1, m_laws_eqProgS_L0 fuel x0 x1 k1 z1 = some q1 ∧ Fr a 27 [(0, .slice a_x0 x0.length c_x0), (1, .slice a_x1 x1.length c_x1), (5, .int .i64 z1)] ∧ St w0 (fun _ => False) w []) fuel ⟨0, h, (HF.keep (HF.keep (HF.keep HF.nil rfl) rfl) rfl), HT⟩ ?_)))
  rintro k1 a w ⟨z1, h, HF, HT⟩
  rcases k1 with _ | k1
  cases h
  rw [m_laws_eqProgS_L0] at h
  refine ?_
  refine wp_seq (wp_seq (wc_text (wm HF rfl rfl rfl fun a HF => ?_)))
  refine wm HF rfl rfl rfl fun a HF => ?_
  refine wc_lenR HF nS Try.underlying68 rfl rfl rfl fun a HF => ?_
  refine wc_bin HF nS rfl rfl b_lt rfl rfl fun a HF => ?_
  refine wc_end (then_n ?_)
  by_cases hb2 : z1 < (x0.length : Int)
  have h := ifp hb2 h
  refine wp_if (b' := true) HF rfl (decide_eq_true hb2) ?_
  refine wp_skip (then_n (wp_seq (wp_block (wp_seq (wp_region_can [(0, true), (1, true), (2, true), (3, true), (4, true), (5, true), (6, true), (7, true), (8, true), (9, true)] (fun w' => True) (by kernel_rfl) (by kernel_rfl) ?_)))))
  have HT := HT.drew
  refine wm HF rfl rfl rfl fun a HF => ?_
  refine wm HF rfl rfl rfl fun a HF => ?_
  obtain ⟨e1, hx2, h⟩ := obs h
  obtain ⟨b1, o1, ha1⟩ := (HT.ro hr_x0).any.addr hx2
  refine wc_ixaddr HF nS el68 rfl ha1 ((HT.ro hr_x0).any).neq rfl hx2 rfl rfl fun a HF => ?_
  obtain ⟨_, hP1, hc1, hr1⟩ := hr_x0.elemAt ha1 hx2
  obtain ⟨a1, c1, a2, c2, rfl, hr2, hr3⟩ := cells_Prog hr1
  have hc2 := HT.roLd hP1 hc1
  refine wc_loadA (vs := [.slice a1 e1.code.length c1, .slice a2 e1.kids.length c2]) HF rfl ag53 rfl (hc2.part 0 2) rfl rfl fun a HF => ?_
  refine wm HF rfl rfl rfl fun a HF => ?_
  refine wm HF rfl rfl rfl fun a HF => ?_
  obtain ⟨e2, hx3, h⟩ := obs h
  obtain ⟨b2, o2, ha2⟩ := (HT.ro hr_x1).any.addr hx3
  refine wc_ixaddr HF nS el68 rfl ha2 ((HT.ro hr_x1).any).neq rfl hx3 rfl rfl fun a HF => ?_
  obtain ⟨_, hP2, hc3, hr4⟩ := hr_x1.elemAt ha2 hx3
  obtain ⟨a3, c3, a4, c4, rfl, hr5, hr6⟩ := cells_Prog hr4
  have hc4 := HT.roLd hP2 hc3
  refine wc_loadA (vs := [.slice a3 e2.code.length c3, .slice a4 e2.kids.length c4]) HF rfl ag53 rfl (hc4.part 0 2) rfl rfl fun a HF => ?_
  obtain ⟨y1, hx4, h⟩ := obs h
  refine wc_call HF cf32 rfl (w_laws_eqProg fuel hx4 (HT.ro hr2).any (HT.ro hr3).any (HT.ro hr5).any (HT.ro hr6).any) rfl rfl ?_
  rintro e w ⟨rfl, hE⟩
  have hb := hE.below
  have HT := HT.pure hE
  have HT : St w0 (fun _ => False) w [] := HT
  refine ⟨_, rfl, nS, fun a HF => ?_⟩
  refine wc_not HF nS rfl rfl rfl fun a HF => ?_
  refine wc_endN (then_n ?_)
  by_cases hb3 : y1 = true
  have h := ifp hb3 h
  refine wp_if (b' := false) HF rfl (notT hb3) ?_
  refine wp_skip (blk_n (then_n (wc_text (wm HF rfl rfl rfl fun a HF => ?_))))
  obtain ⟨hg1, h⟩ := grd h
  refine wc_bin HF nS rfl rfl (b_add hg1) rfl rfl fun a HF => ?_
  refine wa HF rfl rfl rfl fun a HF => ?_
  exact wc_end (then_n ⟨k1, Nat.lt_succ_self k1, z1 + 1, h, (HF.keep (HF.keep (HF.keep HF.nil rfl) rfl) rfl), HT⟩)
  have h := ifn hb3 h
  refine wp_if (b' := true) HF rfl (notF (Bool.eq_false_iff.2 hb3)) ?_
  refine wp_seq (wc_text (wa HF rfl rfl rfl fun a HF => ?_))
  refine wc_end (then_n (wp_ret ?_))
  obtain rfl := Option.some.inj h
  have h := retL hk1
  obtain rfl := Option.some.inj h
  refine blk_r (then_r (then_r (blk_r (then_r (?_)))))
  refine bp_ret HF (res_one rfl HF rfl) ?_
  exact ⟨rfl, HT⟩
  have h := ifn hb2 h
  refine wp_if (b' := false) HF rfl (decide_eq_false hb2) ?_
  refine wp_exit ?_
  refine then_x (then_x (?_))
  refine blk_x ?_
  exact then_n ⟨(Option.some.inj h).symm, HF.nil, HT⟩
  rintro a w ⟨rfl, HF, HT⟩
  have h := brkL1u h
  refine ?_
  refine wp_seq (wc_text (wa HF rfl rfl rfl fun a HF => ?_))
  refine wc_end (then_n (wp_ret ?_))
  obtain rfl := Option.some.inj h
  refine bp_ret HF (res_one rfl HF rfl) ?_
  exact ⟨rfl, HT⟩
  have h := ifn hb1 h
  refine wp_if (b' := true) HF rfl (notF (decide_eq_false hb1)) ?_
  refine wp_seq (wc_text (wa HF rfl rfl rfl fun a HF => ?_))
  refine wc_end (then_n (wp_ret ?_))
  obtain rfl := Option.some.inj h
  refine then_r (?_)
  refine bp_ret HF (res_one rfl HF rfl) ?_
  exact ⟨rfl, HT⟩

def m_laws_eqRunS_L0 (fuel : Nat) (x0 : List RunD) (x1 : List RunD) : Nat → Int → Option (Lp Unit Bool)
  | 0, _ => none
  | k1 + 1, z1 =>
    if z1 < (x0.length : Int) then
      (at? x0 z1).bind fun e1 =>
      (at? x1 z1).bind fun e2 =>
      (m_laws_eqRun fuel e1.out e1.regs e1.cells e1.map e1.count e2.out e2.regs e2.cells e2.map e2.count).bind fun y1 =>
      if y1 = true then
        if in64 (z1 + 1) then
          m_laws_eqRunS_L0 fuel x0 x1 k1 (z1 + 1)
        else none
      else
      some (.ret false)
    else
    some (.brk ())

def m_laws_eqRunS (fuel : Nat) (x0 : List RunD) (x1 : List RunD) : Option Bool :=
  if (x0.length : Int) = (x1.length : Int) then
    (m_laws_eqRunS_L0 fuel x0 x1 fuel 0).bind <| contL <| un1 fun _ =>
    some true
  else
  some false

set_option maxRecDepth 100000 in
set_option maxHeartbeats 4000000 in
theorem w_laws_eqRunS (fuel : Nat) {x0 : List RunD} {x1 : List RunD} {a_x0 : Option Addr} {n_x0 c_x0 : Nat} {a_x1 : Option Addr} {n_x1 c_x1 : Nat} {r0 : Bool} {w0 : World} (h : m_laws_eqRunS fuel x0 x1 = some r0) (hr_x0 : RdT (fun b => ¬ False) w0 (rowT x0) (.slice a_x0 n_x0 c_x0)) (hr_x1 : RdT (fun b => ¬ False) w0 (rowT x1) (.slice a_x1 n_x1 c_x1)) :
    Calls Try.prog 43 #[.slice a_x0 n_x0 c_x0, .slice a_x1 n_x1 c_x1] w0 fun e w => e = .returned (.bool r0) ∧ St w0 (fun _ => False) w [] := by
  obtain rfl := hr_x0.neq
  obtain rfl := hr_x1.neq
  have HT : St w0 (fun _ => False) w0 [] := St.init0
  rw [m_laws_eqRunS] at h
  refine calls_fr (n := 27) [.slice a_x0 x0.length c_x0, .slice a_x1 x1.length c_x1] Try.func43 rfl rfl rfl fun a HF => ?_
  have HT : St w0 (fun _ => False) w0 [] := HT
  refine wp_seq (wc_text (wa HF rfl rfl rfl fun a HF => ?_))
  refine wc_end (then_n (wp_seq (wp_seq (wc_text (wm HF rfl rfl rfl fun a HF => ?_)))))
  refine wc_lenR HF nS Try.underlying65 rfl rfl rfl fun a HF => ?_
  refine wm HF rfl rfl rfl fun a HF => ?_
  refine wc_lenR HF nS Try.underlying65 rfl rfl rfl fun a HF => ?_
  refine wc_bin HF nS rfl rfl b_ne rfl rfl fun a HF => ?_
  refine wc_end (then_n ?_)
  by_cases hb1 : (x0.length : Int) = (x1.length : Int)
  have h := ifp hb1 h
  refine wp_if (b' := false) HF rfl (notT (decide_eq_true hb1)) ?_
  refine wp_skip (then_n ?_)
  obtain ⟨q1, hx1, h⟩ := obs h
  refine wp_cut (fun a w => q1 = .brk () ∧ Fr a 27 [] ∧ St w0 (fun _ => False) w []) ?_ ?_
  have hk1 := h
  have h := hx1
  refine wp_seq (wc_text (wa HF rfl rfl rfl fun a HF => ?_))
  refine wc_end (then_n (wp_block (wp_loopN (fun k1 a w => ∃ z1, m_laws_eqRunS_L0 fuel x0 x1 k1 z1 = some q1 ∧ Fr a 27 [(0, .slice a_x0 x0.length c_x0), (1, .slice a_x1 x1.length c_x1), (5, .int .i64 z1)] ∧ St w0 (fun _ => False) w []) fuel ⟨0, h, (HF.keep (HF.keep (HF.keep HF.nil rfl) rfl) rfl), HT⟩ ?_)))
  rintro k1 a w ⟨z1, h, HF, HT⟩
  rcases k1 with _ | k1
  cases h
  rw [m_laws_eqRunS_L0] at h
  refine ?_
  refine wp_seq (wp_seq (wc_text (wm HF rfl rfl rfl fun a HF => ?_)))
  refine wm HF rfl rfl rfl fun a HF => ?_
  refine wc_lenR HF nS Try.underlying65 rfl rfl rfl fun a HF => ?_
  refine wc_bin HF nS rfl rfl b_lt rfl rfl fun a HF => ?_
  refine wc_end (then_n ?_)
  by_cases hb2 : z1 < (x0.length : Int)
  have h := ifp hb2 h
  refine wp_if (b' := true) HF rfl (decide_eq_true hb2) ?_
  refine wp_skip (then_n (wp_seq (wp_block (wp_seq (wp_region_can [(0, true), (1, true), (2, true), (3, true), (4, true), (5, true), (6, true), (7, true), (8, true), (9, true)] (fun w' => True) (by kernel_rfl) (by kernel_rfl) ?_)))))
  have HT := HT.drew
  refine wm HF rfl rfl rfl fun a HF => ?_
  refine wm HF rfl rfl rfl fun a HF => ?_
  obtain ⟨e1, hx2, h⟩ := obs h
  obtain ⟨b1, o1, ha1⟩ := (HT.ro hr_x0).any.addr hx2
  refine wc_ixaddr HF nS el65 rfl ha1 ((HT.ro hr_x0).any).neq rfl hx2 rfl rfl fun a HF => ?_
  obtain ⟨_, hP1, hc1, hr1⟩ := hr_x0.elemAt ha1 hx2
  obtain ⟨a1, c1, a2, c2, a3, c3, rfl, hr2, hr3, hr4⟩ := cells_Run hr1
  have hc2 := HT.roLd hP1 hc1
  refine wc_loadA (vs := [.int .i64 e1.out, .slice a1 e1.regs.length c1, .slice a2 e1.cells.length c2, .slice a3 e1.map.length c3, .int .i64 e1.count]) HF rfl ag49 rfl (hc2.part 0 5) rfl rfl fun a HF => ?_
  refine wm HF rfl rfl rfl fun a HF => ?_
  refine wm HF rfl rfl rfl fun a HF => ?_
  obtain ⟨e2, hx3, h⟩ := obs h
  obtain ⟨b2, o2, ha2⟩ := (HT.ro hr_x1).any.addr hx3
  refine wc_ixaddr HF nS el65 rfl ha2 ((HT.ro hr_x1).any).neq rfl hx3 rfl rfl fun a HF => ?_
  obtain ⟨_, hP2, hc3, hr5⟩ := hr_x1.elemAt ha2 hx3
  obtain ⟨a4, c4, a5, c5, a6, c6, rfl, hr6, hr7, hr8⟩ := cells_Run hr5
  have hc4 := HT.roLd hP2 hc3
  refine wc_loadA (vs := [.int .i64 e2.out, .slice a4 e2.regs.length c4, .slice a5 e2.cells.length c5, .slice a6 e2.map.length c6, .int .i64 e2.count]) HF rfl ag49 rfl (hc4.part 0 5) rfl rfl fun a HF => ?_
  obtain ⟨y1, hx4, h⟩ := obs h
  refine wc_call HF cf31 rfl (w_laws_eqRun fuel hx4 (HT.ro hr2).any (HT.ro hr3).any (HT.ro hr4).any (HT.ro hr6).any (HT.ro hr7).any (HT.ro hr8).any) rfl rfl ?_
  rintro e w ⟨rfl, hE⟩
  have hb := hE.below
  have HT := HT.pure hE
  have HT : St w0 (fun _ => False) w [] := HT
  refine ⟨_, rfl, nS, fun a HF => ?_⟩
  refine wc_not HF nS rfl rfl rfl fun a HF => ?_
  refine wc_endN (then_n ?_)
  by_cases hb3 : y1 = true
  have h := ifp hb3 h
  refine wp_if (b' := false) HF rfl (notT hb3) ?_
  refine wp_skip (blk_n (then_n (wc_text (wm HF rfl rfl rfl fun a HF => ?_))))
  obtain ⟨hg1, h⟩ := grd h
  refine wc_bin HF nS rfl rfl (b_add hg1) rfl rfl fun a HF => ?_
  refine wa HF rfl rfl rfl fun a HF => ?_
  exact wc_end (then_n ⟨k1, Nat.lt_succ_self k1, z1 + 1, h, (HF.keep (HF.keep (HF.keep HF.nil rfl) rfl) rfl), HT⟩)
  have h := ifn hb3 h
  refine wp_if (b' := true) HF rfl (notF (Bool.eq_false_iff.2 hb3)) ?_
  refine wp_seq (wc_text (wa HF rfl rfl rfl fun a HF => ?_))
  refine wc_end (then_n (wp_ret ?_))
  obtain rfl := Option.some.inj h
  have h := retL hk1
  obtain rfl := Option.some.inj h
  refine blk_r (then_r (then_r (blk_r (then_r (?_)))))
  refine bp_ret HF (res_one rfl HF rfl) ?_
  exact ⟨rfl, HT⟩
  have h := ifn hb2 h
  refine wp_if (b' := false) HF rfl (decide_eq_false hb2) ?_
  refine wp_exit ?_
  refine then_x (then_x (?_))
  refine blk_x ?_
  exact then_n ⟨(Option.some.inj h).symm, HF.nil, HT⟩
  rintro a w ⟨rfl, HF, HT⟩
  have h := brkL1u h
  refine ?_
  refine wp_seq (wc_text (wa HF rfl rfl rfl fun a HF => ?_))
  refine wc_end (then_n (wp_ret ?_))
  obtain rfl := Option.some.inj h
  refine bp_ret HF (res_one rfl HF rfl) ?_
  exact ⟨rfl, HT⟩
  have h := ifn hb1 h
  refine wp_if (b' := true) HF rfl (notF (decide_eq_false hb1)) ?_
  refine wp_seq (wc_text (wa HF rfl rfl rfl fun a HF => ?_))
  refine wc_end (then_n (wp_ret ?_))
  obtain rfl := Option.some.inj h
  refine then_r (?_)
  refine bp_ret HF (res_one rfl HF rfl) ?_
  exact ⟨rfl, HT⟩

def m_laws_heldRunS_L0 (fuel : Nat) (x0 : List RunD) : Nat → Int → Int → Option (Lp Int Int)
  | 0, _, _ => none
  | k1 + 1, z2, z3 =>
    if z3 < (x0.length : Int) then
      (at? x0 z3).bind fun e1 =>
      if e1.out = z2 then
        if in64 (z2 + 1) then
          (m_laws_heldIntS fuel e1.regs (z2 + 1)).bind fun y1 =>
          if y1 < 0 then
            some (.ret (-1))
          else
          (m_laws_heldIntS fuel e1.cells y1).bind fun y2 =>
          if y2 < 0 then
            some (.ret (-1))
          else
          (m_laws_heldIntS fuel e1.map y2).bind fun y3 =>
          if y3 < 0 then
            some (.ret (-1))
          else
          if e1.count = y3 then
            if in64 (y3 + 1) then
              if in64 (z3 + 1) then
                m_laws_heldRunS_L0 fuel x0 k1 (y3 + 1) (z3 + 1)
              else none
            else none
          else
          some (.ret (-1))
        else none
      else
      some (.ret (-1))
    else
    some (.brk z2)

def m_laws_heldRunS (fuel : Nat) (x0 : List RunD) (x1 : Int) : Option Int :=
  (m_laws_heldRunS_L0 fuel x0 fuel x1 0).bind <| contL <| un1 fun z1 =>
  some z1

set_option maxRecDepth 100000 in
set_option maxHeartbeats 4000000 in
theorem w_laws_heldRunS (fuel : Nat) {x0 : List RunD} {x1 : Int} {a_x0 : Option Addr} {n_x0 c_x0 : Nat} {r0 : Int} {w0 : World} (h : m_laws_heldRunS fuel x0 x1 = some r0) (hr_x0 : RdT (fun b => ¬ False) w0 (rowT x0) (.slice a_x0 n_x0 c_x0)) :
    Calls Try.prog 49 #[.slice a_x0 n_x0 c_x0, .int .i64 x1] w0 fun e w => e = .returned (.int .i64 r0) ∧ St w0 (fun _ => False) w [] := by
  obtain rfl := hr_x0.neq
  have HT : St w0 (fun _ => False) w0 [] := St.init0
  rw [m_laws_heldRunS] at h
  refine calls_fr (n := 61) [.slice a_x0 x0.length c_x0, .int .i64 x1] Try.func49 rfl rfl rfl fun a HF => ?_
  have HT : St w0 (fun _ => False) w0 [] := HT
  refine wp_seq (wc_text (wa HF rfl rfl rfl fun a HF => ?_))
  refine wc_end (then_n ?_)
  obtain ⟨q1, hx1, h⟩ := obs h
  refine wp_cut (fun a w => ∃ z1, q1 = .brk z1 ∧ Fr a 61 [(1, .int .i64 z1)] ∧ St w0 (fun _ => False) w []) ?_ ?_
  have hk1 := h
  have h := hx1
  refine wp_seq (wc_text (wa HF rfl rfl rfl fun a HF => ?_))
  refine wc_end (then_n (wp_block (wp_loopN (fun k1 a w => ∃ z2 z3, m_laws_heldRunS_L0 fuel x0 k1 z2 z3 = some q1 ∧ Fr a 61 [(0, .slice a_x0 x0.length c_x0), (1, .int .i64 z2), (5, .int .i64 z3)] ∧ St w0 (fun _ => False) w []) fuel ⟨x1, 0, h, (HF.keep (HF.keep (HF.keep HF.nil rfl) rfl) rfl), HT⟩ ?_)))
  rintro k1 a w ⟨z2, z3, h, HF, HT⟩
  rcases k1 with _ | k1
  cases h
  rw [m_laws_heldRunS_L0] at h
  refine ?_
  refine wp_seq (wp_seq (wc_text (wm HF rfl rfl rfl fun a HF => ?_)))
  refine wm HF rfl rfl rfl fun a HF => ?_
  refine wc_lenR HF nS Try.underlying65 rfl rfl rfl fun a HF => ?_
  refine wc_bin HF nS rfl rfl b_lt rfl rfl fun a HF => ?_
  refine wc_end (then_n ?_)
  by_cases hb1 : z3 < (x0.length : Int)
  have h := ifp hb1 h
  refine wp_if (b' := true) HF rfl (decide_eq_true hb1) ?_
  refine wp_skip (then_n (wp_seq (wp_block (wp_seq (wp_seq (wc_text (wm HF rfl rfl rfl fun a HF => ?_)))))))
  refine wm HF rfl rfl rfl fun a HF => ?_
  obtain ⟨e1, hx2, h⟩ := obs h
  obtain ⟨b1, o1, ha1⟩ := (HT.ro hr_x0).any.addr hx2
  refine wc_ixaddr HF nS el65 rfl ha1 ((HT.ro hr_x0).any).neq rfl hx2 rfl rfl fun a HF => ?_
  refine wc_faddr HF nS rfl fl49_0 rfl rfl fun a HF => ?_
  obtain ⟨_, hP1, hc1, hr1⟩ := hr_x0.elemAt ha1 hx2
  obtain ⟨a1, c1, a2, c2, a3, c3, rfl, hr2, hr3, hr4⟩ := cells_Run hr1
  have hc2 := HT.roLd hP1 hc1
  refine wc_load HF rfl sc3 (hc2.get 0 rfl) rfl rfl fun a HF => ?_
  refine wm HF rfl rfl rfl fun a HF => ?_
  refine wc_bin HF nS rfl rfl b_ne rfl rfl fun a HF => ?_
  refine wc_end (then_n ?_)
  by_cases hb2 : e1.out = z2
  have h := ifp hb2 h
  refine wp_if (b' := false) HF rfl (notT (decide_eq_true hb2)) ?_
  refine wp_skip (then_n (wp_seq (wc_text (wm HF rfl rfl rfl fun a HF => ?_))))
  obtain ⟨hg1, h⟩ := grd h
  refine wc_bin HF nS rfl rfl (b_add hg1) rfl rfl fun a HF => ?_
  refine wa HF rfl rfl rfl fun a HF => ?_
  refine wc_end (then_n (wp_seq (wc_text (wm HF rfl rfl rfl fun a HF => ?_))))
  refine wm HF rfl rfl rfl fun a HF => ?_
  refine wc_ixaddr HF nS el65 rfl ha1 ((HT.ro hr_x0).any).neq rfl hx2 rfl rfl fun a HF => ?_
  refine wc_faddr HF nS rfl fl49_1 rfl rfl fun a HF => ?_
  have hc3 := HT.roLd hP1 hc1
  refine wc_load HF rfl sc22 (hc3.get 1 rfl) rfl rfl fun a HF => ?_
  refine wm HF rfl rfl rfl fun a HF => ?_
  obtain ⟨y1, hx3, h⟩ := obs h
  refine wc_call HF cf26 rfl (w_laws_heldIntS fuel hx3 (HT.ro hr2).any) rfl rfl ?_
  rintro e w ⟨rfl, hE⟩
  have hb := hE.below
  have HT := HT.pure hE
  have HT : St w0 (fun _ => False) w [] := HT
  refine ⟨_, rfl, nS, fun a HF => ?_⟩
  refine wa HF rfl rfl rfl fun a HF => ?_
  refine wc_end (then_n (wp_seq (wp_seq (wc_text (wm HF rfl rfl rfl fun a HF => ?_)))))
  refine wc_bin HF nS rfl rfl b_lt rfl rfl fun a HF => ?_
  refine wc_end (then_n ?_)
  by_cases hb3 : y1 < 0
  have h := ifp hb3 h
  refine wp_if (b' := true) HF rfl (decide_eq_true hb3) ?_
  refine wp_seq (wc_text (wa HF rfl rfl rfl fun a HF => ?_))
  refine wc_end (then_n (wp_ret ?_))
  obtain rfl := Option.some.inj h
  have h := retL hk1
  obtain rfl := Option.some.inj h
  refine then_r (blk_r (then_r (then_r (blk_r (then_r (?_))))))
  refine bp_ret HF (res_one rfl HF rfl) ?_
  exact ⟨rfl, HT⟩
  have h := ifn hb3 h
  refine wp_if (b' := false) HF rfl (decide_eq_false hb3) ?_
  refine wp_skip (then_n (wp_seq (wc_text (wm HF rfl rfl rfl fun a HF => ?_))))
  refine wm HF rfl rfl rfl fun a HF => ?_
  refine wc_ixaddr HF nS el65 rfl ha1 ((HT.ro hr_x0).any).neq rfl hx2 rfl rfl fun a HF => ?_
  refine wc_faddr HF nS rfl fl49_2 rfl rfl fun a HF => ?_
  refine wc_faddr HF nS rfl fl27_0 rfl rfl fun a HF => ?_
  have hc4 := HT.roLd hP1 hc1
  refine wc_load HF rfl sc22 (hc4.get 2 rfl) rfl rfl fun a HF => ?_
  refine wm HF rfl rfl rfl fun a HF => ?_
  obtain ⟨y2, hx4, h⟩ := obs h
  refine wc_call HF cf26 rfl (w_laws_heldIntS fuel hx4 (HT.ro hr3).any) rfl rfl ?_
  rintro e w ⟨rfl, hE⟩
  have hb := hE.below
  have HT := HT.pure hE
  have HT : St w0 (fun _ => False) w [] := HT
  refine ⟨_, rfl, nS, fun a HF => ?_⟩
  refine wa HF rfl rfl rfl fun a HF => ?_
  refine wc_end (then_n (wp_seq (wp_seq (wc_text (wm HF rfl rfl rfl fun a HF => ?_)))))
  refine wc_bin HF nS rfl rfl b_lt rfl rfl fun a HF => ?_
  refine wc_end (then_n ?_)
  by_cases hb4 : y2 < 0
  have h := ifp hb4 h
  refine wp_if (b' := true) HF rfl (decide_eq_true hb4) ?_
  refine wp_seq (wc_text (wa HF rfl rfl rfl fun a HF => ?_))
  refine wc_end (then_n (wp_ret ?_))
  obtain rfl := Option.some.inj h
  have h := retL hk1
  obtain rfl := Option.some.inj h
  refine then_r (blk_r (then_r (then_r (blk_r (then_r (?_))))))
  refine bp_ret HF (res_one rfl HF rfl) ?_
  exact ⟨rfl, HT⟩
  have h := ifn hb4 h
  refine wp_if (b' := false) HF rfl (decide_eq_false hb4) ?_
  refine wp_skip (then_n (wp_seq (wc_text (wm HF rfl rfl rfl fun a HF => ?_))))
  refine wm HF rfl rfl rfl fun a HF => ?_
  refine wc_ixaddr HF nS el65 rfl ha1 ((HT.ro hr_x0).any).neq rfl hx2 rfl rfl fun a HF => ?_
  refine wc_faddr HF nS rfl fl49_2 rfl rfl fun a HF => ?_
  refine wc_faddr HF nS rfl fl27_1 rfl rfl fun a HF => ?_
  have hc5 := HT.roLd hP1 hc1
  refine wc_load HF rfl sc22 (hc5.get 3 rfl) rfl rfl fun a HF => ?_
  refine wm HF rfl rfl rfl fun a HF => ?_
  obtain ⟨y3, hx5, h⟩ := obs h
  refine wc_call HF cf26 rfl (w_laws_heldIntS fuel hx5 (HT.ro hr4).any) rfl rfl ?_
  rintro e w ⟨rfl, hE⟩
  have hb := hE.below
  have HT := HT.pure hE
  have HT : St w0 (fun _ => False) w [] := HT
  refine ⟨_, rfl, nS, fun a HF => ?_⟩
  refine wa HF rfl rfl rfl fun a HF => ?_
  refine wc_end (then_n (wp_seq (wp_seq (wc_text (wm HF rfl rfl rfl fun a HF => ?_)))))
  refine wc_bin HF nS rfl rfl b_lt rfl rfl fun a HF => ?_
  refine wc_end (then_n ?_)
  by_cases hb5 : y3 < 0
  have h := ifp hb5 h
  refine wp_if (b' := true) HF rfl (decide_eq_true hb5) ?_
  refine wp_seq (wc_text (wa HF rfl rfl rfl fun a HF => ?_))
  refine wc_end (then_n (wp_ret ?_))
  obtain rfl := Option.some.inj h
  have h := retL hk1
  obtain rfl := Option.some.inj h
  refine then_r (blk_r (then_r (then_r (blk_r (then_r (?_))))))
  refine bp_ret HF (res_one rfl HF rfl) ?_
  exact ⟨rfl, HT⟩
  have h := ifn hb5 h
  refine wp_if (b' := false) HF rfl (decide_eq_false hb5) ?_
  refine wp_skip (then_n (wp_seq (wp_seq (wc_text (wm HF rfl rfl rfl fun a HF => ?_)))))
  refine wm HF rfl rfl rfl fun a HF => ?_
  refine wc_ixaddr HF nS el65 rfl ha1 ((HT.ro hr_x0).any).neq rfl hx2 rfl rfl fun a HF => ?_
  refine wc_faddr HF nS rfl fl49_2 rfl rfl fun a HF => ?_
  refine wc_faddr HF nS rfl fl27_2 rfl rfl fun a HF => ?_
  have hc6 := HT.roLd hP1 hc1
  refine wc_load HF rfl sc3 (hc6.get 4 rfl) rfl rfl fun a HF => ?_
  refine wm HF rfl rfl rfl fun a HF => ?_
  refine wc_bin HF nS rfl rfl b_ne rfl rfl fun a HF => ?_
  refine wc_end (then_n ?_)
  by_cases hb6 : e1.count = y3
  have h := ifp hb6 h
  refine wp_if (b' := false) HF rfl (notT (decide_eq_true hb6)) ?_
  refine wp_skip (then_n (wc_text (wm HF rfl rfl rfl fun a HF => ?_)))
  obtain ⟨hg2, h⟩ := grd h
  refine wc_bin HF nS rfl rfl (b_add hg2) rfl rfl fun a HF => ?_
  refine wa HF rfl rfl rfl fun a HF => ?_
  refine wc_end (blk_n (then_n (wc_text (wm HF rfl rfl rfl fun a HF => ?_))))
  obtain ⟨hg3, h⟩ := grd h
  refine wc_bin HF nS rfl rfl (b_add hg3) rfl rfl fun a HF => ?_
  refine wa HF rfl rfl rfl fun a HF => ?_
  exact wc_end (then_n ⟨k1, Nat.lt_succ_self k1, y3 + 1, z3 + 1, h, (HF.keep (HF.keep (HF.keep HF.nil rfl) rfl) rfl), HT⟩)
  have h := ifn hb6 h
  refine wp_if (b' := true) HF rfl (notF (decide_eq_false hb6)) ?_
  refine wp_seq (wc_text (wa HF rfl rfl rfl fun a HF => ?_))
  refine wc_end (then_n (wp_ret ?_))
  obtain rfl := Option.some.inj h
  have h := retL hk1
  obtain rfl := Option.some.inj h
  refine then_r (blk_r (then_r (then_r (blk_r (then_r (?_))))))
  refine bp_ret HF (res_one rfl HF rfl) ?_
  exact ⟨rfl, HT⟩
  have h := ifn hb2 h
  refine wp_if (b' := true) HF rfl (notF (decide_eq_false hb2)) ?_
  refine wp_seq (wc_text (wa HF rfl rfl rfl fun a HF => ?_))
  refine wc_end (then_n (wp_ret ?_))
  obtain rfl := Option.some.inj h
  have h := retL hk1
  obtain rfl := Option.some.inj h
  refine then_r (blk_r (then_r (then_r (blk_r (then_r (?_))))))
  refine bp_ret HF (res_one rfl HF rfl) ?_
  exact ⟨rfl, HT⟩
  have h := ifn hb1 h
  refine wp_if (b' := false) HF rfl (decide_eq_false hb1) ?_
  refine wp_exit ?_
  refine then_x (then_x (?_))
  refine blk_x ?_
  exact then_n ⟨z2, (Option.some.inj h).symm, (HF.keep HF.nil rfl), HT⟩
  rintro a w ⟨z1, rfl, HF, HT⟩
  have h := brkL1u h
  refine ?_
  refine wp_seq (wc_text (wm HF rfl rfl rfl fun a HF => ?_))
  refine wa HF rfl rfl rfl fun a HF => ?_
  refine wc_end (then_n (wp_ret ?_))
  obtain rfl := Option.some.inj h
  refine bp_ret HF (res_one rfl HF rfl) ?_
  exact ⟨rfl, HT⟩

def m_laws_markOrderS_L0 (fuel : Nat) (x0 : List OrdD) : Nat → (List OrdD) → Int → Int → Option (Int × List OrdD)
  | 0, _, _, _ => none
  | k1 + 1, z3, z4, z5 =>
    if z5 < (x0.length : Int) then
      (at? z3 z5).bind fun e1 =>
      bind2 (m_laws_markIntS fuel e1.kids z4) fun y1 y2 =>
      if in64 (z5 + 1) then
        m_laws_markOrderS_L0 fuel x0 k1 (z3.set (z5 : Int).toNat (⟨y2⟩ : OrdD)) y1 (z5 + 1)
      else none
    else
    some (z4, z3)

def m_laws_markOrderS (fuel : Nat) (x0 : List OrdD) (x1 : Int) : Option (Int × List OrdD) :=
  bind2 (m_laws_markOrderS_L0 fuel x0 fuel x0 x1 0) fun z1 z2 =>
  some (z1, z2)

set_option maxRecDepth 100000 in
set_option maxHeartbeats 4000000 in
theorem w_laws_markOrderS (fuel : Nat) {x0 : List OrdD} {x1 : Int} {a_x0 : Option Addr} {n_x0 c_x0 : Nat} {r0 : Int} {x0' : List OrdD} {F : Foot} {w0 : World} (h : m_laws_markOrderS fuel x0 x1 = some (r0, x0')) (hA : StF w0 F [OwnA (rowT x0) (.slice a_x0 n_x0 c_x0)]) :
    Calls Try.prog 47 #[.slice a_x0 n_x0 c_x0, .int .i64 x1] w0 fun e w => e = .returned (.int .i64 r0) ∧ St w0 F w [OwnA (rowT x0') (.slice a_x0 n_x0 c_x0)] := by
  have HT0 := St.init hA
  obtain rfl := (HT0.rdAAt 0 rfl).neq
  have HT : St w0 F w0 [OwnA (rowT x0) (.slice a_x0 x0.length c_x0)] := St.init hA
  rw [m_laws_markOrderS] at h
  refine calls_fr (n := 20) [.slice a_x0 x0.length c_x0, .int .i64 x1] Try.func47 rfl rfl rfl fun a HF => ?_
  have HT : St w0 F w0 [OwnA (rowT x0) (.slice a_x0 x0.length c_x0)] := HT
  refine wp_seq (wc_text (wa HF rfl rfl rfl fun a HF => ?_))
  refine wc_end (then_n ?_)
  obtain ⟨z1, z2, hx1, h⟩ := obs2 h
  refine wp_cut (fun a w => Fr a 20 [(1, .int .i64 z1)] ∧ St w0 F w [OwnA (rowT z2) (.slice a_x0 x0.length c_x0)]) ?_ ?_
  have hk1 := h
  have h := hx1
  refine wp_seq (wc_text (wa HF rfl rfl rfl fun a HF => ?_))
  refine wc_end (then_n (wp_block (wp_loopN (fun k1 a w => ∃ z3 z4 z5, m_laws_markOrderS_L0 fuel x0 k1 z3 z4 z5 = some (z1, z2) ∧ Fr a 20 [(0, .slice a_x0 x0.length c_x0), (1, .int .i64 z4), (5, .int .i64 z5)] ∧ St w0 F w [OwnA (rowT z3) (.slice a_x0 x0.length c_x0)]) fuel ⟨x0, x1, 0, h, (HF.keep (HF.keep (HF.keep HF.nil rfl) rfl) rfl), HT⟩ ?_)))
  rintro k1 a w ⟨z3, z4, z5, h, HF, HT⟩
  rcases k1 with _ | k1
  cases h
  rw [m_laws_markOrderS_L0] at h
  refine ?_
  refine wp_seq (wp_seq (wc_text (wm HF rfl rfl rfl fun a HF => ?_)))
  refine wm HF rfl rfl rfl fun a HF => ?_
  refine wc_lenR HF nS Try.underlying70 rfl rfl rfl fun a HF => ?_
  refine wc_bin HF nS rfl rfl b_lt rfl rfl fun a HF => ?_
  refine wc_end (then_n ?_)
  by_cases hb1 : z5 < (x0.length : Int)
  have h := ifp hb1 h
  refine wp_if (b' := true) HF rfl (decide_eq_true hb1) ?_
  refine wp_skip (then_n (wp_seq (wp_block (wc_text (wm HF rfl rfl rfl fun a HF => ?_)))))
  refine wm HF rfl rfl rfl fun a HF => ?_
  obtain ⟨e1, hx2, h⟩ := obs h
  obtain ⟨b1, o1, ha1⟩ := (HT.rdAAt 0 rfl).addr hx2
  refine wc_ixaddr HF nS el70 rfl ha1 ((HT.rdAAt 0 rfl)).neq rfl hx2 rfl rfl fun a HF => ?_
  refine wc_faddr HF nS rfl fl89_0 rfl rfl fun a HF => ?_
  have hq1 := ((HT.rdAAt 0 rfl)).neq
  obtain ⟨us1, HT⟩ := HT.focusA hx2
  obtain ⟨a1, c1, rfl, HT⟩ := HT.pieces_Ord
  have HT : St w0 F w [OwnA (rowT e1.kids) (.slice a1 e1.kids.length c1), HoleR none z3 (z5 : Int).toNat (.slice a_x0 x0.length c_x0) [.slice a1 e1.kids.length c1]] := HT
  have hc1 := HT.holeAt 1 rfl ha1
  refine wc_load HF rfl sc22 (hc1.get 0 rfl) rfl rfl fun a HF => ?_
  refine wm HF rfl rfl rfl fun a HF => ?_
  obtain ⟨y1, y2, hx3, h⟩ := obs2 h
  obtain ⟨F1, hAF1, hFF1, hbackF1, hroF1, hownF1, hownAF1⟩ := St.handR2 (A := [OwnA (rowT e1.kids) (.slice a1 e1.kids.length c1)]) HT
  refine wc_call HF cf25 rfl (w_laws_markIntS fuel hx3 hAF1) rfl rfl ?_
  rintro e w ⟨rfl, hE⟩
  have HT := hbackF1 _ _ hE
  have HT : St w0 F w [OwnA (rowT y2) (.slice a1 e1.kids.length c1), HoleR none z3 (z5 : Int).toNat (.slice a_x0 x0.length c_x0) [.slice a1 e1.kids.length c1]] := HT
  refine ⟨_, rfl, nS, fun a HF => ?_⟩
  refine wa HF rfl rfl rfl fun a HF => ?_
  refine wc_end (blk_n (then_n (wc_text (wm HF rfl rfl rfl fun a HF => ?_))))
  obtain ⟨hg1, h⟩ := grd h
  refine wc_bin HF nS rfl rfl (b_add hg1) rfl rfl fun a HF => ?_
  refine wa HF rfl rfl rfl fun a HF => ?_
  refine wc_end ?_
  have HT := HT.p1
  have HT := St.unfocusA (x' := (⟨y2⟩ : OrdD)) (A := [OwnA (rowT y2) (.slice a1 e1.kids.length c1)]) HT (gives_ownA gives_nil)
  have HT : St w0 F w [OwnA (rowT (z3.set (z5 : Int).toNat (⟨y2⟩ : OrdD))) (.slice a_x0 x0.length c_x0)] := HT
  exact then_n ⟨k1, Nat.lt_succ_self k1, z3.set (z5 : Int).toNat (⟨y2⟩ : OrdD), y1, z5 + 1, h, (HF.keep (HF.keep (HF.keep HF.nil rfl) rfl) rfl), HT⟩
  have h := ifn hb1 h
  refine wp_if (b' := false) HF rfl (decide_eq_false hb1) ?_
  refine wp_exit ?_
  refine then_x (then_x (?_))
  refine blk_x ?_
  have hj1 := Option.some.inj h
  obtain ⟨rfl, hj2⟩ := Prod.mk.inj hj1
  subst hj2
  exact then_n ⟨(HF.keep HF.nil rfl), HT⟩
  rintro a w ⟨HF, HT⟩
  refine ?_
  refine wp_seq (wc_text (wm HF rfl rfl rfl fun a HF => ?_))
  refine wa HF rfl rfl rfl fun a HF => ?_
  refine wc_end (then_n (wp_ret ?_))
  have hj3 := Option.some.inj h
  obtain ⟨rfl, hj4⟩ := Prod.mk.inj hj3
  subst hj4
  refine bp_ret HF (res_one rfl HF rfl) ?_
  exact ⟨rfl, HT⟩

def m_laws_markProgS_L0 (fuel : Nat) (x0 : List ProgD) : Nat → (List ProgD) → Int → Int → Option (Int × List ProgD)
  | 0, _, _, _ => none
  | k1 + 1, z3, z4, z5 =>
    if z5 < (x0.length : Int) then
      (at? z3 z5).bind fun e1 =>
      bind2 (m_laws_markOpS fuel e1.code z4) fun y1 y2 =>
      bind2 (m_laws_markKidS fuel e1.kids y1) fun y3 y4 =>
      if in64 (z5 + 1) then
        m_laws_markProgS_L0 fuel x0 k1 (z3.set (z5 : Int).toNat (⟨y2, y4⟩ : ProgD)) y3 (z5 + 1)
      else none
    else
    some (z4, z3)

def m_laws_markProgS (fuel : Nat) (x0 : List ProgD) (x1 : Int) : Option (Int × List ProgD) :=
  bind2 (m_laws_markProgS_L0 fuel x0 fuel x0 x1 0) fun z1 z2 =>
  some (z1, z2)

set_option maxRecDepth 100000 in
set_option maxHeartbeats 4000000 in
theorem w_laws_markProgS (fuel : Nat) {x0 : List ProgD} {x1 : Int} {a_x0 : Option Addr} {n_x0 c_x0 : Nat} {r0 : Int} {x0' : List ProgD} {F : Foot} {w0 : World} (h : m_laws_markProgS fuel x0 x1 = some (r0, x0')) (hA : StF w0 F [OwnA (rowT x0) (.slice a_x0 n_x0 c_x0)]) :
    Calls Try.prog 46 #[.slice a_x0 n_x0 c_x0, .int .i64 x1] w0 fun e w => e = .returned (.int .i64 r0) ∧ St w0 F w [OwnA (rowT x0') (.slice a_x0 n_x0 c_x0)] := by
  have HT0 := St.init hA
  obtain rfl := (HT0.rdAAt 0 rfl).neq
  have HT : St w0 F w0 [OwnA (rowT x0) (.slice a_x0 x0.length c_x0)] := St.init hA
  rw [m_laws_markProgS] at h
  refine calls_fr (n := 27) [.slice a_x0 x0.length c_x0, .int .i64 x1] Try.func46 rfl rfl rfl fun a HF => ?_
  have HT : St w0 F w0 [OwnA (rowT x0) (.slice a_x0 x0.length c_x0)] := HT
  refine wp_seq (wc_text (wa HF rfl rfl rfl fun a HF => ?_))
  refine wc_end (then_n ?_)
  obtain ⟨z1, z2, hx1, h⟩ := obs2 h
  refine wp_cut (fun a w => Fr a 27 [(1, .int .i64 z1)] ∧ St w0 F w [OwnA (rowT z2) (.slice a_x0 x0.length c_x0)]) ?_ ?_
  have hk1 := h
  have h := hx1
  refine wp_seq (wc_text (wa HF rfl rfl rfl fun a HF => ?_))
  refine wc_end (then_n (wp_block (wp_loopN (fun k1 a w => ∃ z3 z4 z5, m_laws_markProgS_L0 fuel x0 k1 z3 z4 z5 = some (z1, z2) ∧ Fr a 27 [(0, .slice a_x0 x0.length c_x0), (1, .int .i64 z4), (5, .int .i64 z5)] ∧ St w0 F w [OwnA (rowT z3) (.slice a_x0 x0.length c_x0)]) fuel ⟨x0, x1, 0, h, (HF.keep (HF.keep (HF.keep HF.nil rfl) rfl) rfl), HT⟩ ?_)))
  rintro k1 a w ⟨z3, z4, z5, h, HF, HT⟩
  rcases k1 with _ | k1
  cases h
  rw [m_laws_markProgS_L0] at h
  refine ?_
  refine wp_seq (wp_seq (wc_text (wm HF rfl rfl rfl fun a HF => ?_)))
  refine wm HF rfl rfl rfl fun a HF => ?_
  refine wc_lenR HF nS Try.underlying68 rfl rfl rfl fun a HF => ?_
  refine wc_bin HF nS rfl rfl b_lt rfl rfl fun a HF => ?_
  refine wc_end (then_n ?_)
  by_cases hb1 : z5 < (x0.length : Int)
  have h := ifp hb1 h
  refine wp_if (b' := true) HF rfl (decide_eq_true hb1) ?_
  refine wp_skip (then_n (wp_seq (wp_block (wp_seq (wc_text (wm HF rfl rfl rfl fun a HF => ?_))))))
  refine wm HF rfl rfl rfl fun a HF => ?_
  obtain ⟨e1, hx2, h⟩ := obs h
  obtain ⟨b1, o1, ha1⟩ := (HT.rdAAt 0 rfl).addr hx2
  refine wc_ixaddr HF nS el68 rfl ha1 ((HT.rdAAt 0 rfl)).neq rfl hx2 rfl rfl fun a HF => ?_
  refine wc_faddr HF nS rfl fl53_0 rfl rfl fun a HF => ?_
  have hq1 := ((HT.rdAAt 0 rfl)).neq
  obtain ⟨us1, HT⟩ := HT.focusA hx2
  obtain ⟨a1, c1, a2, c2, rfl, HT⟩ := HT.pieces_Prog
  have HT : St w0 F w [OwnA (rowT e1.code) (.slice a1 e1.code.length c1), OwnA (rowT e1.kids) (.slice a2 e1.kids.length c2), HoleR none z3 (z5 : Int).toNat (.slice a_x0 x0.length c_x0) [.slice a1 e1.code.length c1, .slice a2 e1.kids.length c2]] := HT
  have hc1 := HT.holeAt 2 rfl ha1
  refine wc_load HF rfl sc36 (hc1.get 0 rfl) rfl rfl fun a HF => ?_
  refine wm HF rfl rfl rfl fun a HF => ?_
  obtain ⟨y1, y2, hx3, h⟩ := obs2 h
  obtain ⟨F1, hAF1, hFF1, hbackF1, hroF1, hownF1, hownAF1⟩ := St.handR2 (A := [OwnA (rowT e1.code) (.slice a1 e1.code.length c1)]) HT
  refine wc_call HF cf24 rfl (w_laws_markOpS fuel hx3 hAF1) rfl rfl ?_
  rintro e w ⟨rfl, hE⟩
  have HT := hbackF1 _ _ hE
  have HT : St w0 F w [OwnA (rowT y2) (.slice a1 e1.code.length c1), OwnA (rowT e1.kids) (.slice a2 e1.kids.length c2), HoleR none z3 (z5 : Int).toNat (.slice a_x0 x0.length c_x0) [.slice a1 e1.code.length c1, .slice a2 e1.kids.length c2]] := HT
  refine ⟨_, rfl, nS, fun a HF => ?_⟩
  refine wa HF rfl rfl rfl fun a HF => ?_
  refine wc_end (then_n (wc_text (wm HF rfl rfl rfl fun a HF => ?_)))
  refine wm HF rfl rfl rfl fun a HF => ?_
  refine wc_ixaddr HF nS el68 rfl ha1 hq1 rfl hx2 rfl rfl fun a HF => ?_
  refine wc_faddr HF nS rfl fl53_1 rfl rfl fun a HF => ?_
  have hc2 := HT.holeAt 2 rfl ha1
  refine wc_load HF rfl sc51 (hc2.get 1 rfl) rfl rfl fun a HF => ?_
  refine wm HF rfl rfl rfl fun a HF => ?_
  obtain ⟨y3, y4, hx4, h⟩ := obs2 h
  have HT := HT.p1
  obtain ⟨F2, hAF2, hFF2, hbackF2, hroF2, hownF2, hownAF2⟩ := St.handR2 (A := [OwnA (rowT e1.kids) (.slice a2 e1.kids.length c2)]) HT
  refine wc_call HF cf78 rfl (w_laws_markKidS fuel hx4 hAF2) rfl rfl ?_
  rintro e w ⟨rfl, hE⟩
  have HT := hbackF2 _ _ hE
  have HT : St w0 F w [OwnA (rowT y4) (.slice a2 e1.kids.length c2), OwnA (rowT y2) (.slice a1 e1.code.length c1), HoleR none z3 (z5 : Int).toNat (.slice a_x0 x0.length c_x0) [.slice a1 e1.code.length c1, .slice a2 e1.kids.length c2]] := HT
  refine ⟨_, rfl, nS, fun a HF => ?_⟩
  refine wa HF rfl rfl rfl fun a HF => ?_
  refine wc_end (blk_n (then_n (wc_text (wm HF rfl rfl rfl fun a HF => ?_))))
  obtain ⟨hg1, h⟩ := grd h
  refine wc_bin HF nS rfl rfl (b_add hg1) rfl rfl fun a HF => ?_
  refine wa HF rfl rfl rfl fun a HF => ?_
  refine wc_end ?_
  have HT := HT.p1.p2
  have HT := St.unfocusA (x' := (⟨y2, y4⟩ : ProgD)) (A := [OwnA (rowT y2) (.slice a1 e1.code.length c1), OwnA (rowT y4) (.slice a2 e1.kids.length c2)]) HT (gives_ownA (gives_ownA gives_nil))
  have HT : St w0 F w [OwnA (rowT (z3.set (z5 : Int).toNat (⟨y2, y4⟩ : ProgD))) (.slice a_x0 x0.length c_x0)] := HT
  exact then_n ⟨k1, Nat.lt_succ_self k1, z3.set (z5 : Int).toNat (⟨y2, y4⟩ : ProgD), y3, z5 + 1, h, (HF.keep (HF.keep (HF.keep HF.nil rfl) rfl) rfl), HT⟩
  have h := ifn hb1 h
  refine wp_if (b' := false) HF rfl (decide_eq_false hb1) ?_
  refine wp_exit ?_
  refine then_x (then_x (?_))
  refine blk_x ?_
  have hj1 := Option.some.inj h
  obtain ⟨rfl, hj2⟩ := Prod.mk.inj hj1
  subst hj2
  exact then_n ⟨(HF.keep HF.nil rfl), HT⟩
  rintro a w ⟨HF, HT⟩
  refine ?_
  refine wp_seq (wc_text (wm HF rfl rfl rfl fun a HF => ?_))
  refine wa HF rfl rfl rfl fun a HF => ?_
  refine wc_end (then_n (wp_ret ?_))
  have hj3 := Option.some.inj h
  obtain ⟨rfl, hj4⟩ := Prod.mk.inj hj3
  subst hj4
  refine bp_ret HF (res_one rfl HF rfl) ?_
  exact ⟨rfl, HT⟩

def m_laws_markRunS_L0 (fuel : Nat) (x0 : List RunD) : Nat → (List RunD) → Int → Int → Option (Int × List RunD)
  | 0, _, _, _ => none
  | k1 + 1, z3, z4, z5 =>
    if z5 < (x0.length : Int) then
      (at? z3 z5).bind fun e1 =>
      if in64 (z4 + 1) then
        (at? (z3.set z5.toNat (⟨z4, e1.regs, e1.cells, e1.map, e1.count⟩ : RunD)) z5).bind fun e2 =>
        bind2 (m_laws_markIntS fuel e2.regs (z4 + 1)) fun y1 y2 =>
        bind2 (m_laws_markIntS fuel e2.cells y1) fun y3 y4 =>
        bind2 (m_laws_markIntS fuel e2.map y3) fun y5 y6 =>
        if in64 (y5 + 1) then
          if in64 (z5 + 1) then
            m_laws_markRunS_L0 fuel x0 k1 (((z3.set z5.toNat (⟨z4, e1.regs, e1.cells, e1.map, e1.count⟩ : RunD)).set (z5 : Int).toNat (⟨e2.out, y2, y4, y6, e2.count⟩ : RunD)).set z5.toNat (⟨e2.out, y2, y4, y6, y5⟩ : RunD)) (y5 + 1) (z5 + 1)
          else none
        else none
      else none
    else
    some (z4, z3)

def m_laws_markRunS (fuel : Nat) (x0 : List RunD) (x1 : Int) : Option (Int × List RunD) :=
  bind2 (m_laws_markRunS_L0 fuel x0 fuel x0 x1 0) fun z1 z2 =>
  some (z1, z2)

set_option maxRecDepth 100000 in
set_option maxHeartbeats 4000000 in
theorem w_laws_markRunS (fuel : Nat) {x0 : List RunD} {x1 : Int} {a_x0 : Option Addr} {n_x0 c_x0 : Nat} {r0 : Int} {x0' : List RunD} {F : Foot} {w0 : World} (h : m_laws_markRunS fuel x0 x1 = some (r0, x0')) (hA : StF w0 F [OwnA (rowT x0) (.slice a_x0 n_x0 c_x0)]) :
    Calls Try.prog 48 #[.slice a_x0 n_x0 c_x0, .int .i64 x1] w0 fun e w => e = .returned (.int .i64 r0) ∧ St w0 F w [OwnA (rowT x0') (.slice a_x0 n_x0 c_x0)] := by
  have HT0 := St.init hA
  obtain rfl := (HT0.rdAAt 0 rfl).neq
  have HT : St w0 F w0 [OwnA (rowT x0) (.slice a_x0 x0.length c_x0)] := St.init hA
  rw [m_laws_markRunS] at h
  refine calls_fr (n := 51) [.slice a_x0 x0.length c_x0, .int .i64 x1] Try.func48 rfl rfl rfl fun a HF => ?_
  have HT : St w0 F w0 [OwnA (rowT x0) (.slice a_x0 x0.length c_x0)] := HT
  refine wp_seq (wc_text (wa HF rfl rfl rfl fun a HF => ?_))
  refine wc_end (then_n ?_)
  obtain ⟨z1, z2, hx1, h⟩ := obs2 h
  refine wp_cut (fun a w => Fr a 51 [(1, .int .i64 z1)] ∧ St w0 F w [OwnA (rowT z2) (.slice a_x0 x0.length c_x0)]) ?_ ?_
  have hk1 := h
  have h := hx1
  refine wp_seq (wc_text (wa HF rfl rfl rfl fun a HF => ?_))
  refine wc_end (then_n (wp_block (wp_loopN (fun k1 a w => ∃ z3 z4 z5, m_laws_markRunS_L0 fuel x0 k1 z3 z4 z5 = some (z1, z2) ∧ Fr a 51 [(0, .slice a_x0 x0.length c_x0), (1, .int .i64 z4), (5, .int .i64 z5)] ∧ St w0 F w [OwnA (rowT z3) (.slice a_x0 x0.length c_x0)]) fuel ⟨x0, x1, 0, h, (HF.keep (HF.keep (HF.keep HF.nil rfl) rfl) rfl), HT⟩ ?_)))
  rintro k1 a w ⟨z3, z4, z5, h, HF, HT⟩
  rcases k1 with _ | k1
  cases h
  rw [m_laws_markRunS_L0] at h
  refine ?_
  refine wp_seq (wp_seq (wc_text (wm HF rfl rfl rfl fun a HF => ?_)))
  refine wm HF rfl rfl rfl fun a HF => ?_
  refine wc_lenR HF nS Try.underlying65 rfl rfl rfl fun a HF => ?_
  refine wc_bin HF nS rfl rfl b_lt rfl rfl fun a HF => ?_
  refine wc_end (then_n ?_)
  by_cases hb1 : z5 < (x0.length : Int)
  have h := ifp hb1 h
  refine wp_if (b' := true) HF rfl (decide_eq_true hb1) ?_
  refine wp_skip (then_n (wp_seq (wp_block (wp_seq (wc_text (wm HF rfl rfl rfl fun a HF => ?_))))))
  refine wm HF rfl rfl rfl fun a HF => ?_
  refine wm HF rfl rfl rfl fun a HF => ?_
  obtain ⟨e1, hx2, h⟩ := obs h
  obtain ⟨b1, o1, ha1⟩ := (HT.rdAAt 0 rfl).addr hx2
  refine wc_ixaddr HF nS el65 rfl ha1 ((HT.rdAAt 0 rfl)).neq rfl hx2 rfl rfl fun a HF => ?_
  refine wc_faddr HF nS rfl fl49_0 rfl rfl fun a HF => ?_
  refine wc_storeRA (i := z5) (j := 0) (x' := (⟨z4, e1.regs, e1.cells, e1.map, e1.count⟩ : RunD)) HF HT ha1 rfl rfl (fun w => (sc3 w).2) rfl rfl hx2 rfl rfl rfl rfl (fun w HT => ⟨nS, ?_⟩)
  refine wc_end (then_n (wp_seq (wc_text (wm HF rfl rfl rfl fun a HF => ?_))))
  obtain ⟨hg1, h⟩ := grd h
  refine wc_bin HF nS rfl rfl (b_add hg1) rfl rfl fun a HF => ?_
  refine wa HF rfl rfl rfl fun a HF => ?_
  refine wc_end (then_n (wp_seq (wc_text (wm HF rfl rfl rfl fun a HF => ?_))))
  refine wm HF rfl rfl rfl fun a HF => ?_
  obtain ⟨e2, hx3, h⟩ := obs h
  refine wc_ixaddr HF nS el65 rfl ha1 ((HT.rdAAt 0 rfl)).neq rfl hx3 rfl rfl fun a HF => ?_
  refine wc_faddr HF nS rfl fl49_1 rfl rfl fun a HF => ?_
  have hq1 := ((HT.rdAAt 0 rfl)).neq
  obtain ⟨us1, HT⟩ := HT.focusA hx3
  obtain ⟨a1, c1, a2, c2, a3, c3, rfl, HT⟩ := HT.pieces_Run
  have HT : St w0 F w [OwnA (rowT e2.regs) (.slice a1 e2.regs.length c1), OwnA (rowT e2.cells) (.slice a2 e2.cells.length c2), OwnA (rowT e2.map) (.slice a3 e2.map.length c3), HoleR none (z3.set z5.toNat (⟨z4, e1.regs, e1.cells, e1.map, e1.count⟩ : RunD)) (z5 : Int).toNat (.slice a_x0 x0.length c_x0) [.int .i64 e2.out, .slice a1 e2.regs.length c1, .slice a2 e2.cells.length c2, .slice a3 e2.map.length c3, .int .i64 e2.count]] := HT
  have hc1 := HT.holeAt 3 rfl ha1
  refine wc_load HF rfl sc22 (hc1.get 1 rfl) rfl rfl fun a HF => ?_
  refine wm HF rfl rfl rfl fun a HF => ?_
  obtain ⟨y1, y2, hx4, h⟩ := obs2 h
  obtain ⟨F1, hAF1, hFF1, hbackF1, hroF1, hownF1, hownAF1⟩ := St.handR2 (A := [OwnA (rowT e2.regs) (.slice a1 e2.regs.length c1)]) HT
  refine wc_call HF cf25 rfl (w_laws_markIntS fuel hx4 hAF1) rfl rfl ?_
  rintro e w ⟨rfl, hE⟩
  have HT := hbackF1 _ _ hE
  have HT : St w0 F w [OwnA (rowT y2) (.slice a1 e2.regs.length c1), OwnA (rowT e2.cells) (.slice a2 e2.cells.length c2), OwnA (rowT e2.map) (.slice a3 e2.map.length c3), HoleR none (z3.set z5.toNat (⟨z4, e1.regs, e1.cells, e1.map, e1.count⟩ : RunD)) (z5 : Int).toNat (.slice a_x0 x0.length c_x0) [.int .i64 e2.out, .slice a1 e2.regs.length c1, .slice a2 e2.cells.length c2, .slice a3 e2.map.length c3, .int .i64 e2.count]] := HT
  refine ⟨_, rfl, nS, fun a HF => ?_⟩
  refine wa HF rfl rfl rfl fun a HF => ?_
  refine wc_end (then_n (wp_seq (wc_text (wm HF rfl rfl rfl fun a HF => ?_))))
  refine wm HF rfl rfl rfl fun a HF => ?_
  refine wc_ixaddr HF nS el65 rfl ha1 hq1 rfl hx3 rfl rfl fun a HF => ?_
  refine wc_faddr HF nS rfl fl49_2 rfl rfl fun a HF => ?_
  refine wc_faddr HF nS rfl fl27_0 rfl rfl fun a HF => ?_
  have hc2 := HT.holeAt 3 rfl ha1
  refine wc_load HF rfl sc22 (hc2.get 2 rfl) rfl rfl fun a HF => ?_
  refine wm HF rfl rfl rfl fun a HF => ?_
  obtain ⟨y3, y4, hx5, h⟩ := obs2 h
  have HT := HT.p1
  obtain ⟨F2, hAF2, hFF2, hbackF2, hroF2, hownF2, hownAF2⟩ := St.handR2 (A := [OwnA (rowT e2.cells) (.slice a2 e2.cells.length c2)]) HT
  refine wc_call HF cf25 rfl (w_laws_markIntS fuel hx5 hAF2) rfl rfl ?_
  rintro e w ⟨rfl, hE⟩
  have HT := hbackF2 _ _ hE
  have HT : St w0 F w [OwnA (rowT y4) (.slice a2 e2.cells.length c2), OwnA (rowT y2) (.slice a1 e2.regs.length c1), OwnA (rowT e2.map) (.slice a3 e2.map.length c3), HoleR none (z3.set z5.toNat (⟨z4, e1.regs, e1.cells, e1.map, e1.count⟩ : RunD)) (z5 : Int).toNat (.slice a_x0 x0.length c_x0) [.int .i64 e2.out, .slice a1 e2.regs.length c1, .slice a2 e2.cells.length c2, .slice a3 e2.map.length c3, .int .i64 e2.count]] := HT
  refine ⟨_, rfl, nS, fun a HF => ?_⟩
  refine wa HF rfl rfl rfl fun a HF => ?_
  refine wc_end (then_n (wp_seq (wc_text (wm HF rfl rfl rfl fun a HF => ?_))))
  refine wm HF rfl rfl rfl fun a HF => ?_
  refine wc_ixaddr HF nS el65 rfl ha1 hq1 rfl hx3 rfl rfl fun a HF => ?_
  refine wc_faddr HF nS rfl fl49_2 rfl rfl fun a HF => ?_
  refine wc_faddr HF nS rfl fl27_1 rfl rfl fun a HF => ?_
  have hc3 := HT.holeAt 3 rfl ha1
  refine wc_load HF rfl sc22 (hc3.get 3 rfl) rfl rfl fun a HF => ?_
  refine wm HF rfl rfl rfl fun a HF => ?_
  obtain ⟨y5, y6, hx6, h⟩ := obs2 h
  have HT := HT.p2
  obtain ⟨F3, hAF3, hFF3, hbackF3, hroF3, hownF3, hownAF3⟩ := St.handR2 (A := [OwnA (rowT e2.map) (.slice a3 e2.map.length c3)]) HT
  refine wc_call HF cf25 rfl (w_laws_markIntS fuel hx6 hAF3) rfl rfl ?_
  rintro e w ⟨rfl, hE⟩
  have HT := hbackF3 _ _ hE
  have HT : St w0 F w [OwnA (rowT y6) (.slice a3 e2.map.length c3), OwnA (rowT y4) (.slice a2 e2.cells.length c2), OwnA (rowT y2) (.slice a1 e2.regs.length c1), HoleR none (z3.set z5.toNat (⟨z4, e1.regs, e1.cells, e1.map, e1.count⟩ : RunD)) (z5 : Int).toNat (.slice a_x0 x0.length c_x0) [.int .i64 e2.out, .slice a1 e2.regs.length c1, .slice a2 e2.cells.length c2, .slice a3 e2.map.length c3, .int .i64 e2.count]] := HT
  refine ⟨_, rfl, nS, fun a HF => ?_⟩
  refine wa HF rfl rfl rfl fun a HF => ?_
  refine wc_end (then_n (wp_seq (wc_text (wm HF rfl rfl rfl fun a HF => ?_))))
  refine wm HF rfl rfl rfl fun a HF => ?_
  refine wm HF rfl rfl rfl fun a HF => ?_
  refine wc_ixaddr HF nS el65 rfl ha1 hq1 rfl hx3 rfl rfl fun a HF => ?_
  refine wc_faddr HF nS rfl fl49_2 rfl rfl fun a HF => ?_
  refine wc_faddr HF nS rfl fl27_2 rfl rfl fun a HF => ?_
  have HT := HT.p1.p2.p3
  have HT := St.unfocusA (x' := (⟨e2.out, y2, y4, y6, e2.count⟩ : RunD)) (A := [OwnA (rowT y2) (.slice a1 e2.regs.length c1), OwnA (rowT y4) (.slice a2 e2.cells.length c2), OwnA (rowT y6) (.slice a3 e2.map.length c3)]) HT (gives_lit (gives_ownA (gives_ownA (gives_ownA (gives_lit gives_nil)))))
  have HT : St w0 F w [OwnA (rowT ((z3.set z5.toNat (⟨z4, e1.regs, e1.cells, e1.map, e1.count⟩ : RunD)).set (z5 : Int).toNat (⟨e2.out, y2, y4, y6, e2.count⟩ : RunD))) (.slice a_x0 x0.length c_x0)] := HT
  refine wc_storeRA (i := z5) (j := 4) (x' := (⟨e2.out, y2, y4, y6, y5⟩ : RunD)) HF HT ha1 rfl rfl (fun w => (sc3 w).2) rfl rfl (at_set_self hx3) rfl rfl rfl rfl (fun w HT => ⟨nS, ?_⟩)
  refine wc_end (then_n (wc_text (wm HF rfl rfl rfl fun a HF => ?_)))
  obtain ⟨hg2, h⟩ := grd h
  refine wc_bin HF nS rfl rfl (b_add hg2) rfl rfl fun a HF => ?_
  refine wa HF rfl rfl rfl fun a HF => ?_
  refine wc_end (blk_n (then_n (wc_text (wm HF rfl rfl rfl fun a HF => ?_))))
  obtain ⟨hg3, h⟩ := grd h
  refine wc_bin HF nS rfl rfl (b_add hg3) rfl rfl fun a HF => ?_
  refine wa HF rfl rfl rfl fun a HF => ?_
  exact wc_end (then_n ⟨k1, Nat.lt_succ_self k1, ((z3.set z5.toNat (⟨z4, e1.regs, e1.cells, e1.map, e1.count⟩ : RunD)).set (z5 : Int).toNat (⟨e2.out, y2, y4, y6, e2.count⟩ : RunD)).set z5.toNat (⟨e2.out, y2, y4, y6, y5⟩ : RunD), y5 + 1, z5 + 1, h, (HF.keep (HF.keep (HF.keep HF.nil rfl) rfl) rfl), HT⟩)
  have h := ifn hb1 h
  refine wp_if (b' := false) HF rfl (decide_eq_false hb1) ?_
  refine wp_exit ?_
  refine then_x (then_x (?_))
  refine blk_x ?_
  have hj1 := Option.some.inj h
  obtain ⟨rfl, hj2⟩ := Prod.mk.inj hj1
  subst hj2
  exact then_n ⟨(HF.keep HF.nil rfl), HT⟩
  rintro a w ⟨HF, HT⟩
  refine ?_
  refine wp_seq (wc_text (wm HF rfl rfl rfl fun a HF => ?_))
  refine wa HF rfl rfl rfl fun a HF => ?_
  refine wc_end (then_n (wp_ret ?_))
  have hj3 := Option.some.inj h
  obtain ⟨rfl, hj4⟩ := Prod.mk.inj hj3
  subst hj4
  refine bp_ret HF (res_one rfl HF rfl) ?_
  exact ⟨rfl, HT⟩

def m_laws_szOrder (fuel : Nat) (x0_0 : List Int) (x1 : Int) : Option Int :=
  (m_laws_szIntS fuel x0_0 x1).bind fun y1 =>
  if y1 < 0 then
    some (-1)
  else
  some y1

set_option maxRecDepth 100000 in
set_option maxHeartbeats 4000000 in
theorem w_laws_szOrder (fuel : Nat) {x0_0 : List Int} {x1 : Int} {a_x0_0 : Option Addr} {n_x0_0 c_x0_0 : Nat} {r0 : Int} {w0 : World} (h : m_laws_szOrder fuel x0_0 x1 = some r0) (hr_x0_0 : RdT (fun b => ¬ False) w0 (rowT x0_0) (.slice a_x0_0 n_x0_0 c_x0_0)) :
    Calls Try.prog 79 #[.agg #[.slice a_x0_0 n_x0_0 c_x0_0], .int .i64 x1] w0 fun e w => e = .returned (.int .i64 r0) ∧ St w0 (fun _ => False) w [] := by
  obtain rfl := hr_x0_0.neq
  have HT : St w0 (fun _ => False) w0 [] := St.init0
  rw [m_laws_szOrder] at h
  refine calls_fr (n := 12) [.agg #[.slice a_x0_0 x0_0.length c_x0_0], .int .i64 x1] Try.func79 rfl rfl rfl fun a HF => ?_
  have HT : St w0 (fun _ => False) w0 [] := HT
  refine wp_seq (wc_text (wc_box (cs := [.slice a_x0_0 x0_0.length c_x0_0]) HF HT rfl rfl rfl rfl (fun p1 w HT hb => ⟨nS, fun a HF => ?_⟩)))
  refine wa HF rfl rfl rfl fun a HF => ?_
  refine wc_end (then_n (wp_seq (wc_text (wc_faddr HF nS rfl fl106_0 rfl rfl fun a HF => ?_))))
  refine wc_load HF rfl sc22 ((HT.boxAt 0 rfl).get 0 rfl) rfl rfl fun a HF => ?_
  refine wm HF rfl rfl rfl fun a HF => ?_
  obtain ⟨y1, hx1, h⟩ := obs h
  refine wc_call HF cf56 rfl (w_laws_szIntS fuel hx1 (HT.ro hr_x0_0).any) rfl rfl ?_
  rintro e w ⟨rfl, hE⟩
  have hb := hE.below
  have HT := HT.pure hE
  have HT : St w0 (fun _ => False) w [Box p1 [.slice a_x0_0 x0_0.length c_x0_0]] := HT
  refine ⟨_, rfl, nS, fun a HF => ?_⟩
  refine wa HF rfl rfl rfl fun a HF => ?_
  refine wc_end (then_n (wp_seq (wp_seq (wc_text (wm HF rfl rfl rfl fun a HF => ?_)))))
  refine wc_bin HF nS rfl rfl b_lt rfl rfl fun a HF => ?_
  refine wc_end (then_n ?_)
  by_cases hb1 : y1 < 0
  have h := ifp hb1 h
  refine wp_if (b' := true) HF rfl (decide_eq_true hb1) ?_
  refine wp_seq (wc_text (wa HF rfl rfl rfl fun a HF => ?_))
  refine wc_end (then_n (wp_ret ?_))
  obtain rfl := Option.some.inj h
  refine then_r (?_)
  refine bp_ret HF (res_one rfl HF rfl) ?_
  have HT := HT.t0
  exact ⟨rfl, HT⟩
  have h := ifn hb1 h
  refine wp_if (b' := false) HF rfl (decide_eq_false hb1) ?_
  refine wp_skip (then_n (wp_seq (wc_text (wm HF rfl rfl rfl fun a HF => ?_))))
  refine wa HF rfl rfl rfl fun a HF => ?_
  refine wc_end (then_n (wp_ret ?_))
  obtain rfl := Option.some.inj h
  refine bp_ret HF (res_one rfl HF rfl) ?_
  have HT := HT.t0
  exact ⟨rfl, HT⟩

def m_laws_szOrderS_L0 (fuel : Nat) (x0 : List OrdD) : Nat → Int → Int → Option (Lp Int Int)
  | 0, _, _ => none
  | k1 + 1, z2, z3 =>
    if z3 < (x0.length : Int) then
      (at? x0 z3).bind fun e1 =>
      (m_laws_szOrder fuel e1.kids z2).bind fun y1 =>
      if y1 < 0 then
        some (.ret (-1))
      else
      if in64 (z3 + 1) then
        m_laws_szOrderS_L0 fuel x0 k1 y1 (z3 + 1)
      else none
    else
    some (.brk z2)

def m_laws_szOrderS (fuel : Nat) (x0 : List OrdD) (x1 : Int) : Option Int :=
  if in64 (x1 - (x0.length : Int)) then
    if (x1 - (x0.length : Int)) < 0 then
      some (-1)
    else
    (m_laws_szOrderS_L0 fuel x0 fuel (x1 - (x0.length : Int)) 0).bind <| contL <| un1 fun z1 =>
    some z1
  else none

set_option maxRecDepth 100000 in
set_option maxHeartbeats 4000000 in
theorem w_laws_szOrderS (fuel : Nat) {x0 : List OrdD} {x1 : Int} {a_x0 : Option Addr} {n_x0 c_x0 : Nat} {r0 : Int} {w0 : World} (h : m_laws_szOrderS fuel x0 x1 = some r0) (hr_x0 : RdT (fun b => ¬ False) w0 (rowT x0) (.slice a_x0 n_x0 c_x0)) :
    Calls Try.prog 38 #[.slice a_x0 n_x0 c_x0, .int .i64 x1] w0 fun e w => e = .returned (.int .i64 r0) ∧ St w0 (fun _ => False) w [] := by
  obtain rfl := hr_x0.neq
  have HT : St w0 (fun _ => False) w0 [] := St.init0
  rw [m_laws_szOrderS] at h
  refine calls_fr (n := 27) [.slice a_x0 x0.length c_x0, .int .i64 x1] Try.func38 rfl rfl rfl fun a HF => ?_
  have HT : St w0 (fun _ => False) w0 [] := HT
  refine wp_seq (wc_text (wa HF rfl rfl rfl fun a HF => ?_))
  refine wc_end (then_n (wp_seq (wc_text (wm HF rfl rfl rfl fun a HF => ?_))))
  refine wm HF rfl rfl rfl fun a HF => ?_
  refine wc_lenR HF nS Try.underlying62 rfl rfl rfl fun a HF => ?_
  obtain ⟨hg1, h⟩ := grd h
  refine wc_bin HF nS rfl rfl (b_sub hg1) rfl rfl fun a HF => ?_
  refine wa HF rfl rfl rfl fun a HF => ?_
  refine wc_end (then_n (wp_seq (wp_seq (wc_text (wm HF rfl rfl rfl fun a HF => ?_)))))
  refine wc_bin HF nS rfl rfl b_lt rfl rfl fun a HF => ?_
  refine wc_end (then_n ?_)
  by_cases hb1 : (x1 - (x0.length : Int)) < 0
  have h := ifp hb1 h
  refine wp_if (b' := true) HF rfl (decide_eq_true hb1) ?_
  refine wp_seq (wc_text (wa HF rfl rfl rfl fun a HF => ?_))
  refine wc_end (then_n (wp_ret ?_))
  obtain rfl := Option.some.inj h
  refine then_r (?_)
  refine bp_ret HF (res_one rfl HF rfl) ?_
  exact ⟨rfl, HT⟩
  have h := ifn hb1 h
  refine wp_if (b' := false) HF rfl (decide_eq_false hb1) ?_
  refine wp_skip (then_n ?_)
  obtain ⟨q1, hx1, h⟩ := obs h
  refine wp_cut (fun a w => ∃ z1, q1 = .brk z1 ∧ Fr a 27 [(1, .int .i64 z1)] ∧ St w0 (fun _ => False) w []) ?_ ?_
  have hk1 := h
  have h := hx1
  refine wp_seq (wc_text (wa HF rfl rfl rfl fun a HF => ?_))
  refine wc_end (then_n (wp_block (wp_loopN (fun k1 a w => ∃ z2 z3, m_laws_szOrderS_L0 fuel x0 k1 z2 z3 = some q1 ∧ Fr a 27 [(0, .slice a_x0 x0.length c_x0), (1, .int .i64 z2), (5, .int .i64 z3)] ∧ St w0 (fun _ => False) w []) fuel ⟨x1 - (x0.length : Int), 0, h, (HF.keep (HF.keep (HF.keep HF.nil rfl) rfl) rfl), HT⟩ ?_)))
  rintro k1 a w ⟨z2, z3, h, HF, HT⟩
  rcases k1 with _ | k1
  cases h
  rw [m_laws_szOrderS_L0] at h
  refine ?_
  refine wp_seq (wp_seq (wc_text (wm HF rfl rfl rfl fun a HF => ?_)))
  refine wm HF rfl rfl rfl fun a HF => ?_
  refine wc_lenR HF nS Try.underlying62 rfl rfl rfl fun a HF => ?_
  refine wc_bin HF nS rfl rfl b_lt rfl rfl fun a HF => ?_
  refine wc_end (then_n ?_)
  by_cases hb2 : z3 < (x0.length : Int)
  have h := ifp hb2 h
  refine wp_if (b' := true) HF rfl (decide_eq_true hb2) ?_
  refine wp_skip (then_n (wp_seq (wp_block (wp_seq (wc_text (wm HF rfl rfl rfl fun a HF => ?_))))))
  refine wm HF rfl rfl rfl fun a HF => ?_
  obtain ⟨e1, hx2, h⟩ := obs h
  obtain ⟨b1, o1, ha1⟩ := (HT.ro hr_x0).any.addr hx2
  refine wc_ixaddr HF nS el62 rfl ha1 ((HT.ro hr_x0).any).neq rfl hx2 rfl rfl fun a HF => ?_
  obtain ⟨_, hP1, hc1, hr1⟩ := hr_x0.elemAt ha1 hx2
  obtain ⟨a1, c1, rfl, hr2⟩ := cells_Ord hr1
  have hc2 := HT.roLd hP1 hc1
  refine wc_loadA (vs := [.slice a1 e1.kids.length c1]) HF rfl ag106 rfl (hc2.part 0 1) rfl rfl fun a HF => ?_
  refine wm HF rfl rfl rfl fun a HF => ?_
  obtain ⟨y1, hx3, h⟩ := obs h
  refine wc_call HF cf79 rfl (w_laws_szOrder fuel hx3 (HT.ro hr2).any) rfl rfl ?_
  rintro e w ⟨rfl, hE⟩
  have hb := hE.below
  have HT := HT.pure hE
  have HT : St w0 (fun _ => False) w [] := HT
  refine ⟨_, rfl, nS, fun a HF => ?_⟩
  refine wa HF rfl rfl rfl fun a HF => ?_
  refine wc_end (then_n (wp_seq (wc_text (wm HF rfl rfl rfl fun a HF => ?_))))
  refine wc_bin HF nS rfl rfl b_lt rfl rfl fun a HF => ?_
  refine wc_end (then_n ?_)
  by_cases hb3 : y1 < 0
  have h := ifp hb3 h
  refine wp_if (b' := true) HF rfl (decide_eq_true hb3) ?_
  refine wp_seq (wc_text (wa HF rfl rfl rfl fun a HF => ?_))
  refine wc_end (then_n (wp_ret ?_))
  obtain rfl := Option.some.inj h
  have h := retL hk1
  obtain rfl := Option.some.inj h
  refine blk_r (then_r (then_r (blk_r (then_r (?_)))))
  refine bp_ret HF (res_one rfl HF rfl) ?_
  exact ⟨rfl, HT⟩
  have h := ifn hb3 h
  refine wp_if (b' := false) HF rfl (decide_eq_false hb3) ?_
  refine wp_skip (blk_n (then_n (wc_text (wm HF rfl rfl rfl fun a HF => ?_))))
  obtain ⟨hg2, h⟩ := grd h
  refine wc_bin HF nS rfl rfl (b_add hg2) rfl rfl fun a HF => ?_
  refine wa HF rfl rfl rfl fun a HF => ?_
  exact wc_end (then_n ⟨k1, Nat.lt_succ_self k1, y1, z3 + 1, h, (HF.keep (HF.keep (HF.keep HF.nil rfl) rfl) rfl), HT⟩)
  have h := ifn hb2 h
  refine wp_if (b' := false) HF rfl (decide_eq_false hb2) ?_
  refine wp_exit ?_
  refine then_x (then_x (?_))
  refine blk_x ?_
  exact then_n ⟨z2, (Option.some.inj h).symm, (HF.keep HF.nil rfl), HT⟩
  rintro a w ⟨z1, rfl, HF, HT⟩
  have h := brkL1u h
  refine ?_
  refine wp_seq (wc_text (wm HF rfl rfl rfl fun a HF => ?_))
  refine wa HF rfl rfl rfl fun a HF => ?_
  refine wc_end (then_n (wp_ret ?_))
  obtain rfl := Option.some.inj h
  refine bp_ret HF (res_one rfl HF rfl) ?_
  exact ⟨rfl, HT⟩

def m_laws_szProgS_L0 (fuel : Nat) (x0 : List ProgD) : Nat → Int → Int → Option (Lp Int Int)
  | 0, _, _ => none
  | k1 + 1, z2, z3 =>
    if z3 < (x0.length : Int) then
      (at? x0 z3).bind fun e1 =>
      (m_laws_szProg fuel e1.code e1.kids z2).bind fun y1 =>
      if y1 < 0 then
        some (.ret (-1))
      else
      if in64 (z3 + 1) then
        m_laws_szProgS_L0 fuel x0 k1 y1 (z3 + 1)
      else none
    else
    some (.brk z2)

def m_laws_szProgS (fuel : Nat) (x0 : List ProgD) (x1 : Int) : Option Int :=
  if in64 (x1 - (x0.length : Int)) then
    if (x1 - (x0.length : Int)) < 0 then
      some (-1)
    else
    (m_laws_szProgS_L0 fuel x0 fuel (x1 - (x0.length : Int)) 0).bind <| contL <| un1 fun z1 =>
    some z1
  else none

set_option maxRecDepth 100000 in
set_option maxHeartbeats 4000000 in
theorem w_laws_szProgS (fuel : Nat) {x0 : List ProgD} {x1 : Int} {a_x0 : Option Addr} {n_x0 c_x0 : Nat} {r0 : Int} {w0 : World} (h : m_laws_szProgS fuel x0 x1 = some r0) (hr_x0 : RdT (fun b => ¬ False) w0 (rowT x0) (.slice a_x0 n_x0 c_x0)) :
    Calls Try.prog 37 #[.slice a_x0 n_x0 c_x0, .int .i64 x1] w0 fun e w => e = .returned (.int .i64 r0) ∧ St w0 (fun _ => False) w [] := by
  obtain rfl := hr_x0.neq
  have HT : St w0 (fun _ => False) w0 [] := St.init0
  rw [m_laws_szProgS] at h
  refine calls_fr (n := 27) [.slice a_x0 x0.length c_x0, .int .i64 x1] Try.func37 rfl rfl rfl fun a HF => ?_
  have HT : St w0 (fun _ => False) w0 [] := HT
  refine wp_seq (wc_text (wa HF rfl rfl rfl fun a HF => ?_))
  refine wc_end (then_n (wp_seq (wc_text (wm HF rfl rfl rfl fun a HF => ?_))))
  refine wm HF rfl rfl rfl fun a HF => ?_
  refine wc_lenR HF nS Try.underlying61 rfl rfl rfl fun a HF => ?_
  obtain ⟨hg1, h⟩ := grd h
  refine wc_bin HF nS rfl rfl (b_sub hg1) rfl rfl fun a HF => ?_
  refine wa HF rfl rfl rfl fun a HF => ?_
  refine wc_end (then_n (wp_seq (wp_seq (wc_text (wm HF rfl rfl rfl fun a HF => ?_)))))
  refine wc_bin HF nS rfl rfl b_lt rfl rfl fun a HF => ?_
  refine wc_end (then_n ?_)
  by_cases hb1 : (x1 - (x0.length : Int)) < 0
  have h := ifp hb1 h
  refine wp_if (b' := true) HF rfl (decide_eq_true hb1) ?_
  refine wp_seq (wc_text (wa HF rfl rfl rfl fun a HF => ?_))
  refine wc_end (then_n (wp_ret ?_))
  obtain rfl := Option.some.inj h
  refine then_r (?_)
  refine bp_ret HF (res_one rfl HF rfl) ?_
  exact ⟨rfl, HT⟩
  have h := ifn hb1 h
  refine wp_if (b' := false) HF rfl (decide_eq_false hb1) ?_
  refine wp_skip (then_n ?_)
  obtain ⟨q1, hx1, h⟩ := obs h
  refine wp_cut (fun a w => ∃ z1, q1 = .brk z1 ∧ Fr a 27 [(1, .int .i64 z1)] ∧ St w0 (fun _ => False) w []) ?_ ?_
  have hk1 := h
  have h := hx1
  refine wp_seq (wc_text (wa HF rfl rfl rfl fun a HF => ?_))
  refine wc_end (then_n (wp_block (wp_loopN (fun k1 a w => ∃ z2 z3, m_laws_szProgS_L0 fuel x0 k1 z2 z3 = some q1 ∧ Fr a 27 [(0, .slice a_x0 x0.length c_x0), (1, .int .i64 z2), (5, .int .i64 z3)] ∧ St w0 (fun _ => False) w []) fuel ⟨x1 - (x0.length : Int), 0, h, (HF.keep (HF.keep (HF.keep HF.nil rfl) rfl) rfl), HT⟩ ?_)))
  rintro k1 a w ⟨z2, z3, h, HF, HT⟩
  rcases k1 with _ | k1
  cases h
  rw [m_laws_szProgS_L0] at h
  refine ?_
  refine wp_seq (wp_seq (wc_text (wm HF rfl rfl rfl fun a HF => ?_)))
  refine wm HF rfl rfl rfl fun a HF => ?_
  refine wc_lenR HF nS Try.underlying61 rfl rfl rfl fun a HF => ?_
  refine wc_bin HF nS rfl rfl b_lt rfl rfl fun a HF => ?_
  refine wc_end (then_n ?_)
  by_cases hb2 : z3 < (x0.length : Int)
  have h := ifp hb2 h
  refine wp_if (b' := true) HF rfl (decide_eq_true hb2) ?_
  refine wp_skip (then_n (wp_seq (wp_block (wp_seq (wc_text (wm HF rfl rfl rfl fun a HF => ?_))))))
  refine wm HF rfl rfl rfl fun a HF => ?_
  obtain ⟨e1, hx2, h⟩ := obs h
  obtain ⟨b1, o1, ha1⟩ := (HT.ro hr_x0).any.addr hx2
  refine wc_ixaddr HF nS el61 rfl ha1 ((HT.ro hr_x0).any).neq rfl hx2 rfl rfl fun a HF => ?_
  obtain ⟨_, hP1, hc1, hr1⟩ := hr_x0.elemAt ha1 hx2
  obtain ⟨a1, c1, a2, c2, rfl, hr2, hr3⟩ := cells_Prog hr1
  have hc2 := HT.roLd hP1 hc1
  refine wc_loadA (vs := [.slice a1 e1.code.length c1, .slice a2 e1.kids.length c2]) HF rfl ag46 rfl (hc2.part 0 2) rfl rfl fun a HF => ?_
  refine wm HF rfl rfl rfl fun a HF => ?_
  obtain ⟨y1, hx3, h⟩ := obs h
  refine wc_call HF cf27 rfl (w_laws_szProg fuel hx3 (HT.ro hr2).any (HT.ro hr3).any) rfl rfl ?_
  rintro e w ⟨rfl, hE⟩
  have hb := hE.below
  have HT := HT.pure hE
  have HT : St w0 (fun _ => False) w [] := HT
  refine ⟨_, rfl, nS, fun a HF => ?_⟩
  refine wa HF rfl rfl rfl fun a HF => ?_
  refine wc_end (then_n (wp_seq (wc_text (wm HF rfl rfl rfl fun a HF => ?_))))
  refine wc_bin HF nS rfl rfl b_lt rfl rfl fun a HF => ?_
  refine wc_end (then_n ?_)
  by_cases hb3 : y1 < 0
  have h := ifp hb3 h
  refine wp_if (b' := true) HF rfl (decide_eq_true hb3) ?_
  refine wp_seq (wc_text (wa HF rfl rfl rfl fun a HF => ?_))
  refine wc_end (then_n (wp_ret ?_))
  obtain rfl := Option.some.inj h
  have h := retL hk1
  obtain rfl := Option.some.inj h
  refine blk_r (then_r (then_r (blk_r (then_r (?_)))))
  refine bp_ret HF (res_one rfl HF rfl) ?_
  exact ⟨rfl, HT⟩
  have h := ifn hb3 h
  refine wp_if (b' := false) HF rfl (decide_eq_false hb3) ?_
  refine wp_skip (blk_n (then_n (wc_text (wm HF rfl rfl rfl fun a HF => ?_))))
  obtain ⟨hg2, h⟩ := grd h
  refine wc_bin HF nS rfl rfl (b_add hg2) rfl rfl fun a HF => ?_
  refine wa HF rfl rfl rfl fun a HF => ?_
  exact wc_end (then_n ⟨k1, Nat.lt_succ_self k1, y1, z3 + 1, h, (HF.keep (HF.keep (HF.keep HF.nil rfl) rfl) rfl), HT⟩)
  have h := ifn hb2 h
  refine wp_if (b' := false) HF rfl (decide_eq_false hb2) ?_
  refine wp_exit ?_
  refine then_x (then_x (?_))
  refine blk_x ?_
  exact then_n ⟨z2, (Option.some.inj h).symm, (HF.keep HF.nil rfl), HT⟩
  rintro a w ⟨z1, rfl, HF, HT⟩
  have h := brkL1u h
  refine ?_
  refine wp_seq (wc_text (wm HF rfl rfl rfl fun a HF => ?_))
  refine wa HF rfl rfl rfl fun a HF => ?_
  refine wc_end (then_n (wp_ret ?_))
  obtain rfl := Option.some.inj h
  refine bp_ret HF (res_one rfl HF rfl) ?_
  exact ⟨rfl, HT⟩

def m_laws_toOrder (fuel : Nat) (x0_0 : List Int) : Option (List Int) :=
  (m_laws_toIntS fuel x0_0).bind fun y1 =>
  some y1

set_option maxRecDepth 100000 in
set_option maxHeartbeats 4000000 in
theorem w_laws_toOrder (fuel : Nat) {x0_0 : List Int} {a_x0_0 : Option Addr} {n_x0_0 c_x0_0 : Nat} {r0_0 : List Int} {w0 : World} (h : m_laws_toOrder fuel x0_0 = some r0_0) (hr_x0_0 : RdT (fun b => ¬ False) w0 (rowT x0_0) (.slice a_x0_0 n_x0_0 c_x0_0)) :
    Calls Try.prog 81 #[.agg #[.slice a_x0_0 n_x0_0 c_x0_0]] w0 fun e w => ∃ a_r0_0 n_r0_0 c_r0_0, e = .returned (.agg #[.slice a_r0_0 n_r0_0 c_r0_0]) ∧ St w0 (fun _ => False) w [Own 3 (rowT r0_0) (.slice a_r0_0 n_r0_0 c_r0_0)] := by
  obtain rfl := hr_x0_0.neq
  have HT : St w0 (fun _ => False) w0 [] := St.init0
  rw [m_laws_toOrder] at h
  refine calls_fr (n := 9) [.agg #[.slice a_x0_0 x0_0.length c_x0_0]] Try.func81 rfl rfl rfl fun a HF => ?_
  have HT : St w0 (fun _ => False) w0 [] := HT
  refine wp_seq (wc_text (wc_box (cs := [.slice a_x0_0 x0_0.length c_x0_0]) HF HT rfl rfl rfl rfl (fun p1 w HT hb => ⟨nS, fun a HF => ?_⟩)))
  refine wc_alloc (cs := [.slice none 0 0]) HF HT zr89 rfl rfl rfl (fun p2 w HT hb => ⟨nS, fun a HF => ?_⟩)
  refine wc_end (then_n (wp_seq (wc_text (wc_alloc (cs := [.slice none 0 0]) HF HT zr89 rfl rfl rfl (fun p3 w HT hb => ⟨nS, fun a HF => ?_⟩)))))
  refine wc_end (then_n (wp_seq (wc_text (wc_faddr HF nS rfl fl106_0 rfl rfl fun a HF => ?_))))
  refine wc_load HF rfl sc22 ((HT.boxAt 2 rfl).get 0 rfl) rfl rfl fun a HF => ?_
  obtain ⟨y1, hx1, h⟩ := obs h
  refine wc_call HF cf20 rfl (w_laws_toIntS fuel hx1 (HT.ro hr_x0_0).any) rfl rfl ?_
  rintro e w ⟨a1, n1, c1, rfl, hE⟩
  have hb := hE.below
  have HT := HT.pure hE
  obtain rfl := (HT.rdAt 0 rfl).neq
  have HT : St w0 (fun _ => False) w [Own 3 (rowT y1) (.slice a1 y1.length c1), Box p3 [.slice none 0 0], Box p2 [.slice none 0 0], Box p1 [.slice a_x0_0 x0_0.length c_x0_0]] := HT
  refine ⟨_, rfl, nS, fun a HF => ?_⟩
  refine wc_faddr HF nS rfl fl89_0 rfl rfl fun a HF => ?_
  have HT := HT.p1
  refine wc_storeB (cs' := [.slice a1 y1.length c1]) HF HT rfl rfl (fun w => (sc22 w).2) rfl rfl rfl rfl rfl (fun w HT => ⟨nS, ?_⟩)
  refine wc_end (then_n (wp_seq (wc_text (wc_loadA (vs := [.slice a1 y1.length c1]) HF rfl ag89 rfl ((HT.boxAt 0 rfl).part 0 1) rfl rfl fun a HF => ?_))))
  have HT := HT.p2
  refine wc_storeB (cs' := [.slice a1 y1.length c1]) HF HT rfl rfl (fun w => (ag89 w).2) rfl rfl rfl rfl rfl (fun w HT => ⟨nS, ?_⟩)
  refine wc_end (then_n (wp_ret ?_))
  obtain rfl := Option.some.inj h
  refine bp_ret HF (res_cell (vs := [.slice a1 y1.length c1]) rfl HF rfl ag89 rfl (HT.boxAt 0 rfl)) ?_
  have HT := HT.p2.t1
  exact ⟨a1, y1.length, c1, rfl, HT⟩

def m_laws_toOrderS_L0 (fuel : Nat) (x0 : List OrdD) : Nat → (List OrdD) → Int → Option (List OrdD)
  | 0, _, _ => none
  | k1 + 1, z2, z3 =>
    if z3 < (x0.length : Int) then
      (at? x0 z3).bind fun e1 =>
      (m_laws_toOrder fuel e1.kids).bind fun y1 =>
      (at? z2 z3).bind fun e2 =>
      if in64 (z3 + 1) then
        m_laws_toOrderS_L0 fuel x0 k1 (z2.set z3.toNat (⟨y1⟩ : OrdD)) (z3 + 1)
      else none
    else
    some z2

def m_laws_toOrderS (fuel : Nat) (x0 : List OrdD) : Option (List OrdD) :=
  if 0 ≤ ((x0.length : Int) : Int) ∧ (x0.length : Int) ≤ 1048576 then
    (m_laws_toOrderS_L0 fuel x0 fuel (List.replicate ((x0.length : Int) : Int).toNat ((⟨[]⟩ : OrdD) : OrdD)) 0).bind fun z1 =>
    some z1
  else none

set_option maxRecDepth 100000 in
set_option maxHeartbeats 4000000 in
theorem w_laws_toOrderS (fuel : Nat) {x0 : List OrdD} {a_x0 : Option Addr} {n_x0 c_x0 : Nat} {r0 : List OrdD} {w0 : World} (h : m_laws_toOrderS fuel x0 = some r0) (hr_x0 : RdT (fun b => ¬ False) w0 (rowT x0) (.slice a_x0 n_x0 c_x0)) :
    Calls Try.prog 41 #[.slice a_x0 n_x0 c_x0] w0 fun e w => ∃ a_r0 n_r0 c_r0, e = .returned (.slice a_r0 n_r0 c_r0) ∧ St w0 (fun _ => False) w [Own 89 (rowT r0) (.slice a_r0 n_r0 c_r0)] := by
  obtain rfl := hr_x0.neq
  have HT : St w0 (fun _ => False) w0 [] := St.init0
  rw [m_laws_toOrderS] at h
  refine calls_fr (n := 23) [.slice a_x0 x0.length c_x0] Try.func41 rfl rfl rfl fun a HF => ?_
  have HT : St w0 (fun _ => False) w0 [] := HT
  refine wp_seq (wc_text (wa HF rfl rfl rfl fun a HF => ?_))
  refine wc_end (then_n (wp_seq (wc_text (wm HF rfl rfl rfl fun a HF => ?_))))
  refine wc_lenR HF nS Try.underlying62 rfl rfl rfl fun a HF => ?_
  obtain ⟨hg1, h⟩ := grd h
  refine wc_makeN (x := ((⟨[]⟩ : OrdD) : OrdD)) HF HT el70 rfl rfl hg1 rfl (fun w => (ownTs_zero_row ownTs_zero_nil)) rfl rfl (fun p1 w HT hb => ⟨nS, fun a HF => ?_⟩)
  refine wa HF rfl rfl rfl fun a HF => ?_
  refine wc_end (then_n ?_)
  obtain ⟨z1, hx1, h⟩ := obs h
  refine wp_cut (fun a w => Fr a 23 [(3, .slice (some ⟨p1, 0, none⟩) ((List.replicate ((x0.length : Int) : Int).toNat ((⟨[]⟩ : OrdD) : OrdD)).length) ((List.replicate ((x0.length : Int) : Int).toNat ((⟨[]⟩ : OrdD) : OrdD)).length))] ∧ St w0 (fun _ => False) w [Own 89 (rowT z1) (.slice (some ⟨p1, 0, none⟩) ((List.replicate ((x0.length : Int) : Int).toNat ((⟨[]⟩ : OrdD) : OrdD)).length) ((List.replicate ((x0.length : Int) : Int).toNat ((⟨[]⟩ : OrdD) : OrdD)).length))]) ?_ ?_
  have hk1 := h
  have h := hx1
  refine wp_seq (wc_text (wa HF rfl rfl rfl fun a HF => ?_))
  refine wc_end (then_n (wp_block (wp_loopN (fun k1 a w => ∃ z2 z3, m_laws_toOrderS_L0 fuel x0 k1 z2 z3 = some z1 ∧ Fr a 23 [(0, .slice a_x0 x0.length c_x0), (3, .slice (some ⟨p1, 0, none⟩) ((List.replicate ((x0.length : Int) : Int).toNat ((⟨[]⟩ : OrdD) : OrdD)).length) ((List.replicate ((x0.length : Int) : Int).toNat ((⟨[]⟩ : OrdD) : OrdD)).length)), (4, .int .i64 z3)] ∧ St w0 (fun _ => False) w [Own 89 (rowT z2) (.slice (some ⟨p1, 0, none⟩) ((List.replicate ((x0.length : Int) : Int).toNat ((⟨[]⟩ : OrdD) : OrdD)).length) ((List.replicate ((x0.length : Int) : Int).toNat ((⟨[]⟩ : OrdD) : OrdD)).length))]) fuel ⟨List.replicate ((x0.length : Int) : Int).toNat ((⟨[]⟩ : OrdD) : OrdD), 0, h, (HF.keep (HF.keep (HF.keep HF.nil rfl) rfl) rfl), HT⟩ ?_)))
  rintro k1 a w ⟨z2, z3, h, HF, HT⟩
  rcases k1 with _ | k1
  cases h
  rw [m_laws_toOrderS_L0] at h
  refine ?_
  refine wp_seq (wp_seq (wc_text (wm HF rfl rfl rfl fun a HF => ?_)))
  refine wm HF rfl rfl rfl fun a HF => ?_
  refine wc_lenR HF nS Try.underlying62 rfl rfl rfl fun a HF => ?_
  refine wc_bin HF nS rfl rfl b_lt rfl rfl fun a HF => ?_
  refine wc_end (then_n ?_)
  by_cases hb1 : z3 < (x0.length : Int)
  have h := ifp hb1 h
  refine wp_if (b' := true) HF rfl (decide_eq_true hb1) ?_
  refine wp_skip (then_n (wp_seq (wp_block (wc_text (wm HF rfl rfl rfl fun a HF => ?_)))))
  refine wm HF rfl rfl rfl fun a HF => ?_
  refine wm HF rfl rfl rfl fun a HF => ?_
  refine wm HF rfl rfl rfl fun a HF => ?_
  obtain ⟨e1, hx2, h⟩ := obs h
  obtain ⟨b1, o1, ha1⟩ := (HT.ro hr_x0).any.addr hx2
  refine wc_ixaddr HF nS el62 rfl ha1 ((HT.ro hr_x0).any).neq rfl hx2 rfl rfl fun a HF => ?_
  obtain ⟨_, hP1, hc1, hr1⟩ := hr_x0.elemAt ha1 hx2
  obtain ⟨a1, c1, rfl, hr2⟩ := cells_Ord hr1
  have hc2 := HT.roLd hP1 hc1
  refine wc_loadA (vs := [.slice a1 e1.kids.length c1]) HF rfl ag106 rfl (hc2.part 0 1) rfl rfl fun a HF => ?_
  obtain ⟨y1, hx3, h⟩ := obs h
  refine wc_call HF cf81 rfl (w_laws_toOrder fuel hx3 (HT.ro hr2).any) rfl rfl ?_
  rintro e w ⟨a2, n1, c2, rfl, hE⟩
  have hb := hE.below
  have HT := HT.pure hE
  obtain rfl := (HT.rdAt 0 rfl).neq
  have HT : St w0 (fun _ => False) w [Own 3 (rowT y1) (.slice a2 y1.length c2), Own 89 (rowT z2) (.slice (some ⟨p1, 0, none⟩) ((List.replicate ((x0.length : Int) : Int).toNat ((⟨[]⟩ : OrdD) : OrdD)).length) ((List.replicate ((x0.length : Int) : Int).toNat ((⟨[]⟩ : OrdD) : OrdD)).length))] := HT
  refine ⟨_, rfl, nS, fun a HF => ?_⟩
  obtain ⟨e2, hx4, h⟩ := obs h
  refine wc_ixaddr HF nS el70 rfl rfl ((HT.rdAt 1 rfl)).neq rfl hx4 rfl rfl fun a HF => ?_
  have HT := HT.p1
  refine wc_storeN (i := z3) (x' := (⟨y1⟩ : OrdD)) (A := [Own 3 (rowT y1) (.slice a2 y1.length c2)]) HF HT rfl rfl rfl (fun w => (ag89 w).2) rfl hx4 (fun w => (gives_own gives_nil)) rfl (fun w HT => ⟨nS, ?_⟩)
  refine wc_end (blk_n (then_n (wc_text (wm HF rfl rfl rfl fun a HF => ?_))))
  obtain ⟨hg2, h⟩ := grd h
  refine wc_bin HF nS rfl rfl (b_add hg2) rfl rfl fun a HF => ?_
  refine wa HF rfl rfl rfl fun a HF => ?_
  exact wc_end (then_n ⟨k1, Nat.lt_succ_self k1, z2.set z3.toNat (⟨y1⟩ : OrdD), z3 + 1, h, (HF.keep (HF.keep (HF.keep HF.nil rfl) rfl) rfl), HT⟩)
  have h := ifn hb1 h
  refine wp_if (b' := false) HF rfl (decide_eq_false hb1) ?_
  refine wp_exit ?_
  refine then_x (then_x (?_))
  refine blk_x ?_
  obtain rfl := Option.some.inj h
  exact then_n ⟨(HF.keep HF.nil rfl), HT⟩
  rintro a w ⟨HF, HT⟩
  refine ?_
  refine wp_seq (wc_text (wm HF rfl rfl rfl fun a HF => ?_))
  refine wa HF rfl rfl rfl fun a HF => ?_
  refine wc_end (then_n (wp_ret ?_))
  obtain rfl := Option.some.inj h
  refine bp_ret HF (res_one rfl HF rfl) ?_
  exact ⟨(some ⟨p1, 0, none⟩), (List.replicate ((x0.length : Int) : Int).toNat ((⟨[]⟩ : OrdD) : OrdD)).length, (List.replicate ((x0.length : Int) : Int).toNat ((⟨[]⟩ : OrdD) : OrdD)).length, rfl, HT⟩

def m_laws_toProgS_L0 (fuel : Nat) (x0 : List ProgD) : Nat → (List ProgD) → Int → Option (List ProgD)
  | 0, _, _ => none
  | k1 + 1, z2, z3 =>
    if z3 < (x0.length : Int) then
      (at? x0 z3).bind fun e1 =>
      bind2 (m_laws_toProg fuel e1.code e1.kids) fun y1 y2 =>
      (at? z2 z3).bind fun e2 =>
      if in64 (z3 + 1) then
        m_laws_toProgS_L0 fuel x0 k1 (z2.set z3.toNat (⟨y1, y2⟩ : ProgD)) (z3 + 1)
      else none
    else
    some z2

def m_laws_toProgS (fuel : Nat) (x0 : List ProgD) : Option (List ProgD) :=
  if 0 ≤ ((x0.length : Int) : Int) ∧ (x0.length : Int) ≤ 1048576 then
    (m_laws_toProgS_L0 fuel x0 fuel (List.replicate ((x0.length : Int) : Int).toNat ((⟨[], []⟩ : ProgD) : ProgD)) 0).bind fun z1 =>
    some z1
  else none

set_option maxRecDepth 100000 in
set_option maxHeartbeats 4000000 in
theorem w_laws_toProgS (fuel : Nat) {x0 : List ProgD} {a_x0 : Option Addr} {n_x0 c_x0 : Nat} {r0 : List ProgD} {w0 : World} (h : m_laws_toProgS fuel x0 = some r0) (hr_x0 : RdT (fun b => ¬ False) w0 (rowT x0) (.slice a_x0 n_x0 c_x0)) :
    Calls Try.prog 40 #[.slice a_x0 n_x0 c_x0] w0 fun e w => ∃ a_r0 n_r0 c_r0, e = .returned (.slice a_r0 n_r0 c_r0) ∧ St w0 (fun _ => False) w [Own 53 (rowT r0) (.slice a_r0 n_r0 c_r0)] := by
  obtain rfl := hr_x0.neq
  have HT : St w0 (fun _ => False) w0 [] := St.init0
  rw [m_laws_toProgS] at h
  refine calls_fr (n := 23) [.slice a_x0 x0.length c_x0] Try.func40 rfl rfl rfl fun a HF => ?_
  have HT : St w0 (fun _ => False) w0 [] := HT
  refine wp_seq (wc_text (wa HF rfl rfl rfl fun a HF => ?_))
  refine wc_end (then_n (wp_seq (wc_text (wm HF rfl rfl rfl fun a HF => ?_))))
  refine wc_lenR HF nS Try.underlying61 rfl rfl rfl fun a HF => ?_
  obtain ⟨hg1, h⟩ := grd h
  refine wc_makeN (x := ((⟨[], []⟩ : ProgD) : ProgD)) HF HT el68 rfl rfl hg1 rfl (fun w => (ownTs_zero_row (ownTs_zero_row ownTs_zero_nil))) rfl rfl (fun p1 w HT hb => ⟨nS, fun a HF => ?_⟩)
  refine wa HF rfl rfl rfl fun a HF => ?_
  refine wc_end (then_n ?_)
  obtain ⟨z1, hx1, h⟩ := obs h
  refine wp_cut (fun a w => Fr a 23 [(3, .slice (some ⟨p1, 0, none⟩) ((List.replicate ((x0.length : Int) : Int).toNat ((⟨[], []⟩ : ProgD) : ProgD)).length) ((List.replicate ((x0.length : Int) : Int).toNat ((⟨[], []⟩ : ProgD) : ProgD)).length))] ∧ St w0 (fun _ => False) w [Own 53 (rowT z1) (.slice (some ⟨p1, 0, none⟩) ((List.replicate ((x0.length : Int) : Int).toNat ((⟨[], []⟩ : ProgD) : ProgD)).length) ((List.replicate ((x0.length : Int) : Int).toNat ((⟨[], []⟩ : ProgD) : ProgD)).length))]) ?_ ?_
  have hk1 := h
  have h := hx1
  refine wp_seq (wc_text (wa HF rfl rfl rfl fun a HF => ?_))
  refine wc_end (then_n (wp_block (wp_loopN (fun k1 a w => ∃ z2 z3, m_laws_toProgS_L0 fuel x0 k1 z2 z3 = some z1 ∧ Fr a 23 [(0, .slice a_x0 x0.length c_x0), (3, .slice (some ⟨p1, 0, none⟩) ((List.replicate ((x0.length : Int) : Int).toNat ((⟨[], []⟩ : ProgD) : ProgD)).length) ((List.replicate ((x0.length : Int) : Int).toNat ((⟨[], []⟩ : ProgD) : ProgD)).length)), (4, .int .i64 z3)] ∧ St w0 (fun _ => False) w [Own 53 (rowT z2) (.slice (some ⟨p1, 0, none⟩) ((List.replicate ((x0.length : Int) : Int).toNat ((⟨[], []⟩ : ProgD) : ProgD)).length) ((List.replicate ((x0.length : Int) : Int).toNat ((⟨[], []⟩ : ProgD) : ProgD)).length))]) fuel ⟨List.replicate ((x0.length : Int) : Int).toNat ((⟨[], []⟩ : ProgD) : ProgD), 0, h, (HF.keep (HF.keep (HF.keep HF.nil rfl) rfl) rfl), HT⟩ ?_)))
  rintro k1 a w ⟨z2, z3, h, HF, HT⟩
  rcases k1 with _ | k1
  cases h
  rw [m_laws_toProgS_L0] at h
  refine ?_
  refine wp_seq (wp_seq (wc_text (wm HF rfl rfl rfl fun a HF => ?_)))
  refine wm HF rfl rfl rfl fun a HF => ?_
  refine wc_lenR HF nS Try.underlying61 rfl rfl rfl fun a HF => ?_
  refine wc_bin HF nS rfl rfl b_lt rfl rfl fun a HF => ?_
  refine wc_end (then_n ?_)
  by_cases hb1 : z3 < (x0.length : Int)
  have h := ifp hb1 h
  refine wp_if (b' := true) HF rfl (decide_eq_true hb1) ?_
  refine wp_skip (then_n (wp_seq (wp_block (wc_text (wm HF rfl rfl rfl fun a HF => ?_)))))
  refine wm HF rfl rfl rfl fun a HF => ?_
  refine wm HF rfl rfl rfl fun a HF => ?_
  refine wm HF rfl rfl rfl fun a HF => ?_
  obtain ⟨e1, hx2, h⟩ := obs h
  obtain ⟨b1, o1, ha1⟩ := (HT.ro hr_x0).any.addr hx2
  refine wc_ixaddr HF nS el61 rfl ha1 ((HT.ro hr_x0).any).neq rfl hx2 rfl rfl fun a HF => ?_
  obtain ⟨_, hP1, hc1, hr1⟩ := hr_x0.elemAt ha1 hx2
  obtain ⟨a1, c1, a2, c2, rfl, hr2, hr3⟩ := cells_Prog hr1
  have hc2 := HT.roLd hP1 hc1
  refine wc_loadA (vs := [.slice a1 e1.code.length c1, .slice a2 e1.kids.length c2]) HF rfl ag46 rfl (hc2.part 0 2) rfl rfl fun a HF => ?_
  obtain ⟨y1, y2, hx3, h⟩ := obs2 h
  refine wc_call HF cf29 rfl (w_laws_toProg fuel hx3 (HT.ro hr2).any (HT.ro hr3).any) rfl rfl ?_
  rintro e w ⟨a3, n1, c3, a4, n2, c4, rfl, hE⟩
  have hb := hE.below
  have HT := HT.pure hE
  obtain rfl := (HT.rdAt 0 rfl).neq
  obtain rfl := (HT.rdAt 1 rfl).neq
  have HT : St w0 (fun _ => False) w [Own 85 (rowT y1) (.slice a3 y1.length c3), Own 127 (rowT y2) (.slice a4 y2.length c4), Own 53 (rowT z2) (.slice (some ⟨p1, 0, none⟩) ((List.replicate ((x0.length : Int) : Int).toNat ((⟨[], []⟩ : ProgD) : ProgD)).length) ((List.replicate ((x0.length : Int) : Int).toNat ((⟨[], []⟩ : ProgD) : ProgD)).length))] := HT
  refine ⟨_, rfl, nS, fun a HF => ?_⟩
  obtain ⟨e2, hx4, h⟩ := obs h
  refine wc_ixaddr HF nS el68 rfl rfl ((HT.rdAt 2 rfl)).neq rfl hx4 rfl rfl fun a HF => ?_
  have HT := HT.p1.p1.p2
  refine wc_storeN (i := z3) (x' := (⟨y1, y2⟩ : ProgD)) (A := [Own 85 (rowT y1) (.slice a3 y1.length c3), Own 127 (rowT y2) (.slice a4 y2.length c4)]) HF HT rfl rfl rfl (fun w => (ag53 w).2) rfl hx4 (fun w => (gives_own (gives_own gives_nil))) rfl (fun w HT => ⟨nS, ?_⟩)
  refine wc_end (blk_n (then_n (wc_text (wm HF rfl rfl rfl fun a HF => ?_))))
  obtain ⟨hg2, h⟩ := grd h
  refine wc_bin HF nS rfl rfl (b_add hg2) rfl rfl fun a HF => ?_
  refine wa HF rfl rfl rfl fun a HF => ?_
  exact wc_end (then_n ⟨k1, Nat.lt_succ_self k1, z2.set z3.toNat (⟨y1, y2⟩ : ProgD), z3 + 1, h, (HF.keep (HF.keep (HF.keep HF.nil rfl) rfl) rfl), HT⟩)
  have h := ifn hb1 h
  refine wp_if (b' := false) HF rfl (decide_eq_false hb1) ?_
  refine wp_exit ?_
  refine then_x (then_x (?_))
  refine blk_x ?_
  obtain rfl := Option.some.inj h
  exact then_n ⟨(HF.keep HF.nil rfl), HT⟩
  rintro a w ⟨HF, HT⟩
  refine ?_
  refine wp_seq (wc_text (wm HF rfl rfl rfl fun a HF => ?_))
  refine wa HF rfl rfl rfl fun a HF => ?_
  refine wc_end (then_n (wp_ret ?_))
  obtain rfl := Option.some.inj h
  refine bp_ret HF (res_one rfl HF rfl) ?_
  exact ⟨(some ⟨p1, 0, none⟩), (List.replicate ((x0.length : Int) : Int).toNat ((⟨[], []⟩ : ProgD) : ProgD)).length, (List.replicate ((x0.length : Int) : Int).toNat ((⟨[], []⟩ : ProgD) : ProgD)).length, rfl, HT⟩

def m_spec_SerialAll_L0 (fuel : Nat) (x0 : List ProgD) (x1 : List OrdD) : Nat → (List RunD) → (List Int) → (List Int) → Int → Int → Option (Lp (List RunD × List Int × List Int × Int) (List RunD × List Int × List Int × Int))
  | 0, _, _, _, _, _ => none
  | k1 + 1, z6, z7, z8, z9, z10 =>
    if z10 < (x0.length : Int) then
      (
        bind5 (
          (at? x0 z10).bind fun e1 =>
          (at? x1 z10).bind fun e2 =>
          bind5 (m_spec_Serial fuel e1.code e1.kids e2.kids z7 z8 z9) fun y5 y6 y7 y8 y9 =>
          some (y5, y6, y7, y8, y9)) fun z15 z16 z17 z18 z19 =>
        if z15 = 0 then
          some (.ret (([] : List RunD), ([] : List Int), ([] : List Int), 0))
        else
        bind3 (m_spec_l7Copy fuel z17 z18 z19) fun y10 y11 y12 =>
        if z6.length + 1 ≤ 17179869184 then
          some (.brk (z6 ++ ([(⟨z15, z16, z17, z18, z19⟩ : RunD)] : List RunD), y10, y11, y12))
        else none).bind <| contM <| un4 fun z11 z12 z13 z14 =>
      if in64 (z10 + 1) then
        m_spec_SerialAll_L0 fuel x0 x1 k1 z11 z12 z13 z14 (z10 + 1)
      else none
    else
    some (.brk (z6, z7, z8, z9))

def m_spec_SerialAll (fuel : Nat) (x0 : List ProgD) (x1 : List OrdD) (x2_0 : List Int) (x2_1 : List Int) (x2_2 : Int) : Option (List RunD × List Int × List Int × Int) :=
  (
    (
      if (x1.length : Int) = (x0.length : Int) then
        (m_spec_ThingsOk fuel x2_0 x2_1 x2_2).bind fun y1 =>
        some !(y1)
      else
      some true).bind fun z1 =>
    if z1 = true then
      some (.ret (([] : List RunD), ([] : List Int), ([] : List Int), 0))
    else
    some (.brk ())).bind <| contL <| un1 fun _ =>
  bind3 (m_spec_l7Copy fuel x2_0 x2_1 x2_2) fun y2 y3 y4 =>
  (m_spec_SerialAll_L0 fuel x0 x1 fuel ([] : List RunD) y2 y3 y4 0).bind <| contL <| un4 fun z2 z3 z4 z5 =>
  some (z2, z3, z4, z5)

set_option maxRecDepth 100000 in
set_option maxHeartbeats 4000000 in
theorem w_spec_SerialAll (fuel : Nat) {x0 : List ProgD} {x1 : List OrdD} {x2_0 : List Int} {x2_1 : List Int} {x2_2 : Int} {a_x0 : Option Addr} {n_x0 c_x0 : Nat} {a_x1 : Option Addr} {n_x1 c_x1 : Nat} {a_x2_0 : Option Addr} {n_x2_0 c_x2_0 : Nat} {a_x2_1 : Option Addr} {n_x2_1 c_x2_1 : Nat} {r0 : List RunD} {r1_0 : List Int} {r1_1 : List Int} {r1_2 : Int} {w0 : World} (h : m_spec_SerialAll fuel x0 x1 x2_0 x2_1 x2_2 = some (r0, r1_0, r1_1, r1_2)) (hr_x0 : RdT (fun b => ¬ False) w0 (rowT x0) (.slice a_x0 n_x0 c_x0)) (hr_x1 : RdT (fun b => ¬ False) w0 (rowT x1) (.slice a_x1 n_x1 c_x1)) (hr_x2_0 : RdT (fun b => ¬ False) w0 (rowT x2_0) (.slice a_x2_0 n_x2_0 c_x2_0)) (hr_x2_1 : RdT (fun b => ¬ False) w0 (rowT x2_1) (.slice a_x2_1 n_x2_1 c_x2_1)) :
    Calls Try.prog 39 #[.slice a_x0 n_x0 c_x0, .slice a_x1 n_x1 c_x1, .agg #[.slice a_x2_0 n_x2_0 c_x2_0, .slice a_x2_1 n_x2_1 c_x2_1, .int .i64 x2_2]] w0 fun e w => ∃ a_r0 n_r0 c_r0, ∃ a_r1_0 n_r1_0 c_r1_0, ∃ a_r1_1 n_r1_1 c_r1_1, e = .returned (.tuple #[.slice a_r0 n_r0 c_r0, .agg #[.slice a_r1_0 n_r1_0 c_r1_0, .slice a_r1_1 n_r1_1 c_r1_1, .int .i64 r1_2]]) ∧ St w0 (fun _ => False) w [Own 49 (rowT r0) (.slice a_r0 n_r0 c_r0), Own 3 (rowT r1_0) (.slice a_r1_0 n_r1_0 c_r1_0), Own 3 (rowT r1_1) (.slice a_r1_1 n_r1_1 c_r1_1)] := by
  obtain rfl := hr_x0.neq
  obtain rfl := hr_x1.neq
  obtain rfl := hr_x2_0.neq
  obtain rfl := hr_x2_1.neq
  have HT : St w0 (fun _ => False) w0 [] := St.init0
  rw [m_spec_SerialAll] at h
  refine calls_fr (n := 58) [.slice a_x0 x0.length c_x0, .slice a_x1 x1.length c_x1, .agg #[.slice a_x2_0 x2_0.length c_x2_0, .slice a_x2_1 x2_1.length c_x2_1, .int .i64 x2_2]] Try.func39 rfl rfl rfl fun a HF => ?_
  have HT : St w0 (fun _ => False) w0 [] := HT
  refine wp_seq (wc_text (wc_box (cs := [.slice a_x2_0 x2_0.length c_x2_0, .slice a_x2_1 x2_1.length c_x2_1, .int .i64 x2_2]) HF HT rfl rfl rfl rfl (fun p1 w HT hb => ⟨nS, fun a HF => ?_⟩)))
  refine wa HF rfl rfl rfl fun a HF => ?_
  refine wc_alloc (cs := [.slice none 0 0, .slice none 0 0, .int .i64 0]) HF HT zr27 rfl rfl rfl (fun p2 w HT hb => ⟨nS, fun a HF => ?_⟩)
  refine wc_end (then_n (wp_seq (wc_text (wc_bslice (l := ([] : List RunD)) (cs := []) (A := []) HF HT bs65_0 rfl rfl gives_nil rfl (by decide) rfl rfl (fun p3 w HT hb  => ⟨nS, fun a HF => ?_⟩)))))
  refine wa HF rfl rfl rfl fun a HF => ?_
  refine wc_end (then_n ?_)
  obtain ⟨q1, hx1, h⟩ := obs h
  refine wp_cut (fun a w => q1 = .brk () ∧ Fr a 58 [(0, .slice a_x0 x0.length c_x0), (1, .slice a_x1 x1.length c_x1), (5, .pointer (some ⟨p1, 0, none⟩)), (7, .pointer (some ⟨p2, 0, none⟩)), (8, .slice (some ⟨p3, 0, none⟩) 0 0)] ∧ St w0 (fun _ => False) w [Box p1 [.slice a_x2_0 x2_0.length c_x2_0, .slice a_x2_1 x2_1.length c_x2_1, .int .i64 x2_2], Box p2 [.slice none 0 0, .slice none 0 0, .int .i64 0], Own 49 (rowT ([] : List RunD)) (.slice (some ⟨p3, 0, none⟩) 0 0)]) ?_ ?_
  have hk1 := h
  have h := hx1
  obtain ⟨z1, hx2, h⟩ := obs h
  refine wp_cut (fun a w => Fr a 58 [(0, .slice a_x0 x0.length c_x0), (1, .slice a_x1 x1.length c_x1), (5, .pointer (some ⟨p1, 0, none⟩)), (7, .pointer (some ⟨p2, 0, none⟩)), (8, .slice (some ⟨p3, 0, none⟩) 0 0), (22, .bool z1)] ∧ St w0 (fun _ => False) w [Box p1 [.slice a_x2_0 x2_0.length c_x2_0, .slice a_x2_1 x2_1.length c_x2_1, .int .i64 x2_2], Box p2 [.slice none 0 0, .slice none 0 0, .int .i64 0], Own 49 (rowT ([] : List RunD)) (.slice (some ⟨p3, 0, none⟩) 0 0)]) ?_ ?_
  have hk2 := h
  have h := hx2
  refine wc_text (wm HF rfl rfl rfl fun a HF => ?_)
  refine wc_lenR HF nS Try.underlying70 rfl rfl rfl fun a HF => ?_
  refine wm HF rfl rfl rfl fun a HF => ?_
  refine wc_lenR HF nS Try.underlying68 rfl rfl rfl fun a HF => ?_
  refine wc_bin HF nS rfl rfl b_ne rfl rfl fun a HF => ?_
  refine wm HF rfl rfl rfl fun a HF => ?_
  by_cases hb1 : (x1.length : Int) = (x0.length : Int)
  have h := ifp hb1 h
  refine wc_loadA (vs := [.slice a_x2_0 x2_0.length c_x2_0, .slice a_x2_1 x2_1.length c_x2_1, .int .i64 x2_2]) HF rfl ag27 rfl ((HT.boxAt 2 rfl).part 0 3) (HF.wy rfl rfl rfl rfl (notT (decide_eq_true hb1))) rfl fun a HF => ?_
  obtain ⟨y1, hx3, h⟩ := obs h
  refine wc_call HF cf15 rfl (w_spec_ThingsOk fuel hx3 (HT.ro hr_x2_0).any (HT.ro hr_x2_1).any) (HF.wy rfl rfl rfl rfl (notT (decide_eq_true hb1))) rfl ?_
  rintro e w ⟨rfl, hE⟩
  have hb := hE.below
  have HT := HT.pure hE
  have HT : St w0 (fun _ => False) w [Own 49 (rowT ([] : List RunD)) (.slice (some ⟨p3, 0, none⟩) 0 0), Box p2 [.slice none 0 0, .slice none 0 0, .int .i64 0], Box p1 [.slice a_x2_0 x2_0.length c_x2_0, .slice a_x2_1 x2_1.length c_x2_1, .int .i64 x2_2]] := HT
  refine ⟨_, rfl, nS, fun a HF => ?_⟩
  refine wc_not HF nS rfl (HF.wy rfl rfl rfl rfl (notT (decide_eq_true hb1))) rfl fun a HF => ?_
  refine wc_pick (b := false) HF nS rfl (notT (decide_eq_true hb1)) rfl rfl rfl fun a HF => ?_
  refine wc_end ?_
  have HT := HT.p1.p2
  obtain rfl := Option.some.inj h
  exact then_n ⟨(HF.keep (HF.keep (HF.keep (HF.keep (HF.keep (HF.keep HF.nil rfl) rfl) rfl) rfl) rfl) rfl), HT⟩
  have h := ifn hb1 h
  refine wc_skip HF nS (HF.wn rfl rfl rfl rfl (notF (decide_eq_false hb1))) rfl fun a HF => ?_
  refine wc_skip HF nS (HF.wn rfl rfl rfl rfl (notF (decide_eq_false hb1))) rfl fun a HF => ?_
  refine wc_skip HF nS (HF.wn rfl rfl rfl rfl (notF (decide_eq_false hb1))) rfl fun a HF => ?_
  refine wc_pick (b := true) HF nS rfl (notF (decide_eq_false hb1)) rfl rfl rfl fun a HF => ?_
  refine wc_end ?_
  have HT := HT.p1.p2
  obtain rfl := Option.some.inj h
  exact then_n ⟨(HF.keep (HF.keep (HF.keep (HF.keep (HF.keep (HF.keep HF.nil rfl) rfl) rfl) rfl) rfl) rfl), HT⟩
  rintro a w ⟨HF, HT⟩
  refine ?_
  by_cases hb2 : z1 = true
  have h := ifp hb2 h
  refine wp_if (b' := true) HF rfl hb2 ?_
  refine wp_seq (wc_text (wm HF rfl rfl rfl fun a HF => ?_))
  refine wc_build (cs := #[.slice none 0 0, .slice none 0 0, .int .i64 0]) HF nS bd27 rfl rfl rfl rfl fun a HF => ?_
  refine wa HF rfl rfl rfl fun a HF => ?_
  have HT := HT.p1
  refine wc_storeB (cs' := [.slice none 0 0, .slice none 0 0, .int .i64 0]) HF HT rfl rfl (fun w => (ag27 w).2) rfl rfl rfl rfl rfl (fun w HT => ⟨nS, ?_⟩)
  refine wc_end (then_n (wp_ret ?_))
  have HT := HT.nilrow (E := Int) 3
  have HT := HT.nilrow (E := Int) 3
  obtain rfl := Option.some.inj h
  have h := retL hk1
  have hj1 := Option.some.inj h
  obtain ⟨rfl, hj2⟩ := Prod.mk.inj hj1
  obtain ⟨rfl, hj3⟩ := Prod.mk.inj hj2
  obtain ⟨rfl, hj4⟩ := Prod.mk.inj hj3
  subst hj4
  refine then_r (?_)
  refine bp_ret HF (res_tmp_cell (vs := [.slice none 0 0, .slice none 0 0, .int .i64 0]) rfl HF rfl rfl ag27 rfl (HT.boxAt 2 rfl)) ?_
  have HT := HT.p1.p4.t3
  exact ⟨(some ⟨p3, 0, none⟩), 0, 0, none, 0, 0, none, 0, 0, rfl, HT⟩
  have h := ifn hb2 h
  refine wp_if (b' := false) HF rfl (Bool.eq_false_iff.2 hb2) ?_
  exact wp_skip (then_n ⟨(Option.some.inj h).symm, (HF.keep (HF.keep (HF.keep (HF.keep (HF.keep HF.nil rfl) rfl) rfl) rfl) rfl), HT⟩)
  rintro a w ⟨rfl, HF, HT⟩
  have h := brkL1u h
  refine ?_
  refine wp_seq (wc_text (wc_loadA (vs := [.slice a_x2_0 x2_0.length c_x2_0, .slice a_x2_1 x2_1.length c_x2_1, .int .i64 x2_2]) HF rfl ag27 rfl ((HT.boxAt 0 rfl).part 0 3) rfl rfl fun a HF => ?_))
  obtain ⟨y2, y3, y4, hx4, h⟩ := obs3 h
  refine wc_call HF cf80 rfl (w_spec_l7Copy fuel hx4 (HT.ro hr_x2_0).any (HT.ro hr_x2_1).any) rfl rfl ?_
  rintro e w ⟨a1, n1, c1, a2, n2, c2, rfl, hE⟩
  have hb := hE.below
  have HT := HT.pure hE
  obtain rfl := (HT.rdAt 0 rfl).neq
  obtain rfl := (HT.rdAt 1 rfl).neq
  have HT : St w0 (fun _ => False) w [Own 3 (rowT y2) (.slice a1 y2.length c1), Own 3 (rowT y3) (.slice a2 y3.length c2), Box p1 [.slice a_x2_0 x2_0.length c_x2_0, .slice a_x2_1 x2_1.length c_x2_1, .int .i64 x2_2], Box p2 [.slice none 0 0, .slice none 0 0, .int .i64 0], Own 49 (rowT ([] : List RunD)) (.slice (some ⟨p3, 0, none⟩) 0 0)] := HT
  refine ⟨_, rfl, nS, fun a HF => ?_⟩
  refine wc_alloc (cs := [.slice none 0 0, .slice none 0 0, .int .i64 0]) HF HT zr27 rfl rfl rfl (fun p4 w HT hb => ⟨nS, fun a HF => ?_⟩)
  refine wc_storeB (cs' := [.slice a1 y2.length c1, .slice a2 y3.length c2, .int .i64 y4]) HF HT rfl rfl (fun w => (ag27 w).2) rfl rfl rfl rfl rfl (fun w HT => ⟨nS, ?_⟩)
  refine wc_end (then_n ?_)
  obtain ⟨q3, hx5, h⟩ := obs h
  refine wp_cut (fun a w => ∃ z2 z3 z4 z5 a3 n3 c3 a4 n4 c4 a5 n5 c5, q3 = .brk (z2, z3, z4, z5) ∧ Fr a 58 [(7, .pointer (some ⟨p2, 0, none⟩)), (8, .slice a3 n3 c3), (9, .pointer (some ⟨p4, 0, none⟩))] ∧ St w0 (fun _ => False) w [Box p2 [.slice none 0 0, .slice none 0 0, .int .i64 0], Own 49 (rowT z2) (.slice a3 n3 c3), Own 3 (rowT z3) (.slice a4 n4 c4), Own 3 (rowT z4) (.slice a5 n5 c5), Box p4 [.slice a4 n4 c4, .slice a5 n5 c5, .int .i64 z5]]) ?_ ?_
  have hk1 := h
  have h := hx5
  refine wp_seq (wc_text (wa HF rfl rfl rfl fun a HF => ?_))
  refine wc_end (then_n (wp_block ?_))
  have HT := HT.p2.p2.p5.p5.t5
  refine wp_loopN (fun k1 a w => ∃ z6 z7 z8 z9 z10 a6 n6 c6 a7 n7 c7 a8 n8 c8, m_spec_SerialAll_L0 fuel x0 x1 k1 z6 z7 z8 z9 z10 = some q3 ∧ Fr a 58 [(0, .slice a_x0 x0.length c_x0), (1, .slice a_x1 x1.length c_x1), (7, .pointer (some ⟨p2, 0, none⟩)), (8, .slice a6 n6 c6), (9, .pointer (some ⟨p4, 0, none⟩)), (10, .int .i64 z10)] ∧ St w0 (fun _ => False) w [Box p2 [.slice none 0 0, .slice none 0 0, .int .i64 0], Own 49 (rowT z6) (.slice a6 n6 c6), Own 3 (rowT z7) (.slice a7 n7 c7), Own 3 (rowT z8) (.slice a8 n8 c8), Box p4 [.slice a7 n7 c7, .slice a8 n8 c8, .int .i64 z9]]) fuel ⟨([] : List RunD), y2, y3, y4, 0, (some ⟨p3, 0, none⟩), 0, 0, a1, y2.length, c1, a2, y3.length, c2, h, (HF.keep (HF.keep (HF.keep (HF.keep (HF.keep (HF.keep HF.nil rfl) rfl) rfl) rfl) rfl) rfl), HT⟩ ?_
  rintro k1 a w ⟨z6, z7, z8, z9, z10, a6, n6, c6, a7, n7, c7, a8, n8, c8, h, HF, HT⟩
  rcases k1 with _ | k1
  cases h
  rw [m_spec_SerialAll_L0] at h
  obtain rfl := (HT.rdAt 1 rfl).neq
  obtain rfl := (HT.rdAt 2 rfl).neq
  obtain rfl := (HT.rdAt 3 rfl).neq
  refine ?_
  refine wp_seq (wp_seq (wc_text (wm HF rfl rfl rfl fun a HF => ?_)))
  refine wm HF rfl rfl rfl fun a HF => ?_
  refine wc_lenR HF nS Try.underlying68 rfl rfl rfl fun a HF => ?_
  refine wc_bin HF nS rfl rfl b_lt rfl rfl fun a HF => ?_
  refine wc_end (then_n ?_)
  by_cases hb3 : z10 < (x0.length : Int)
  have h := ifp hb3 h
  refine wp_if (b' := true) HF rfl (decide_eq_true hb3) ?_
  refine wp_skip (then_n ?_)
  obtain ⟨q4, hx6, h⟩ := obs h
  refine wp_cut (fun a w => ∃ z11 z12 z13 z14 a9 n9 c9 a10 n10 c10 a11 n11 c11, q4 = .brk (z11, z12, z13, z14) ∧ Fr a 58 [(0, .slice a_x0 x0.length c_x0), (1, .slice a_x1 x1.length c_x1), (7, .pointer (some ⟨p2, 0, none⟩)), (8, .slice a9 n9 c9), (9, .pointer (some ⟨p4, 0, none⟩)), (10, .int .i64 z10)] ∧ St w0 (fun _ => False) w [Box p2 [.slice none 0 0, .slice none 0 0, .int .i64 0], Own 49 (rowT z11) (.slice a9 n9 c9), Own 3 (rowT z12) (.slice a10 n10 c10), Own 3 (rowT z13) (.slice a11 n11 c11), Box p4 [.slice a10 n10 c10, .slice a11 n11 c11, .int .i64 z14]]) ?_ ?_
  have hk2 := h
  have h := hx6
  refine wp_block ?_
  obtain ⟨z15, z16, z17, z18, z19, hx7, h⟩ := obs5 h
  refine wp_cut (fun a w => ∃ a12 n12 c12 a13 n13 c13 a14 n14 c14 p5, Fr a 58 [(0, .slice a_x0 x0.length c_x0), (1, .slice a_x1 x1.length c_x1), (7, .pointer (some ⟨p2, 0, none⟩)), (8, .slice a6 z6.length c6), (9, .pointer (some ⟨p4, 0, none⟩)), (10, .int .i64 z10), (11, .pointer (some ⟨p5, 0, none⟩))] ∧ St w0 (fun _ => False) w [Box p2 [.slice none 0 0, .slice none 0 0, .int .i64 0], Own 49 (rowT z6) (.slice a6 z6.length c6), Own 3 (rowT z7) (.slice a7 z7.length c7), Own 3 (rowT z8) (.slice a8 z8.length c8), Box p4 [.slice a7 z7.length c7, .slice a8 z8.length c8, .int .i64 z9], Own 3 (rowT z16) (.slice a12 n12 c12), Own 3 (rowT z17) (.slice a13 n13 c13), Own 3 (rowT z18) (.slice a14 n14 c14), Box p5 [.int .i64 z15, .slice a12 n12 c12, .slice a13 n13 c13, .slice a14 n14 c14, .int .i64 z19]]) ?_ ?_
  have hk3 := h
  have h := hx7
  obtain ⟨e1, hx8, h⟩ := obs h
  obtain ⟨b1, o1, ha1⟩ := (HT.ro hr_x0).any.addr hx8
  obtain ⟨_, hP1, hc1, hr1⟩ := hr_x0.elemAt ha1 hx8
  obtain ⟨a15, c15, a16, c16, rfl, hr2, hr3⟩ := cells_Prog hr1
  have hc2 := HT.roLd hP1 hc1
  obtain ⟨e2, hx9, h⟩ := obs h
  obtain ⟨b2, o2, ha2⟩ := (HT.ro hr_x1).any.addr hx9
  obtain ⟨_, hP2, hc3, hr4⟩ := hr_x1.elemAt ha2 hx9
  obtain ⟨a17, c17, rfl, hr5⟩ := cells_Ord hr4
  have hc4 := HT.roLd hP2 hc3
  refine wp_region_tree (.seg [(0, false), (1, false), (2, false), (3, false), (4, false), (5, false), (6, false), (7, false), (8, false), (9, false)] (.alt 10 true (.seg [(11, false), (12, true)] .stop) (.alt 11 false (.seg [(10, true), (12, true)] .stop) .none))) (fun w' => LdC w' b1 (o1 + (z10 : Int).toNat * Dat.size ProgD) [.slice a15 e1.code.length c15, .slice a16 e1.kids.length c16] ∧ LdC w' b2 (o2 + (z10 : Int).toNat * Dat.size OrdD) [.slice a17 e2.kids.length c17] ∧ LdC w' p4 0 [.slice a7 z7.length c7, .slice a8 z8.length c8, .int .i64 z9] ∧ True) (by kernel_rfl) (by kernel_rfl) ?_
  have HT := HT.drew
  refine wt_seg (wc_move HF (fun _ => ⟨(HT.roLd hP1 hc1), (HT.roLd hP2 hc3), (HT.boxAt 4 rfl).part 0 3, trivial⟩) rfl rfl rfl fun a HF => ?_)
  refine wc_move HF (fun _ => ⟨(HT.roLd hP1 hc1), (HT.roLd hP2 hc3), (HT.boxAt 4 rfl).part 0 3, trivial⟩) rfl rfl rfl fun a HF => ?_
  refine wc_ixaddr HF (fun _ => ⟨(HT.roLd hP1 hc1), (HT.roLd hP2 hc3), (HT.boxAt 4 rfl).part 0 3, trivial⟩) el68 rfl ha1 ((HT.ro hr_x0).any).neq rfl hx8 rfl rfl fun a HF => ?_
  refine wc_loadAS (vs := [.slice a15 e1.code.length c15, .slice a16 e1.kids.length c16]) HF ⟨(HT.roLd hP1 hc1), (HT.roLd hP2 hc3), (HT.boxAt 4 rfl).part 0 3, trivial⟩ rfl ag53 rfl (fun w hS => (hS.1).part 0 2) rfl rfl fun a HF => ?_
  refine wc_move HF (fun _ => ⟨(HT.roLd hP1 hc1), (HT.roLd hP2 hc3), (HT.boxAt 4 rfl).part 0 3, trivial⟩) rfl rfl rfl fun a HF => ?_
  refine wc_move HF (fun _ => ⟨(HT.roLd hP1 hc1), (HT.roLd hP2 hc3), (HT.boxAt 4 rfl).part 0 3, trivial⟩) rfl rfl rfl fun a HF => ?_
  refine wc_ixaddr HF (fun _ => ⟨(HT.roLd hP1 hc1), (HT.roLd hP2 hc3), (HT.boxAt 4 rfl).part 0 3, trivial⟩) el70 rfl ha2 ((HT.ro hr_x1).any).neq rfl hx9 rfl rfl fun a HF => ?_
  refine wc_faddr HF (fun _ => ⟨(HT.roLd hP1 hc1), (HT.roLd hP2 hc3), (HT.boxAt 4 rfl).part 0 3, trivial⟩) rfl fl89_0 rfl rfl fun a HF => ?_
  refine wc_loadS HF ⟨(HT.roLd hP1 hc1), (HT.roLd hP2 hc3), (HT.boxAt 4 rfl).part 0 3, trivial⟩ rfl sc22 (fun w hS => (hS.2.1).get 0 rfl) rfl rfl fun a HF => ?_
  refine wc_loadAS (vs := [.slice a7 z7.length c7, .slice a8 z8.length c8, .int .i64 z9]) HF ⟨(HT.roLd hP1 hc1), (HT.roLd hP2 hc3), (HT.boxAt 4 rfl).part 0 3, trivial⟩ rfl ag27 rfl (fun w hS => hS.2.2.1) rfl rfl fun a HF => ?_
  refine wc_endT ?_
  obtain ⟨y5, y6, y7, y8, y9, hx10, h⟩ := obs5 h
  refine wt_alt ?_ ?_
  refine wc_call HF cf28 rfl (w_spec_Serial fuel hx10 (HT.ro hr2).any (HT.ro hr3).any (HT.ro hr5).any (HT.rdAt 2 rfl) (HT.rdAt 3 rfl)) rfl rfl ?_
  rintro e w ⟨a21, n18, c21, a22, n19, c22, a23, n20, c23, rfl, hE⟩
  have hb := hE.below
  have HT := HT.pure hE
  obtain rfl := (HT.rdAt 0 rfl).neq
  obtain rfl := (HT.rdAt 1 rfl).neq
  obtain rfl := (HT.rdAt 2 rfl).neq
  have HT : St w0 (fun _ => False) w [Own 3 (rowT y6) (.slice a21 y6.length c21), Own 3 (rowT y7) (.slice a22 y7.length c22), Own 3 (rowT y8) (.slice a23 y8.length c23), Box p2 [.slice none 0 0, .slice none 0 0, .int .i64 0], Own 49 (rowT z6) (.slice a6 z6.length c6), Own 3 (rowT z7) (.slice a7 z7.length c7), Own 3 (rowT z8) (.slice a8 z8.length c8), Box p4 [.slice a7 z7.length c7, .slice a8 z8.length c8, .int .i64 z9]] := HT
  refine ⟨_, rfl, nS, fun a HF => ?_⟩
  refine wc_endT (wt_seg (wc_alloc (cs := [.int .i64 0, .slice none 0 0, .slice none 0 0, .slice none 0 0, .int .i64 0]) HF HT zr49 rfl rfl rfl (fun p7 w HT hb => ⟨(fun _ => ⟨(HT.roLd hP1 hc1), (HT.roLd hP2 hc3), (HT.boxAt 8 rfl).part 0 3, trivial⟩), fun a HF => ?_⟩)))
  refine wc_storeB (cs' := [.int .i64 y5, .slice a21 y6.length c21, .slice a22 y7.length c22, .slice a23 y8.length c23, .int .i64 y9]) HF HT rfl rfl (fun w => (ag49 w).2) rfl rfl rfl rfl rfl (fun w HT => ⟨nS, ?_⟩)
  refine wc_endT (wt_stop ?_)
  have HT := HT.p3.p3.p3.p8.p8.p8.p8.p8
  have hj5 := Option.some.inj h
  obtain ⟨rfl, hj6⟩ := Prod.mk.inj hj5
  obtain ⟨rfl, hj7⟩ := Prod.mk.inj hj6
  obtain ⟨rfl, hj8⟩ := Prod.mk.inj hj7
  obtain ⟨rfl, hj9⟩ := Prod.mk.inj hj8
  subst hj9
  exact then_n ⟨a21, y6.length, c21, a22, y7.length, c22, a23, y8.length, c23, p7, (HF.keep (HF.keep (HF.keep (HF.keep (HF.keep (HF.keep (HF.keep HF.nil rfl) rfl) rfl) rfl) rfl) rfl) rfl), HT⟩
  refine wt_alt ?_ ?_
  refine wc_alloc (cs := [.int .i64 0, .slice none 0 0, .slice none 0 0, .slice none 0 0, .int .i64 0]) HF HT zr49 rfl rfl rfl (fun p8 w HT hb => ⟨(fun _ => ⟨(HT.roLd hP1 hc1), (HT.roLd hP2 hc3), (HT.boxAt 5 rfl).part 0 3, trivial⟩), fun a HF => ?_⟩)
  refine wc_endT (wt_seg (wc_call HF cf28 rfl (w_spec_Serial fuel hx10 (HT.ro hr2).any (HT.ro hr3).any (HT.ro hr5).any (HT.rdAt 3 rfl) (HT.rdAt 4 rfl)) rfl rfl ?_))
  rintro e w ⟨a24, n21, c24, a25, n22, c25, a26, n23, c26, rfl, hE⟩
  have hb := hE.below
  have HT := HT.pure hE
  obtain rfl := (HT.rdAt 0 rfl).neq
  obtain rfl := (HT.rdAt 1 rfl).neq
  obtain rfl := (HT.rdAt 2 rfl).neq
  have HT : St w0 (fun _ => False) w [Own 3 (rowT y6) (.slice a24 y6.length c24), Own 3 (rowT y7) (.slice a25 y7.length c25), Own 3 (rowT y8) (.slice a26 y8.length c26), Box p8 [.int .i64 0, .slice none 0 0, .slice none 0 0, .slice none 0 0, .int .i64 0], Box p2 [.slice none 0 0, .slice none 0 0, .int .i64 0], Own 49 (rowT z6) (.slice a6 z6.length c6), Own 3 (rowT z7) (.slice a7 z7.length c7), Own 3 (rowT z8) (.slice a8 z8.length c8), Box p4 [.slice a7 z7.length c7, .slice a8 z8.length c8, .int .i64 z9]] := HT
  refine ⟨_, rfl, nS, fun a HF => ?_⟩
  have HT := HT.p3
  refine wc_storeB (cs' := [.int .i64 y5, .slice a24 y6.length c24, .slice a25 y7.length c25, .slice a26 y8.length c26, .int .i64 y9]) HF HT rfl rfl (fun w => (ag49 w).2) rfl rfl rfl rfl rfl (fun w HT => ⟨nS, ?_⟩)
  refine wc_endT (wt_stop ?_)
  have HT := HT.p3.p3.p3.p8.p8.p8.p8.p8
  have hj10 := Option.some.inj h
  obtain ⟨rfl, hj11⟩ := Prod.mk.inj hj10
  obtain ⟨rfl, hj12⟩ := Prod.mk.inj hj11
  obtain ⟨rfl, hj13⟩ := Prod.mk.inj hj12
  obtain ⟨rfl, hj14⟩ := Prod.mk.inj hj13
  subst hj14
  exact then_n ⟨a24, y6.length, c24, a25, y7.length, c25, a26, y8.length, c26, p8, (HF.keep (HF.keep (HF.keep (HF.keep (HF.keep (HF.keep (HF.keep HF.nil rfl) rfl) rfl) rfl) rfl) rfl) rfl), HT⟩
  exact wt_none
  rintro a w ⟨a12, n12, c12, a13, n13, c13, a14, n14, c14, p5, HF, HT⟩
  obtain rfl := (HT.rdAt 5 rfl).neq
  obtain rfl := (HT.rdAt 6 rfl).neq
  obtain rfl := (HT.rdAt 7 rfl).neq
  refine ?_
  refine wp_seq (wp_seq (wc_text (wc_faddr HF nS rfl fl49_0 rfl rfl fun a HF => ?_)))
  refine wc_load HF rfl sc3 ((HT.boxAt 8 rfl).get 0 rfl) rfl rfl fun a HF => ?_
  refine wc_bin HF nS rfl rfl b_eq rfl rfl fun a HF => ?_
  refine wc_end (then_n ?_)
  by_cases hb4 : z15 = 0
  have h := ifp hb4 h
  refine wp_if (b' := true) HF rfl (decide_eq_true hb4) ?_
  refine wp_seq (wc_text (wc_bslice (l := ([] : List RunD)) (cs := []) (A := []) HF HT bs65_0 rfl rfl gives_nil rfl (by decide) rfl rfl (fun p9 w HT hb  => ⟨nS, fun a HF => ?_⟩)))
  refine wc_build (cs := #[.slice none 0 0, .slice none 0 0, .int .i64 0]) HF nS bd27 rfl rfl rfl rfl fun a HF => ?_
  refine wa HF rfl rfl rfl fun a HF => ?_
  have HT := HT.p1
  refine wc_storeB (cs' := [.slice none 0 0, .slice none 0 0, .int .i64 0]) HF HT rfl rfl (fun w => (ag27 w).2) rfl rfl rfl rfl rfl (fun w HT => ⟨nS, ?_⟩)
  refine wc_end (then_n (wp_ret ?_))
  have HT := HT.nilrow (E := Int) 3
  have HT := HT.nilrow (E := Int) 3
  obtain rfl := Option.some.inj h
  have h := retM hk2
  obtain rfl := Option.some.inj h
  have h := retL hk1
  have hj15 := Option.some.inj h
  obtain ⟨rfl, hj16⟩ := Prod.mk.inj hj15
  obtain ⟨rfl, hj17⟩ := Prod.mk.inj hj16
  obtain ⟨rfl, hj18⟩ := Prod.mk.inj hj17
  subst hj18
  refine then_r (blk_r (then_r (then_r (blk_r (then_r (?_))))))
  refine bp_ret HF (res_tmp_cell (vs := [.slice none 0 0, .slice none 0 0, .int .i64 0]) rfl HF rfl rfl ag27 rfl (HT.boxAt 2 rfl)) ?_
  have HT := HT.p1.p3.t3
  exact ⟨(some ⟨p9, 0, none⟩), 0, 0, none, 0, 0, none, 0, 0, rfl, HT⟩
  have h := ifn hb4 h
  refine wp_if (b' := false) HF rfl (decide_eq_false hb4) ?_
  refine wp_skip (then_n (wp_seq (wc_text (wc_faddr HF nS rfl fl49_2 rfl rfl fun a HF => ?_))))
  refine wc_loadA (vs := [.slice a13 z17.length c13, .slice a14 z18.length c14, .int .i64 z19]) HF rfl ag27 rfl ((HT.boxAt 8 rfl).part 2 3) rfl rfl fun a HF => ?_
  obtain ⟨y10, y11, y12, hx11, h⟩ := obs3 h
  refine wc_call HF cf80 rfl (w_spec_l7Copy fuel hx11 (HT.rdAt 6 rfl) (HT.rdAt 7 rfl)) rfl rfl ?_
  rintro e w ⟨a27, n24, c27, a28, n25, c28, rfl, hE⟩
  have hb := hE.below
  have HT := HT.pure hE
  obtain rfl := (HT.rdAt 0 rfl).neq
  obtain rfl := (HT.rdAt 1 rfl).neq
  have HT : St w0 (fun _ => False) w [Own 3 (rowT y10) (.slice a27 y10.length c27), Own 3 (rowT y11) (.slice a28 y11.length c28), Box p2 [.slice none 0 0, .slice none 0 0, .int .i64 0], Own 49 (rowT z6) (.slice a6 z6.length c6), Own 3 (rowT z7) (.slice a7 z7.length c7), Own 3 (rowT z8) (.slice a8 z8.length c8), Box p4 [.slice a7 z7.length c7, .slice a8 z8.length c8, .int .i64 z9], Own 3 (rowT z16) (.slice a12 z16.length c12), Own 3 (rowT z17) (.slice a13 z17.length c13), Own 3 (rowT z18) (.slice a14 z18.length c14), Box p5 [.int .i64 z15, .slice a12 z16.length c12, .slice a13 z17.length c13, .slice a14 z18.length c14, .int .i64 z19]] := HT
  refine ⟨_, rfl, nS, fun a HF => ?_⟩
  have HT := HT.p6
  refine wc_storeB (cs' := [.slice a27 y10.length c27, .slice a28 y11.length c28, .int .i64 y12]) HF HT rfl rfl (fun w => (ag27 w).2) rfl rfl rfl rfl rfl (fun w HT => ⟨nS, ?_⟩)
  refine wc_end (then_n (wc_text (wm HF rfl rfl rfl fun a HF => ?_)))
  refine wc_loadA (vs := [.int .i64 z15, .slice a12 z16.length c12, .slice a13 z17.length c13, .slice a14 z18.length c14, .int .i64 z19]) HF rfl ag49 rfl ((HT.boxAt 10 rfl).part 0 5) rfl rfl fun a HF => ?_
  have HT := HT.p9.p9.p9
  refine wc_bslice (l := ([(⟨z15, z16, z17, z18, z19⟩ : RunD)] : List RunD)) (cs := [.int .i64 z15, .slice a12 z16.length c12, .slice a13 z17.length c13, .slice a14 z18.length c14, .int .i64 z19]) (A := [Own 3 (rowT z16) (.slice a12 z16.length c12), Own 3 (rowT z17) (.slice a13 z17.length c13), Own 3 (rowT z18) (.slice a14 z18.length c14)]) HF HT bs65_1 rfl rfl (gives_lit (gives_own (gives_own (gives_own (gives_lit gives_nil))))) rfl (by decide) rfl rfl (fun p10 w HT hb  => ⟨nS, fun a HF => ?_⟩)
  obtain ⟨hg1, h⟩ := grd h
  have HT := HT.p5
  refine wc_append HF HT el65 rfl rfl (Nat.zero_lt_succ _) hg1 rfl rfl rfl (fun a29 c29 w HT => ⟨nS, fun a HF => ?_⟩)
  refine wa HF rfl rfl rfl fun a HF => ?_
  refine wc_end (blk_n ?_)
  have HT := HT.p1.p3.p3.p3.p4.t5
  exact then_n ⟨z6 ++ ([(⟨z15, z16, z17, z18, z19⟩ : RunD)] : List RunD), y10, y11, y12, a29, (z6 ++ ([(⟨z15, z16, z17, z18, z19⟩ : RunD)] : List RunD)).length, c29, a27, y10.length, c27, a28, y11.length, c28, (Option.some.inj h).symm, (HF.keep (HF.keep (HF.keep (HF.keep (HF.keep (HF.keep HF.nil rfl) rfl) rfl) rfl) rfl) rfl), HT⟩
  rintro a w ⟨z11, z12, z13, z14, a9, n9, c9, a10, n10, c10, a11, n11, c11, rfl, HF, HT⟩
  have h := brkM4 h
  obtain rfl := (HT.rdAt 1 rfl).neq
  obtain rfl := (HT.rdAt 2 rfl).neq
  obtain rfl := (HT.rdAt 3 rfl).neq
  refine ?_
  refine wc_text (wm HF rfl rfl rfl fun a HF => ?_)
  obtain ⟨hg2, h⟩ := grd h
  refine wc_bin HF nS rfl rfl (b_add hg2) rfl rfl fun a HF => ?_
  refine wa HF rfl rfl rfl fun a HF => ?_
  exact wc_end (then_n ⟨k1, Nat.lt_succ_self k1, z11, z12, z13, z14, z10 + 1, a9, z11.length, c9, a10, z12.length, c10, a11, z13.length, c11, h, (HF.keep (HF.keep (HF.keep (HF.keep (HF.keep (HF.keep HF.nil rfl) rfl) rfl) rfl) rfl) rfl), HT⟩)
  have h := ifn hb3 h
  refine wp_if (b' := false) HF rfl (decide_eq_false hb3) ?_
  refine wp_exit ?_
  refine then_x (then_x (?_))
  refine blk_x ?_
  exact then_n ⟨z6, z7, z8, z9, a6, z6.length, c6, a7, z7.length, c7, a8, z8.length, c8, (Option.some.inj h).symm, (HF.keep (HF.keep (HF.keep HF.nil rfl) rfl) rfl), HT⟩
  rintro a w ⟨z2, z3, z4, z5, a3, n3, c3, a4, n4, c4, a5, n5, c5, rfl, HF, HT⟩
  have h := brkL4 h
  obtain rfl := (HT.rdAt 1 rfl).neq
  obtain rfl := (HT.rdAt 2 rfl).neq
  obtain rfl := (HT.rdAt 3 rfl).neq
  refine ?_
  refine wp_seq (wp_region_can [(0, true), (1, true), (2, true), (3, true)] (fun w' => True) (by kernel_rfl) (by kernel_rfl) ?_)
  have HT := HT.drew
  refine wm HF rfl rfl rfl fun a HF => ?_
  refine wc_loadA (vs := [.slice a4 z3.length c4, .slice a5 z4.length c5, .int .i64 z5]) HF rfl ag27 rfl ((HT.boxAt 4 rfl).part 0 3) rfl rfl fun a HF => ?_
  refine wa HF rfl rfl rfl fun a HF => ?_
  refine wc_storeB (cs' := [.slice a4 z3.length c4, .slice a5 z4.length c5, .int .i64 z5]) HF HT rfl rfl (fun w => (ag27 w).2) rfl rfl rfl rfl rfl (fun w HT => ⟨nS, ?_⟩)
  refine wc_endN (then_n (wp_ret ?_))
  have hj19 := Option.some.inj h
  obtain ⟨rfl, hj20⟩ := Prod.mk.inj hj19
  obtain ⟨rfl, hj21⟩ := Prod.mk.inj hj20
  obtain ⟨rfl, hj22⟩ := Prod.mk.inj hj21
  subst hj22
  refine bp_ret HF (res_tmp_cell (vs := [.slice a4 z3.length c4, .slice a5 z4.length c5, .int .i64 z5]) rfl HF rfl rfl ag27 rfl (HT.boxAt 0 rfl)) ?_
  have HT := HT.p3.p3.p3.t3
  exact ⟨a3, z2.length, c3, a4, z3.length, c4, a5, z4.length, c5, rfl, HT⟩

def m_laws_FnExactSerialAll (fuel : Nat) (x0 : List ProgD) (x1 : List OrdD) (x2_0 : List Int) (x2_1 : List Int) (x2_2 : Int) : Option Bool :=
  (m_laws_szProgS fuel x0 1048576).bind fun y1 =>
  if y1 < 0 then
    some true
  else
  (m_laws_szOrderS fuel x1 y1).bind fun y2 =>
  if y2 < 0 then
    some true
  else
  (m_laws_szThings fuel x2_0 x2_1 x2_2 y2).bind fun y3 =>
  if y3 < 0 then
    some true
  else
  bind4 (
    (m_laws_toProgS fuel x0).bind fun y4 =>
    (m_laws_toOrderS fuel x1).bind fun y5 =>
    bind3 (m_laws_toThings fuel x2_0 x2_1 x2_2) fun y6 y7 y8 =>
    bind4 (m_spec_SerialAll fuel y4 y5 y6 y7 y8) fun y9 y10 y11 y12 =>
    some (y9, y10, y11, y12)) fun z1 z2 z3 z4 =>
  (m_laws_toProgS fuel x0).bind fun y13 =>
  (m_laws_toOrderS fuel x1).bind fun y14 =>
  bind3 (m_laws_toThings fuel x2_0 x2_1 x2_2) fun y15 y16 y17 =>
  bind4 (m_impl_SerialAll fuel y13 y14 y15 y16 y17) fun y18 y19 y20 y21 =>
  (
    (
      (m_laws_eqRunS fuel y18 z1).bind fun y22 =>
      if y22 = true then
        (m_laws_eqThings fuel y19 y20 y21 z2 z3 z4).bind fun y23 =>
        some !(y23)
      else
      some true).bind fun z5 =>
    if z5 = true then
      some (.ret false)
    else
    some (.brk ())).bind <| contL <| un1 fun _ =>
  (m_laws_toProgS fuel x0).bind fun y24 =>
  (m_laws_eqProgS fuel y13 y24).bind fun y25 =>
  if y25 = true then
    (m_laws_toOrderS fuel x1).bind fun y26 =>
    (m_laws_eqOrderS fuel y14 y26).bind fun y27 =>
    if y27 = true then
      bind3 (m_laws_toThings fuel x2_0 x2_1 x2_2) fun y28 y29 y30 =>
      (m_laws_eqThings fuel y15 y16 y17 y28 y29 y30).bind fun y31 =>
      if y31 = true then
        bind2 (m_laws_markProgS fuel y13 1) fun y32 y33 =>
        bind2 (m_laws_markOrderS fuel y14 y32) fun y34 y35 =>
        bind3 (m_laws_markThings fuel y15 y16 y17 y34) fun y36 y37 y38 =>
        (
          (
            if y36 < 0 then
              some true
            else
            (m_laws_eqRunS fuel y18 z1).bind fun y39 =>
            if y39 = true then
              (m_laws_eqThings fuel y19 y20 y21 z2 z3 z4).bind fun y40 =>
              some !(y40)
            else
            some true).bind fun z6 =>
          if z6 = true then
            some (.ret false)
          else
          some (.brk ())).bind <| contL <| un1 fun _ =>
        bind2 (m_laws_markRunS fuel y18 1) fun y41 y42 =>
        bind3 (m_laws_markThings fuel y19 y20 y21 y41) fun y43 y44 y45 =>
        (m_laws_heldRunS fuel y42 1).bind fun y46 =>
        if y46 < 0 then
          some false
        else
        (m_laws_heldThings fuel y44 y45 y21 y46).bind fun y47 =>
        if y47 < 0 then
          some false
        else
        if y47 = y43 then
          bind4 (
            (m_laws_toProgS fuel x0).bind fun y48 =>
            (m_laws_toOrderS fuel x1).bind fun y49 =>
            bind3 (m_laws_toThings fuel x2_0 x2_1 x2_2) fun y50 y51 y52 =>
            bind4 (m_impl_SerialAll fuel y48 y49 y50 y51 y52) fun y53 y54 y55 y56 =>
            some (y53, y54, y55, y56)) fun z7 z8 z9 z10 =>
          (
            (
              (m_laws_eqRunS fuel z7 z1).bind fun y57 =>
              if y57 = true then
                (m_laws_eqThings fuel z8 z9 z10 z2 z3 z4).bind fun y58 =>
                some !(y58)
              else
              some true).bind fun z11 =>
            if z11 = true then
              some (.ret false)
            else
            some (.brk ())).bind <| contL <| un1 fun _ =>
          (m_laws_heldRunS fuel y42 1).bind fun y59 =>
          if y59 < 0 then
            some false
          else
          (m_laws_heldThings fuel y44 y45 y21 y59).bind fun y60 =>
          if y60 < 0 then
            some false
          else
          if y60 = y43 then
            some true
          else
          some false
        else
        some false
      else
      some false
    else
    some false
  else
  some false

set_option maxRecDepth 100000 in
set_option maxHeartbeats 4000000 in
theorem w_laws_FnExactSerialAll (fuel : Nat) {x0 : List ProgD} {x1 : List OrdD} {x2_0 : List Int} {x2_1 : List Int} {x2_2 : Int} {a_x0 : Option Addr} {n_x0 c_x0 : Nat} {a_x1 : Option Addr} {n_x1 c_x1 : Nat} {a_x2_0 : Option Addr} {n_x2_0 c_x2_0 : Nat} {a_x2_1 : Option Addr} {n_x2_1 c_x2_1 : Nat} {r0 : Bool} {w0 : World} (h : m_laws_FnExactSerialAll fuel x0 x1 x2_0 x2_1 x2_2 = some r0) (hr_x0 : RdT (fun b => ¬ False) w0 (rowT x0) (.slice a_x0 n_x0 c_x0)) (hr_x1 : RdT (fun b => ¬ False) w0 (rowT x1) (.slice a_x1 n_x1 c_x1)) (hr_x2_0 : RdT (fun b => ¬ False) w0 (rowT x2_0) (.slice a_x2_0 n_x2_0 c_x2_0)) (hr_x2_1 : RdT (fun b => ¬ False) w0 (rowT x2_1) (.slice a_x2_1 n_x2_1 c_x2_1)) :
    Calls Try.prog 7 #[.slice a_x0 n_x0 c_x0, .slice a_x1 n_x1 c_x1, .agg #[.slice a_x2_0 n_x2_0 c_x2_0, .slice a_x2_1 n_x2_1 c_x2_1, .int .i64 x2_2]] w0 fun e w => e = .returned (.bool r0) ∧ St w0 (fun _ => False) w [] := by
  obtain rfl := hr_x0.neq
  obtain rfl := hr_x1.neq
  obtain rfl := hr_x2_0.neq
  obtain rfl := hr_x2_1.neq
  have HT : St w0 (fun _ => False) w0 [] := St.init0
  rw [m_laws_FnExactSerialAll] at h
  refine calls_fr (n := 158) [.slice a_x0 x0.length c_x0, .slice a_x1 x1.length c_x1, .agg #[.slice a_x2_0 x2_0.length c_x2_0, .slice a_x2_1 x2_1.length c_x2_1, .int .i64 x2_2]] Try.func7 rfl rfl rfl fun a HF => ?_
  have HT : St w0 (fun _ => False) w0 [] := HT
  refine wp_seq (wc_text (wc_box (cs := [.slice a_x2_0 x2_0.length c_x2_0, .slice a_x2_1 x2_1.length c_x2_1, .int .i64 x2_2]) HF HT rfl rfl rfl rfl (fun p1 w HT hb => ⟨nS, fun a HF => ?_⟩)))
  refine wa HF rfl rfl rfl fun a HF => ?_
  refine wc_end (then_n (wp_seq (wc_text (wa HF rfl rfl rfl fun a HF => ?_))))
  refine wc_end (then_n (wp_seq (wc_text (wm HF rfl rfl rfl fun a HF => ?_))))
  refine wm HF rfl rfl rfl fun a HF => ?_
  obtain ⟨y1, hx1, h⟩ := obs h
  refine wc_call HF cf37 rfl (w_laws_szProgS fuel hx1 (HT.ro hr_x0).any) rfl rfl ?_
  rintro e w ⟨rfl, hE⟩
  have hb := hE.below
  have HT := HT.pure hE
  have HT : St w0 (fun _ => False) w [Box p1 [.slice a_x2_0 x2_0.length c_x2_0, .slice a_x2_1 x2_1.length c_x2_1, .int .i64 x2_2]] := HT
  refine ⟨_, rfl, nS, fun a HF => ?_⟩
  refine wa HF rfl rfl rfl fun a HF => ?_
  refine wc_end (then_n (wp_seq (wp_seq (wc_text (wm HF rfl rfl rfl fun a HF => ?_)))))
  refine wc_bin HF nS rfl rfl b_lt rfl rfl fun a HF => ?_
  refine wc_end (then_n ?_)
  by_cases hb1 : y1 < 0
  have h := ifp hb1 h
  refine wp_if (b' := true) HF rfl (decide_eq_true hb1) ?_
  refine wp_seq (wc_text (wa HF rfl rfl rfl fun a HF => ?_))
  refine wc_end (then_n (wp_ret ?_))
  obtain rfl := Option.some.inj h
  refine then_r (?_)
  refine bp_ret HF (res_one rfl HF rfl) ?_
  have HT := HT.t0
  exact ⟨rfl, HT⟩
  have h := ifn hb1 h
  refine wp_if (b' := false) HF rfl (decide_eq_false hb1) ?_
  refine wp_skip (then_n (wp_seq (wc_text (wm HF rfl rfl rfl fun a HF => ?_))))
  refine wm HF rfl rfl rfl fun a HF => ?_
  obtain ⟨y2, hx2, h⟩ := obs h
  refine wc_call HF cf38 rfl (w_laws_szOrderS fuel hx2 (HT.ro hr_x1).any) rfl rfl ?_
  rintro e w ⟨rfl, hE⟩
  have hb := hE.below
  have HT := HT.pure hE
  have HT : St w0 (fun _ => False) w [Box p1 [.slice a_x2_0 x2_0.length c_x2_0, .slice a_x2_1 x2_1.length c_x2_1, .int .i64 x2_2]] := HT
  refine ⟨_, rfl, nS, fun a HF => ?_⟩
  refine wa HF rfl rfl rfl fun a HF => ?_
  refine wc_end (then_n (wp_seq (wp_seq (wc_text (wm HF rfl rfl rfl fun a HF => ?_)))))
  refine wc_bin HF nS rfl rfl b_lt rfl rfl fun a HF => ?_
  refine wc_end (then_n ?_)
  by_cases hb2 : y2 < 0
  have h := ifp hb2 h
  refine wp_if (b' := true) HF rfl (decide_eq_true hb2) ?_
  refine wp_seq (wc_text (wa HF rfl rfl rfl fun a HF => ?_))
  refine wc_end (then_n (wp_ret ?_))
  obtain rfl := Option.some.inj h
  refine then_r (?_)
  refine bp_ret HF (res_one rfl HF rfl) ?_
  have HT := HT.t0
  exact ⟨rfl, HT⟩
  have h := ifn hb2 h
  refine wp_if (b' := false) HF rfl (decide_eq_false hb2) ?_
  refine wp_skip (then_n (wp_seq (wc_text (wc_loadA (vs := [.slice a_x2_0 x2_0.length c_x2_0, .slice a_x2_1 x2_1.length c_x2_1, .int .i64 x2_2]) HF rfl ag24 rfl ((HT.boxAt 0 rfl).part 0 3) rfl rfl fun a HF => ?_))))
  refine wm HF rfl rfl rfl fun a HF => ?_
  obtain ⟨y3, hx3, h⟩ := obs h
  refine wc_call HF cf10 rfl (w_laws_szThings fuel hx3 (HT.ro hr_x2_0).any (HT.ro hr_x2_1).any) rfl rfl ?_
  rintro e w ⟨rfl, hE⟩
  have hb := hE.below
  have HT := HT.pure hE
  have HT : St w0 (fun _ => False) w [Box p1 [.slice a_x2_0 x2_0.length c_x2_0, .slice a_x2_1 x2_1.length c_x2_1, .int .i64 x2_2]] := HT
  refine ⟨_, rfl, nS, fun a HF => ?_⟩
  refine wa HF rfl rfl rfl fun a HF => ?_
  refine wc_end (then_n (wp_seq (wp_seq (wc_text (wm HF rfl rfl rfl fun a HF => ?_)))))
  refine wc_bin HF nS rfl rfl b_lt rfl rfl fun a HF => ?_
  refine wc_end (then_n ?_)
  by_cases hb3 : y3 < 0
  have h := ifp hb3 h
  refine wp_if (b' := true) HF rfl (decide_eq_true hb3) ?_
  refine wp_seq (wc_text (wa HF rfl rfl rfl fun a HF => ?_))
  refine wc_end (then_n (wp_ret ?_))
  obtain rfl := Option.some.inj h
  refine then_r (?_)
  refine bp_ret HF (res_one rfl HF rfl) ?_
  have HT := HT.t0
  exact ⟨rfl, HT⟩
  have h := ifn hb3 h
  refine wp_if (b' := false) HF rfl (decide_eq_false hb3) ?_
  refine wp_skip (then_n ?_)
  obtain ⟨z1, z2, z3, z4, hx4, h⟩ := obs4 h
  refine wp_cut (fun a w => ∃ a1 n1 c1 a2 n2 c2 a3 n3 c3 p2, Fr a 158 [(0, .slice a_x0 x0.length c_x0), (1, .slice a_x1 x1.length c_x1), (5, .pointer (some ⟨p1, 0, none⟩)), (8, .slice a1 n1 c1), (9, .pointer (some ⟨p2, 0, none⟩))] ∧ St w0 (fun _ => False) w [Box p1 [.slice a_x2_0 x2_0.length c_x2_0, .slice a_x2_1 x2_1.length c_x2_1, .int .i64 x2_2], Own 49 (rowT z1) (.slice a1 n1 c1), Own 3 (rowT z2) (.slice a2 n2 c2), Own 3 (rowT z3) (.slice a3 n3 c3), Box p2 [.slice a2 n2 c2, .slice a3 n3 c3, .int .i64 z4]]) ?_ ?_
  have hk1 := h
  have h := hx4
  refine wp_region_tree (.seg [(0, false), (2, false), (4, false)] (.alt 1 false (.alt 3 false (.alt 5 false (.alt 6 false (.seg [(7, false), (8, false), (9, false), (10, false), (11, true), (12, true)] .stop) (.alt 10 false (.seg [(6, false), (7, true), (8, true), (9, true), (11, true), (12, true)] .stop) .none)) (.alt 10 false (.seg [(5, false), (6, false), (7, true), (8, true), (9, true), (11, true), (12, true)] .stop) .none)) (.alt 10 false (.seg [(3, false), (5, false), (6, false), (7, true), (8, true), (9, true), (11, true), (12, true)] .stop) .none)) (.alt 10 false (.seg [(1, false), (3, false), (5, false), (6, false), (7, true), (8, true), (9, true), (11, true), (12, true)] .stop) .none))) (fun w' => LdC w' p1 0 [.slice a_x2_0 x2_0.length c_x2_0, .slice a_x2_1 x2_1.length c_x2_1, .int .i64 x2_2] ∧ True) (by kernel_rfl) (by kernel_rfl) ?_
  have HT := HT.drew
  refine wt_seg (wc_move HF (fun _ => ⟨(HT.boxAt 0 rfl).part 0 3, trivial⟩) rfl rfl rfl fun a HF => ?_)
  refine wc_move HF (fun _ => ⟨(HT.boxAt 0 rfl).part 0 3, trivial⟩) rfl rfl rfl fun a HF => ?_
  refine wc_loadAS (vs := [.slice a_x2_0 x2_0.length c_x2_0, .slice a_x2_1 x2_1.length c_x2_1, .int .i64 x2_2]) HF ⟨(HT.boxAt 0 rfl).part 0 3, trivial⟩ rfl ag24 rfl (fun w hS => hS.1) rfl rfl fun a HF => ?_
  refine wc_endT ?_
  obtain ⟨y4, hx5, h⟩ := obs h
  obtain ⟨y5, hx6, h⟩ := obs h
  obtain ⟨y6, y7, y8, hx7, h⟩ := obs3 h
  obtain ⟨y9, y10, y11, y12, hx8, h⟩ := obs4 h
  refine wt_alt ?_ ?_
  refine wc_call HF cf40 rfl (w_laws_toProgS fuel hx5 (HT.ro hr_x0).any) rfl rfl ?_
  rintro e w ⟨a67, n67, c67, rfl, hE⟩
  have hb := hE.below
  have HT := HT.pure hE
  obtain rfl := (HT.rdAt 0 rfl).neq
  have HT : St w0 (fun _ => False) w [Own 53 (rowT y4) (.slice a67 y4.length c67), Box p1 [.slice a_x2_0 x2_0.length c_x2_0, .slice a_x2_1 x2_1.length c_x2_1, .int .i64 x2_2]] := HT
  refine ⟨_, rfl, (fun _ => ⟨(HT.boxAt 1 rfl).part 0 3, trivial⟩), fun a HF => ?_⟩
  refine wc_endT (wt_alt ?_ ?_)
  refine wc_call HF cf41 rfl (w_laws_toOrderS fuel hx6 (HT.ro hr_x1).any) rfl rfl ?_
  rintro e w ⟨a96, n96, c96, rfl, hE⟩
  have hb := hE.below
  have HT := HT.pure hE
  obtain rfl := (HT.rdAt 0 rfl).neq
  have HT : St w0 (fun _ => False) w [Own 89 (rowT y5) (.slice a96 y5.length c96), Own 53 (rowT y4) (.slice a67 y4.length c67), Box p1 [.slice a_x2_0 x2_0.length c_x2_0, .slice a_x2_1 x2_1.length c_x2_1, .int .i64 x2_2]] := HT
  refine ⟨_, rfl, (fun _ => ⟨(HT.boxAt 2 rfl).part 0 3, trivial⟩), fun a HF => ?_⟩
  refine wc_endT (wt_alt ?_ ?_)
  refine wc_call HF cf12 rfl (w_laws_toThings fuel hx7 (HT.ro hr_x2_0).any (HT.ro hr_x2_1).any) rfl rfl ?_
  rintro e w ⟨a108, n108, c108, a109, n109, c109, rfl, hE⟩
  have hb := hE.below
  have HT := HT.pure hE
  obtain rfl := (HT.rdAt 0 rfl).neq
  obtain rfl := (HT.rdAt 1 rfl).neq
  have HT : St w0 (fun _ => False) w [Own 3 (rowT y6) (.slice a108 y6.length c108), Own 3 (rowT y7) (.slice a109 y7.length c109), Own 89 (rowT y5) (.slice a96 y5.length c96), Own 53 (rowT y4) (.slice a67 y4.length c67), Box p1 [.slice a_x2_0 x2_0.length c_x2_0, .slice a_x2_1 x2_1.length c_x2_1, .int .i64 x2_2]] := HT
  refine ⟨_, rfl, (fun _ => ⟨(HT.boxAt 4 rfl).part 0 3, trivial⟩), fun a HF => ?_⟩
  refine wc_endT (wt_alt ?_ ?_)
  refine wc_call HF cf39 rfl (w_spec_SerialAll fuel hx8 (HT.rdAt 3 rfl) (HT.rdAt 2 rfl) (HT.rdAt 0 rfl) (HT.rdAt 1 rfl)) rfl rfl ?_
  rintro e w ⟨a113, n113, c113, a114, n114, c114, a115, n115, c115, rfl, hE⟩
  have hb := hE.below
  have HT := HT.pure hE
  obtain rfl := (HT.rdAt 0 rfl).neq
  obtain rfl := (HT.rdAt 1 rfl).neq
  obtain rfl := (HT.rdAt 2 rfl).neq
  have HT : St w0 (fun _ => False) w [Own 49 (rowT y9) (.slice a113 y9.length c113), Own 3 (rowT y10) (.slice a114 y10.length c114), Own 3 (rowT y11) (.slice a115 y11.length c115), Own 3 (rowT y6) (.slice a108 y6.length c108), Own 3 (rowT y7) (.slice a109 y7.length c109), Own 89 (rowT y5) (.slice a96 y5.length c96), Own 53 (rowT y4) (.slice a67 y4.length c67), Box p1 [.slice a_x2_0 x2_0.length c_x2_0, .slice a_x2_1 x2_1.length c_x2_1, .int .i64 x2_2]] := HT
  refine ⟨_, rfl, (fun _ => ⟨(HT.boxAt 7 rfl).part 0 3, trivial⟩), fun a HF => ?_⟩
  refine wc_endT (wt_seg (wc_move HF (fun _ => ⟨(HT.boxAt 7 rfl).part 0 3, trivial⟩) rfl rfl rfl fun a HF => ?_))
  refine wc_extract (v := .slice a113 y9.length c113) HF (fun _ => ⟨(HT.boxAt 7 rfl).part 0 3, trivial⟩) rfl rfl rfl rfl fun a HF => ?_
  refine wc_extract (v := .agg #[.slice a114 y10.length c114, .slice a115 y11.length c115, .int .i64 y12]) HF (fun _ => ⟨(HT.boxAt 7 rfl).part 0 3, trivial⟩) rfl rfl rfl rfl fun a HF => ?_
  refine wc_alloc (cs := [.slice none 0 0, .slice none 0 0, .int .i64 0]) HF HT zr27 rfl rfl rfl (fun p29 w HT hb => ⟨(fun _ => ⟨(HT.boxAt 8 rfl).part 0 3, trivial⟩), fun a HF => ?_⟩)
  refine wa HF rfl rfl rfl fun a HF => ?_
  refine wc_storeB (cs' := [.slice a114 y10.length c114, .slice a115 y11.length c115, .int .i64 y12]) HF HT rfl rfl (fun w => (ag27 w).2) rfl rfl rfl rfl rfl (fun w HT => ⟨nS, ?_⟩)
  refine wc_endT (wt_stop ?_)
  have HT := HT.p3.p3.p3.p8.t5
  have hj1 := Option.some.inj h
  obtain ⟨rfl, hj2⟩ := Prod.mk.inj hj1
  obtain ⟨rfl, hj3⟩ := Prod.mk.inj hj2
  obtain ⟨rfl, hj4⟩ := Prod.mk.inj hj3
  subst hj4
  exact then_n ⟨a113, y9.length, c113, a114, y10.length, c114, a115, y11.length, c115, p29, (HF.keep (HF.keep (HF.keep (HF.keep (HF.keep HF.nil rfl) rfl) rfl) rfl) rfl), HT⟩
  refine wt_alt ?_ ?_
  refine wc_alloc (cs := [.slice none 0 0, .slice none 0 0, .int .i64 0]) HF HT zr27 rfl rfl rfl (fun p30 w HT hb => ⟨(fun _ => ⟨(HT.boxAt 5 rfl).part 0 3, trivial⟩), fun a HF => ?_⟩)
  refine wc_endT (wt_seg (wc_call HF cf39 rfl (w_spec_SerialAll fuel hx8 (HT.rdAt 4 rfl) (HT.rdAt 3 rfl) (HT.rdAt 1 rfl) (HT.rdAt 2 rfl)) rfl rfl ?_))
  rintro e w ⟨a116, n116, c116, a117, n117, c117, a118, n118, c118, rfl, hE⟩
  have hb := hE.below
  have HT := HT.pure hE
  obtain rfl := (HT.rdAt 0 rfl).neq
  obtain rfl := (HT.rdAt 1 rfl).neq
  obtain rfl := (HT.rdAt 2 rfl).neq
  have HT : St w0 (fun _ => False) w [Own 49 (rowT y9) (.slice a116 y9.length c116), Own 3 (rowT y10) (.slice a117 y10.length c117), Own 3 (rowT y11) (.slice a118 y11.length c118), Box p30 [.slice none 0 0, .slice none 0 0, .int .i64 0], Own 3 (rowT y6) (.slice a108 y6.length c108), Own 3 (rowT y7) (.slice a109 y7.length c109), Own 89 (rowT y5) (.slice a96 y5.length c96), Own 53 (rowT y4) (.slice a67 y4.length c67), Box p1 [.slice a_x2_0 x2_0.length c_x2_0, .slice a_x2_1 x2_1.length c_x2_1, .int .i64 x2_2]] := HT
  refine ⟨_, rfl, (fun _ => ⟨(HT.boxAt 8 rfl).part 0 3, trivial⟩), fun a HF => ?_⟩
  refine wm HF rfl rfl rfl fun a HF => ?_
  refine wc_extract (v := .slice a116 y9.length c116) HF nS rfl rfl rfl rfl fun a HF => ?_
  refine wc_extract (v := .agg #[.slice a117 y10.length c117, .slice a118 y11.length c118, .int .i64 y12]) HF nS rfl rfl rfl rfl fun a HF => ?_
  refine wa HF rfl rfl rfl fun a HF => ?_
  have HT := HT.p3
  refine wc_storeB (cs' := [.slice a117 y10.length c117, .slice a118 y11.length c118, .int .i64 y12]) HF HT rfl rfl (fun w => (ag27 w).2) rfl rfl rfl rfl rfl (fun w HT => ⟨nS, ?_⟩)
  refine wc_endT (wt_stop ?_)
  have HT := HT.p3.p3.p3.p8.t5
  have hj5 := Option.some.inj h
  obtain ⟨rfl, hj6⟩ := Prod.mk.inj hj5
  obtain ⟨rfl, hj7⟩ := Prod.mk.inj hj6
  obtain ⟨rfl, hj8⟩ := Prod.mk.inj hj7
  subst hj8
  exact then_n ⟨a116, y9.length, c116, a117, y10.length, c117, a118, y11.length, c118, p30, (HF.keep (HF.keep (HF.keep (HF.keep (HF.keep HF.nil rfl) rfl) rfl) rfl) rfl), HT⟩
  exact wt_none
  refine wt_alt ?_ ?_
  refine wc_alloc (cs := [.slice none 0 0, .slice none 0 0, .int .i64 0]) HF HT zr27 rfl rfl rfl (fun p31 w HT hb => ⟨(fun _ => ⟨(HT.boxAt 3 rfl).part 0 3, trivial⟩), fun a HF => ?_⟩)
  refine wc_endT (wt_seg (wc_call HF cf12 rfl (w_laws_toThings fuel hx7 (HT.ro hr_x2_0).any (HT.ro hr_x2_1).any) rfl rfl ?_))
  rintro e w ⟨a119, n119, c119, a120, n120, c120, rfl, hE⟩
  have hb := hE.below
  have HT := HT.pure hE
  obtain rfl := (HT.rdAt 0 rfl).neq
  obtain rfl := (HT.rdAt 1 rfl).neq
  have HT : St w0 (fun _ => False) w [Own 3 (rowT y6) (.slice a119 y6.length c119), Own 3 (rowT y7) (.slice a120 y7.length c120), Box p31 [.slice none 0 0, .slice none 0 0, .int .i64 0], Own 89 (rowT y5) (.slice a96 y5.length c96), Own 53 (rowT y4) (.slice a67 y4.length c67), Box p1 [.slice a_x2_0 x2_0.length c_x2_0, .slice a_x2_1 x2_1.length c_x2_1, .int .i64 x2_2]] := HT
  refine ⟨_, rfl, (fun _ => ⟨(HT.boxAt 5 rfl).part 0 3, trivial⟩), fun a HF => ?_⟩
  refine wc_call HF cf39 rfl (w_spec_SerialAll fuel hx8 (HT.rdAt 4 rfl) (HT.rdAt 3 rfl) (HT.rdAt 0 rfl) (HT.rdAt 1 rfl)) rfl rfl ?_
  rintro e w ⟨a121, n121, c121, a122, n122, c122, a123, n123, c123, rfl, hE⟩
  have hb := hE.below
  have HT := HT.pure hE
  obtain rfl := (HT.rdAt 0 rfl).neq
  obtain rfl := (HT.rdAt 1 rfl).neq
  obtain rfl := (HT.rdAt 2 rfl).neq
  have HT : St w0 (fun _ => False) w [Own 49 (rowT y9) (.slice a121 y9.length c121), Own 3 (rowT y10) (.slice a122 y10.length c122), Own 3 (rowT y11) (.slice a123 y11.length c123), Own 3 (rowT y6) (.slice a119 y6.length c119), Own 3 (rowT y7) (.slice a120 y7.length c120), Box p31 [.slice none 0 0, .slice none 0 0, .int .i64 0], Own 89 (rowT y5) (.slice a96 y5.length c96), Own 53 (rowT y4) (.slice a67 y4.length c67), Box p1 [.slice a_x2_0 x2_0.length c_x2_0, .slice a_x2_1 x2_1.length c_x2_1, .int .i64 x2_2]] := HT
  refine ⟨_, rfl, (fun _ => ⟨(HT.boxAt 8 rfl).part 0 3, trivial⟩), fun a HF => ?_⟩
  refine wm HF rfl rfl rfl fun a HF => ?_
  refine wc_extract (v := .slice a121 y9.length c121) HF nS rfl rfl rfl rfl fun a HF => ?_
  refine wc_extract (v := .agg #[.slice a122 y10.length c122, .slice a123 y11.length c123, .int .i64 y12]) HF nS rfl rfl rfl rfl fun a HF => ?_
  refine wa HF rfl rfl rfl fun a HF => ?_
  have HT := HT.p5
  refine wc_storeB (cs' := [.slice a122 y10.length c122, .slice a123 y11.length c123, .int .i64 y12]) HF HT rfl rfl (fun w => (ag27 w).2) rfl rfl rfl rfl rfl (fun w HT => ⟨nS, ?_⟩)
  refine wc_endT (wt_stop ?_)
  have HT := HT.p3.p3.p3.p8.t5
  have hj9 := Option.some.inj h
  obtain ⟨rfl, hj10⟩ := Prod.mk.inj hj9
  obtain ⟨rfl, hj11⟩ := Prod.mk.inj hj10
  obtain ⟨rfl, hj12⟩ := Prod.mk.inj hj11
  subst hj12
  exact then_n ⟨a121, y9.length, c121, a122, y10.length, c122, a123, y11.length, c123, p31, (HF.keep (HF.keep (HF.keep (HF.keep (HF.keep HF.nil rfl) rfl) rfl) rfl) rfl), HT⟩
  exact wt_none
  refine wt_alt ?_ ?_
  refine wc_alloc (cs := [.slice none 0 0, .slice none 0 0, .int .i64 0]) HF HT zr27 rfl rfl rfl (fun p32 w HT hb => ⟨(fun _ => ⟨(HT.boxAt 2 rfl).part 0 3, trivial⟩), fun a HF => ?_⟩)
  refine wc_endT (wt_seg (wc_call HF cf41 rfl (w_laws_toOrderS fuel hx6 (HT.ro hr_x1).any) rfl rfl ?_))
  rintro e w ⟨a124, n124, c124, rfl, hE⟩
  have hb := hE.below
  have HT := HT.pure hE
  obtain rfl := (HT.rdAt 0 rfl).neq
  have HT : St w0 (fun _ => False) w [Own 89 (rowT y5) (.slice a124 y5.length c124), Box p32 [.slice none 0 0, .slice none 0 0, .int .i64 0], Own 53 (rowT y4) (.slice a67 y4.length c67), Box p1 [.slice a_x2_0 x2_0.length c_x2_0, .slice a_x2_1 x2_1.length c_x2_1, .int .i64 x2_2]] := HT
  refine ⟨_, rfl, (fun _ => ⟨(HT.boxAt 3 rfl).part 0 3, trivial⟩), fun a HF => ?_⟩
  refine wc_call HF cf12 rfl (w_laws_toThings fuel hx7 (HT.ro hr_x2_0).any (HT.ro hr_x2_1).any) rfl rfl ?_
  rintro e w ⟨a125, n125, c125, a126, n126, c126, rfl, hE⟩
  have hb := hE.below
  have HT := HT.pure hE
  obtain rfl := (HT.rdAt 0 rfl).neq
  obtain rfl := (HT.rdAt 1 rfl).neq
  have HT : St w0 (fun _ => False) w [Own 3 (rowT y6) (.slice a125 y6.length c125), Own 3 (rowT y7) (.slice a126 y7.length c126), Own 89 (rowT y5) (.slice a124 y5.length c124), Box p32 [.slice none 0 0, .slice none 0 0, .int .i64 0], Own 53 (rowT y4) (.slice a67 y4.length c67), Box p1 [.slice a_x2_0 x2_0.length c_x2_0, .slice a_x2_1 x2_1.length c_x2_1, .int .i64 x2_2]] := HT
  refine ⟨_, rfl, (fun _ => ⟨(HT.boxAt 5 rfl).part 0 3, trivial⟩), fun a HF => ?_⟩
  refine wc_call HF cf39 rfl (w_spec_SerialAll fuel hx8 (HT.rdAt 4 rfl) (HT.rdAt 2 rfl) (HT.rdAt 0 rfl) (HT.rdAt 1 rfl)) rfl rfl ?_
  rintro e w ⟨a127, n127, c127, a128, n128, c128, a129, n129, c129, rfl, hE⟩
  have hb := hE.below
  have HT := HT.pure hE
  obtain rfl := (HT.rdAt 0 rfl).neq
  obtain rfl := (HT.rdAt 1 rfl).neq
  obtain rfl := (HT.rdAt 2 rfl).neq
  have HT : St w0 (fun _ => False) w [Own 49 (rowT y9) (.slice a127 y9.length c127), Own 3 (rowT y10) (.slice a128 y10.length c128), Own 3 (rowT y11) (.slice a129 y11.length c129), Own 3 (rowT y6) (.slice a125 y6.length c125), Own 3 (rowT y7) (.slice a126 y7.length c126), Own 89 (rowT y5) (.slice a124 y5.length c124), Box p32 [.slice none 0 0, .slice none 0 0, .int .i64 0], Own 53 (rowT y4) (.slice a67 y4.length c67), Box p1 [.slice a_x2_0 x2_0.length c_x2_0, .slice a_x2_1 x2_1.length c_x2_1, .int .i64 x2_2]] := HT
  refine ⟨_, rfl, (fun _ => ⟨(HT.boxAt 8 rfl).part 0 3, trivial⟩), fun a HF => ?_⟩
  refine wm HF rfl rfl rfl fun a HF => ?_
  refine wc_extract (v := .slice a127 y9.length c127) HF nS rfl rfl rfl rfl fun a HF => ?_
  refine wc_extract (v := .agg #[.slice a128 y10.length c128, .slice a129 y11.length c129, .int .i64 y12]) HF nS rfl rfl rfl rfl fun a HF => ?_
  refine wa HF rfl rfl rfl fun a HF => ?_
  have HT := HT.p6
  refine wc_storeB (cs' := [.slice a128 y10.length c128, .slice a129 y11.length c129, .int .i64 y12]) HF HT rfl rfl (fun w => (ag27 w).2) rfl rfl rfl rfl rfl (fun w HT => ⟨nS, ?_⟩)
  refine wc_endT (wt_stop ?_)
  have HT := HT.p3.p3.p3.p8.t5
  have hj13 := Option.some.inj h
  obtain ⟨rfl, hj14⟩ := Prod.mk.inj hj13
  obtain ⟨rfl, hj15⟩ := Prod.mk.inj hj14
  obtain ⟨rfl, hj16⟩ := Prod.mk.inj hj15
  subst hj16
  exact then_n ⟨a127, y9.length, c127, a128, y10.length, c128, a129, y11.length, c129, p32, (HF.keep (HF.keep (HF.keep (HF.keep (HF.keep HF.nil rfl) rfl) rfl) rfl) rfl), HT⟩
  exact wt_none
  refine wt_alt ?_ ?_
  refine wc_alloc (cs := [.slice none 0 0, .slice none 0 0, .int .i64 0]) HF HT zr27 rfl rfl rfl (fun p33 w HT hb => ⟨(fun _ => ⟨(HT.boxAt 1 rfl).part 0 3, trivial⟩), fun a HF => ?_⟩)
  refine wc_endT (wt_seg (wc_call HF cf40 rfl (w_laws_toProgS fuel hx5 (HT.ro hr_x0).any) rfl rfl ?_))
  rintro e w ⟨a130, n130, c130, rfl, hE⟩
  have hb := hE.below
  have HT := HT.pure hE
  obtain rfl := (HT.rdAt 0 rfl).neq
  have HT : St w0 (fun _ => False) w [Own 53 (rowT y4) (.slice a130 y4.length c130), Box p33 [.slice none 0 0, .slice none 0 0, .int .i64 0], Box p1 [.slice a_x2_0 x2_0.length c_x2_0, .slice a_x2_1 x2_1.length c_x2_1, .int .i64 x2_2]] := HT
  refine ⟨_, rfl, (fun _ => ⟨(HT.boxAt 2 rfl).part 0 3, trivial⟩), fun a HF => ?_⟩
  refine wc_call HF cf41 rfl (w_laws_toOrderS fuel hx6 (HT.ro hr_x1).any) rfl rfl ?_
  rintro e w ⟨a131, n131, c131, rfl, hE⟩
  have hb := hE.below
  have HT := HT.pure hE
  obtain rfl := (HT.rdAt 0 rfl).neq
  have HT : St w0 (fun _ => False) w [Own 89 (rowT y5) (.slice a131 y5.length c131), Own 53 (rowT y4) (.slice a130 y4.length c130), Box p33 [.slice none 0 0, .slice none 0 0, .int .i64 0], Box p1 [.slice a_x2_0 x2_0.length c_x2_0, .slice a_x2_1 x2_1.length c_x2_1, .int .i64 x2_2]] := HT
  refine ⟨_, rfl, (fun _ => ⟨(HT.boxAt 3 rfl).part 0 3, trivial⟩), fun a HF => ?_⟩
  refine wc_call HF cf12 rfl (w_laws_toThings fuel hx7 (HT.ro hr_x2_0).any (HT.ro hr_x2_1).any) rfl rfl ?_
  rintro e w ⟨a132, n132, c132, a133, n133, c133, rfl, hE⟩
  have hb := hE.below
  have HT := HT.pure hE
  obtain rfl := (HT.rdAt 0 rfl).neq
  obtain rfl := (HT.rdAt 1 rfl).neq
  have HT : St w0 (fun _ => False) w [Own 3 (rowT y6) (.slice a132 y6.length c132), Own 3 (rowT y7) (.slice a133 y7.length c133), Own 89 (rowT y5) (.slice a131 y5.length c131), Own 53 (rowT y4) (.slice a130 y4.length c130), Box p33 [.slice none 0 0, .slice none 0 0, .int .i64 0], Box p1 [.slice a_x2_0 x2_0.length c_x2_0, .slice a_x2_1 x2_1.length c_x2_1, .int .i64 x2_2]] := HT
  refine ⟨_, rfl, (fun _ => ⟨(HT.boxAt 5 rfl).part 0 3, trivial⟩), fun a HF => ?_⟩
  refine wc_call HF cf39 rfl (w_spec_SerialAll fuel hx8 (HT.rdAt 3 rfl) (HT.rdAt 2 rfl) (HT.rdAt 0 rfl) (HT.rdAt 1 rfl)) rfl rfl ?_
  rintro e w ⟨a134, n134, c134, a135, n135, c135, a136, n136, c136, rfl, hE⟩
  have hb := hE.below
  have HT := HT.pure hE
  obtain rfl := (HT.rdAt 0 rfl).neq
  obtain rfl := (HT.rdAt 1 rfl).neq
  obtain rfl := (HT.rdAt 2 rfl).neq
  have HT : St w0 (fun _ => False) w [Own 49 (rowT y9) (.slice a134 y9.length c134), Own 3 (rowT y10) (.slice a135 y10.length c135), Own 3 (rowT y11) (.slice a136 y11.length c136), Own 3 (rowT y6) (.slice a132 y6.length c132), Own 3 (rowT y7) (.slice a133 y7.length c133), Own 89 (rowT y5) (.slice a131 y5.length c131), Own 53 (rowT y4) (.slice a130 y4.length c130), Box p33 [.slice none 0 0, .slice none 0 0, .int .i64 0], Box p1 [.slice a_x2_0 x2_0.length c_x2_0, .slice a_x2_1 x2_1.length c_x2_1, .int .i64 x2_2]] := HT
  refine ⟨_, rfl, (fun _ => ⟨(HT.boxAt 8 rfl).part 0 3, trivial⟩), fun a HF => ?_⟩
  refine wm HF rfl rfl rfl fun a HF => ?_
  refine wc_extract (v := .slice a134 y9.length c134) HF nS rfl rfl rfl rfl fun a HF => ?_
  refine wc_extract (v := .agg #[.slice a135 y10.length c135, .slice a136 y11.length c136, .int .i64 y12]) HF nS rfl rfl rfl rfl fun a HF => ?_
  refine wa HF rfl rfl rfl fun a HF => ?_
  have HT := HT.p7
  refine wc_storeB (cs' := [.slice a135 y10.length c135, .slice a136 y11.length c136, .int .i64 y12]) HF HT rfl rfl (fun w => (ag27 w).2) rfl rfl rfl rfl rfl (fun w HT => ⟨nS, ?_⟩)
  refine wc_endT (wt_stop ?_)
  have HT := HT.p3.p3.p3.p8.t5
  have hj17 := Option.some.inj h
  obtain ⟨rfl, hj18⟩ := Prod.mk.inj hj17
  obtain ⟨rfl, hj19⟩ := Prod.mk.inj hj18
  obtain ⟨rfl, hj20⟩ := Prod.mk.inj hj19
  subst hj20
  exact then_n ⟨a134, y9.length, c134, a135, y10.length, c135, a136, y11.length, c136, p33, (HF.keep (HF.keep (HF.keep (HF.keep (HF.keep HF.nil rfl) rfl) rfl) rfl) rfl), HT⟩
  exact wt_none
  rintro a w ⟨a1, n1, c1, a2, n2, c2, a3, n3, c3, p2, HF, HT⟩
  obtain rfl := (HT.rdAt 1 rfl).neq
  obtain rfl := (HT.rdAt 2 rfl).neq
  obtain rfl := (HT.rdAt 3 rfl).neq
  refine ?_
  refine wp_seq (wc_text (wm HF rfl rfl rfl fun a HF => ?_))
  obtain ⟨y13, hx9, h⟩ := obs h
  refine wc_call HF cf40 rfl (w_laws_toProgS fuel hx9 (HT.ro hr_x0).any) rfl rfl ?_
  rintro e w ⟨a137, n137, c137, rfl, hE⟩
  have hb := hE.below
  have HT := HT.pure hE
  obtain rfl := (HT.rdAt 0 rfl).neq
  have HT : St w0 (fun _ => False) w [Own 53 (rowT y13) (.slice a137 y13.length c137), Box p1 [.slice a_x2_0 x2_0.length c_x2_0, .slice a_x2_1 x2_1.length c_x2_1, .int .i64 x2_2], Own 49 (rowT z1) (.slice a1 z1.length c1), Own 3 (rowT z2) (.slice a2 z2.length c2), Own 3 (rowT z3) (.slice a3 z3.length c3), Box p2 [.slice a2 z2.length c2, .slice a3 z3.length c3, .int .i64 z4]] := HT
  refine ⟨_, rfl, nS, fun a HF => ?_⟩
  refine wa HF rfl rfl rfl fun a HF => ?_
  refine wc_end (then_n (wp_seq (wc_text (wm HF rfl rfl rfl fun a HF => ?_))))
  obtain ⟨y14, hx10, h⟩ := obs h
  refine wc_call HF cf41 rfl (w_laws_toOrderS fuel hx10 (HT.ro hr_x1).any) rfl rfl ?_
  rintro e w ⟨a138, n138, c138, rfl, hE⟩
  have hb := hE.below
  have HT := HT.pure hE
  obtain rfl := (HT.rdAt 0 rfl).neq
  have HT : St w0 (fun _ => False) w [Own 89 (rowT y14) (.slice a138 y14.length c138), Own 53 (rowT y13) (.slice a137 y13.length c137), Box p1 [.slice a_x2_0 x2_0.length c_x2_0, .slice a_x2_1 x2_1.length c_x2_1, .int .i64 x2_2], Own 49 (rowT z1) (.slice a1 z1.length c1), Own 3 (rowT z2) (.slice a2 z2.length c2), Own 3 (rowT z3) (.slice a3 z3.length c3), Box p2 [.slice a2 z2.length c2, .slice a3 z3.length c3, .int .i64 z4]] := HT
  refine ⟨_, rfl, nS, fun a HF => ?_⟩
  refine wa HF rfl rfl rfl fun a HF => ?_
  refine wc_end (then_n (wp_seq (wc_text (wc_loadA (vs := [.slice a_x2_0 x2_0.length c_x2_0, .slice a_x2_1 x2_1.length c_x2_1, .int .i64 x2_2]) HF rfl ag24 rfl ((HT.boxAt 2 rfl).part 0 3) rfl rfl fun a HF => ?_))))
  obtain ⟨y15, y16, y17, hx11, h⟩ := obs3 h
  refine wc_call HF cf12 rfl (w_laws_toThings fuel hx11 (HT.ro hr_x2_0).any (HT.ro hr_x2_1).any) rfl rfl ?_
  rintro e w ⟨a139, n139, c139, a140, n140, c140, rfl, hE⟩
  have hb := hE.below
  have HT := HT.pure hE
  obtain rfl := (HT.rdAt 0 rfl).neq
  obtain rfl := (HT.rdAt 1 rfl).neq
  have HT : St w0 (fun _ => False) w [Own 3 (rowT y15) (.slice a139 y15.length c139), Own 3 (rowT y16) (.slice a140 y16.length c140), Own 89 (rowT y14) (.slice a138 y14.length c138), Own 53 (rowT y13) (.slice a137 y13.length c137), Box p1 [.slice a_x2_0 x2_0.length c_x2_0, .slice a_x2_1 x2_1.length c_x2_1, .int .i64 x2_2], Own 49 (rowT z1) (.slice a1 z1.length c1), Own 3 (rowT z2) (.slice a2 z2.length c2), Own 3 (rowT z3) (.slice a3 z3.length c3), Box p2 [.slice a2 z2.length c2, .slice a3 z3.length c3, .int .i64 z4]] := HT
  refine ⟨_, rfl, nS, fun a HF => ?_⟩
  refine wc_alloc (cs := [.slice none 0 0, .slice none 0 0, .int .i64 0]) HF HT zr27 rfl rfl rfl (fun p34 w HT hb => ⟨nS, fun a HF => ?_⟩)
  refine wc_storeB (cs' := [.slice a139 y15.length c139, .slice a140 y16.length c140, .int .i64 y17]) HF HT rfl rfl (fun w => (ag27 w).2) rfl rfl rfl rfl rfl (fun w HT => ⟨nS, ?_⟩)
  refine wc_end (then_n (wp_seq (wc_text (wm HF rfl rfl rfl fun a HF => ?_))))
  refine wm HF rfl rfl rfl fun a HF => ?_
  refine wc_loadA (vs := [.slice a139 y15.length c139, .slice a140 y16.length c140, .int .i64 y17]) HF rfl ag27 rfl ((HT.boxAt 0 rfl).part 0 3) rfl rfl fun a HF => ?_
  obtain ⟨y18, y19, y20, y21, hx12, h⟩ := obs4 h
  refine wc_call HF cf42 rfl (w_impl_SerialAll fuel hx12 (HT.rdAt 4 rfl) (HT.rdAt 3 rfl) (HT.rdAt 1 rfl) (HT.rdAt 2 rfl)) rfl rfl ?_
  rintro e w ⟨a141, n141, c141, a142, n142, c142, a143, n143, c143, rfl, hE⟩
  have hb := hE.below
  have HT := HT.pure hE
  obtain rfl := (HT.rdAt 0 rfl).neq
  obtain rfl := (HT.rdAt 1 rfl).neq
  obtain rfl := (HT.rdAt 2 rfl).neq
  have HT : St w0 (fun _ => False) w [Own 49 (rowT y18) (.slice a141 y18.length c141), Own 3 (rowT y19) (.slice a142 y19.length c142), Own 3 (rowT y20) (.slice a143 y20.length c143), Box p34 [.slice a139 y15.length c139, .slice a140 y16.length c140, .int .i64 y17], Own 3 (rowT y15) (.slice a139 y15.length c139), Own 3 (rowT y16) (.slice a140 y16.length c140), Own 89 (rowT y14) (.slice a138 y14.length c138), Own 53 (rowT y13) (.slice a137 y13.length c137), Box p1 [.slice a_x2_0 x2_0.length c_x2_0, .slice a_x2_1 x2_1.length c_x2_1, .int .i64 x2_2], Own 49 (rowT z1) (.slice a1 z1.length c1), Own 3 (rowT z2) (.slice a2 z2.length c2), Own 3 (rowT z3) (.slice a3 z3.length c3), Box p2 [.slice a2 z2.length c2, .slice a3 z3.length c3, .int .i64 z4]] := HT
  refine ⟨_, rfl, nS, fun a HF => ?_⟩
  refine wm HF rfl rfl rfl fun a HF => ?_
  refine wc_extract (v := .slice a141 y18.length c141) HF nS rfl rfl rfl rfl fun a HF => ?_
  refine wc_extract (v := .agg #[.slice a142 y19.length c142, .slice a143 y20.length c143, .int .i64 y21]) HF nS rfl rfl rfl rfl fun a HF => ?_
  refine wc_alloc (cs := [.slice none 0 0, .slice none 0 0, .int .i64 0]) HF HT zr27 rfl rfl rfl (fun p35 w HT hb => ⟨nS, fun a HF => ?_⟩)
  refine wa HF rfl rfl rfl fun a HF => ?_
  refine wc_storeB (cs' := [.slice a142 y19.length c142, .slice a143 y20.length c143, .int .i64 y21]) HF HT rfl rfl (fun w => (ag27 w).2) rfl rfl rfl rfl rfl (fun w HT => ⟨nS, ?_⟩)
  refine wc_end (then_n ?_)
  obtain ⟨q2, hx13, h⟩ := obs h
  refine wp_cut (fun a w => q2 = .brk () ∧ Fr a 158 [(0, .slice a_x0 x0.length c_x0), (1, .slice a_x1 x1.length c_x1), (5, .pointer (some ⟨p1, 0, none⟩)), (8, .slice a1 z1.length c1), (9, .pointer (some ⟨p2, 0, none⟩)), (10, .slice a137 y13.length c137), (11, .slice a138 y14.length c138), (12, .pointer (some ⟨p34, 0, none⟩)), (13, .slice a141 y18.length c141), (14, .pointer (some ⟨p35, 0, none⟩))] ∧ St w0 (fun _ => False) w [Box p1 [.slice a_x2_0 x2_0.length c_x2_0, .slice a_x2_1 x2_1.length c_x2_1, .int .i64 x2_2], Own 49 (rowT z1) (.slice a1 z1.length c1), Own 3 (rowT z2) (.slice a2 z2.length c2), Own 3 (rowT z3) (.slice a3 z3.length c3), Box p2 [.slice a2 z2.length c2, .slice a3 z3.length c3, .int .i64 z4], Own 53 (rowT y13) (.slice a137 y13.length c137), Own 89 (rowT y14) (.slice a138 y14.length c138), Own 3 (rowT y15) (.slice a139 y15.length c139), Own 3 (rowT y16) (.slice a140 y16.length c140), Box p34 [.slice a139 y15.length c139, .slice a140 y16.length c140, .int .i64 y17], Own 49 (rowT y18) (.slice a141 y18.length c141), Own 3 (rowT y19) (.slice a142 y19.length c142), Own 3 (rowT y20) (.slice a143 y20.length c143), Box p35 [.slice a142 y19.length c142, .slice a143 y20.length c143, .int .i64 y21]]) ?_ ?_
  have hk1 := h
  have h := hx13
  obtain ⟨z5, hx14, h⟩ := obs h
  refine wp_cut (fun a w => Fr a 158 [(0, .slice a_x0 x0.length c_x0), (1, .slice a_x1 x1.length c_x1), (5, .pointer (some ⟨p1, 0, none⟩)), (8, .slice a1 z1.length c1), (9, .pointer (some ⟨p2, 0, none⟩)), (10, .slice a137 y13.length c137), (11, .slice a138 y14.length c138), (12, .pointer (some ⟨p34, 0, none⟩)), (13, .slice a141 y18.length c141), (14, .pointer (some ⟨p35, 0, none⟩)), (67, .bool z5)] ∧ St w0 (fun _ => False) w [Box p1 [.slice a_x2_0 x2_0.length c_x2_0, .slice a_x2_1 x2_1.length c_x2_1, .int .i64 x2_2], Own 49 (rowT z1) (.slice a1 z1.length c1), Own 3 (rowT z2) (.slice a2 z2.length c2), Own 3 (rowT z3) (.slice a3 z3.length c3), Box p2 [.slice a2 z2.length c2, .slice a3 z3.length c3, .int .i64 z4], Own 53 (rowT y13) (.slice a137 y13.length c137), Own 89 (rowT y14) (.slice a138 y14.length c138), Own 3 (rowT y15) (.slice a139 y15.length c139), Own 3 (rowT y16) (.slice a140 y16.length c140), Box p34 [.slice a139 y15.length c139, .slice a140 y16.length c140, .int .i64 y17], Own 49 (rowT y18) (.slice a141 y18.length c141), Own 3 (rowT y19) (.slice a142 y19.length c142), Own 3 (rowT y20) (.slice a143 y20.length c143), Box p35 [.slice a142 y19.length c142, .slice a143 y20.length c143, .int .i64 y21]]) ?_ ?_
  have hk2 := h
  have h := hx14
  refine wc_text (wm HF rfl rfl rfl fun a HF => ?_)
  refine wm HF rfl rfl rfl fun a HF => ?_
  obtain ⟨y22, hx15, h⟩ := obs h
  refine wc_call HF cf43 rfl (w_laws_eqRunS fuel hx15 (HT.rdAt 1 rfl) (HT.rdAt 10 rfl)) rfl rfl ?_
  rintro e w ⟨rfl, hE⟩
  have hb := hE.below
  have HT := HT.pure hE
  have HT : St w0 (fun _ => False) w [Box p35 [.slice a142 y19.length c142, .slice a143 y20.length c143, .int .i64 y21], Own 49 (rowT y18) (.slice a141 y18.length c141), Own 3 (rowT y19) (.slice a142 y19.length c142), Own 3 (rowT y20) (.slice a143 y20.length c143), Box p34 [.slice a139 y15.length c139, .slice a140 y16.length c140, .int .i64 y17], Own 3 (rowT y15) (.slice a139 y15.length c139), Own 3 (rowT y16) (.slice a140 y16.length c140), Own 89 (rowT y14) (.slice a138 y14.length c138), Own 53 (rowT y13) (.slice a137 y13.length c137), Box p1 [.slice a_x2_0 x2_0.length c_x2_0, .slice a_x2_1 x2_1.length c_x2_1, .int .i64 x2_2], Own 49 (rowT z1) (.slice a1 z1.length c1), Own 3 (rowT z2) (.slice a2 z2.length c2), Own 3 (rowT z3) (.slice a3 z3.length c3), Box p2 [.slice a2 z2.length c2, .slice a3 z3.length c3, .int .i64 z4]] := HT
  refine ⟨_, rfl, nS, fun a HF => ?_⟩
  refine wc_not HF nS rfl rfl rfl fun a HF => ?_
  refine wm HF rfl rfl rfl fun a HF => ?_
  by_cases hb4 : y22 = true
  have h := ifp hb4 h
  refine wc_loadA (vs := [.slice a142 y19.length c142, .slice a143 y20.length c143, .int .i64 y21]) HF rfl ag27 rfl ((HT.boxAt 0 rfl).part 0 3) (HF.wy rfl rfl rfl rfl (notT hb4)) rfl fun a HF => ?_
  refine wc_loadA (vs := [.slice a2 z2.length c2, .slice a3 z3.length c3, .int .i64 z4]) HF rfl ag27 rfl ((HT.boxAt 13 rfl).part 0 3) (HF.wy rfl rfl rfl rfl (notT hb4)) rfl fun a HF => ?_
  obtain ⟨y23, hx16, h⟩ := obs h
  refine wc_call HF cf14 rfl (w_laws_eqThings fuel hx16 (HT.rdAt 2 rfl) (HT.rdAt 3 rfl) (HT.rdAt 11 rfl) (HT.rdAt 12 rfl)) (HF.wy rfl rfl rfl rfl (notT hb4)) rfl ?_
  rintro e w ⟨rfl, hE⟩
  have hb := hE.below
  have HT := HT.pure hE
  have HT : St w0 (fun _ => False) w [Box p35 [.slice a142 y19.length c142, .slice a143 y20.length c143, .int .i64 y21], Own 49 (rowT y18) (.slice a141 y18.length c141), Own 3 (rowT y19) (.slice a142 y19.length c142), Own 3 (rowT y20) (.slice a143 y20.length c143), Box p34 [.slice a139 y15.length c139, .slice a140 y16.length c140, .int .i64 y17], Own 3 (rowT y15) (.slice a139 y15.length c139), Own 3 (rowT y16) (.slice a140 y16.length c140), Own 89 (rowT y14) (.slice a138 y14.length c138), Own 53 (rowT y13) (.slice a137 y13.length c137), Box p1 [.slice a_x2_0 x2_0.length c_x2_0, .slice a_x2_1 x2_1.length c_x2_1, .int .i64 x2_2], Own 49 (rowT z1) (.slice a1 z1.length c1), Own 3 (rowT z2) (.slice a2 z2.length c2), Own 3 (rowT z3) (.slice a3 z3.length c3), Box p2 [.slice a2 z2.length c2, .slice a3 z3.length c3, .int .i64 z4]] := HT
  refine ⟨_, rfl, nS, fun a HF => ?_⟩
  refine wc_not HF nS rfl (HF.wy rfl rfl rfl rfl (notT hb4)) rfl fun a HF => ?_
  refine wc_pick (b := false) HF nS rfl (notT hb4) rfl rfl rfl fun a HF => ?_
  refine wc_end ?_
  have HT := HT.p3.p3.p3.p4.p6.p6.p7.p8.p13.p13.p13.p13.p13
  obtain rfl := Option.some.inj h
  exact then_n ⟨(HF.keep (HF.keep (HF.keep (HF.keep (HF.keep (HF.keep (HF.keep (HF.keep (HF.keep (HF.keep (HF.keep HF.nil rfl) rfl) rfl) rfl) rfl) rfl) rfl) rfl) rfl) rfl) rfl), HT⟩
  have h := ifn hb4 h
  refine wc_skip HF nS (HF.wn rfl rfl rfl rfl (notF (Bool.eq_false_iff.2 hb4))) rfl fun a HF => ?_
  refine wc_skip HF nS (HF.wn rfl rfl rfl rfl (notF (Bool.eq_false_iff.2 hb4))) rfl fun a HF => ?_
  refine wc_skip HF nS (HF.wn rfl rfl rfl rfl (notF (Bool.eq_false_iff.2 hb4))) rfl fun a HF => ?_
  refine wc_skip HF nS (HF.wn rfl rfl rfl rfl (notF (Bool.eq_false_iff.2 hb4))) rfl fun a HF => ?_
  refine wc_pick (b := true) HF nS rfl (notF (Bool.eq_false_iff.2 hb4)) rfl rfl rfl fun a HF => ?_
  refine wc_end ?_
  have HT := HT.p3.p3.p3.p4.p6.p6.p7.p8.p13.p13.p13.p13.p13
  obtain rfl := Option.some.inj h
  exact then_n ⟨(HF.keep (HF.keep (HF.keep (HF.keep (HF.keep (HF.keep (HF.keep (HF.keep (HF.keep (HF.keep (HF.keep HF.nil rfl) rfl) rfl) rfl) rfl) rfl) rfl) rfl) rfl) rfl) rfl), HT⟩
  rintro a w ⟨HF, HT⟩
  refine ?_
  by_cases hb5 : z5 = true
  have h := ifp hb5 h
  refine wp_if (b' := true) HF rfl hb5 ?_
  refine wp_seq (wc_text (wa HF rfl rfl rfl fun a HF => ?_))
  refine wc_end (then_n (wp_ret ?_))
  obtain rfl := Option.some.inj h
  have h := retL hk1
  obtain rfl := Option.some.inj h
  refine then_r (?_)
  refine bp_ret HF (res_one rfl HF rfl) ?_
  have HT := HT.t0
  exact ⟨rfl, HT⟩
  have h := ifn hb5 h
  refine wp_if (b' := false) HF rfl (Bool.eq_false_iff.2 hb5) ?_
  exact wp_skip (then_n ⟨(Option.some.inj h).symm, (HF.keep (HF.keep (HF.keep (HF.keep (HF.keep (HF.keep (HF.keep (HF.keep (HF.keep (HF.keep HF.nil rfl) rfl) rfl) rfl) rfl) rfl) rfl) rfl) rfl) rfl), HT⟩)
  rintro a w ⟨rfl, HF, HT⟩
  have h := brkL1u h
  refine ?_
  refine wp_seq (wp_seq (wc_text (wm HF rfl rfl rfl fun a HF => ?_)))
  refine wm HF rfl rfl rfl fun a HF => ?_
  obtain ⟨y24, hx17, h⟩ := obs h
  refine wc_call HF cf40 rfl (w_laws_toProgS fuel hx17 (HT.ro hr_x0).any) rfl rfl ?_
  rintro e w ⟨a144, n144, c144, rfl, hE⟩
  have hb := hE.below
  have HT := HT.pure hE
  obtain rfl := (HT.rdAt 0 rfl).neq
  have HT : St w0 (fun _ => False) w [Own 53 (rowT y24) (.slice a144 y24.length c144), Box p1 [.slice a_x2_0 x2_0.length c_x2_0, .slice a_x2_1 x2_1.length c_x2_1, .int .i64 x2_2], Own 49 (rowT z1) (.slice a1 z1.length c1), Own 3 (rowT z2) (.slice a2 z2.length c2), Own 3 (rowT z3) (.slice a3 z3.length c3), Box p2 [.slice a2 z2.length c2, .slice a3 z3.length c3, .int .i64 z4], Own 53 (rowT y13) (.slice a137 y13.length c137), Own 89 (rowT y14) (.slice a138 y14.length c138), Own 3 (rowT y15) (.slice a139 y15.length c139), Own 3 (rowT y16) (.slice a140 y16.length c140), Box p34 [.slice a139 y15.length c139, .slice a140 y16.length c140, .int .i64 y17], Own 49 (rowT y18) (.slice a141 y18.length c141), Own 3 (rowT y19) (.slice a142 y19.length c142), Own 3 (rowT y20) (.slice a143 y20.length c143), Box p35 [.slice a142 y19.length c142, .slice a143 y20.length c143, .int .i64 y21]] := HT
  refine ⟨_, rfl, nS, fun a HF => ?_⟩
  obtain ⟨y25, hx18, h⟩ := obs h
  refine wc_call HF cf44 rfl (w_laws_eqProgS fuel hx18 (HT.rdAt 6 rfl) (HT.rdAt 0 rfl)) rfl rfl ?_
  rintro e w ⟨rfl, hE⟩
  have hb := hE.below
  have HT := HT.pure hE
  have HT : St w0 (fun _ => False) w [Own 53 (rowT y24) (.slice a144 y24.length c144), Box p1 [.slice a_x2_0 x2_0.length c_x2_0, .slice a_x2_1 x2_1.length c_x2_1, .int .i64 x2_2], Own 49 (rowT z1) (.slice a1 z1.length c1), Own 3 (rowT z2) (.slice a2 z2.length c2), Own 3 (rowT z3) (.slice a3 z3.length c3), Box p2 [.slice a2 z2.length c2, .slice a3 z3.length c3, .int .i64 z4], Own 53 (rowT y13) (.slice a137 y13.length c137), Own 89 (rowT y14) (.slice a138 y14.length c138), Own 3 (rowT y15) (.slice a139 y15.length c139), Own 3 (rowT y16) (.slice a140 y16.length c140), Box p34 [.slice a139 y15.length c139, .slice a140 y16.length c140, .int .i64 y17], Own 49 (rowT y18) (.slice a141 y18.length c141), Own 3 (rowT y19) (.slice a142 y19.length c142), Own 3 (rowT y20) (.slice a143 y20.length c143), Box p35 [.slice a142 y19.length c142, .slice a143 y20.length c143, .int .i64 y21]] := HT
  refine ⟨_, rfl, nS, fun a HF => ?_⟩
  refine wc_not HF nS rfl rfl rfl fun a HF => ?_
  refine wc_end (then_n ?_)
  by_cases hb6 : y25 = true
  have h := ifp hb6 h
  refine wp_if (b' := false) HF rfl (notT hb6) ?_
  refine wp_skip (then_n (wp_seq (wp_seq (wc_text (wm HF rfl rfl rfl fun a HF => ?_)))))
  refine wm HF rfl rfl rfl fun a HF => ?_
  obtain ⟨y26, hx19, h⟩ := obs h
  refine wc_call HF cf41 rfl (w_laws_toOrderS fuel hx19 (HT.ro hr_x1).any) rfl rfl ?_
  rintro e w ⟨a145, n145, c145, rfl, hE⟩
  have hb := hE.below
  have HT := HT.pure hE
  obtain rfl := (HT.rdAt 0 rfl).neq
  have HT : St w0 (fun _ => False) w [Own 89 (rowT y26) (.slice a145 y26.length c145), Own 53 (rowT y24) (.slice a144 y24.length c144), Box p1 [.slice a_x2_0 x2_0.length c_x2_0, .slice a_x2_1 x2_1.length c_x2_1, .int .i64 x2_2], Own 49 (rowT z1) (.slice a1 z1.length c1), Own 3 (rowT z2) (.slice a2 z2.length c2), Own 3 (rowT z3) (.slice a3 z3.length c3), Box p2 [.slice a2 z2.length c2, .slice a3 z3.length c3, .int .i64 z4], Own 53 (rowT y13) (.slice a137 y13.length c137), Own 89 (rowT y14) (.slice a138 y14.length c138), Own 3 (rowT y15) (.slice a139 y15.length c139), Own 3 (rowT y16) (.slice a140 y16.length c140), Box p34 [.slice a139 y15.length c139, .slice a140 y16.length c140, .int .i64 y17], Own 49 (rowT y18) (.slice a141 y18.length c141), Own 3 (rowT y19) (.slice a142 y19.length c142), Own 3 (rowT y20) (.slice a143 y20.length c143), Box p35 [.slice a142 y19.length c142, .slice a143 y20.length c143, .int .i64 y21]] := HT
  refine ⟨_, rfl, nS, fun a HF => ?_⟩
  obtain ⟨y27, hx20, h⟩ := obs h
  refine wc_call HF cf45 rfl (w_laws_eqOrderS fuel hx20 (HT.rdAt 8 rfl) (HT.rdAt 0 rfl)) rfl rfl ?_
  rintro e w ⟨rfl, hE⟩
  have hb := hE.below
  have HT := HT.pure hE
  have HT : St w0 (fun _ => False) w [Own 89 (rowT y26) (.slice a145 y26.length c145), Own 53 (rowT y24) (.slice a144 y24.length c144), Box p1 [.slice a_x2_0 x2_0.length c_x2_0, .slice a_x2_1 x2_1.length c_x2_1, .int .i64 x2_2], Own 49 (rowT z1) (.slice a1 z1.length c1), Own 3 (rowT z2) (.slice a2 z2.length c2), Own 3 (rowT z3) (.slice a3 z3.length c3), Box p2 [.slice a2 z2.length c2, .slice a3 z3.length c3, .int .i64 z4], Own 53 (rowT y13) (.slice a137 y13.length c137), Own 89 (rowT y14) (.slice a138 y14.length c138), Own 3 (rowT y15) (.slice a139 y15.length c139), Own 3 (rowT y16) (.slice a140 y16.length c140), Box p34 [.slice a139 y15.length c139, .slice a140 y16.length c140, .int .i64 y17], Own 49 (rowT y18) (.slice a141 y18.length c141), Own 3 (rowT y19) (.slice a142 y19.length c142), Own 3 (rowT y20) (.slice a143 y20.length c143), Box p35 [.slice a142 y19.length c142, .slice a143 y20.length c143, .int .i64 y21]] := HT
  refine ⟨_, rfl, nS, fun a HF => ?_⟩
  refine wc_not HF nS rfl rfl rfl fun a HF => ?_
  refine wc_end (then_n ?_)
  by_cases hb7 : y27 = true
  have h := ifp hb7 h
  refine wp_if (b' := false) HF rfl (notT hb7) ?_
  refine wp_skip (then_n (wp_seq (wp_seq (wp_region_can [(0, false), (1, true), (2, false), (3, true), (4, true)] (fun w' => LdC w' p34 0 [.slice a139 y15.length c139, .slice a140 y16.length c140, .int .i64 y17] ∧ True) (by kernel_rfl) (by kernel_rfl) ?_))))
  have HT := HT.drew
  refine wc_loadAS (vs := [.slice a139 y15.length c139, .slice a140 y16.length c140, .int .i64 y17]) HF ⟨(HT.boxAt 11 rfl).part 0 3, trivial⟩ rfl ag27 rfl (fun w hS => hS.1) rfl rfl fun a HF => ?_
  refine wc_loadA (vs := [.slice a_x2_0 x2_0.length c_x2_0, .slice a_x2_1 x2_1.length c_x2_1, .int .i64 x2_2]) HF rfl ag24 rfl ((HT.boxAt 2 rfl).part 0 3) rfl rfl fun a HF => ?_
  obtain ⟨y28, y29, y30, hx21, h⟩ := obs3 h
  refine wc_call HF cf12 rfl (w_laws_toThings fuel hx21 (HT.ro hr_x2_0).any (HT.ro hr_x2_1).any) rfl rfl ?_
  rintro e w ⟨a146, n146, c146, a147, n147, c147, rfl, hE⟩
  have hb := hE.below
  have HT := HT.pure hE
  obtain rfl := (HT.rdAt 0 rfl).neq
  obtain rfl := (HT.rdAt 1 rfl).neq
  have HT : St w0 (fun _ => False) w [Own 3 (rowT y28) (.slice a146 y28.length c146), Own 3 (rowT y29) (.slice a147 y29.length c147), Own 89 (rowT y26) (.slice a145 y26.length c145), Own 53 (rowT y24) (.slice a144 y24.length c144), Box p1 [.slice a_x2_0 x2_0.length c_x2_0, .slice a_x2_1 x2_1.length c_x2_1, .int .i64 x2_2], Own 49 (rowT z1) (.slice a1 z1.length c1), Own 3 (rowT z2) (.slice a2 z2.length c2), Own 3 (rowT z3) (.slice a3 z3.length c3), Box p2 [.slice a2 z2.length c2, .slice a3 z3.length c3, .int .i64 z4], Own 53 (rowT y13) (.slice a137 y13.length c137), Own 89 (rowT y14) (.slice a138 y14.length c138), Own 3 (rowT y15) (.slice a139 y15.length c139), Own 3 (rowT y16) (.slice a140 y16.length c140), Box p34 [.slice a139 y15.length c139, .slice a140 y16.length c140, .int .i64 y17], Own 49 (rowT y18) (.slice a141 y18.length c141), Own 3 (rowT y19) (.slice a142 y19.length c142), Own 3 (rowT y20) (.slice a143 y20.length c143), Box p35 [.slice a142 y19.length c142, .slice a143 y20.length c143, .int .i64 y21]] := HT
  refine ⟨_, rfl, (fun _ => ⟨(HT.boxAt 13 rfl).part 0 3, trivial⟩), fun a HF => ?_⟩
  obtain ⟨y31, hx22, h⟩ := obs h
  refine wc_call HF cf14 rfl (w_laws_eqThings fuel hx22 (HT.rdAt 11 rfl) (HT.rdAt 12 rfl) (HT.rdAt 0 rfl) (HT.rdAt 1 rfl)) rfl rfl ?_
  rintro e w ⟨rfl, hE⟩
  have hb := hE.below
  have HT := HT.pure hE
  have HT : St w0 (fun _ => False) w [Own 3 (rowT y28) (.slice a146 y28.length c146), Own 3 (rowT y29) (.slice a147 y29.length c147), Own 89 (rowT y26) (.slice a145 y26.length c145), Own 53 (rowT y24) (.slice a144 y24.length c144), Box p1 [.slice a_x2_0 x2_0.length c_x2_0, .slice a_x2_1 x2_1.length c_x2_1, .int .i64 x2_2], Own 49 (rowT z1) (.slice a1 z1.length c1), Own 3 (rowT z2) (.slice a2 z2.length c2), Own 3 (rowT z3) (.slice a3 z3.length c3), Box p2 [.slice a2 z2.length c2, .slice a3 z3.length c3, .int .i64 z4], Own 53 (rowT y13) (.slice a137 y13.length c137), Own 89 (rowT y14) (.slice a138 y14.length c138), Own 3 (rowT y15) (.slice a139 y15.length c139), Own 3 (rowT y16) (.slice a140 y16.length c140), Box p34 [.slice a139 y15.length c139, .slice a140 y16.length c140, .int .i64 y17], Own 49 (rowT y18) (.slice a141 y18.length c141), Own 3 (rowT y19) (.slice a142 y19.length c142), Own 3 (rowT y20) (.slice a143 y20.length c143), Box p35 [.slice a142 y19.length c142, .slice a143 y20.length c143, .int .i64 y21]] := HT
  refine ⟨_, rfl, nS, fun a HF => ?_⟩
  refine wc_not HF nS rfl rfl rfl fun a HF => ?_
  refine wc_endN (then_n ?_)
  by_cases hb8 : y31 = true
  have h := ifp hb8 h
  refine wp_if (b' := false) HF rfl (notT hb8) ?_
  refine wp_skip (then_n (wp_seq (wc_text (wa HF rfl rfl rfl fun a HF => ?_))))
  refine wc_end (then_n (wp_seq (wc_text (wm HF rfl rfl rfl fun a HF => ?_))))
  refine wm HF rfl rfl rfl fun a HF => ?_
  have HT := HT.p9
  have HT := HT.weak
  obtain ⟨y32, y33, hx23, h⟩ := obs2 h
  obtain ⟨F1, hAF1, hFF1, hbackF1, hroF1, hownF1, hownAF1⟩ := St.handR2 (A := [OwnA (rowT y13) (.slice a137 y13.length c137)]) HT
  refine wc_call HF cf46 rfl (w_laws_markProgS fuel hx23 hAF1) rfl rfl ?_
  rintro e w ⟨rfl, hE⟩
  have HT := hbackF1 _ _ hE
  have HT : St w0 (fun _ => False) w [OwnA (rowT y33) (.slice a137 y13.length c137), Own 3 (rowT y28) (.slice a146 y28.length c146), Own 3 (rowT y29) (.slice a147 y29.length c147), Own 89 (rowT y26) (.slice a145 y26.length c145), Own 53 (rowT y24) (.slice a144 y24.length c144), Box p1 [.slice a_x2_0 x2_0.length c_x2_0, .slice a_x2_1 x2_1.length c_x2_1, .int .i64 x2_2], Own 49 (rowT z1) (.slice a1 z1.length c1), Own 3 (rowT z2) (.slice a2 z2.length c2), Own 3 (rowT z3) (.slice a3 z3.length c3), Box p2 [.slice a2 z2.length c2, .slice a3 z3.length c3, .int .i64 z4], Own 89 (rowT y14) (.slice a138 y14.length c138), Own 3 (rowT y15) (.slice a139 y15.length c139), Own 3 (rowT y16) (.slice a140 y16.length c140), Box p34 [.slice a139 y15.length c139, .slice a140 y16.length c140, .int .i64 y17], Own 49 (rowT y18) (.slice a141 y18.length c141), Own 3 (rowT y19) (.slice a142 y19.length c142), Own 3 (rowT y20) (.slice a143 y20.length c143), Box p35 [.slice a142 y19.length c142, .slice a143 y20.length c143, .int .i64 y21]] := HT
  refine ⟨_, rfl, nS, fun a HF => ?_⟩
  refine wa HF rfl rfl rfl fun a HF => ?_
  refine wc_end (then_n (wp_seq (wc_text (wm HF rfl rfl rfl fun a HF => ?_))))
  refine wm HF rfl rfl rfl fun a HF => ?_
  have HT := HT.p10
  have HT := HT.weak
  obtain ⟨y34, y35, hx24, h⟩ := obs2 h
  obtain ⟨F2, hAF2, hFF2, hbackF2, hroF2, hownF2, hownAF2⟩ := St.handR2 (A := [OwnA (rowT y14) (.slice a138 y14.length c138)]) HT
  refine wc_call HF cf47 rfl (w_laws_markOrderS fuel hx24 hAF2) rfl rfl ?_
  rintro e w ⟨rfl, hE⟩
  have HT := hbackF2 _ _ hE
  have HT : St w0 (fun _ => False) w [OwnA (rowT y35) (.slice a138 y14.length c138), OwnA (rowT y33) (.slice a137 y13.length c137), Own 3 (rowT y28) (.slice a146 y28.length c146), Own 3 (rowT y29) (.slice a147 y29.length c147), Own 89 (rowT y26) (.slice a145 y26.length c145), Own 53 (rowT y24) (.slice a144 y24.length c144), Box p1 [.slice a_x2_0 x2_0.length c_x2_0, .slice a_x2_1 x2_1.length c_x2_1, .int .i64 x2_2], Own 49 (rowT z1) (.slice a1 z1.length c1), Own 3 (rowT z2) (.slice a2 z2.length c2), Own 3 (rowT z3) (.slice a3 z3.length c3), Box p2 [.slice a2 z2.length c2, .slice a3 z3.length c3, .int .i64 z4], Own 3 (rowT y15) (.slice a139 y15.length c139), Own 3 (rowT y16) (.slice a140 y16.length c140), Box p34 [.slice a139 y15.length c139, .slice a140 y16.length c140, .int .i64 y17], Own 49 (rowT y18) (.slice a141 y18.length c141), Own 3 (rowT y19) (.slice a142 y19.length c142), Own 3 (rowT y20) (.slice a143 y20.length c143), Box p35 [.slice a142 y19.length c142, .slice a143 y20.length c143, .int .i64 y21]] := HT
  refine ⟨_, rfl, nS, fun a HF => ?_⟩
  refine wa HF rfl rfl rfl fun a HF => ?_
  refine wc_end (then_n (wp_seq (wc_text (wc_loadA (vs := [.slice a139 y15.length c139, .slice a140 y16.length c140, .int .i64 y17]) HF rfl ag27 rfl ((HT.boxAt 13 rfl).part 0 3) rfl rfl fun a HF => ?_))))
  refine wm HF rfl rfl rfl fun a HF => ?_
  have HT := HT.p11
  have HT := HT.weak
  have HT := HT.p12
  have HT := HT.weak
  obtain ⟨y36, y37, y38, hx25, h⟩ := obs3 h
  have HT := HT.p1
  obtain ⟨F3, hAF3, hFF3, hbackF3, hroF3, hownF3, hownAF3⟩ := St.handR2 (A := [OwnA (rowT y15) (.slice a139 y15.length c139), OwnA (rowT y16) (.slice a140 y16.length c140)]) HT
  refine wc_call HF cf34 rfl (w_laws_markThings fuel hx25 hAF3) rfl rfl ?_
  rintro e w ⟨rfl, hE⟩
  have HT := hbackF3 _ _ hE
  have HT : St w0 (fun _ => False) w [OwnA (rowT y37) (.slice a139 y15.length c139), OwnA (rowT y38) (.slice a140 y16.length c140), OwnA (rowT y35) (.slice a138 y14.length c138), OwnA (rowT y33) (.slice a137 y13.length c137), Own 3 (rowT y28) (.slice a146 y28.length c146), Own 3 (rowT y29) (.slice a147 y29.length c147), Own 89 (rowT y26) (.slice a145 y26.length c145), Own 53 (rowT y24) (.slice a144 y24.length c144), Box p1 [.slice a_x2_0 x2_0.length c_x2_0, .slice a_x2_1 x2_1.length c_x2_1, .int .i64 x2_2], Own 49 (rowT z1) (.slice a1 z1.length c1), Own 3 (rowT z2) (.slice a2 z2.length c2), Own 3 (rowT z3) (.slice a3 z3.length c3), Box p2 [.slice a2 z2.length c2, .slice a3 z3.length c3, .int .i64 z4], Box p34 [.slice a139 y15.length c139, .slice a140 y16.length c140, .int .i64 y17], Own 49 (rowT y18) (.slice a141 y18.length c141), Own 3 (rowT y19) (.slice a142 y19.length c142), Own 3 (rowT y20) (.slice a143 y20.length c143), Box p35 [.slice a142 y19.length c142, .slice a143 y20.length c143, .int .i64 y21]] := HT
  refine ⟨_, rfl, nS, fun a HF => ?_⟩
  refine wa HF rfl rfl rfl fun a HF => ?_
  refine wc_end (then_n ?_)
  obtain ⟨q4, hx26, h⟩ := obs h
  refine wp_cut (fun a w => q4 = .brk () ∧ Fr a 158 [(0, .slice a_x0 x0.length c_x0), (1, .slice a_x1 x1.length c_x1), (5, .pointer (some ⟨p1, 0, none⟩)), (8, .slice a1 z1.length c1), (9, .pointer (some ⟨p2, 0, none⟩)), (13, .slice a141 y18.length c141), (14, .pointer (some ⟨p35, 0, none⟩))] ∧ St w0 (fun _ => False) w [Box p1 [.slice a_x2_0 x2_0.length c_x2_0, .slice a_x2_1 x2_1.length c_x2_1, .int .i64 x2_2], Own 49 (rowT z1) (.slice a1 z1.length c1), Own 3 (rowT z2) (.slice a2 z2.length c2), Own 3 (rowT z3) (.slice a3 z3.length c3), Box p2 [.slice a2 z2.length c2, .slice a3 z3.length c3, .int .i64 z4], Own 49 (rowT y18) (.slice a141 y18.length c141), Own 3 (rowT y19) (.slice a142 y19.length c142), Own 3 (rowT y20) (.slice a143 y20.length c143), Box p35 [.slice a142 y19.length c142, .slice a143 y20.length c143, .int .i64 y21]]) ?_ ?_
  have hk1 := h
  have h := hx26
  obtain ⟨z6, hx27, h⟩ := obs h
  refine wp_cut (fun a w => Fr a 158 [(0, .slice a_x0 x0.length c_x0), (1, .slice a_x1 x1.length c_x1), (5, .pointer (some ⟨p1, 0, none⟩)), (8, .slice a1 z1.length c1), (9, .pointer (some ⟨p2, 0, none⟩)), (13, .slice a141 y18.length c141), (14, .pointer (some ⟨p35, 0, none⟩)), (105, .bool z6)] ∧ St w0 (fun _ => False) w [Box p1 [.slice a_x2_0 x2_0.length c_x2_0, .slice a_x2_1 x2_1.length c_x2_1, .int .i64 x2_2], Own 49 (rowT z1) (.slice a1 z1.length c1), Own 3 (rowT z2) (.slice a2 z2.length c2), Own 3 (rowT z3) (.slice a3 z3.length c3), Box p2 [.slice a2 z2.length c2, .slice a3 z3.length c3, .int .i64 z4], Own 49 (rowT y18) (.slice a141 y18.length c141), Own 3 (rowT y19) (.slice a142 y19.length c142), Own 3 (rowT y20) (.slice a143 y20.length c143), Box p35 [.slice a142 y19.length c142, .slice a143 y20.length c143, .int .i64 y21]]) ?_ ?_
  have hk2 := h
  have h := hx27
  refine wc_text (wm HF rfl rfl rfl fun a HF => ?_)
  refine wc_bin HF nS rfl rfl b_lt rfl rfl fun a HF => ?_
  refine wm HF rfl rfl rfl fun a HF => ?_
  by_cases hb9 : y36 < 0
  have h := ifp hb9 h
  refine wc_skip HF nS (HF.wn rfl rfl rfl rfl (decide_eq_true hb9)) rfl fun a HF => ?_
  refine wc_skip HF nS (HF.wn rfl rfl rfl rfl (decide_eq_true hb9)) rfl fun a HF => ?_
  refine wc_skip HF nS (HF.wn rfl rfl rfl rfl (decide_eq_true hb9)) rfl fun a HF => ?_
  refine wc_skip HF nS (HF.wn rfl rfl rfl rfl (decide_eq_true hb9)) rfl fun a HF => ?_
  refine wc_pick (b := true) HF nS rfl (decide_eq_true hb9) rfl rfl rfl fun a HF => ?_
  refine wm HF rfl rfl rfl fun a HF => ?_
  refine wc_skip HF nS (HF.wn rfl rfl rfl rfl rfl) rfl fun a HF => ?_
  refine wc_skip HF nS (HF.wn rfl rfl rfl rfl rfl) rfl fun a HF => ?_
  refine wc_skip HF nS (HF.wn rfl rfl rfl rfl rfl) rfl fun a HF => ?_
  refine wc_skip HF nS (HF.wn rfl rfl rfl rfl rfl) rfl fun a HF => ?_
  refine wc_pick (b := true) HF nS rfl rfl rfl rfl rfl fun a HF => ?_
  refine wc_end ?_
  have HT := HT.p17.p17.p17.p17.p16.p16.p16.p16.p16.t9
  obtain rfl := Option.some.inj h
  exact then_n ⟨(HF.keep (HF.keep (HF.keep (HF.keep (HF.keep (HF.keep (HF.keep (HF.keep HF.nil rfl) rfl) rfl) rfl) rfl) rfl) rfl) rfl), HT⟩
  have h := ifn hb9 h
  refine wc_move HF nS rfl (HF.wy rfl rfl rfl rfl (decide_eq_false hb9)) rfl fun a HF => ?_
  refine wc_move HF nS rfl (HF.wy rfl rfl rfl rfl (decide_eq_false hb9)) rfl fun a HF => ?_
  obtain ⟨y39, hx28, h⟩ := obs h
  refine wc_call HF cf43 rfl (w_laws_eqRunS fuel hx28 (HT.rdAt 14 rfl) (HT.rdAt 9 rfl)) (HF.wy rfl rfl rfl rfl (decide_eq_false hb9)) rfl ?_
  rintro e w ⟨rfl, hE⟩
  have hb := hE.below
  have HT := HT.pure hE
  have HT : St w0 (fun _ => False) w [OwnA (rowT y37) (.slice a139 y15.length c139), OwnA (rowT y38) (.slice a140 y16.length c140), OwnA (rowT y35) (.slice a138 y14.length c138), OwnA (rowT y33) (.slice a137 y13.length c137), Own 3 (rowT y28) (.slice a146 y28.length c146), Own 3 (rowT y29) (.slice a147 y29.length c147), Own 89 (rowT y26) (.slice a145 y26.length c145), Own 53 (rowT y24) (.slice a144 y24.length c144), Box p1 [.slice a_x2_0 x2_0.length c_x2_0, .slice a_x2_1 x2_1.length c_x2_1, .int .i64 x2_2], Own 49 (rowT z1) (.slice a1 z1.length c1), Own 3 (rowT z2) (.slice a2 z2.length c2), Own 3 (rowT z3) (.slice a3 z3.length c3), Box p2 [.slice a2 z2.length c2, .slice a3 z3.length c3, .int .i64 z4], Box p34 [.slice a139 y15.length c139, .slice a140 y16.length c140, .int .i64 y17], Own 49 (rowT y18) (.slice a141 y18.length c141), Own 3 (rowT y19) (.slice a142 y19.length c142), Own 3 (rowT y20) (.slice a143 y20.length c143), Box p35 [.slice a142 y19.length c142, .slice a143 y20.length c143, .int .i64 y21]] := HT
  refine ⟨_, rfl, nS, fun a HF => ?_⟩
  refine wc_not HF nS rfl (HF.wy rfl rfl rfl rfl (decide_eq_false hb9)) rfl fun a HF => ?_
  refine wc_pick (b := false) HF nS rfl (decide_eq_false hb9) rfl rfl rfl fun a HF => ?_
  refine wm HF rfl rfl rfl fun a HF => ?_
  by_cases hb10 : y39 = true
  have h := ifp hb10 h
  refine wc_loadA (vs := [.slice a142 y19.length c142, .slice a143 y20.length c143, .int .i64 y21]) HF rfl ag27 rfl ((HT.boxAt 17 rfl).part 0 3) (HF.wy rfl rfl rfl rfl (notT hb10)) rfl fun a HF => ?_
  refine wc_loadA (vs := [.slice a2 z2.length c2, .slice a3 z3.length c3, .int .i64 z4]) HF rfl ag27 rfl ((HT.boxAt 12 rfl).part 0 3) (HF.wy rfl rfl rfl rfl (notT hb10)) rfl fun a HF => ?_
  obtain ⟨y40, hx29, h⟩ := obs h
  refine wc_call HF cf14 rfl (w_laws_eqThings fuel hx29 (HT.rdAt 15 rfl) (HT.rdAt 16 rfl) (HT.rdAt 10 rfl) (HT.rdAt 11 rfl)) (HF.wy rfl rfl rfl rfl (notT hb10)) rfl ?_
  rintro e w ⟨rfl, hE⟩
  have hb := hE.below
  have HT := HT.pure hE
  have HT : St w0 (fun _ => False) w [OwnA (rowT y37) (.slice a139 y15.length c139), OwnA (rowT y38) (.slice a140 y16.length c140), OwnA (rowT y35) (.slice a138 y14.length c138), OwnA (rowT y33) (.slice a137 y13.length c137), Own 3 (rowT y28) (.slice a146 y28.length c146), Own 3 (rowT y29) (.slice a147 y29.length c147), Own 89 (rowT y26) (.slice a145 y26.length c145), Own 53 (rowT y24) (.slice a144 y24.length c144), Box p1 [.slice a_x2_0 x2_0.length c_x2_0, .slice a_x2_1 x2_1.length c_x2_1, .int .i64 x2_2], Own 49 (rowT z1) (.slice a1 z1.length c1), Own 3 (rowT z2) (.slice a2 z2.length c2), Own 3 (rowT z3) (.slice a3 z3.length c3), Box p2 [.slice a2 z2.length c2, .slice a3 z3.length c3, .int .i64 z4], Box p34 [.slice a139 y15.length c139, .slice a140 y16.length c140, .int .i64 y17], Own 49 (rowT y18) (.slice a141 y18.length c141), Own 3 (rowT y19) (.slice a142 y19.length c142), Own 3 (rowT y20) (.slice a143 y20.length c143), Box p35 [.slice a142 y19.length c142, .slice a143 y20.length c143, .int .i64 y21]] := HT
  refine ⟨_, rfl, nS, fun a HF => ?_⟩
  refine wc_not HF nS rfl (HF.wy rfl rfl rfl rfl (notT hb10)) rfl fun a HF => ?_
  refine wc_pick (b := false) HF nS rfl (notT hb10) rfl rfl rfl fun a HF => ?_
  refine wc_end ?_
  have HT := HT.p17.p17.p17.p17.p16.p16.p16.p16.p16.t9
  obtain rfl := Option.some.inj h
  exact then_n ⟨(HF.keep (HF.keep (HF.keep (HF.keep (HF.keep (HF.keep (HF.keep (HF.keep HF.nil rfl) rfl) rfl) rfl) rfl) rfl) rfl) rfl), HT⟩
  have h := ifn hb10 h
  refine wc_skip HF nS (HF.wn rfl rfl rfl rfl (notF (Bool.eq_false_iff.2 hb10))) rfl fun a HF => ?_
  refine wc_skip HF nS (HF.wn rfl rfl rfl rfl (notF (Bool.eq_false_iff.2 hb10))) rfl fun a HF => ?_
  refine wc_skip HF nS (HF.wn rfl rfl rfl rfl (notF (Bool.eq_false_iff.2 hb10))) rfl fun a HF => ?_
  refine wc_skip HF nS (HF.wn rfl rfl rfl rfl (notF (Bool.eq_false_iff.2 hb10))) rfl fun a HF => ?_
  refine wc_pick (b := true) HF nS rfl (notF (Bool.eq_false_iff.2 hb10)) rfl rfl rfl fun a HF => ?_
  refine wc_end ?_
  have HT := HT.p17.p17.p17.p17.p16.p16.p16.p16.p16.t9
  obtain rfl := Option.some.inj h
  exact then_n ⟨(HF.keep (HF.keep (HF.keep (HF.keep (HF.keep (HF.keep (HF.keep (HF.keep HF.nil rfl) rfl) rfl) rfl) rfl) rfl) rfl) rfl), HT⟩
  rintro a w ⟨HF, HT⟩
  refine ?_
  by_cases hb11 : z6 = true
  have h := ifp hb11 h
  refine wp_if (b' := true) HF rfl hb11 ?_
  refine wp_seq (wc_text (wa HF rfl rfl rfl fun a HF => ?_))
  refine wc_end (then_n (wp_ret ?_))
  obtain rfl := Option.some.inj h
  have h := retL hk1
  obtain rfl := Option.some.inj h
  refine then_r (?_)
  refine bp_ret HF (res_one rfl HF rfl) ?_
  have HT := HT.t0
  exact ⟨rfl, HT⟩
  have h := ifn hb11 h
  refine wp_if (b' := false) HF rfl (Bool.eq_false_iff.2 hb11) ?_
  exact wp_skip (then_n ⟨(Option.some.inj h).symm, (HF.keep (HF.keep (HF.keep (HF.keep (HF.keep (HF.keep (HF.keep HF.nil rfl) rfl) rfl) rfl) rfl) rfl) rfl), HT⟩)
  rintro a w ⟨rfl, HF, HT⟩
  have h := brkL1u h
  refine ?_
  refine wp_seq (wc_text (wa HF rfl rfl rfl fun a HF => ?_))
  refine wc_end (then_n (wp_seq (wc_text (wm HF rfl rfl rfl fun a HF => ?_))))
  refine wm HF rfl rfl rfl fun a HF => ?_
  have HT := HT.p5
  have HT := HT.weak
  obtain ⟨y41, y42, hx30, h⟩ := obs2 h
  obtain ⟨F4, hAF4, hFF4, hbackF4, hroF4, hownF4, hownAF4⟩ := St.handR2 (A := [OwnA (rowT y18) (.slice a141 y18.length c141)]) HT
  refine wc_call HF cf48 rfl (w_laws_markRunS fuel hx30 hAF4) rfl rfl ?_
  rintro e w ⟨rfl, hE⟩
  have HT := hbackF4 _ _ hE
  have HT : St w0 (fun _ => False) w [OwnA (rowT y42) (.slice a141 y18.length c141), Box p1 [.slice a_x2_0 x2_0.length c_x2_0, .slice a_x2_1 x2_1.length c_x2_1, .int .i64 x2_2], Own 49 (rowT z1) (.slice a1 z1.length c1), Own 3 (rowT z2) (.slice a2 z2.length c2), Own 3 (rowT z3) (.slice a3 z3.length c3), Box p2 [.slice a2 z2.length c2, .slice a3 z3.length c3, .int .i64 z4], Own 3 (rowT y19) (.slice a142 y19.length c142), Own 3 (rowT y20) (.slice a143 y20.length c143), Box p35 [.slice a142 y19.length c142, .slice a143 y20.length c143, .int .i64 y21]] := HT
  refine ⟨_, rfl, nS, fun a HF => ?_⟩
  refine wa HF rfl rfl rfl fun a HF => ?_
  refine wc_end (then_n (wp_seq (wc_text (wc_loadA (vs := [.slice a142 y19.length c142, .slice a143 y20.length c143, .int .i64 y21]) HF rfl ag27 rfl ((HT.boxAt 8 rfl).part 0 3) rfl rfl fun a HF => ?_))))
  refine wm HF rfl rfl rfl fun a HF => ?_
  have HT := HT.p6
  have HT := HT.weak
  have HT := HT.p7
  have HT := HT.weak
  obtain ⟨y43, y44, y45, hx31, h⟩ := obs3 h
  have HT := HT.p1
  obtain ⟨F5, hAF5, hFF5, hbackF5, hroF5, hownF5, hownAF5⟩ := St.handR2 (A := [OwnA (rowT y19) (.slice a142 y19.length c142), OwnA (rowT y20) (.slice a143 y20.length c143)]) HT
  refine wc_call HF cf34 rfl (w_laws_markThings fuel hx31 hAF5) rfl rfl ?_
  rintro e w ⟨rfl, hE⟩
  have HT := hbackF5 _ _ hE
  have HT : St w0 (fun _ => False) w [OwnA (rowT y44) (.slice a142 y19.length c142), OwnA (rowT y45) (.slice a143 y20.length c143), OwnA (rowT y42) (.slice a141 y18.length c141), Box p1 [.slice a_x2_0 x2_0.length c_x2_0, .slice a_x2_1 x2_1.length c_x2_1, .int .i64 x2_2], Own 49 (rowT z1) (.slice a1 z1.length c1), Own 3 (rowT z2) (.slice a2 z2.length c2), Own 3 (rowT z3) (.slice a3 z3.length c3), Box p2 [.slice a2 z2.length c2, .slice a3 z3.length c3, .int .i64 z4], Box p35 [.slice a142 y19.length c142, .slice a143 y20.length c143, .int .i64 y21]] := HT
  refine ⟨_, rfl, nS, fun a HF => ?_⟩
  refine wa HF rfl rfl rfl fun a HF => ?_
  refine wc_end (then_n (wp_seq (wc_text (wa HF rfl rfl rfl fun a HF => ?_))))
  refine wc_end (then_n (wp_seq (wc_text (wm HF rfl rfl rfl fun a HF => ?_))))
  refine wm HF rfl rfl rfl fun a HF => ?_
  obtain ⟨y46, hx32, h⟩ := obs h
  refine wc_call HF cf49 rfl (w_laws_heldRunS fuel hx32 (HT.rdAAt 2 rfl)) rfl rfl ?_
  rintro e w ⟨rfl, hE⟩
  have hb := hE.below
  have HT := HT.pure hE
  have HT : St w0 (fun _ => False) w [OwnA (rowT y44) (.slice a142 y19.length c142), OwnA (rowT y45) (.slice a143 y20.length c143), OwnA (rowT y42) (.slice a141 y18.length c141), Box p1 [.slice a_x2_0 x2_0.length c_x2_0, .slice a_x2_1 x2_1.length c_x2_1, .int .i64 x2_2], Own 49 (rowT z1) (.slice a1 z1.length c1), Own 3 (rowT z2) (.slice a2 z2.length c2), Own 3 (rowT z3) (.slice a3 z3.length c3), Box p2 [.slice a2 z2.length c2, .slice a3 z3.length c3, .int .i64 z4], Box p35 [.slice a142 y19.length c142, .slice a143 y20.length c143, .int .i64 y21]] := HT
  refine ⟨_, rfl, nS, fun a HF => ?_⟩
  refine wa HF rfl rfl rfl fun a HF => ?_
  refine wc_end (then_n (wp_seq (wp_seq (wc_text (wm HF rfl rfl rfl fun a HF => ?_)))))
  refine wc_bin HF nS rfl rfl b_lt rfl rfl fun a HF => ?_
  refine wc_end (then_n ?_)
  by_cases hb12 : y46 < 0
  have h := ifp hb12 h
  refine wp_if (b' := true) HF rfl (decide_eq_true hb12) ?_
  refine wp_seq (wc_text (wa HF rfl rfl rfl fun a HF => ?_))
  refine wc_end (then_n (wp_ret ?_))
  obtain rfl := Option.some.inj h
  refine then_r (?_)
  refine bp_ret HF (res_one rfl HF rfl) ?_
  have HT := HT.t0
  exact ⟨rfl, HT⟩
  have h := ifn hb12 h
  refine wp_if (b' := false) HF rfl (decide_eq_false hb12) ?_
  refine wp_skip (then_n (wp_seq (wc_text (wc_loadA (vs := [.slice a142 y19.length c142, .slice a143 y20.length c143, .int .i64 y21]) HF rfl ag27 rfl ((HT.boxAt 8 rfl).part 0 3) rfl rfl fun a HF => ?_))))
  refine wm HF rfl rfl rfl fun a HF => ?_
  obtain ⟨y47, hx33, h⟩ := obs h
  refine wc_call HF cf50 rfl (w_laws_heldThings fuel hx33 (HT.rdAAt 0 rfl) (HT.rdAAt 1 rfl)) rfl rfl ?_
  rintro e w ⟨rfl, hE⟩
  have hb := hE.below
  have HT := HT.pure hE
  have HT : St w0 (fun _ => False) w [OwnA (rowT y44) (.slice a142 y19.length c142), OwnA (rowT y45) (.slice a143 y20.length c143), OwnA (rowT y42) (.slice a141 y18.length c141), Box p1 [.slice a_x2_0 x2_0.length c_x2_0, .slice a_x2_1 x2_1.length c_x2_1, .int .i64 x2_2], Own 49 (rowT z1) (.slice a1 z1.length c1), Own 3 (rowT z2) (.slice a2 z2.length c2), Own 3 (rowT z3) (.slice a3 z3.length c3), Box p2 [.slice a2 z2.length c2, .slice a3 z3.length c3, .int .i64 z4], Box p35 [.slice a142 y19.length c142, .slice a143 y20.length c143, .int .i64 y21]] := HT
  refine ⟨_, rfl, nS, fun a HF => ?_⟩
  refine wa HF rfl rfl rfl fun a HF => ?_
  refine wc_end (then_n (wp_seq (wp_seq (wc_text (wm HF rfl rfl rfl fun a HF => ?_)))))
  refine wc_bin HF nS rfl rfl b_lt rfl rfl fun a HF => ?_
  refine wc_end (then_n ?_)
  by_cases hb13 : y47 < 0
  have h := ifp hb13 h
  refine wp_if (b' := true) HF rfl (decide_eq_true hb13) ?_
  refine wp_seq (wc_text (wa HF rfl rfl rfl fun a HF => ?_))
  refine wc_end (then_n (wp_ret ?_))
  obtain rfl := Option.some.inj h
  refine then_r (?_)
  refine bp_ret HF (res_one rfl HF rfl) ?_
  have HT := HT.t0
  exact ⟨rfl, HT⟩
  have h := ifn hb13 h
  refine wp_if (b' := false) HF rfl (decide_eq_false hb13) ?_
  refine wp_skip (then_n (wp_seq (wp_seq (wc_text (wm HF rfl rfl rfl fun a HF => ?_)))))
  refine wm HF rfl rfl rfl fun a HF => ?_
  refine wc_bin HF nS rfl rfl b_ne rfl rfl fun a HF => ?_
  refine wc_end (then_n ?_)
  by_cases hb14 : y47 = y43
  have h := ifp hb14 h
  refine wp_if (b' := false) HF rfl (notT (decide_eq_true hb14)) ?_
  refine wp_skip (then_n ?_)
  obtain ⟨z7, z8, z9, z10, hx34, h⟩ := obs4 h
  refine wp_cut (fun a w => ∃ a148 n148 c148 a149 n149 c149 a150 n150 c150 p36, Fr a 158 [(8, .slice a1 z1.length c1), (9, .pointer (some ⟨p2, 0, none⟩)), (13, .slice a141 y18.length c141), (14, .pointer (some ⟨p35, 0, none⟩)), (16, .int .i64 y43), (18, .slice a148 n148 c148), (19, .pointer (some ⟨p36, 0, none⟩))] ∧ St w0 (fun _ => False) w [Own 49 (rowT z1) (.slice a1 z1.length c1), Own 3 (rowT z2) (.slice a2 z2.length c2), Own 3 (rowT z3) (.slice a3 z3.length c3), Box p2 [.slice a2 z2.length c2, .slice a3 z3.length c3, .int .i64 z4], OwnA (rowT y42) (.slice a141 y18.length c141), OwnA (rowT y44) (.slice a142 y19.length c142), OwnA (rowT y45) (.slice a143 y20.length c143), Box p35 [.slice a142 y19.length c142, .slice a143 y20.length c143, .int .i64 y21], Own 49 (rowT z7) (.slice a148 n148 c148), Own 3 (rowT z8) (.slice a149 n149 c149), Own 3 (rowT z9) (.slice a150 n150 c150), Box p36 [.slice a149 n149 c149, .slice a150 n150 c150, .int .i64 z10]]) ?_ ?_
  have hk1 := h
  have h := hx34
  refine wp_region_tree (.seg [(0, false), (2, false), (4, false)] (.alt 1 false (.alt 3 false (.alt 5 false (.alt 6 false (.seg [(7, false), (8, false), (9, false), (10, false), (11, true), (12, true)] .stop) (.alt 10 false (.seg [(6, false), (7, true), (8, true), (9, true), (11, true), (12, true)] .stop) .none)) (.alt 10 false (.seg [(5, false), (6, false), (7, true), (8, true), (9, true), (11, true), (12, true)] .stop) .none)) (.alt 10 false (.seg [(3, false), (5, false), (6, false), (7, true), (8, true), (9, true), (11, true), (12, true)] .stop) .none)) (.alt 10 false (.seg [(1, false), (3, false), (5, false), (6, false), (7, true), (8, true), (9, true), (11, true), (12, true)] .stop) .none))) (fun w' => LdC w' p1 0 [.slice a_x2_0 x2_0.length c_x2_0, .slice a_x2_1 x2_1.length c_x2_1, .int .i64 x2_2] ∧ True) (by kernel_rfl) (by kernel_rfl) ?_
  have HT := HT.drew
  refine wt_seg (wc_move HF (fun _ => ⟨(HT.boxAt 3 rfl).part 0 3, trivial⟩) rfl rfl rfl fun a HF => ?_)
  refine wc_move HF (fun _ => ⟨(HT.boxAt 3 rfl).part 0 3, trivial⟩) rfl rfl rfl fun a HF => ?_
  refine wc_loadAS (vs := [.slice a_x2_0 x2_0.length c_x2_0, .slice a_x2_1 x2_1.length c_x2_1, .int .i64 x2_2]) HF ⟨(HT.boxAt 3 rfl).part 0 3, trivial⟩ rfl ag24 rfl (fun w hS => hS.1) rfl rfl fun a HF => ?_
  refine wc_endT ?_
  obtain ⟨y48, hx35, h⟩ := obs h
  obtain ⟨y49, hx36, h⟩ := obs h
  obtain ⟨y50, y51, y52, hx37, h⟩ := obs3 h
  obtain ⟨y53, y54, y55, y56, hx38, h⟩ := obs4 h
  refine wt_alt ?_ ?_
  refine wc_call HF cf40 rfl (w_laws_toProgS fuel hx35 (HT.ro hr_x0).any) rfl rfl ?_
  rintro e w ⟨a214, n214, c214, rfl, hE⟩
  have hb := hE.below
  have HT := HT.pure hE
  obtain rfl := (HT.rdAt 0 rfl).neq
  have HT : St w0 (fun _ => False) w [Own 53 (rowT y48) (.slice a214 y48.length c214), OwnA (rowT y44) (.slice a142 y19.length c142), OwnA (rowT y45) (.slice a143 y20.length c143), OwnA (rowT y42) (.slice a141 y18.length c141), Box p1 [.slice a_x2_0 x2_0.length c_x2_0, .slice a_x2_1 x2_1.length c_x2_1, .int .i64 x2_2], Own 49 (rowT z1) (.slice a1 z1.length c1), Own 3 (rowT z2) (.slice a2 z2.length c2), Own 3 (rowT z3) (.slice a3 z3.length c3), Box p2 [.slice a2 z2.length c2, .slice a3 z3.length c3, .int .i64 z4], Box p35 [.slice a142 y19.length c142, .slice a143 y20.length c143, .int .i64 y21]] := HT
  refine ⟨_, rfl, (fun _ => ⟨(HT.boxAt 4 rfl).part 0 3, trivial⟩), fun a HF => ?_⟩
  refine wc_endT (wt_alt ?_ ?_)
  refine wc_call HF cf41 rfl (w_laws_toOrderS fuel hx36 (HT.ro hr_x1).any) rfl rfl ?_
  rintro e w ⟨a243, n243, c243, rfl, hE⟩
  have hb := hE.below
  have HT := HT.pure hE
  obtain rfl := (HT.rdAt 0 rfl).neq
  have HT : St w0 (fun _ => False) w [Own 89 (rowT y49) (.slice a243 y49.length c243), Own 53 (rowT y48) (.slice a214 y48.length c214), OwnA (rowT y44) (.slice a142 y19.length c142), OwnA (rowT y45) (.slice a143 y20.length c143), OwnA (rowT y42) (.slice a141 y18.length c141), Box p1 [.slice a_x2_0 x2_0.length c_x2_0, .slice a_x2_1 x2_1.length c_x2_1, .int .i64 x2_2], Own 49 (rowT z1) (.slice a1 z1.length c1), Own 3 (rowT z2) (.slice a2 z2.length c2), Own 3 (rowT z3) (.slice a3 z3.length c3), Box p2 [.slice a2 z2.length c2, .slice a3 z3.length c3, .int .i64 z4], Box p35 [.slice a142 y19.length c142, .slice a143 y20.length c143, .int .i64 y21]] := HT
  refine ⟨_, rfl, (fun _ => ⟨(HT.boxAt 5 rfl).part 0 3, trivial⟩), fun a HF => ?_⟩
  refine wc_endT (wt_alt ?_ ?_)
  refine wc_call HF cf12 rfl (w_laws_toThings fuel hx37 (HT.ro hr_x2_0).any (HT.ro hr_x2_1).any) rfl rfl ?_
  rintro e w ⟨a255, n255, c255, a256, n256, c256, rfl, hE⟩
  have hb := hE.below
  have HT := HT.pure hE
  obtain rfl := (HT.rdAt 0 rfl).neq
  obtain rfl := (HT.rdAt 1 rfl).neq
  have HT : St w0 (fun _ => False) w [Own 3 (rowT y50) (.slice a255 y50.length c255), Own 3 (rowT y51) (.slice a256 y51.length c256), Own 89 (rowT y49) (.slice a243 y49.length c243), Own 53 (rowT y48) (.slice a214 y48.length c214), OwnA (rowT y44) (.slice a142 y19.length c142), OwnA (rowT y45) (.slice a143 y20.length c143), OwnA (rowT y42) (.slice a141 y18.length c141), Box p1 [.slice a_x2_0 x2_0.length c_x2_0, .slice a_x2_1 x2_1.length c_x2_1, .int .i64 x2_2], Own 49 (rowT z1) (.slice a1 z1.length c1), Own 3 (rowT z2) (.slice a2 z2.length c2), Own 3 (rowT z3) (.slice a3 z3.length c3), Box p2 [.slice a2 z2.length c2, .slice a3 z3.length c3, .int .i64 z4], Box p35 [.slice a142 y19.length c142, .slice a143 y20.length c143, .int .i64 y21]] := HT
  refine ⟨_, rfl, (fun _ => ⟨(HT.boxAt 7 rfl).part 0 3, trivial⟩), fun a HF => ?_⟩
  refine wc_endT (wt_alt ?_ ?_)
  refine wc_call HF cf42 rfl (w_impl_SerialAll fuel hx38 (HT.rdAt 3 rfl) (HT.rdAt 2 rfl) (HT.rdAt 0 rfl) (HT.rdAt 1 rfl)) rfl rfl ?_
  rintro e w ⟨a260, n260, c260, a261, n261, c261, a262, n262, c262, rfl, hE⟩
  have hb := hE.below
  have HT := HT.pure hE
  obtain rfl := (HT.rdAt 0 rfl).neq
  obtain rfl := (HT.rdAt 1 rfl).neq
  obtain rfl := (HT.rdAt 2 rfl).neq
  have HT : St w0 (fun _ => False) w [Own 49 (rowT y53) (.slice a260 y53.length c260), Own 3 (rowT y54) (.slice a261 y54.length c261), Own 3 (rowT y55) (.slice a262 y55.length c262), Own 3 (rowT y50) (.slice a255 y50.length c255), Own 3 (rowT y51) (.slice a256 y51.length c256), Own 89 (rowT y49) (.slice a243 y49.length c243), Own 53 (rowT y48) (.slice a214 y48.length c214), OwnA (rowT y44) (.slice a142 y19.length c142), OwnA (rowT y45) (.slice a143 y20.length c143), OwnA (rowT y42) (.slice a141 y18.length c141), Box p1 [.slice a_x2_0 x2_0.length c_x2_0, .slice a_x2_1 x2_1.length c_x2_1, .int .i64 x2_2], Own 49 (rowT z1) (.slice a1 z1.length c1), Own 3 (rowT z2) (.slice a2 z2.length c2), Own 3 (rowT z3) (.slice a3 z3.length c3), Box p2 [.slice a2 z2.length c2, .slice a3 z3.length c3, .int .i64 z4], Box p35 [.slice a142 y19.length c142, .slice a143 y20.length c143, .int .i64 y21]] := HT
  refine ⟨_, rfl, (fun _ => ⟨(HT.boxAt 10 rfl).part 0 3, trivial⟩), fun a HF => ?_⟩
  refine wc_endT (wt_seg (wc_move HF (fun _ => ⟨(HT.boxAt 10 rfl).part 0 3, trivial⟩) rfl rfl rfl fun a HF => ?_))
  refine wc_extract (v := .slice a260 y53.length c260) HF (fun _ => ⟨(HT.boxAt 10 rfl).part 0 3, trivial⟩) rfl rfl rfl rfl fun a HF => ?_
  refine wc_extract (v := .agg #[.slice a261 y54.length c261, .slice a262 y55.length c262, .int .i64 y56]) HF (fun _ => ⟨(HT.boxAt 10 rfl).part 0 3, trivial⟩) rfl rfl rfl rfl fun a HF => ?_
  refine wc_alloc (cs := [.slice none 0 0, .slice none 0 0, .int .i64 0]) HF HT zr27 rfl rfl rfl (fun p63 w HT hb => ⟨(fun _ => ⟨(HT.boxAt 11 rfl).part 0 3, trivial⟩), fun a HF => ?_⟩)
  refine wa HF rfl rfl rfl fun a HF => ?_
  refine wc_storeB (cs' := [.slice a261 y54.length c261, .slice a262 y55.length c262, .int .i64 y56]) HF HT rfl rfl (fun w => (ag27 w).2) rfl rfl rfl rfl rfl (fun w HT => ⟨nS, ?_⟩)
  refine wc_endT (wt_stop ?_)
  have HT := HT.p3.p3.p3.p16.p10.p10.p11.p16.p16.p16.p16.t12
  have hj21 := Option.some.inj h
  obtain ⟨rfl, hj22⟩ := Prod.mk.inj hj21
  obtain ⟨rfl, hj23⟩ := Prod.mk.inj hj22
  obtain ⟨rfl, hj24⟩ := Prod.mk.inj hj23
  subst hj24
  exact then_n ⟨a260, y53.length, c260, a261, y54.length, c261, a262, y55.length, c262, p63, (HF.keep (HF.keep (HF.keep (HF.keep (HF.keep (HF.keep (HF.keep HF.nil rfl) rfl) rfl) rfl) rfl) rfl) rfl), HT⟩
  refine wt_alt ?_ ?_
  refine wc_alloc (cs := [.slice none 0 0, .slice none 0 0, .int .i64 0]) HF HT zr27 rfl rfl rfl (fun p64 w HT hb => ⟨(fun _ => ⟨(HT.boxAt 8 rfl).part 0 3, trivial⟩), fun a HF => ?_⟩)
  refine wc_endT (wt_seg (wc_call HF cf42 rfl (w_impl_SerialAll fuel hx38 (HT.rdAt 4 rfl) (HT.rdAt 3 rfl) (HT.rdAt 1 rfl) (HT.rdAt 2 rfl)) rfl rfl ?_))
  rintro e w ⟨a263, n263, c263, a264, n264, c264, a265, n265, c265, rfl, hE⟩
  have hb := hE.below
  have HT := HT.pure hE
  obtain rfl := (HT.rdAt 0 rfl).neq
  obtain rfl := (HT.rdAt 1 rfl).neq
  obtain rfl := (HT.rdAt 2 rfl).neq
  have HT : St w0 (fun _ => False) w [Own 49 (rowT y53) (.slice a263 y53.length c263), Own 3 (rowT y54) (.slice a264 y54.length c264), Own 3 (rowT y55) (.slice a265 y55.length c265), Box p64 [.slice none 0 0, .slice none 0 0, .int .i64 0], Own 3 (rowT y50) (.slice a255 y50.length c255), Own 3 (rowT y51) (.slice a256 y51.length c256), Own 89 (rowT y49) (.slice a243 y49.length c243), Own 53 (rowT y48) (.slice a214 y48.length c214), OwnA (rowT y44) (.slice a142 y19.length c142), OwnA (rowT y45) (.slice a143 y20.length c143), OwnA (rowT y42) (.slice a141 y18.length c141), Box p1 [.slice a_x2_0 x2_0.length c_x2_0, .slice a_x2_1 x2_1.length c_x2_1, .int .i64 x2_2], Own 49 (rowT z1) (.slice a1 z1.length c1), Own 3 (rowT z2) (.slice a2 z2.length c2), Own 3 (rowT z3) (.slice a3 z3.length c3), Box p2 [.slice a2 z2.length c2, .slice a3 z3.length c3, .int .i64 z4], Box p35 [.slice a142 y19.length c142, .slice a143 y20.length c143, .int .i64 y21]] := HT
  refine ⟨_, rfl, (fun _ => ⟨(HT.boxAt 11 rfl).part 0 3, trivial⟩), fun a HF => ?_⟩
  refine wm HF rfl rfl rfl fun a HF => ?_
  refine wc_extract (v := .slice a263 y53.length c263) HF nS rfl rfl rfl rfl fun a HF => ?_
  refine wc_extract (v := .agg #[.slice a264 y54.length c264, .slice a265 y55.length c265, .int .i64 y56]) HF nS rfl rfl rfl rfl fun a HF => ?_
  refine wa HF rfl rfl rfl fun a HF => ?_
  have HT := HT.p3
  refine wc_storeB (cs' := [.slice a264 y54.length c264, .slice a265 y55.length c265, .int .i64 y56]) HF HT rfl rfl (fun w => (ag27 w).2) rfl rfl rfl rfl rfl (fun w HT => ⟨nS, ?_⟩)
  refine wc_endT (wt_stop ?_)
  have HT := HT.p3.p3.p3.p16.p10.p10.p11.p16.p16.p16.p16.t12
  have hj25 := Option.some.inj h
  obtain ⟨rfl, hj26⟩ := Prod.mk.inj hj25
  obtain ⟨rfl, hj27⟩ := Prod.mk.inj hj26
  obtain ⟨rfl, hj28⟩ := Prod.mk.inj hj27
  subst hj28
  exact then_n ⟨a263, y53.length, c263, a264, y54.length, c264, a265, y55.length, c265, p64, (HF.keep (HF.keep (HF.keep (HF.keep (HF.keep (HF.keep (HF.keep HF.nil rfl) rfl) rfl) rfl) rfl) rfl) rfl), HT⟩
  exact wt_none
  refine wt_alt ?_ ?_
  refine wc_alloc (cs := [.slice none 0 0, .slice none 0 0, .int .i64 0]) HF HT zr27 rfl rfl rfl (fun p65 w HT hb => ⟨(fun _ => ⟨(HT.boxAt 6 rfl).part 0 3, trivial⟩), fun a HF => ?_⟩)
  refine wc_endT (wt_seg (wc_call HF cf12 rfl (w_laws_toThings fuel hx37 (HT.ro hr_x2_0).any (HT.ro hr_x2_1).any) rfl rfl ?_))
  rintro e w ⟨a266, n266, c266, a267, n267, c267, rfl, hE⟩
  have hb := hE.below
  have HT := HT.pure hE
  obtain rfl := (HT.rdAt 0 rfl).neq
  obtain rfl := (HT.rdAt 1 rfl).neq
  have HT : St w0 (fun _ => False) w [Own 3 (rowT y50) (.slice a266 y50.length c266), Own 3 (rowT y51) (.slice a267 y51.length c267), Box p65 [.slice none 0 0, .slice none 0 0, .int .i64 0], Own 89 (rowT y49) (.slice a243 y49.length c243), Own 53 (rowT y48) (.slice a214 y48.length c214), OwnA (rowT y44) (.slice a142 y19.length c142), OwnA (rowT y45) (.slice a143 y20.length c143), OwnA (rowT y42) (.slice a141 y18.length c141), Box p1 [.slice a_x2_0 x2_0.length c_x2_0, .slice a_x2_1 x2_1.length c_x2_1, .int .i64 x2_2], Own 49 (rowT z1) (.slice a1 z1.length c1), Own 3 (rowT z2) (.slice a2 z2.length c2), Own 3 (rowT z3) (.slice a3 z3.length c3), Box p2 [.slice a2 z2.length c2, .slice a3 z3.length c3, .int .i64 z4], Box p35 [.slice a142 y19.length c142, .slice a143 y20.length c143, .int .i64 y21]] := HT
  refine ⟨_, rfl, (fun _ => ⟨(HT.boxAt 8 rfl).part 0 3, trivial⟩), fun a HF => ?_⟩
  refine wc_call HF cf42 rfl (w_impl_SerialAll fuel hx38 (HT.rdAt 4 rfl) (HT.rdAt 3 rfl) (HT.rdAt 0 rfl) (HT.rdAt 1 rfl)) rfl rfl ?_
  rintro e w ⟨a268, n268, c268, a269, n269, c269, a270, n270, c270, rfl, hE⟩
  have hb := hE.below
  have HT := HT.pure hE
  obtain rfl := (HT.rdAt 0 rfl).neq
  obtain rfl := (HT.rdAt 1 rfl).neq
  obtain rfl := (HT.rdAt 2 rfl).neq
  have HT : St w0 (fun _ => False) w [Own 49 (rowT y53) (.slice a268 y53.length c268), Own 3 (rowT y54) (.slice a269 y54.length c269), Own 3 (rowT y55) (.slice a270 y55.length c270), Own 3 (rowT y50) (.slice a266 y50.length c266), Own 3 (rowT y51) (.slice a267 y51.length c267), Box p65 [.slice none 0 0, .slice none 0 0, .int .i64 0], Own 89 (rowT y49) (.slice a243 y49.length c243), Own 53 (rowT y48) (.slice a214 y48.length c214), OwnA (rowT y44) (.slice a142 y19.length c142), OwnA (rowT y45) (.slice a143 y20.length c143), OwnA (rowT y42) (.slice a141 y18.length c141), Box p1 [.slice a_x2_0 x2_0.length c_x2_0, .slice a_x2_1 x2_1.length c_x2_1, .int .i64 x2_2], Own 49 (rowT z1) (.slice a1 z1.length c1), Own 3 (rowT z2) (.slice a2 z2.length c2), Own 3 (rowT z3) (.slice a3 z3.length c3), Box p2 [.slice a2 z2.length c2, .slice a3 z3.length c3, .int .i64 z4], Box p35 [.slice a142 y19.length c142, .slice a143 y20.length c143, .int .i64 y21]] := HT
  refine ⟨_, rfl, (fun _ => ⟨(HT.boxAt 11 rfl).part 0 3, trivial⟩), fun a HF => ?_⟩
  refine wm HF rfl rfl rfl fun a HF => ?_
  refine wc_extract (v := .slice a268 y53.length c268) HF nS rfl rfl rfl rfl fun a HF => ?_
  refine wc_extract (v := .agg #[.slice a269 y54.length c269, .slice a270 y55.length c270, .int .i64 y56]) HF nS rfl rfl rfl rfl fun a HF => ?_
  refine wa HF rfl rfl rfl fun a HF => ?_
  have HT := HT.p5
  refine wc_storeB (cs' := [.slice a269 y54.length c269, .slice a270 y55.length c270, .int .i64 y56]) HF HT rfl rfl (fun w => (ag27 w).2) rfl rfl rfl rfl rfl (fun w HT => ⟨nS, ?_⟩)
  refine wc_endT (wt_stop ?_)
  have HT := HT.p3.p3.p3.p16.p10.p10.p11.p16.p16.p16.p16.t12
  have hj29 := Option.some.inj h
  obtain ⟨rfl, hj30⟩ := Prod.mk.inj hj29
  obtain ⟨rfl, hj31⟩ := Prod.mk.inj hj30
  obtain ⟨rfl, hj32⟩ := Prod.mk.inj hj31
  subst hj32
  exact then_n ⟨a268, y53.length, c268, a269, y54.length, c269, a270, y55.length, c270, p65, (HF.keep (HF.keep (HF.keep (HF.keep (HF.keep (HF.keep (HF.keep HF.nil rfl) rfl) rfl) rfl) rfl) rfl) rfl), HT⟩
  exact wt_none
  refine wt_alt ?_ ?_
  refine wc_alloc (cs := [.slice none 0 0, .slice none 0 0, .int .i64 0]) HF HT zr27 rfl rfl rfl (fun p66 w HT hb => ⟨(fun _ => ⟨(HT.boxAt 5 rfl).part 0 3, trivial⟩), fun a HF => ?_⟩)
  refine wc_endT (wt_seg (wc_call HF cf41 rfl (w_laws_toOrderS fuel hx36 (HT.ro hr_x1).any) rfl rfl ?_))
  rintro e w ⟨a271, n271, c271, rfl, hE⟩
  have hb := hE.below
  have HT := HT.pure hE
  obtain rfl := (HT.rdAt 0 rfl).neq
  have HT : St w0 (fun _ => False) w [Own 89 (rowT y49) (.slice a271 y49.length c271), Box p66 [.slice none 0 0, .slice none 0 0, .int .i64 0], Own 53 (rowT y48) (.slice a214 y48.length c214), OwnA (rowT y44) (.slice a142 y19.length c142), OwnA (rowT y45) (.slice a143 y20.length c143), OwnA (rowT y42) (.slice a141 y18.length c141), Box p1 [.slice a_x2_0 x2_0.length c_x2_0, .slice a_x2_1 x2_1.length c_x2_1, .int .i64 x2_2], Own 49 (rowT z1) (.slice a1 z1.length c1), Own 3 (rowT z2) (.slice a2 z2.length c2), Own 3 (rowT z3) (.slice a3 z3.length c3), Box p2 [.slice a2 z2.length c2, .slice a3 z3.length c3, .int .i64 z4], Box p35 [.slice a142 y19.length c142, .slice a143 y20.length c143, .int .i64 y21]] := HT
  refine ⟨_, rfl, (fun _ => ⟨(HT.boxAt 6 rfl).part 0 3, trivial⟩), fun a HF => ?_⟩
  refine wc_call HF cf12 rfl (w_laws_toThings fuel hx37 (HT.ro hr_x2_0).any (HT.ro hr_x2_1).any) rfl rfl ?_
  rintro e w ⟨a272, n272, c272, a273, n273, c273, rfl, hE⟩
  have hb := hE.below
  have HT := HT.pure hE
  obtain rfl := (HT.rdAt 0 rfl).neq
  obtain rfl := (HT.rdAt 1 rfl).neq
  have HT : St w0 (fun _ => False) w [Own 3 (rowT y50) (.slice a272 y50.length c272), Own 3 (rowT y51) (.slice a273 y51.length c273), Own 89 (rowT y49) (.slice a271 y49.length c271), Box p66 [.slice none 0 0, .slice none 0 0, .int .i64 0], Own 53 (rowT y48) (.slice a214 y48.length c214), OwnA (rowT y44) (.slice a142 y19.length c142), OwnA (rowT y45) (.slice a143 y20.length c143), OwnA (rowT y42) (.slice a141 y18.length c141), Box p1 [.slice a_x2_0 x2_0.length c_x2_0, .slice a_x2_1 x2_1.length c_x2_1, .int .i64 x2_2], Own 49 (rowT z1) (.slice a1 z1.length c1), Own 3 (rowT z2) (.slice a2 z2.length c2), Own 3 (rowT z3) (.slice a3 z3.length c3), Box p2 [.slice a2 z2.length c2, .slice a3 z3.length c3, .int .i64 z4], Box p35 [.slice a142 y19.length c142, .slice a143 y20.length c143, .int .i64 y21]] := HT
  refine ⟨_, rfl, (fun _ => ⟨(HT.boxAt 8 rfl).part 0 3, trivial⟩), fun a HF => ?_⟩
  refine wc_call HF cf42 rfl (w_impl_SerialAll fuel hx38 (HT.rdAt 4 rfl) (HT.rdAt 2 rfl) (HT.rdAt 0 rfl) (HT.rdAt 1 rfl)) rfl rfl ?_
  rintro e w ⟨a274, n274, c274, a275, n275, c275, a276, n276, c276, rfl, hE⟩
  have hb := hE.below
  have HT := HT.pure hE
  obtain rfl := (HT.rdAt 0 rfl).neq
  obtain rfl := (HT.rdAt 1 rfl).neq
  obtain rfl := (HT.rdAt 2 rfl).neq
  have HT : St w0 (fun _ => False) w [Own 49 (rowT y53) (.slice a274 y53.length c274), Own 3 (rowT y54) (.slice a275 y54.length c275), Own 3 (rowT y55) (.slice a276 y55.length c276), Own 3 (rowT y50) (.slice a272 y50.length c272), Own 3 (rowT y51) (.slice a273 y51.length c273), Own 89 (rowT y49) (.slice a271 y49.length c271), Box p66 [.slice none 0 0, .slice none 0 0, .int .i64 0], Own 53 (rowT y48) (.slice a214 y48.length c214), OwnA (rowT y44) (.slice a142 y19.length c142), OwnA (rowT y45) (.slice a143 y20.length c143), OwnA (rowT y42) (.slice a141 y18.length c141), Box p1 [.slice a_x2_0 x2_0.length c_x2_0, .slice a_x2_1 x2_1.length c_x2_1, .int .i64 x2_2], Own 49 (rowT z1) (.slice a1 z1.length c1), Own 3 (rowT z2) (.slice a2 z2.length c2), Own 3 (rowT z3) (.slice a3 z3.length c3), Box p2 [.slice a2 z2.length c2, .slice a3 z3.length c3, .int .i64 z4], Box p35 [.slice a142 y19.length c142, .slice a143 y20.length c143, .int .i64 y21]] := HT
  refine ⟨_, rfl, (fun _ => ⟨(HT.boxAt 11 rfl).part 0 3, trivial⟩), fun a HF => ?_⟩
  refine wm HF rfl rfl rfl fun a HF => ?_
  refine wc_extract (v := .slice a274 y53.length c274) HF nS rfl rfl rfl rfl fun a HF => ?_
  refine wc_extract (v := .agg #[.slice a275 y54.length c275, .slice a276 y55.length c276, .int .i64 y56]) HF nS rfl rfl rfl rfl fun a HF => ?_
  refine wa HF rfl rfl rfl fun a HF => ?_
  have HT := HT.p6
  refine wc_storeB (cs' := [.slice a275 y54.length c275, .slice a276 y55.length c276, .int .i64 y56]) HF HT rfl rfl (fun w => (ag27 w).2) rfl rfl rfl rfl rfl (fun w HT => ⟨nS, ?_⟩)
  refine wc_endT (wt_stop ?_)
  have HT := HT.p3.p3.p3.p16.p10.p10.p11.p16.p16.p16.p16.t12
  have hj33 := Option.some.inj h
  obtain ⟨rfl, hj34⟩ := Prod.mk.inj hj33
  obtain ⟨rfl, hj35⟩ := Prod.mk.inj hj34
  obtain ⟨rfl, hj36⟩ := Prod.mk.inj hj35
  subst hj36
  exact then_n ⟨a274, y53.length, c274, a275, y54.length, c275, a276, y55.length, c276, p66, (HF.keep (HF.keep (HF.keep (HF.keep (HF.keep (HF.keep (HF.keep HF.nil rfl) rfl) rfl) rfl) rfl) rfl) rfl), HT⟩
  exact wt_none
  refine wt_alt ?_ ?_
  refine wc_alloc (cs := [.slice none 0 0, .slice none 0 0, .int .i64 0]) HF HT zr27 rfl rfl rfl (fun p67 w HT hb => ⟨(fun _ => ⟨(HT.boxAt 4 rfl).part 0 3, trivial⟩), fun a HF => ?_⟩)
  refine wc_endT (wt_seg (wc_call HF cf40 rfl (w_laws_toProgS fuel hx35 (HT.ro hr_x0).any) rfl rfl ?_))
  rintro e w ⟨a277, n277, c277, rfl, hE⟩
  have hb := hE.below
  have HT := HT.pure hE
  obtain rfl := (HT.rdAt 0 rfl).neq
  have HT : St w0 (fun _ => False) w [Own 53 (rowT y48) (.slice a277 y48.length c277), Box p67 [.slice none 0 0, .slice none 0 0, .int .i64 0], OwnA (rowT y44) (.slice a142 y19.length c142), OwnA (rowT y45) (.slice a143 y20.length c143), OwnA (rowT y42) (.slice a141 y18.length c141), Box p1 [.slice a_x2_0 x2_0.length c_x2_0, .slice a_x2_1 x2_1.length c_x2_1, .int .i64 x2_2], Own 49 (rowT z1) (.slice a1 z1.length c1), Own 3 (rowT z2) (.slice a2 z2.length c2), Own 3 (rowT z3) (.slice a3 z3.length c3), Box p2 [.slice a2 z2.length c2, .slice a3 z3.length c3, .int .i64 z4], Box p35 [.slice a142 y19.length c142, .slice a143 y20.length c143, .int .i64 y21]] := HT
  refine ⟨_, rfl, (fun _ => ⟨(HT.boxAt 5 rfl).part 0 3, trivial⟩), fun a HF => ?_⟩
  refine wc_call HF cf41 rfl (w_laws_toOrderS fuel hx36 (HT.ro hr_x1).any) rfl rfl ?_
  rintro e w ⟨a278, n278, c278, rfl, hE⟩
  have hb := hE.below
  have HT := HT.pure hE
  obtain rfl := (HT.rdAt 0 rfl).neq
  have HT : St w0 (fun _ => False) w [Own 89 (rowT y49) (.slice a278 y49.length c278), Own 53 (rowT y48) (.slice a277 y48.length c277), Box p67 [.slice none 0 0, .slice none 0 0, .int .i64 0], OwnA (rowT y44) (.slice a142 y19.length c142), OwnA (rowT y45) (.slice a143 y20.length c143), OwnA (rowT y42) (.slice a141 y18.length c141), Box p1 [.slice a_x2_0 x2_0.length c_x2_0, .slice a_x2_1 x2_1.length c_x2_1, .int .i64 x2_2], Own 49 (rowT z1) (.slice a1 z1.length c1), Own 3 (rowT z2) (.slice a2 z2.length c2), Own 3 (rowT z3) (.slice a3 z3.length c3), Box p2 [.slice a2 z2.length c2, .slice a3 z3.length c3, .int .i64 z4], Box p35 [.slice a142 y19.length c142, .slice a143 y20.length c143, .int .i64 y21]] := HT
  refine ⟨_, rfl, (fun _ => ⟨(HT.boxAt 6 rfl).part 0 3, trivial⟩), fun a HF => ?_⟩
  refine wc_call HF cf12 rfl (w_laws_toThings fuel hx37 (HT.ro hr_x2_0).any (HT.ro hr_x2_1).any) rfl rfl ?_
  rintro e w ⟨a279, n279, c279, a280, n280, c280, rfl, hE⟩
  have hb := hE.below
  have HT := HT.pure hE
  obtain rfl := (HT.rdAt 0 rfl).neq
  obtain rfl := (HT.rdAt 1 rfl).neq
  have HT : St w0 (fun _ => False) w [Own 3 (rowT y50) (.slice a279 y50.length c279), Own 3 (rowT y51) (.slice a280 y51.length c280), Own 89 (rowT y49) (.slice a278 y49.length c278), Own 53 (rowT y48) (.slice a277 y48.length c277), Box p67 [.slice none 0 0, .slice none 0 0, .int .i64 0], OwnA (rowT y44) (.slice a142 y19.length c142), OwnA (rowT y45) (.slice a143 y20.length c143), OwnA (rowT y42) (.slice a141 y18.length c141), Box p1 [.slice a_x2_0 x2_0.length c_x2_0, .slice a_x2_1 x2_1.length c_x2_1, .int .i64 x2_2], Own 49 (rowT z1) (.slice a1 z1.length c1), Own 3 (rowT z2) (.slice a2 z2.length c2), Own 3 (rowT z3) (.slice a3 z3.length c3), Box p2 [.slice a2 z2.length c2, .slice a3 z3.length c3, .int .i64 z4], Box p35 [.slice a142 y19.length c142, .slice a143 y20.length c143, .int .i64 y21]] := HT
  refine ⟨_, rfl, (fun _ => ⟨(HT.boxAt 8 rfl).part 0 3, trivial⟩), fun a HF => ?_⟩
  refine wc_call HF cf42 rfl (w_impl_SerialAll fuel hx38 (HT.rdAt 3 rfl) (HT.rdAt 2 rfl) (HT.rdAt 0 rfl) (HT.rdAt 1 rfl)) rfl rfl ?_
  rintro e w ⟨a281, n281, c281, a282, n282, c282, a283, n283, c283, rfl, hE⟩
  have hb := hE.below
  have HT := HT.pure hE
  obtain rfl := (HT.rdAt 0 rfl).neq
  obtain rfl := (HT.rdAt 1 rfl).neq
  obtain rfl := (HT.rdAt 2 rfl).neq
  have HT : St w0 (fun _ => False) w [Own 49 (rowT y53) (.slice a281 y53.length c281), Own 3 (rowT y54) (.slice a282 y54.length c282), Own 3 (rowT y55) (.slice a283 y55.length c283), Own 3 (rowT y50) (.slice a279 y50.length c279), Own 3 (rowT y51) (.slice a280 y51.length c280), Own 89 (rowT y49) (.slice a278 y49.length c278), Own 53 (rowT y48) (.slice a277 y48.length c277), Box p67 [.slice none 0 0, .slice none 0 0, .int .i64 0], OwnA (rowT y44) (.slice a142 y19.length c142), OwnA (rowT y45) (.slice a143 y20.length c143), OwnA (rowT y42) (.slice a141 y18.length c141), Box p1 [.slice a_x2_0 x2_0.length c_x2_0, .slice a_x2_1 x2_1.length c_x2_1, .int .i64 x2_2], Own 49 (rowT z1) (.slice a1 z1.length c1), Own 3 (rowT z2) (.slice a2 z2.length c2), Own 3 (rowT z3) (.slice a3 z3.length c3), Box p2 [.slice a2 z2.length c2, .slice a3 z3.length c3, .int .i64 z4], Box p35 [.slice a142 y19.length c142, .slice a143 y20.length c143, .int .i64 y21]] := HT
  refine ⟨_, rfl, (fun _ => ⟨(HT.boxAt 11 rfl).part 0 3, trivial⟩), fun a HF => ?_⟩
  refine wm HF rfl rfl rfl fun a HF => ?_
  refine wc_extract (v := .slice a281 y53.length c281) HF nS rfl rfl rfl rfl fun a HF => ?_
  refine wc_extract (v := .agg #[.slice a282 y54.length c282, .slice a283 y55.length c283, .int .i64 y56]) HF nS rfl rfl rfl rfl fun a HF => ?_
  refine wa HF rfl rfl rfl fun a HF => ?_
  have HT := HT.p7
  refine wc_storeB (cs' := [.slice a282 y54.length c282, .slice a283 y55.length c283, .int .i64 y56]) HF HT rfl rfl (fun w => (ag27 w).2) rfl rfl rfl rfl rfl (fun w HT => ⟨nS, ?_⟩)
  refine wc_endT (wt_stop ?_)
  have HT := HT.p3.p3.p3.p16.p10.p10.p11.p16.p16.p16.p16.t12
  have hj37 := Option.some.inj h
  obtain ⟨rfl, hj38⟩ := Prod.mk.inj hj37
  obtain ⟨rfl, hj39⟩ := Prod.mk.inj hj38
  obtain ⟨rfl, hj40⟩ := Prod.mk.inj hj39
  subst hj40
  exact then_n ⟨a281, y53.length, c281, a282, y54.length, c282, a283, y55.length, c283, p67, (HF.keep (HF.keep (HF.keep (HF.keep (HF.keep (HF.keep (HF.keep HF.nil rfl) rfl) rfl) rfl) rfl) rfl) rfl), HT⟩
  exact wt_none
  rintro a w ⟨a148, n148, c148, a149, n149, c149, a150, n150, c150, p36, HF, HT⟩
  obtain rfl := (HT.rdAt 8 rfl).neq
  obtain rfl := (HT.rdAt 9 rfl).neq
  obtain rfl := (HT.rdAt 10 rfl).neq
  refine ?_
  obtain ⟨q7, hx39, h⟩ := obs h
  refine wp_cut (fun a w => q7 = .brk () ∧ Fr a 158 [(13, .slice a141 y18.length c141), (14, .pointer (some ⟨p35, 0, none⟩)), (16, .int .i64 y43)] ∧ St w0 (fun _ => False) w [OwnA (rowT y42) (.slice a141 y18.length c141), OwnA (rowT y44) (.slice a142 y19.length c142), OwnA (rowT y45) (.slice a143 y20.length c143), Box p35 [.slice a142 y19.length c142, .slice a143 y20.length c143, .int .i64 y21]]) ?_ ?_
  have hk1 := h
  have h := hx39
  obtain ⟨z11, hx40, h⟩ := obs h
  refine wp_cut (fun a w => Fr a 158 [(13, .slice a141 y18.length c141), (14, .pointer (some ⟨p35, 0, none⟩)), (16, .int .i64 y43), (144, .bool z11)] ∧ St w0 (fun _ => False) w [OwnA (rowT y42) (.slice a141 y18.length c141), OwnA (rowT y44) (.slice a142 y19.length c142), OwnA (rowT y45) (.slice a143 y20.length c143), Box p35 [.slice a142 y19.length c142, .slice a143 y20.length c143, .int .i64 y21]]) ?_ ?_
  have hk2 := h
  have h := hx40
  refine wc_text (wm HF rfl rfl rfl fun a HF => ?_)
  refine wm HF rfl rfl rfl fun a HF => ?_
  obtain ⟨y57, hx41, h⟩ := obs h
  refine wc_call HF cf43 rfl (w_laws_eqRunS fuel hx41 (HT.rdAt 8 rfl) (HT.rdAt 0 rfl)) rfl rfl ?_
  rintro e w ⟨rfl, hE⟩
  have hb := hE.below
  have HT := HT.pure hE
  have HT : St w0 (fun _ => False) w [Own 49 (rowT z1) (.slice a1 z1.length c1), Own 3 (rowT z2) (.slice a2 z2.length c2), Own 3 (rowT z3) (.slice a3 z3.length c3), Box p2 [.slice a2 z2.length c2, .slice a3 z3.length c3, .int .i64 z4], OwnA (rowT y42) (.slice a141 y18.length c141), OwnA (rowT y44) (.slice a142 y19.length c142), OwnA (rowT y45) (.slice a143 y20.length c143), Box p35 [.slice a142 y19.length c142, .slice a143 y20.length c143, .int .i64 y21], Own 49 (rowT z7) (.slice a148 z7.length c148), Own 3 (rowT z8) (.slice a149 z8.length c149), Own 3 (rowT z9) (.slice a150 z9.length c150), Box p36 [.slice a149 z8.length c149, .slice a150 z9.length c150, .int .i64 z10]] := HT
  refine ⟨_, rfl, nS, fun a HF => ?_⟩
  refine wc_not HF nS rfl rfl rfl fun a HF => ?_
  refine wm HF rfl rfl rfl fun a HF => ?_
  by_cases hb15 : y57 = true
  have h := ifp hb15 h
  refine wc_loadA (vs := [.slice a149 z8.length c149, .slice a150 z9.length c150, .int .i64 z10]) HF rfl ag27 rfl ((HT.boxAt 11 rfl).part 0 3) (HF.wy rfl rfl rfl rfl (notT hb15)) rfl fun a HF => ?_
  refine wc_loadA (vs := [.slice a2 z2.length c2, .slice a3 z3.length c3, .int .i64 z4]) HF rfl ag27 rfl ((HT.boxAt 3 rfl).part 0 3) (HF.wy rfl rfl rfl rfl (notT hb15)) rfl fun a HF => ?_
  obtain ⟨y58, hx42, h⟩ := obs h
  refine wc_call HF cf14 rfl (w_laws_eqThings fuel hx42 (HT.rdAt 9 rfl) (HT.rdAt 10 rfl) (HT.rdAt 1 rfl) (HT.rdAt 2 rfl)) (HF.wy rfl rfl rfl rfl (notT hb15)) rfl ?_
  rintro e w ⟨rfl, hE⟩
  have hb := hE.below
  have HT := HT.pure hE
  have HT : St w0 (fun _ => False) w [Own 49 (rowT z1) (.slice a1 z1.length c1), Own 3 (rowT z2) (.slice a2 z2.length c2), Own 3 (rowT z3) (.slice a3 z3.length c3), Box p2 [.slice a2 z2.length c2, .slice a3 z3.length c3, .int .i64 z4], OwnA (rowT y42) (.slice a141 y18.length c141), OwnA (rowT y44) (.slice a142 y19.length c142), OwnA (rowT y45) (.slice a143 y20.length c143), Box p35 [.slice a142 y19.length c142, .slice a143 y20.length c143, .int .i64 y21], Own 49 (rowT z7) (.slice a148 z7.length c148), Own 3 (rowT z8) (.slice a149 z8.length c149), Own 3 (rowT z9) (.slice a150 z9.length c150), Box p36 [.slice a149 z8.length c149, .slice a150 z9.length c150, .int .i64 z10]] := HT
  refine ⟨_, rfl, nS, fun a HF => ?_⟩
  refine wc_not HF nS rfl (HF.wy rfl rfl rfl rfl (notT hb15)) rfl fun a HF => ?_
  refine wc_pick (b := false) HF nS rfl (notT hb15) rfl rfl rfl fun a HF => ?_
  refine wc_end ?_
  have HT := HT.p7.p7.p7.p7.t4
  obtain rfl := Option.some.inj h
  exact then_n ⟨(HF.keep (HF.keep (HF.keep (HF.keep HF.nil rfl) rfl) rfl) rfl), HT⟩
  have h := ifn hb15 h
  refine wc_skip HF nS (HF.wn rfl rfl rfl rfl (notF (Bool.eq_false_iff.2 hb15))) rfl fun a HF => ?_
  refine wc_skip HF nS (HF.wn rfl rfl rfl rfl (notF (Bool.eq_false_iff.2 hb15))) rfl fun a HF => ?_
  refine wc_skip HF nS (HF.wn rfl rfl rfl rfl (notF (Bool.eq_false_iff.2 hb15))) rfl fun a HF => ?_
  refine wc_skip HF nS (HF.wn rfl rfl rfl rfl (notF (Bool.eq_false_iff.2 hb15))) rfl fun a HF => ?_
  refine wc_pick (b := true) HF nS rfl (notF (Bool.eq_false_iff.2 hb15)) rfl rfl rfl fun a HF => ?_
  refine wc_end ?_
  have HT := HT.p7.p7.p7.p7.t4
  obtain rfl := Option.some.inj h
  exact then_n ⟨(HF.keep (HF.keep (HF.keep (HF.keep HF.nil rfl) rfl) rfl) rfl), HT⟩
  rintro a w ⟨HF, HT⟩
  refine ?_
  by_cases hb16 : z11 = true
  have h := ifp hb16 h
  refine wp_if (b' := true) HF rfl hb16 ?_
  refine wp_seq (wc_text (wa HF rfl rfl rfl fun a HF => ?_))
  refine wc_end (then_n (wp_ret ?_))
  obtain rfl := Option.some.inj h
  have h := retL hk1
  obtain rfl := Option.some.inj h
  refine then_r (?_)
  refine bp_ret HF (res_one rfl HF rfl) ?_
  have HT := HT.t0
  exact ⟨rfl, HT⟩
  have h := ifn hb16 h
  refine wp_if (b' := false) HF rfl (Bool.eq_false_iff.2 hb16) ?_
  exact wp_skip (then_n ⟨(Option.some.inj h).symm, (HF.keep (HF.keep (HF.keep HF.nil rfl) rfl) rfl), HT⟩)
  rintro a w ⟨rfl, HF, HT⟩
  have h := brkL1u h
  refine ?_
  refine wp_seq (wc_text (wa HF rfl rfl rfl fun a HF => ?_))
  refine wc_end (then_n (wp_seq (wc_text (wm HF rfl rfl rfl fun a HF => ?_))))
  refine wm HF rfl rfl rfl fun a HF => ?_
  obtain ⟨y59, hx43, h⟩ := obs h
  refine wc_call HF cf49 rfl (w_laws_heldRunS fuel hx43 (HT.rdAAt 0 rfl)) rfl rfl ?_
  rintro e w ⟨rfl, hE⟩
  have hb := hE.below
  have HT := HT.pure hE
  have HT : St w0 (fun _ => False) w [OwnA (rowT y42) (.slice a141 y18.length c141), OwnA (rowT y44) (.slice a142 y19.length c142), OwnA (rowT y45) (.slice a143 y20.length c143), Box p35 [.slice a142 y19.length c142, .slice a143 y20.length c143, .int .i64 y21]] := HT
  refine ⟨_, rfl, nS, fun a HF => ?_⟩
  refine wa HF rfl rfl rfl fun a HF => ?_
  refine wc_end (then_n (wp_seq (wp_seq (wc_text (wm HF rfl rfl rfl fun a HF => ?_)))))
  refine wc_bin HF nS rfl rfl b_lt rfl rfl fun a HF => ?_
  refine wc_end (then_n ?_)
  by_cases hb17 : y59 < 0
  have h := ifp hb17 h
  refine wp_if (b' := true) HF rfl (decide_eq_true hb17) ?_
  refine wp_seq (wc_text (wa HF rfl rfl rfl fun a HF => ?_))
  refine wc_end (then_n (wp_ret ?_))
  obtain rfl := Option.some.inj h
  refine then_r (?_)
  refine bp_ret HF (res_one rfl HF rfl) ?_
  have HT := HT.t0
  exact ⟨rfl, HT⟩
  have h := ifn hb17 h
  refine wp_if (b' := false) HF rfl (decide_eq_false hb17) ?_
  refine wp_skip (then_n (wp_seq (wc_text (wc_loadA (vs := [.slice a142 y19.length c142, .slice a143 y20.length c143, .int .i64 y21]) HF rfl ag27 rfl ((HT.boxAt 3 rfl).part 0 3) rfl rfl fun a HF => ?_))))
  refine wm HF rfl rfl rfl fun a HF => ?_
  obtain ⟨y60, hx44, h⟩ := obs h
  refine wc_call HF cf50 rfl (w_laws_heldThings fuel hx44 (HT.rdAAt 1 rfl) (HT.rdAAt 2 rfl)) rfl rfl ?_
  rintro e w ⟨rfl, hE⟩
  have hb := hE.below
  have HT := HT.pure hE
  have HT : St w0 (fun _ => False) w [OwnA (rowT y42) (.slice a141 y18.length c141), OwnA (rowT y44) (.slice a142 y19.length c142), OwnA (rowT y45) (.slice a143 y20.length c143), Box p35 [.slice a142 y19.length c142, .slice a143 y20.length c143, .int .i64 y21]] := HT
  refine ⟨_, rfl, nS, fun a HF => ?_⟩
  refine wa HF rfl rfl rfl fun a HF => ?_
  refine wc_end (then_n (wp_seq (wp_seq (wc_text (wm HF rfl rfl rfl fun a HF => ?_)))))
  refine wc_bin HF nS rfl rfl b_lt rfl rfl fun a HF => ?_
  refine wc_end (then_n ?_)
  by_cases hb18 : y60 < 0
  have h := ifp hb18 h
  refine wp_if (b' := true) HF rfl (decide_eq_true hb18) ?_
  refine wp_seq (wc_text (wa HF rfl rfl rfl fun a HF => ?_))
  refine wc_end (then_n (wp_ret ?_))
  obtain rfl := Option.some.inj h
  refine then_r (?_)
  refine bp_ret HF (res_one rfl HF rfl) ?_
  have HT := HT.t0
  exact ⟨rfl, HT⟩
  have h := ifn hb18 h
  refine wp_if (b' := false) HF rfl (decide_eq_false hb18) ?_
  refine wp_skip (then_n (wp_seq (wp_seq (wc_text (wm HF rfl rfl rfl fun a HF => ?_)))))
  refine wm HF rfl rfl rfl fun a HF => ?_
  refine wc_bin HF nS rfl rfl b_ne rfl rfl fun a HF => ?_
  refine wc_end (then_n ?_)
  by_cases hb19 : y60 = y43
  have h := ifp hb19 h
  refine wp_if (b' := false) HF rfl (notT (decide_eq_true hb19)) ?_
  refine wp_skip (then_n (wp_seq (wc_text (wa HF rfl rfl rfl fun a HF => ?_))))
  refine wc_end (then_n (wp_ret ?_))
  obtain rfl := Option.some.inj h
  refine bp_ret HF (res_one rfl HF rfl) ?_
  have HT := HT.t0
  exact ⟨rfl, HT⟩
  have h := ifn hb19 h
  refine wp_if (b' := true) HF rfl (notF (decide_eq_false hb19)) ?_
  refine wp_seq (wc_text (wa HF rfl rfl rfl fun a HF => ?_))
  refine wc_end (then_n (wp_ret ?_))
  obtain rfl := Option.some.inj h
  refine then_r (?_)
  refine bp_ret HF (res_one rfl HF rfl) ?_
  have HT := HT.t0
  exact ⟨rfl, HT⟩
  have h := ifn hb14 h
  refine wp_if (b' := true) HF rfl (notF (decide_eq_false hb14)) ?_
  refine wp_seq (wc_text (wa HF rfl rfl rfl fun a HF => ?_))
  refine wc_end (then_n (wp_ret ?_))
  obtain rfl := Option.some.inj h
  refine then_r (?_)
  refine bp_ret HF (res_one rfl HF rfl) ?_
  have HT := HT.t0
  exact ⟨rfl, HT⟩
  have h := ifn hb8 h
  refine wp_if (b' := true) HF rfl (notF (Bool.eq_false_iff.2 hb8)) ?_
  refine wp_seq (wc_text (wa HF rfl rfl rfl fun a HF => ?_))
  refine wc_end (then_n (wp_ret ?_))
  obtain rfl := Option.some.inj h
  refine then_r (?_)
  refine bp_ret HF (res_one rfl HF rfl) ?_
  have HT := HT.t0
  exact ⟨rfl, HT⟩
  have h := ifn hb7 h
  refine wp_if (b' := true) HF rfl (notF (Bool.eq_false_iff.2 hb7)) ?_
  refine wp_seq (wc_text (wa HF rfl rfl rfl fun a HF => ?_))
  refine wc_end (then_n (wp_ret ?_))
  obtain rfl := Option.some.inj h
  refine then_r (?_)
  refine bp_ret HF (res_one rfl HF rfl) ?_
  have HT := HT.t0
  exact ⟨rfl, HT⟩
  have h := ifn hb6 h
  refine wp_if (b' := true) HF rfl (notF (Bool.eq_false_iff.2 hb6)) ?_
  refine wp_seq (wc_text (wa HF rfl rfl rfl fun a HF => ?_))
  refine wc_end (then_n (wp_ret ?_))
  obtain rfl := Option.some.inj h
  refine then_r (?_)
  refine bp_ret HF (res_one rfl HF rfl) ?_
  have HT := HT.t0
  exact ⟨rfl, HT⟩

end Go.Proofs.Ytknghnmcckjjbaa
