/- Walks of functions, by program: impl.SerialKid, laws.eqIntS, laws.eqOp, laws.eqOpS, laws.heldIntS, laws.markIntS, laws.markOpS, laws.szOpS, laws.toIntS, laws.toOp, laws.toOpS, spec.l1In, spec.l3Cell, spec.l3Val, spec.l4Reg, spec.OpOk, spec.l5Skip, spec.CodeOk, spec.HasFork, spec.Touches, spec.KidOk, spec.l3Vals, spec.l4Regs, spec.Calc, spec.EndOf, spec.l7Copy. -/
import Derived.Test.YtknghnmcckjjbaaTy
import Derived.Test.YtknghnmcckjjbaaS1
namespace Go.Proofs.Ytknghnmcckjjbaa
open Go Go.RowKit
set_option linter.unusedVariables false
set_option linter.unusedSimpArgs false
def m_spec_l1In (fuel : Nat) (x0 : Int) (x1 : Int) (x2 : Int) : Option Bool :=
  if x1 ≤ x0 then
    some (decide (x0 ≤ x2))
  else
  some false

set_option maxRecDepth 100000 in
set_option maxHeartbeats 4000000 in
theorem w_spec_l1In (fuel : Nat) {x0 : Int} {x1 : Int} {x2 : Int} {r0 : Bool} {w0 : World} (h : m_spec_l1In fuel x0 x1 x2 = some r0) :
    Calls Try.prog 61 #[.int .i64 x0, .int .i64 x1, .int .i64 x2] w0 fun e w => e = .returned (.bool r0) ∧ St w0 (fun _ => False) w [] := by
  have HT : St w0 (fun _ => False) w0 [] := St.init0
  rw [m_spec_l1In] at h
  refine calls_fr (n := 15) [.int .i64 x0, .int .i64 x1, .int .i64 x2] Try.func61 rfl rfl rfl fun a HF => ?_
  have HT : St w0 (fun _ => False) w0 [] := HT
  refine wp_seq (wc_text (wa HF rfl rfl rfl fun a HF => ?_))
  refine wc_end (then_n (wp_seq (wc_text (wm HF rfl rfl rfl fun a HF => ?_))))
  refine wm HF rfl rfl rfl fun a HF => ?_
  refine wc_bin HF nS rfl rfl b_ge rfl rfl fun a HF => ?_
  refine wm HF rfl rfl rfl fun a HF => ?_
  by_cases hb1 : x1 ≤ x0
  have h := ifp hb1 h
  refine wc_move HF nS rfl (HF.wy rfl rfl rfl rfl (decide_eq_true hb1)) rfl fun a HF => ?_
  refine wc_move HF nS rfl (HF.wy rfl rfl rfl rfl (decide_eq_true hb1)) rfl fun a HF => ?_
  refine wc_bin HF nS rfl rfl b_le (HF.wy rfl rfl rfl rfl (decide_eq_true hb1)) rfl fun a HF => ?_
  refine wc_pick (b := true) HF nS rfl (decide_eq_true hb1) rfl rfl rfl fun a HF => ?_
  refine wa HF rfl rfl rfl fun a HF => ?_
  refine wc_end (then_n (wp_ret ?_))
  obtain rfl := Option.some.inj h
  refine bp_ret HF (res_one rfl HF rfl) ?_
  exact ⟨rfl, HT⟩
  have h := ifn hb1 h
  refine wc_skip HF nS (HF.wn rfl rfl rfl rfl (decide_eq_false hb1)) rfl fun a HF => ?_
  refine wc_skip HF nS (HF.wn rfl rfl rfl rfl (decide_eq_false hb1)) rfl fun a HF => ?_
  refine wc_skip HF nS (HF.wn rfl rfl rfl rfl (decide_eq_false hb1)) rfl fun a HF => ?_
  refine wc_pick (b := false) HF nS rfl (decide_eq_false hb1) rfl rfl rfl fun a HF => ?_
  refine wa HF rfl rfl rfl fun a HF => ?_
  refine wc_end (then_n (wp_ret ?_))
  obtain rfl := Option.some.inj h
  refine bp_ret HF (res_one rfl HF rfl) ?_
  exact ⟨rfl, HT⟩

def m_spec_l3Cell (fuel : Nat) (x0 : Int) : Option Bool :=
  (m_spec_l1In fuel x0 0 7).bind fun y1 =>
  some y1

set_option maxRecDepth 100000 in
set_option maxHeartbeats 4000000 in
theorem w_spec_l3Cell (fuel : Nat) {x0 : Int} {r0 : Bool} {w0 : World} (h : m_spec_l3Cell fuel x0 = some r0) :
    Calls Try.prog 132 #[.int .i64 x0] w0 fun e w => e = .returned (.bool r0) ∧ St w0 (fun _ => False) w [] := by
  have HT : St w0 (fun _ => False) w0 [] := St.init0
  rw [m_spec_l3Cell] at h
  refine calls_fr (n := 5) [.int .i64 x0] Try.func132 rfl rfl rfl fun a HF => ?_
  have HT : St w0 (fun _ => False) w0 [] := HT
  refine wp_seq (wc_text (wa HF rfl rfl rfl fun a HF => ?_))
  refine wc_end (then_n (wp_seq (wc_text (wm HF rfl rfl rfl fun a HF => ?_))))
  obtain ⟨y1, hx1, h⟩ := obs h
  refine wc_call HF cf61 rfl (w_spec_l1In fuel hx1) rfl rfl ?_
  rintro e w ⟨rfl, hE⟩
  have hb := hE.below
  have HT := HT.pure hE
  have HT : St w0 (fun _ => False) w [] := HT
  refine ⟨_, rfl, nS, fun a HF => ?_⟩
  refine wa HF rfl rfl rfl fun a HF => ?_
  refine wc_end (then_n (wp_ret ?_))
  obtain rfl := Option.some.inj h
  refine bp_ret HF (res_one rfl HF rfl) ?_
  exact ⟨rfl, HT⟩

def m_spec_l3Val (fuel : Nat) (x0 : Int) : Option Bool :=
  (m_spec_l1In fuel x0 0 65535).bind fun y1 =>
  some y1

set_option maxRecDepth 100000 in
set_option maxHeartbeats 4000000 in
theorem w_spec_l3Val (fuel : Nat) {x0 : Int} {r0 : Bool} {w0 : World} (h : m_spec_l3Val fuel x0 = some r0) :
    Calls Try.prog 60 #[.int .i64 x0] w0 fun e w => e = .returned (.bool r0) ∧ St w0 (fun _ => False) w [] := by
  have HT : St w0 (fun _ => False) w0 [] := St.init0
  rw [m_spec_l3Val] at h
  refine calls_fr (n := 5) [.int .i64 x0] Try.func60 rfl rfl rfl fun a HF => ?_
  have HT : St w0 (fun _ => False) w0 [] := HT
  refine wp_seq (wc_text (wa HF rfl rfl rfl fun a HF => ?_))
  refine wc_end (then_n (wp_seq (wc_text (wm HF rfl rfl rfl fun a HF => ?_))))
  obtain ⟨y1, hx1, h⟩ := obs h
  refine wc_call HF cf61 rfl (w_spec_l1In fuel hx1) rfl rfl ?_
  rintro e w ⟨rfl, hE⟩
  have hb := hE.below
  have HT := HT.pure hE
  have HT : St w0 (fun _ => False) w [] := HT
  refine ⟨_, rfl, nS, fun a HF => ?_⟩
  refine wa HF rfl rfl rfl fun a HF => ?_
  refine wc_end (then_n (wp_ret ?_))
  obtain rfl := Option.some.inj h
  refine bp_ret HF (res_one rfl HF rfl) ?_
  exact ⟨rfl, HT⟩

def m_spec_l4Reg (fuel : Nat) (x0 : Int) : Option Bool :=
  (m_spec_l1In fuel x0 0 3).bind fun y1 =>
  some y1

set_option maxRecDepth 100000 in
set_option maxHeartbeats 4000000 in
theorem w_spec_l4Reg (fuel : Nat) {x0 : Int} {r0 : Bool} {w0 : World} (h : m_spec_l4Reg fuel x0 = some r0) :
    Calls Try.prog 131 #[.int .i64 x0] w0 fun e w => e = .returned (.bool r0) ∧ St w0 (fun _ => False) w [] := by
  have HT : St w0 (fun _ => False) w0 [] := St.init0
  rw [m_spec_l4Reg] at h
  refine calls_fr (n := 5) [.int .i64 x0] Try.func131 rfl rfl rfl fun a HF => ?_
  have HT : St w0 (fun _ => False) w0 [] := HT
  refine wp_seq (wc_text (wa HF rfl rfl rfl fun a HF => ?_))
  refine wc_end (then_n (wp_seq (wc_text (wm HF rfl rfl rfl fun a HF => ?_))))
  obtain ⟨y1, hx1, h⟩ := obs h
  refine wc_call HF cf61 rfl (w_spec_l1In fuel hx1) rfl rfl ?_
  rintro e w ⟨rfl, hE⟩
  have hb := hE.below
  have HT := HT.pure hE
  have HT : St w0 (fun _ => False) w [] := HT
  refine ⟨_, rfl, nS, fun a HF => ?_⟩
  refine wa HF rfl rfl rfl fun a HF => ?_
  refine wc_end (then_n (wp_ret ?_))
  obtain rfl := Option.some.inj h
  refine bp_ret HF (res_one rfl HF rfl) ?_
  exact ⟨rfl, HT⟩

def m_spec_OpOk (fuel : Nat) (x0_0 : Int) (x0_1 : Int) (x0_2 : Int) (x0_3 : Int) : Option Bool :=
  (
    if x0_0 = 1 then
      (m_spec_l4Reg fuel x0_1).bind fun y1 =>
      if y1 = true then
        (m_spec_l3Val fuel x0_2).bind fun y2 =>
        if y2 = true then
          some (.ret (decide (x0_3 = 0)))
        else
        some (.ret false)
      else
      some (.ret false)
    else
    (
      if x0_0 = 2 then
        some (decide (x0_0 = 2))
      else
      if x0_0 = 3 then
        some (decide (x0_0 = 3))
      else
      some (decide (x0_0 = 4))).bind fun z1 =>
    if z1 = true then
      (m_spec_l4Reg fuel x0_1).bind fun y3 =>
      if y3 = true then
        (m_spec_l4Reg fuel x0_2).bind fun y4 =>
        if y4 = true then
          (m_spec_l4Reg fuel x0_3).bind fun y5 =>
          some (.ret y5)
        else
        some (.ret false)
      else
      some (.ret false)
    else
    if x0_0 = 5 then
      (m_spec_l4Reg fuel x0_1).bind fun y6 =>
      if y6 = true then
        (m_spec_l3Cell fuel x0_2).bind fun y7 =>
        if y7 = true then
          some (.ret (decide (x0_3 = 0)))
        else
        some (.ret false)
      else
      some (.ret false)
    else
    if x0_0 = 6 then
      (m_spec_l3Cell fuel x0_1).bind fun y8 =>
      if y8 = true then
        (m_spec_l4Reg fuel x0_2).bind fun y9 =>
        if y9 = true then
          some (.ret (decide (x0_3 = 0)))
        else
        some (.ret false)
      else
      some (.ret false)
    else
    if x0_0 = 7 then
      (m_spec_l4Reg fuel x0_1).bind fun y10 =>
      if y10 = true then
        (m_spec_l1In fuel x0_2 1 20).bind fun y11 =>
        if y11 = true then
          some (.ret (decide (x0_3 = 0)))
        else
        some (.ret false)
      else
      some (.ret false)
    else
    (
      if x0_0 = 8 then
        some (decide (x0_0 = 8))
      else
      if x0_0 = 15 then
        some (decide (x0_0 = 15))
      else
      some (decide (x0_0 = 16))).bind fun z2 =>
    if z2 = true then
      (m_spec_l4Reg fuel x0_1).bind fun y12 =>
      if y12 = true then
        if x0_2 = 0 then
          some (.ret (decide (x0_3 = 0)))
        else
        some (.ret false)
      else
      some (.ret false)
    else
    (
      if x0_0 = 9 then
        some (decide (x0_0 = 9))
      else
      if x0_0 = 10 then
        some (decide (x0_0 = 10))
      else
      some (decide (x0_0 = 11))).bind fun z3 =>
    if z3 = true then
      if x0_1 = 0 then
        if x0_2 = 0 then
          some (.ret (decide (x0_3 = 0)))
        else
        some (.ret false)
      else
      some (.ret false)
    else
    if x0_0 = 12 then
      (m_spec_l1In fuel x0_1 0 7).bind fun y13 =>
      if y13 = true then
        (m_spec_l4Reg fuel x0_2).bind fun y14 =>
        if y14 = true then
          (m_spec_l4Reg fuel x0_3).bind fun y15 =>
          some (.ret y15)
        else
        some (.ret false)
      else
      some (.ret false)
    else
    if x0_0 = 13 then
      (m_spec_l4Reg fuel x0_1).bind fun y16 =>
      if y16 = true then
        (m_spec_l1In fuel x0_2 0 7).bind fun y17 =>
        if y17 = true then
          some (.ret (decide (x0_3 = 0)))
        else
        some (.ret false)
      else
      some (.ret false)
    else
    if x0_0 = 14 then
      (m_spec_l1In fuel x0_1 0 7).bind fun y18 =>
      if y18 = true then
        (m_spec_l4Reg fuel x0_2).bind fun y19 =>
        if y19 = true then
          some (.ret (decide (x0_3 = 0)))
        else
        some (.ret false)
      else
      some (.ret false)
    else
    some (.brk ())).bind <| contL <| un1 fun _ =>
  some false

set_option maxRecDepth 100000 in
set_option maxHeartbeats 4000000 in
theorem w_spec_OpOk (fuel : Nat) {x0_0 : Int} {x0_1 : Int} {x0_2 : Int} {x0_3 : Int} {r0 : Bool} {w0 : World} (h : m_spec_OpOk fuel x0_0 x0_1 x0_2 x0_3 = some r0) :
    Calls Try.prog 117 #[.agg #[.int .i64 x0_0, .int .i64 x0_1, .int .i64 x0_2, .int .i64 x0_3]] w0 fun e w => e = .returned (.bool r0) ∧ St w0 (fun _ => False) w [] := by
  have HT : St w0 (fun _ => False) w0 [] := St.init0
  rw [m_spec_OpOk] at h
  refine calls_fr (n := 161) [.agg #[.int .i64 x0_0, .int .i64 x0_1, .int .i64 x0_2, .int .i64 x0_3]] Try.func117 rfl rfl rfl fun a HF => ?_
  have HT : St w0 (fun _ => False) w0 [] := HT
  refine wp_seq (wc_text (wc_box (cs := [.int .i64 x0_0, .int .i64 x0_1, .int .i64 x0_2, .int .i64 x0_3]) HF HT rfl rfl rfl rfl (fun p1 w HT hb => ⟨nS, fun a HF => ?_⟩)))
  refine wa HF rfl rfl rfl fun a HF => ?_
  refine wc_end (then_n ?_)
  obtain ⟨q1, hx1, h⟩ := obs h
  refine wp_cut (fun a w => q1 = .brk () ∧ Fr a 161 [] ∧ St w0 (fun _ => False) w []) ?_ ?_
  have hk1 := h
  have h := hx1
  refine wp_seq (wc_text (wc_faddr HF nS rfl fl85_0 rfl rfl fun a HF => ?_))
  refine wc_load HF rfl sc3 ((HT.boxAt 0 rfl).get 0 rfl) rfl rfl fun a HF => ?_
  refine wc_end (then_n (wp_block (wp_seq (wc_text (wc_bin HF nS rfl rfl b_eq rfl rfl fun a HF => ?_)))))
  refine wa HF rfl rfl rfl fun a HF => ?_
  refine wc_end (then_n ?_)
  by_cases hb1 : x0_0 = 1
  have h := ifp hb1 h
  refine wp_if (b' := true) HF rfl (decide_eq_true hb1) ?_
  refine wp_seq (wc_text (wc_faddr HF nS rfl fl85_1 rfl rfl fun a HF => ?_))
  refine wc_load HF rfl sc3 ((HT.boxAt 0 rfl).get 1 rfl) rfl rfl fun a HF => ?_
  obtain ⟨y1, hx2, h⟩ := obs h
  refine wc_call HF cf131 rfl (w_spec_l4Reg fuel hx2) rfl rfl ?_
  rintro e w ⟨rfl, hE⟩
  have hb := hE.below
  have HT := HT.pure hE
  have HT : St w0 (fun _ => False) w [Box p1 [.int .i64 x0_0, .int .i64 x0_1, .int .i64 x0_2, .int .i64 x0_3]] := HT
  refine ⟨_, rfl, nS, fun a HF => ?_⟩
  refine wm HF rfl rfl rfl fun a HF => ?_
  by_cases hb2 : y1 = true
  have h := ifp hb2 h
  refine wc_faddr HF nS rfl fl85_2 (HF.wy rfl rfl rfl rfl hb2) rfl fun a HF => ?_
  refine wc_load HF rfl sc3 ((HT.boxAt 0 rfl).get 2 rfl) (HF.wy rfl rfl rfl rfl hb2) rfl fun a HF => ?_
  obtain ⟨y2, hx3, h⟩ := obs h
  refine wc_call HF cf60 rfl (w_spec_l3Val fuel hx3) (HF.wy rfl rfl rfl rfl hb2) rfl ?_
  rintro e w ⟨rfl, hE⟩
  have hb := hE.below
  have HT := HT.pure hE
  have HT : St w0 (fun _ => False) w [Box p1 [.int .i64 x0_0, .int .i64 x0_1, .int .i64 x0_2, .int .i64 x0_3]] := HT
  refine ⟨_, rfl, nS, fun a HF => ?_⟩
  refine wc_pick (b := true) HF nS rfl hb2 rfl rfl rfl fun a HF => ?_
  refine wm HF rfl rfl rfl fun a HF => ?_
  by_cases hb3 : y2 = true
  have h := ifp hb3 h
  refine wc_faddr HF nS rfl fl85_3 (HF.wy rfl rfl rfl rfl hb3) rfl fun a HF => ?_
  refine wc_load HF rfl sc3 ((HT.boxAt 0 rfl).get 3 rfl) (HF.wy rfl rfl rfl rfl hb3) rfl fun a HF => ?_
  refine wc_bin HF nS rfl rfl b_eq (HF.wy rfl rfl rfl rfl hb3) rfl fun a HF => ?_
  refine wc_pick (b := true) HF nS rfl hb3 rfl rfl rfl fun a HF => ?_
  refine wa HF rfl rfl rfl fun a HF => ?_
  refine wc_end (then_n (wp_ret ?_))
  obtain rfl := Option.some.inj h
  have h := retL hk1
  obtain rfl := Option.some.inj h
  refine blk_r (then_r (?_))
  refine bp_ret HF (res_one rfl HF rfl) ?_
  have HT := HT.t0
  exact ⟨rfl, HT⟩
  have h := ifn hb3 h
  refine wc_skip HF nS (HF.wn rfl rfl rfl rfl (Bool.eq_false_iff.2 hb3)) rfl fun a HF => ?_
  refine wc_skip HF nS (HF.wn rfl rfl rfl rfl (Bool.eq_false_iff.2 hb3)) rfl fun a HF => ?_
  refine wc_skip HF nS (HF.wn rfl rfl rfl rfl (Bool.eq_false_iff.2 hb3)) rfl fun a HF => ?_
  refine wc_pick (b := false) HF nS rfl (Bool.eq_false_iff.2 hb3) rfl rfl rfl fun a HF => ?_
  refine wa HF rfl rfl rfl fun a HF => ?_
  refine wc_end (then_n (wp_ret ?_))
  obtain rfl := Option.some.inj h
  have h := retL hk1
  obtain rfl := Option.some.inj h
  refine blk_r (then_r (?_))
  refine bp_ret HF (res_one rfl HF rfl) ?_
  have HT := HT.t0
  exact ⟨rfl, HT⟩
  have h := ifn hb2 h
  refine wc_skip HF nS (HF.wn rfl rfl rfl rfl (Bool.eq_false_iff.2 hb2)) rfl fun a HF => ?_
  refine wc_skip HF nS (HF.wn rfl rfl rfl rfl (Bool.eq_false_iff.2 hb2)) rfl fun a HF => ?_
  refine wc_skip HF nS (HF.wn rfl rfl rfl rfl (Bool.eq_false_iff.2 hb2)) rfl fun a HF => ?_
  refine wc_pick (b := false) HF nS rfl (Bool.eq_false_iff.2 hb2) rfl rfl rfl fun a HF => ?_
  refine wm HF rfl rfl rfl fun a HF => ?_
  refine wc_skip HF nS (HF.wn rfl rfl rfl rfl rfl) rfl fun a HF => ?_
  refine wc_skip HF nS (HF.wn rfl rfl rfl rfl rfl) rfl fun a HF => ?_
  refine wc_skip HF nS (HF.wn rfl rfl rfl rfl rfl) rfl fun a HF => ?_
  refine wc_pick (b := false) HF nS rfl rfl rfl rfl rfl fun a HF => ?_
  refine wa HF rfl rfl rfl fun a HF => ?_
  refine wc_end (then_n (wp_ret ?_))
  obtain rfl := Option.some.inj h
  have h := retL hk1
  obtain rfl := Option.some.inj h
  refine blk_r (then_r (?_))
  refine bp_ret HF (res_one rfl HF rfl) ?_
  have HT := HT.t0
  exact ⟨rfl, HT⟩
  have h := ifn hb1 h
  refine wp_if (b' := false) HF rfl (decide_eq_false hb1) ?_
  obtain ⟨z1, hx4, h⟩ := obs h
  refine wp_cut (fun a w => Fr a 161 [(1, .pointer (some ⟨p1, 0, none⟩)), (4, .int .i64 x0_0), (20, .bool z1)] ∧ St w0 (fun _ => False) w [Box p1 [.int .i64 x0_0, .int .i64 x0_1, .int .i64 x0_2, .int .i64 x0_3]]) ?_ ?_
  have hk2 := h
  have h := hx4
  refine wp_seq (wc_text (wc_bin HF nS rfl rfl b_eq rfl rfl fun a HF => ?_))
  refine wa HF rfl rfl rfl fun a HF => ?_
  refine wc_end (then_n ?_)
  by_cases hb4 : x0_0 = 2
  have h := ifp hb4 h
  refine wp_if (b' := true) HF rfl (decide_eq_true hb4) ?_
  refine wp_skip ?_
  obtain rfl := Option.some.inj h
  exact then_n ⟨(HF.keep (HF.keep (HF.keep HF.nil rfl) rfl) rfl), HT⟩
  have h := ifn hb4 h
  refine wp_if (b' := false) HF rfl (decide_eq_false hb4) ?_
  refine wp_seq (wc_text (wc_bin HF nS rfl rfl b_eq rfl rfl fun a HF => ?_))
  refine wa HF rfl rfl rfl fun a HF => ?_
  refine wc_end (then_n ?_)
  by_cases hb5 : x0_0 = 3
  have h := ifp hb5 h
  refine wp_if (b' := true) HF rfl (decide_eq_true hb5) ?_
  refine wp_skip ?_
  obtain rfl := Option.some.inj h
  exact then_n ⟨(HF.keep (HF.keep (HF.keep HF.nil rfl) rfl) rfl), HT⟩
  have h := ifn hb5 h
  refine wp_if (b' := false) HF rfl (decide_eq_false hb5) ?_
  refine wc_text (wc_bin HF nS rfl rfl b_eq rfl rfl fun a HF => ?_)
  refine wa HF rfl rfl rfl fun a HF => ?_
  refine wc_end ?_
  obtain rfl := Option.some.inj h
  exact then_n ⟨(HF.keep (HF.keep (HF.keep HF.nil rfl) rfl) rfl), HT⟩
  rintro a w ⟨HF, HT⟩
  refine ?_
  by_cases hb6 : z1 = true
  have h := ifp hb6 h
  refine wp_if (b' := true) HF rfl hb6 ?_
  refine wp_seq (wc_text (wc_faddr HF nS rfl fl85_1 rfl rfl fun a HF => ?_))
  refine wc_load HF rfl sc3 ((HT.boxAt 0 rfl).get 1 rfl) rfl rfl fun a HF => ?_
  obtain ⟨y3, hx5, h⟩ := obs h
  refine wc_call HF cf131 rfl (w_spec_l4Reg fuel hx5) rfl rfl ?_
  rintro e w ⟨rfl, hE⟩
  have hb := hE.below
  have HT := HT.pure hE
  have HT : St w0 (fun _ => False) w [Box p1 [.int .i64 x0_0, .int .i64 x0_1, .int .i64 x0_2, .int .i64 x0_3]] := HT
  refine ⟨_, rfl, nS, fun a HF => ?_⟩
  refine wm HF rfl rfl rfl fun a HF => ?_
  by_cases hb7 : y3 = true
  have h := ifp hb7 h
  refine wc_faddr HF nS rfl fl85_2 (HF.wy rfl rfl rfl rfl hb7) rfl fun a HF => ?_
  refine wc_load HF rfl sc3 ((HT.boxAt 0 rfl).get 2 rfl) (HF.wy rfl rfl rfl rfl hb7) rfl fun a HF => ?_
  obtain ⟨y4, hx6, h⟩ := obs h
  refine wc_call HF cf131 rfl (w_spec_l4Reg fuel hx6) (HF.wy rfl rfl rfl rfl hb7) rfl ?_
  rintro e w ⟨rfl, hE⟩
  have hb := hE.below
  have HT := HT.pure hE
  have HT : St w0 (fun _ => False) w [Box p1 [.int .i64 x0_0, .int .i64 x0_1, .int .i64 x0_2, .int .i64 x0_3]] := HT
  refine ⟨_, rfl, nS, fun a HF => ?_⟩
  refine wc_pick (b := true) HF nS rfl hb7 rfl rfl rfl fun a HF => ?_
  refine wm HF rfl rfl rfl fun a HF => ?_
  by_cases hb8 : y4 = true
  have h := ifp hb8 h
  refine wc_faddr HF nS rfl fl85_3 (HF.wy rfl rfl rfl rfl hb8) rfl fun a HF => ?_
  refine wc_load HF rfl sc3 ((HT.boxAt 0 rfl).get 3 rfl) (HF.wy rfl rfl rfl rfl hb8) rfl fun a HF => ?_
  obtain ⟨y5, hx7, h⟩ := obs h
  refine wc_call HF cf131 rfl (w_spec_l4Reg fuel hx7) (HF.wy rfl rfl rfl rfl hb8) rfl ?_
  rintro e w ⟨rfl, hE⟩
  have hb := hE.below
  have HT := HT.pure hE
  have HT : St w0 (fun _ => False) w [Box p1 [.int .i64 x0_0, .int .i64 x0_1, .int .i64 x0_2, .int .i64 x0_3]] := HT
  refine ⟨_, rfl, nS, fun a HF => ?_⟩
  refine wc_pick (b := true) HF nS rfl hb8 rfl rfl rfl fun a HF => ?_
  refine wa HF rfl rfl rfl fun a HF => ?_
  refine wc_end (then_n (wp_ret ?_))
  obtain rfl := Option.some.inj h
  have h := retL hk1
  obtain rfl := Option.some.inj h
  refine blk_r (then_r (?_))
  refine bp_ret HF (res_one rfl HF rfl) ?_
  have HT := HT.t0
  exact ⟨rfl, HT⟩
  have h := ifn hb8 h
  refine wc_skip HF nS (HF.wn rfl rfl rfl rfl (Bool.eq_false_iff.2 hb8)) rfl fun a HF => ?_
  refine wc_skip HF nS (HF.wn rfl rfl rfl rfl (Bool.eq_false_iff.2 hb8)) rfl fun a HF => ?_
  refine wc_skip HF nS (HF.wn rfl rfl rfl rfl (Bool.eq_false_iff.2 hb8)) rfl fun a HF => ?_
  refine wc_pick (b := false) HF nS rfl (Bool.eq_false_iff.2 hb8) rfl rfl rfl fun a HF => ?_
  refine wa HF rfl rfl rfl fun a HF => ?_
  refine wc_end (then_n (wp_ret ?_))
  obtain rfl := Option.some.inj h
  have h := retL hk1
  obtain rfl := Option.some.inj h
  refine blk_r (then_r (?_))
  refine bp_ret HF (res_one rfl HF rfl) ?_
  have HT := HT.t0
  exact ⟨rfl, HT⟩
  have h := ifn hb7 h
  refine wc_skip HF nS (HF.wn rfl rfl rfl rfl (Bool.eq_false_iff.2 hb7)) rfl fun a HF => ?_
  refine wc_skip HF nS (HF.wn rfl rfl rfl rfl (Bool.eq_false_iff.2 hb7)) rfl fun a HF => ?_
  refine wc_skip HF nS (HF.wn rfl rfl rfl rfl (Bool.eq_false_iff.2 hb7)) rfl fun a HF => ?_
  refine wc_pick (b := false) HF nS rfl (Bool.eq_false_iff.2 hb7) rfl rfl rfl fun a HF => ?_
  refine wm HF rfl rfl rfl fun a HF => ?_
  refine wc_skip HF nS (HF.wn rfl rfl rfl rfl rfl) rfl fun a HF => ?_
  refine wc_skip HF nS (HF.wn rfl rfl rfl rfl rfl) rfl fun a HF => ?_
  refine wc_skip HF nS (HF.wn rfl rfl rfl rfl rfl) rfl fun a HF => ?_
  refine wc_pick (b := false) HF nS rfl rfl rfl rfl rfl fun a HF => ?_
  refine wa HF rfl rfl rfl fun a HF => ?_
  refine wc_end (then_n (wp_ret ?_))
  obtain rfl := Option.some.inj h
  have h := retL hk1
  obtain rfl := Option.some.inj h
  refine blk_r (then_r (?_))
  refine bp_ret HF (res_one rfl HF rfl) ?_
  have HT := HT.t0
  exact ⟨rfl, HT⟩
  have h := ifn hb6 h
  refine wp_if (b' := false) HF rfl (Bool.eq_false_iff.2 hb6) ?_
  refine wp_seq (wc_text (wc_bin HF nS rfl rfl b_eq rfl rfl fun a HF => ?_))
  refine wa HF rfl rfl rfl fun a HF => ?_
  refine wc_end (then_n ?_)
  by_cases hb9 : x0_0 = 5
  have h := ifp hb9 h
  refine wp_if (b' := true) HF rfl (decide_eq_true hb9) ?_
  refine wp_seq (wc_text (wc_faddr HF nS rfl fl85_1 rfl rfl fun a HF => ?_))
  refine wc_load HF rfl sc3 ((HT.boxAt 0 rfl).get 1 rfl) rfl rfl fun a HF => ?_
  obtain ⟨y6, hx8, h⟩ := obs h
  refine wc_call HF cf131 rfl (w_spec_l4Reg fuel hx8) rfl rfl ?_
  rintro e w ⟨rfl, hE⟩
  have hb := hE.below
  have HT := HT.pure hE
  have HT : St w0 (fun _ => False) w [Box p1 [.int .i64 x0_0, .int .i64 x0_1, .int .i64 x0_2, .int .i64 x0_3]] := HT
  refine ⟨_, rfl, nS, fun a HF => ?_⟩
  refine wm HF rfl rfl rfl fun a HF => ?_
  by_cases hb10 : y6 = true
  have h := ifp hb10 h
  refine wc_faddr HF nS rfl fl85_2 (HF.wy rfl rfl rfl rfl hb10) rfl fun a HF => ?_
  refine wc_load HF rfl sc3 ((HT.boxAt 0 rfl).get 2 rfl) (HF.wy rfl rfl rfl rfl hb10) rfl fun a HF => ?_
  obtain ⟨y7, hx9, h⟩ := obs h
  refine wc_call HF cf132 rfl (w_spec_l3Cell fuel hx9) (HF.wy rfl rfl rfl rfl hb10) rfl ?_
  rintro e w ⟨rfl, hE⟩
  have hb := hE.below
  have HT := HT.pure hE
  have HT : St w0 (fun _ => False) w [Box p1 [.int .i64 x0_0, .int .i64 x0_1, .int .i64 x0_2, .int .i64 x0_3]] := HT
  refine ⟨_, rfl, nS, fun a HF => ?_⟩
  refine wc_pick (b := true) HF nS rfl hb10 rfl rfl rfl fun a HF => ?_
  refine wm HF rfl rfl rfl fun a HF => ?_
  by_cases hb11 : y7 = true
  have h := ifp hb11 h
  refine wc_faddr HF nS rfl fl85_3 (HF.wy rfl rfl rfl rfl hb11) rfl fun a HF => ?_
  refine wc_load HF rfl sc3 ((HT.boxAt 0 rfl).get 3 rfl) (HF.wy rfl rfl rfl rfl hb11) rfl fun a HF => ?_
  refine wc_bin HF nS rfl rfl b_eq (HF.wy rfl rfl rfl rfl hb11) rfl fun a HF => ?_
  refine wc_pick (b := true) HF nS rfl hb11 rfl rfl rfl fun a HF => ?_
  refine wa HF rfl rfl rfl fun a HF => ?_
  refine wc_end (then_n (wp_ret ?_))
  obtain rfl := Option.some.inj h
  have h := retL hk1
  obtain rfl := Option.some.inj h
  refine blk_r (then_r (?_))
  refine bp_ret HF (res_one rfl HF rfl) ?_
  have HT := HT.t0
  exact ⟨rfl, HT⟩
  have h := ifn hb11 h
  refine wc_skip HF nS (HF.wn rfl rfl rfl rfl (Bool.eq_false_iff.2 hb11)) rfl fun a HF => ?_
  refine wc_skip HF nS (HF.wn rfl rfl rfl rfl (Bool.eq_false_iff.2 hb11)) rfl fun a HF => ?_
  refine wc_skip HF nS (HF.wn rfl rfl rfl rfl (Bool.eq_false_iff.2 hb11)) rfl fun a HF => ?_
  refine wc_pick (b := false) HF nS rfl (Bool.eq_false_iff.2 hb11) rfl rfl rfl fun a HF => ?_
  refine wa HF rfl rfl rfl fun a HF => ?_
  refine wc_end (then_n (wp_ret ?_))
  obtain rfl := Option.some.inj h
  have h := retL hk1
  obtain rfl := Option.some.inj h
  refine blk_r (then_r (?_))
  refine bp_ret HF (res_one rfl HF rfl) ?_
  have HT := HT.t0
  exact ⟨rfl, HT⟩
  have h := ifn hb10 h
  refine wc_skip HF nS (HF.wn rfl rfl rfl rfl (Bool.eq_false_iff.2 hb10)) rfl fun a HF => ?_
  refine wc_skip HF nS (HF.wn rfl rfl rfl rfl (Bool.eq_false_iff.2 hb10)) rfl fun a HF => ?_
  refine wc_skip HF nS (HF.wn rfl rfl rfl rfl (Bool.eq_false_iff.2 hb10)) rfl fun a HF => ?_
  refine wc_pick (b := false) HF nS rfl (Bool.eq_false_iff.2 hb10) rfl rfl rfl fun a HF => ?_
  refine wm HF rfl rfl rfl fun a HF => ?_
  refine wc_skip HF nS (HF.wn rfl rfl rfl rfl rfl) rfl fun a HF => ?_
  refine wc_skip HF nS (HF.wn rfl rfl rfl rfl rfl) rfl fun a HF => ?_
  refine wc_skip HF nS (HF.wn rfl rfl rfl rfl rfl) rfl fun a HF => ?_
  refine wc_pick (b := false) HF nS rfl rfl rfl rfl rfl fun a HF => ?_
  refine wa HF rfl rfl rfl fun a HF => ?_
  refine wc_end (then_n (wp_ret ?_))
  obtain rfl := Option.some.inj h
  have h := retL hk1
  obtain rfl := Option.some.inj h
  refine blk_r (then_r (?_))
  refine bp_ret HF (res_one rfl HF rfl) ?_
  have HT := HT.t0
  exact ⟨rfl, HT⟩
  have h := ifn hb9 h
  refine wp_if (b' := false) HF rfl (decide_eq_false hb9) ?_
  refine wp_seq (wc_text (wc_bin HF nS rfl rfl b_eq rfl rfl fun a HF => ?_))
  refine wa HF rfl rfl rfl fun a HF => ?_
  refine wc_end (then_n ?_)
  by_cases hb12 : x0_0 = 6
  have h := ifp hb12 h
  refine wp_if (b' := true) HF rfl (decide_eq_true hb12) ?_
  refine wp_seq (wc_text (wc_faddr HF nS rfl fl85_1 rfl rfl fun a HF => ?_))
  refine wc_load HF rfl sc3 ((HT.boxAt 0 rfl).get 1 rfl) rfl rfl fun a HF => ?_
  obtain ⟨y8, hx10, h⟩ := obs h
  refine wc_call HF cf132 rfl (w_spec_l3Cell fuel hx10) rfl rfl ?_
  rintro e w ⟨rfl, hE⟩
  have hb := hE.below
  have HT := HT.pure hE
  have HT : St w0 (fun _ => False) w [Box p1 [.int .i64 x0_0, .int .i64 x0_1, .int .i64 x0_2, .int .i64 x0_3]] := HT
  refine ⟨_, rfl, nS, fun a HF => ?_⟩
  refine wm HF rfl rfl rfl fun a HF => ?_
  by_cases hb13 : y8 = true
  have h := ifp hb13 h
  refine wc_faddr HF nS rfl fl85_2 (HF.wy rfl rfl rfl rfl hb13) rfl fun a HF => ?_
  refine wc_load HF rfl sc3 ((HT.boxAt 0 rfl).get 2 rfl) (HF.wy rfl rfl rfl rfl hb13) rfl fun a HF => ?_
  obtain ⟨y9, hx11, h⟩ := obs h
  refine wc_call HF cf131 rfl (w_spec_l4Reg fuel hx11) (HF.wy rfl rfl rfl rfl hb13) rfl ?_
  rintro e w ⟨rfl, hE⟩
  have hb := hE.below
  have HT := HT.pure hE
  have HT : St w0 (fun _ => False) w [Box p1 [.int .i64 x0_0, .int .i64 x0_1, .int .i64 x0_2, .int .i64 x0_3]] := HT
  refine ⟨_, rfl, nS, fun a HF => ?_⟩
  refine wc_pick (b := true) HF nS rfl hb13 rfl rfl rfl fun a HF => ?_
  refine wm HF rfl rfl rfl fun a HF => ?_
  by_cases hb14 : y9 = true
  have h := ifp hb14 h
  refine wc_faddr HF nS rfl fl85_3 (HF.wy rfl rfl rfl rfl hb14) rfl fun a HF => ?_
  refine wc_load HF rfl sc3 ((HT.boxAt 0 rfl).get 3 rfl) (HF.wy rfl rfl rfl rfl hb14) rfl fun a HF => ?_
  refine wc_bin HF nS rfl rfl b_eq (HF.wy rfl rfl rfl rfl hb14) rfl fun a HF => ?_
  refine wc_pick (b := true) HF nS rfl hb14 rfl rfl rfl fun a HF => ?_
  refine wa HF rfl rfl rfl fun a HF => ?_
  refine wc_end (then_n (wp_ret ?_))
  obtain rfl := Option.some.inj h
  have h := retL hk1
  obtain rfl := Option.some.inj h
  refine blk_r (then_r (?_))
  refine bp_ret HF (res_one rfl HF rfl) ?_
  have HT := HT.t0
  exact ⟨rfl, HT⟩
  have h := ifn hb14 h
  refine wc_skip HF nS (HF.wn rfl rfl rfl rfl (Bool.eq_false_iff.2 hb14)) rfl fun a HF => ?_
  refine wc_skip HF nS (HF.wn rfl rfl rfl rfl (Bool.eq_false_iff.2 hb14)) rfl fun a HF => ?_
  refine wc_skip HF nS (HF.wn rfl rfl rfl rfl (Bool.eq_false_iff.2 hb14)) rfl fun a HF => ?_
  refine wc_pick (b := false) HF nS rfl (Bool.eq_false_iff.2 hb14) rfl rfl rfl fun a HF => ?_
  refine wa HF rfl rfl rfl fun a HF => ?_
  refine wc_end (then_n (wp_ret ?_))
  obtain rfl := Option.some.inj h
  have h := retL hk1
  obtain rfl := Option.some.inj h
  refine blk_r (then_r (?_))
  refine bp_ret HF (res_one rfl HF rfl) ?_
  have HT := HT.t0
  exact ⟨rfl, HT⟩
  have h := ifn hb13 h
  refine wc_skip HF nS (HF.wn rfl rfl rfl rfl (Bool.eq_false_iff.2 hb13)) rfl fun a HF => ?_
  refine wc_skip HF nS (HF.wn rfl rfl rfl rfl (Bool.eq_false_iff.2 hb13)) rfl fun a HF => ?_
  refine wc_skip HF nS (HF.wn rfl rfl rfl rfl (Bool.eq_false_iff.2 hb13)) rfl fun a HF => ?_
  refine wc_pick (b := false) HF nS rfl (Bool.eq_false_iff.2 hb13) rfl rfl rfl fun a HF => ?_
  refine wm HF rfl rfl rfl fun a HF => ?_
  refine wc_skip HF nS (HF.wn rfl rfl rfl rfl rfl) rfl fun a HF => ?_
  refine wc_skip HF nS (HF.wn rfl rfl rfl rfl rfl) rfl fun a HF => ?_
  refine wc_skip HF nS (HF.wn rfl rfl rfl rfl rfl) rfl fun a HF => ?_
  refine wc_pick (b := false) HF nS rfl rfl rfl rfl rfl fun a HF => ?_
  refine wa HF rfl rfl rfl fun a HF => ?_
  refine wc_end (then_n (wp_ret ?_))
  obtain rfl := Option.some.inj h
  have h := retL hk1
  obtain rfl := Option.some.inj h
  refine blk_r (then_r (?_))
  refine bp_ret HF (res_one rfl HF rfl) ?_
  have HT := HT.t0
  exact ⟨rfl, HT⟩
  have h := ifn hb12 h
  refine wp_if (b' := false) HF rfl (decide_eq_false hb12) ?_
  refine wp_seq (wc_text (wc_bin HF nS rfl rfl b_eq rfl rfl fun a HF => ?_))
  refine wa HF rfl rfl rfl fun a HF => ?_
  refine wc_end (then_n ?_)
  by_cases hb15 : x0_0 = 7
  have h := ifp hb15 h
  refine wp_if (b' := true) HF rfl (decide_eq_true hb15) ?_
  refine wp_seq (wc_text (wc_faddr HF nS rfl fl85_1 rfl rfl fun a HF => ?_))
  refine wc_load HF rfl sc3 ((HT.boxAt 0 rfl).get 1 rfl) rfl rfl fun a HF => ?_
  obtain ⟨y10, hx12, h⟩ := obs h
  refine wc_call HF cf131 rfl (w_spec_l4Reg fuel hx12) rfl rfl ?_
  rintro e w ⟨rfl, hE⟩
  have hb := hE.below
  have HT := HT.pure hE
  have HT : St w0 (fun _ => False) w [Box p1 [.int .i64 x0_0, .int .i64 x0_1, .int .i64 x0_2, .int .i64 x0_3]] := HT
  refine ⟨_, rfl, nS, fun a HF => ?_⟩
  refine wm HF rfl rfl rfl fun a HF => ?_
  by_cases hb16 : y10 = true
  have h := ifp hb16 h
  refine wc_faddr HF nS rfl fl85_2 (HF.wy rfl rfl rfl rfl hb16) rfl fun a HF => ?_
  refine wc_load HF rfl sc3 ((HT.boxAt 0 rfl).get 2 rfl) (HF.wy rfl rfl rfl rfl hb16) rfl fun a HF => ?_
  obtain ⟨y11, hx13, h⟩ := obs h
  refine wc_call HF cf61 rfl (w_spec_l1In fuel hx13) (HF.wy rfl rfl rfl rfl hb16) rfl ?_
  rintro e w ⟨rfl, hE⟩
  have hb := hE.below
  have HT := HT.pure hE
  have HT : St w0 (fun _ => False) w [Box p1 [.int .i64 x0_0, .int .i64 x0_1, .int .i64 x0_2, .int .i64 x0_3]] := HT
  refine ⟨_, rfl, nS, fun a HF => ?_⟩
  refine wc_pick (b := true) HF nS rfl hb16 rfl rfl rfl fun a HF => ?_
  refine wm HF rfl rfl rfl fun a HF => ?_
  by_cases hb17 : y11 = true
  have h := ifp hb17 h
  refine wc_faddr HF nS rfl fl85_3 (HF.wy rfl rfl rfl rfl hb17) rfl fun a HF => ?_
  refine wc_load HF rfl sc3 ((HT.boxAt 0 rfl).get 3 rfl) (HF.wy rfl rfl rfl rfl hb17) rfl fun a HF => ?_
  refine wc_bin HF nS rfl rfl b_eq (HF.wy rfl rfl rfl rfl hb17) rfl fun a HF => ?_
  refine wc_pick (b := true) HF nS rfl hb17 rfl rfl rfl fun a HF => ?_
  refine wa HF rfl rfl rfl fun a HF => ?_
  refine wc_end (then_n (wp_ret ?_))
  obtain rfl := Option.some.inj h
  have h := retL hk1
  obtain rfl := Option.some.inj h
  refine blk_r (then_r (?_))
  refine bp_ret HF (res_one rfl HF rfl) ?_
  have HT := HT.t0
  exact ⟨rfl, HT⟩
  have h := ifn hb17 h
  refine wc_skip HF nS (HF.wn rfl rfl rfl rfl (Bool.eq_false_iff.2 hb17)) rfl fun a HF => ?_
  refine wc_skip HF nS (HF.wn rfl rfl rfl rfl (Bool.eq_false_iff.2 hb17)) rfl fun a HF => ?_
  refine wc_skip HF nS (HF.wn rfl rfl rfl rfl (Bool.eq_false_iff.2 hb17)) rfl fun a HF => ?_
  refine wc_pick (b := false) HF nS rfl (Bool.eq_false_iff.2 hb17) rfl rfl rfl fun a HF => ?_
  refine wa HF rfl rfl rfl fun a HF => ?_
  refine wc_end (then_n (wp_ret ?_))
  obtain rfl := Option.some.inj h
  have h := retL hk1
  obtain rfl := Option.some.inj h
  refine blk_r (then_r (?_))
  refine bp_ret HF (res_one rfl HF rfl) ?_
  have HT := HT.t0
  exact ⟨rfl, HT⟩
  have h := ifn hb16 h
  refine wc_skip HF nS (HF.wn rfl rfl rfl rfl (Bool.eq_false_iff.2 hb16)) rfl fun a HF => ?_
  refine wc_skip HF nS (HF.wn rfl rfl rfl rfl (Bool.eq_false_iff.2 hb16)) rfl fun a HF => ?_
  refine wc_skip HF nS (HF.wn rfl rfl rfl rfl (Bool.eq_false_iff.2 hb16)) rfl fun a HF => ?_
  refine wc_pick (b := false) HF nS rfl (Bool.eq_false_iff.2 hb16) rfl rfl rfl fun a HF => ?_
  refine wm HF rfl rfl rfl fun a HF => ?_
  refine wc_skip HF nS (HF.wn rfl rfl rfl rfl rfl) rfl fun a HF => ?_
  refine wc_skip HF nS (HF.wn rfl rfl rfl rfl rfl) rfl fun a HF => ?_
  refine wc_skip HF nS (HF.wn rfl rfl rfl rfl rfl) rfl fun a HF => ?_
  refine wc_pick (b := false) HF nS rfl rfl rfl rfl rfl fun a HF => ?_
  refine wa HF rfl rfl rfl fun a HF => ?_
  refine wc_end (then_n (wp_ret ?_))
  obtain rfl := Option.some.inj h
  have h := retL hk1
  obtain rfl := Option.some.inj h
  refine blk_r (then_r (?_))
  refine bp_ret HF (res_one rfl HF rfl) ?_
  have HT := HT.t0
  exact ⟨rfl, HT⟩
  have h := ifn hb15 h
  refine wp_if (b' := false) HF rfl (decide_eq_false hb15) ?_
  obtain ⟨z2, hx14, h⟩ := obs h
  refine wp_cut (fun a w => Fr a 161 [(1, .pointer (some ⟨p1, 0, none⟩)), (4, .int .i64 x0_0), (82, .bool z2)] ∧ St w0 (fun _ => False) w [Box p1 [.int .i64 x0_0, .int .i64 x0_1, .int .i64 x0_2, .int .i64 x0_3]]) ?_ ?_
  have hk2 := h
  have h := hx14
  refine wp_seq (wc_text (wc_bin HF nS rfl rfl b_eq rfl rfl fun a HF => ?_))
  refine wa HF rfl rfl rfl fun a HF => ?_
  refine wc_end (then_n ?_)
  by_cases hb18 : x0_0 = 8
  have h := ifp hb18 h
  refine wp_if (b' := true) HF rfl (decide_eq_true hb18) ?_
  refine wp_skip ?_
  obtain rfl := Option.some.inj h
  exact then_n ⟨(HF.keep (HF.keep (HF.keep HF.nil rfl) rfl) rfl), HT⟩
  have h := ifn hb18 h
  refine wp_if (b' := false) HF rfl (decide_eq_false hb18) ?_
  refine wp_seq (wc_text (wc_bin HF nS rfl rfl b_eq rfl rfl fun a HF => ?_))
  refine wa HF rfl rfl rfl fun a HF => ?_
  refine wc_end (then_n ?_)
  by_cases hb19 : x0_0 = 15
  have h := ifp hb19 h
  refine wp_if (b' := true) HF rfl (decide_eq_true hb19) ?_
  refine wp_skip ?_
  obtain rfl := Option.some.inj h
  exact then_n ⟨(HF.keep (HF.keep (HF.keep HF.nil rfl) rfl) rfl), HT⟩
  have h := ifn hb19 h
  refine wp_if (b' := false) HF rfl (decide_eq_false hb19) ?_
  refine wc_text (wc_bin HF nS rfl rfl b_eq rfl rfl fun a HF => ?_)
  refine wa HF rfl rfl rfl fun a HF => ?_
  refine wc_end ?_
  obtain rfl := Option.some.inj h
  exact then_n ⟨(HF.keep (HF.keep (HF.keep HF.nil rfl) rfl) rfl), HT⟩
  rintro a w ⟨HF, HT⟩
  refine ?_
  by_cases hb20 : z2 = true
  have h := ifp hb20 h
  refine wp_if (b' := true) HF rfl hb20 ?_
  refine wp_seq (wc_text (wc_faddr HF nS rfl fl85_1 rfl rfl fun a HF => ?_))
  refine wc_load HF rfl sc3 ((HT.boxAt 0 rfl).get 1 rfl) rfl rfl fun a HF => ?_
  obtain ⟨y12, hx15, h⟩ := obs h
  refine wc_call HF cf131 rfl (w_spec_l4Reg fuel hx15) rfl rfl ?_
  rintro e w ⟨rfl, hE⟩
  have hb := hE.below
  have HT := HT.pure hE
  have HT : St w0 (fun _ => False) w [Box p1 [.int .i64 x0_0, .int .i64 x0_1, .int .i64 x0_2, .int .i64 x0_3]] := HT
  refine ⟨_, rfl, nS, fun a HF => ?_⟩
  refine wm HF rfl rfl rfl fun a HF => ?_
  by_cases hb21 : y12 = true
  have h := ifp hb21 h
  refine wc_faddr HF nS rfl fl85_2 (HF.wy rfl rfl rfl rfl hb21) rfl fun a HF => ?_
  refine wc_load HF rfl sc3 ((HT.boxAt 0 rfl).get 2 rfl) (HF.wy rfl rfl rfl rfl hb21) rfl fun a HF => ?_
  refine wc_bin HF nS rfl rfl b_eq (HF.wy rfl rfl rfl rfl hb21) rfl fun a HF => ?_
  refine wc_pick (b := true) HF nS rfl hb21 rfl rfl rfl fun a HF => ?_
  refine wm HF rfl rfl rfl fun a HF => ?_
  by_cases hb22 : x0_2 = 0
  have h := ifp hb22 h
  refine wc_faddr HF nS rfl fl85_3 (HF.wy rfl rfl rfl rfl (decide_eq_true hb22)) rfl fun a HF => ?_
  refine wc_load HF rfl sc3 ((HT.boxAt 0 rfl).get 3 rfl) (HF.wy rfl rfl rfl rfl (decide_eq_true hb22)) rfl fun a HF => ?_
  refine wc_bin HF nS rfl rfl b_eq (HF.wy rfl rfl rfl rfl (decide_eq_true hb22)) rfl fun a HF => ?_
  refine wc_pick (b := true) HF nS rfl (decide_eq_true hb22) rfl rfl rfl fun a HF => ?_
  refine wa HF rfl rfl rfl fun a HF => ?_
  refine wc_end (then_n (wp_ret ?_))
  obtain rfl := Option.some.inj h
  have h := retL hk1
  obtain rfl := Option.some.inj h
  refine blk_r (then_r (?_))
  refine bp_ret HF (res_one rfl HF rfl) ?_
  have HT := HT.t0
  exact ⟨rfl, HT⟩
  have h := ifn hb22 h
  refine wc_skip HF nS (HF.wn rfl rfl rfl rfl (decide_eq_false hb22)) rfl fun a HF => ?_
  refine wc_skip HF nS (HF.wn rfl rfl rfl rfl (decide_eq_false hb22)) rfl fun a HF => ?_
  refine wc_skip HF nS (HF.wn rfl rfl rfl rfl (decide_eq_false hb22)) rfl fun a HF => ?_
  refine wc_pick (b := false) HF nS rfl (decide_eq_false hb22) rfl rfl rfl fun a HF => ?_
  refine wa HF rfl rfl rfl fun a HF => ?_
  refine wc_end (then_n (wp_ret ?_))
  obtain rfl := Option.some.inj h
  have h := retL hk1
  obtain rfl := Option.some.inj h
  refine blk_r (then_r (?_))
  refine bp_ret HF (res_one rfl HF rfl) ?_
  have HT := HT.t0
  exact ⟨rfl, HT⟩
  have h := ifn hb21 h
  refine wc_skip HF nS (HF.wn rfl rfl rfl rfl (Bool.eq_false_iff.2 hb21)) rfl fun a HF => ?_
  refine wc_skip HF nS (HF.wn rfl rfl rfl rfl (Bool.eq_false_iff.2 hb21)) rfl fun a HF => ?_
  refine wc_skip HF nS (HF.wn rfl rfl rfl rfl (Bool.eq_false_iff.2 hb21)) rfl fun a HF => ?_
  refine wc_pick (b := false) HF nS rfl (Bool.eq_false_iff.2 hb21) rfl rfl rfl fun a HF => ?_
  refine wm HF rfl rfl rfl fun a HF => ?_
  refine wc_skip HF nS (HF.wn rfl rfl rfl rfl rfl) rfl fun a HF => ?_
  refine wc_skip HF nS (HF.wn rfl rfl rfl rfl rfl) rfl fun a HF => ?_
  refine wc_skip HF nS (HF.wn rfl rfl rfl rfl rfl) rfl fun a HF => ?_
  refine wc_pick (b := false) HF nS rfl rfl rfl rfl rfl fun a HF => ?_
  refine wa HF rfl rfl rfl fun a HF => ?_
  refine wc_end (then_n (wp_ret ?_))
  obtain rfl := Option.some.inj h
  have h := retL hk1
  obtain rfl := Option.some.inj h
  refine blk_r (then_r (?_))
  refine bp_ret HF (res_one rfl HF rfl) ?_
  have HT := HT.t0
  exact ⟨rfl, HT⟩
  have h := ifn hb20 h
  refine wp_if (b' := false) HF rfl (Bool.eq_false_iff.2 hb20) ?_
  obtain ⟨z3, hx16, h⟩ := obs h
  refine wp_cut (fun a w => Fr a 161 [(1, .pointer (some ⟨p1, 0, none⟩)), (4, .int .i64 x0_0), (99, .bool z3)] ∧ St w0 (fun _ => False) w [Box p1 [.int .i64 x0_0, .int .i64 x0_1, .int .i64 x0_2, .int .i64 x0_3]]) ?_ ?_
  have hk2 := h
  have h := hx16
  refine wp_seq (wc_text (wc_bin HF nS rfl rfl b_eq rfl rfl fun a HF => ?_))
  refine wa HF rfl rfl rfl fun a HF => ?_
  refine wc_end (then_n ?_)
  by_cases hb23 : x0_0 = 9
  have h := ifp hb23 h
  refine wp_if (b' := true) HF rfl (decide_eq_true hb23) ?_
  refine wp_skip ?_
  obtain rfl := Option.some.inj h
  exact then_n ⟨(HF.keep (HF.keep (HF.keep HF.nil rfl) rfl) rfl), HT⟩
  have h := ifn hb23 h
  refine wp_if (b' := false) HF rfl (decide_eq_false hb23) ?_
  refine wp_seq (wc_text (wc_bin HF nS rfl rfl b_eq rfl rfl fun a HF => ?_))
  refine wa HF rfl rfl rfl fun a HF => ?_
  refine wc_end (then_n ?_)
  by_cases hb24 : x0_0 = 10
  have h := ifp hb24 h
  refine wp_if (b' := true) HF rfl (decide_eq_true hb24) ?_
  refine wp_skip ?_
  obtain rfl := Option.some.inj h
  exact then_n ⟨(HF.keep (HF.keep (HF.keep HF.nil rfl) rfl) rfl), HT⟩
  have h := ifn hb24 h
  refine wp_if (b' := false) HF rfl (decide_eq_false hb24) ?_
  refine wc_text (wc_bin HF nS rfl rfl b_eq rfl rfl fun a HF => ?_)
  refine wa HF rfl rfl rfl fun a HF => ?_
  refine wc_end ?_
  obtain rfl := Option.some.inj h
  exact then_n ⟨(HF.keep (HF.keep (HF.keep HF.nil rfl) rfl) rfl), HT⟩
  rintro a w ⟨HF, HT⟩
  refine ?_
  by_cases hb25 : z3 = true
  have h := ifp hb25 h
  refine wp_if (b' := true) HF rfl hb25 ?_
  refine wp_seq (wc_text (wc_faddr HF nS rfl fl85_1 rfl rfl fun a HF => ?_))
  refine wc_load HF rfl sc3 ((HT.boxAt 0 rfl).get 1 rfl) rfl rfl fun a HF => ?_
  refine wc_bin HF nS rfl rfl b_eq rfl rfl fun a HF => ?_
  refine wm HF rfl rfl rfl fun a HF => ?_
  by_cases hb26 : x0_1 = 0
  have h := ifp hb26 h
  refine wc_faddr HF nS rfl fl85_2 (HF.wy rfl rfl rfl rfl (decide_eq_true hb26)) rfl fun a HF => ?_
  refine wc_load HF rfl sc3 ((HT.boxAt 0 rfl).get 2 rfl) (HF.wy rfl rfl rfl rfl (decide_eq_true hb26)) rfl fun a HF => ?_
  refine wc_bin HF nS rfl rfl b_eq (HF.wy rfl rfl rfl rfl (decide_eq_true hb26)) rfl fun a HF => ?_
  refine wc_pick (b := true) HF nS rfl (decide_eq_true hb26) rfl rfl rfl fun a HF => ?_
  refine wm HF rfl rfl rfl fun a HF => ?_
  by_cases hb27 : x0_2 = 0
  have h := ifp hb27 h
  refine wc_faddr HF nS rfl fl85_3 (HF.wy rfl rfl rfl rfl (decide_eq_true hb27)) rfl fun a HF => ?_
  refine wc_load HF rfl sc3 ((HT.boxAt 0 rfl).get 3 rfl) (HF.wy rfl rfl rfl rfl (decide_eq_true hb27)) rfl fun a HF => ?_
  refine wc_bin HF nS rfl rfl b_eq (HF.wy rfl rfl rfl rfl (decide_eq_true hb27)) rfl fun a HF => ?_
  refine wc_pick (b := true) HF nS rfl (decide_eq_true hb27) rfl rfl rfl fun a HF => ?_
  refine wa HF rfl rfl rfl fun a HF => ?_
  refine wc_end (then_n (wp_ret ?_))
  obtain rfl := Option.some.inj h
  have h := retL hk1
  obtain rfl := Option.some.inj h
  refine blk_r (then_r (?_))
  refine bp_ret HF (res_one rfl HF rfl) ?_
  have HT := HT.t0
  exact ⟨rfl, HT⟩
  have h := ifn hb27 h
  refine wc_skip HF nS (HF.wn rfl rfl rfl rfl (decide_eq_false hb27)) rfl fun a HF => ?_
  refine wc_skip HF nS (HF.wn rfl rfl rfl rfl (decide_eq_false hb27)) rfl fun a HF => ?_
  refine wc_skip HF nS (HF.wn rfl rfl rfl rfl (decide_eq_false hb27)) rfl fun a HF => ?_
  refine wc_pick (b := false) HF nS rfl (decide_eq_false hb27) rfl rfl rfl fun a HF => ?_
  refine wa HF rfl rfl rfl fun a HF => ?_
  refine wc_end (then_n (wp_ret ?_))
  obtain rfl := Option.some.inj h
  have h := retL hk1
  obtain rfl := Option.some.inj h
  refine blk_r (then_r (?_))
  refine bp_ret HF (res_one rfl HF rfl) ?_
  have HT := HT.t0
  exact ⟨rfl, HT⟩
  have h := ifn hb26 h
  refine wc_skip HF nS (HF.wn rfl rfl rfl rfl (decide_eq_false hb26)) rfl fun a HF => ?_
  refine wc_skip HF nS (HF.wn rfl rfl rfl rfl (decide_eq_false hb26)) rfl fun a HF => ?_
  refine wc_skip HF nS (HF.wn rfl rfl rfl rfl (decide_eq_false hb26)) rfl fun a HF => ?_
  refine wc_pick (b := false) HF nS rfl (decide_eq_false hb26) rfl rfl rfl fun a HF => ?_
  refine wm HF rfl rfl rfl fun a HF => ?_
  refine wc_skip HF nS (HF.wn rfl rfl rfl rfl rfl) rfl fun a HF => ?_
  refine wc_skip HF nS (HF.wn rfl rfl rfl rfl rfl) rfl fun a HF => ?_
  refine wc_skip HF nS (HF.wn rfl rfl rfl rfl rfl) rfl fun a HF => ?_
  refine wc_pick (b := false) HF nS rfl rfl rfl rfl rfl fun a HF => ?_
  refine wa HF rfl rfl rfl fun a HF => ?_
  refine wc_end (then_n (wp_ret ?_))
  obtain rfl := Option.some.inj h
  have h := retL hk1
  obtain rfl := Option.some.inj h
  refine blk_r (then_r (?_))
  refine bp_ret HF (res_one rfl HF rfl) ?_
  have HT := HT.t0
  exact ⟨rfl, HT⟩
  have h := ifn hb25 h
  refine wp_if (b' := false) HF rfl (Bool.eq_false_iff.2 hb25) ?_
  refine wp_seq (wc_text (wc_bin HF nS rfl rfl b_eq rfl rfl fun a HF => ?_))
  refine wa HF rfl rfl rfl fun a HF => ?_
  refine wc_end (then_n ?_)
  by_cases hb28 : x0_0 = 12
  have h := ifp hb28 h
  refine wp_if (b' := true) HF rfl (decide_eq_true hb28) ?_
  refine wp_seq (wc_text (wc_faddr HF nS rfl fl85_1 rfl rfl fun a HF => ?_))
  refine wc_load HF rfl sc3 ((HT.boxAt 0 rfl).get 1 rfl) rfl rfl fun a HF => ?_
  obtain ⟨y13, hx17, h⟩ := obs h
  refine wc_call HF cf61 rfl (w_spec_l1In fuel hx17) rfl rfl ?_
  rintro e w ⟨rfl, hE⟩
  have hb := hE.below
  have HT := HT.pure hE
  have HT : St w0 (fun _ => False) w [Box p1 [.int .i64 x0_0, .int .i64 x0_1, .int .i64 x0_2, .int .i64 x0_3]] := HT
  refine ⟨_, rfl, nS, fun a HF => ?_⟩
  refine wm HF rfl rfl rfl fun a HF => ?_
  by_cases hb29 : y13 = true
  have h := ifp hb29 h
  refine wc_faddr HF nS rfl fl85_2 (HF.wy rfl rfl rfl rfl hb29) rfl fun a HF => ?_
  refine wc_load HF rfl sc3 ((HT.boxAt 0 rfl).get 2 rfl) (HF.wy rfl rfl rfl rfl hb29) rfl fun a HF => ?_
  obtain ⟨y14, hx18, h⟩ := obs h
  refine wc_call HF cf131 rfl (w_spec_l4Reg fuel hx18) (HF.wy rfl rfl rfl rfl hb29) rfl ?_
  rintro e w ⟨rfl, hE⟩
  have hb := hE.below
  have HT := HT.pure hE
  have HT : St w0 (fun _ => False) w [Box p1 [.int .i64 x0_0, .int .i64 x0_1, .int .i64 x0_2, .int .i64 x0_3]] := HT
  refine ⟨_, rfl, nS, fun a HF => ?_⟩
  refine wc_pick (b := true) HF nS rfl hb29 rfl rfl rfl fun a HF => ?_
  refine wm HF rfl rfl rfl fun a HF => ?_
  by_cases hb30 : y14 = true
  have h := ifp hb30 h
  refine wc_faddr HF nS rfl fl85_3 (HF.wy rfl rfl rfl rfl hb30) rfl fun a HF => ?_
  refine wc_load HF rfl sc3 ((HT.boxAt 0 rfl).get 3 rfl) (HF.wy rfl rfl rfl rfl hb30) rfl fun a HF => ?_
  obtain ⟨y15, hx19, h⟩ := obs h
  refine wc_call HF cf131 rfl (w_spec_l4Reg fuel hx19) (HF.wy rfl rfl rfl rfl hb30) rfl ?_
  rintro e w ⟨rfl, hE⟩
  have hb := hE.below
  have HT := HT.pure hE
  have HT : St w0 (fun _ => False) w [Box p1 [.int .i64 x0_0, .int .i64 x0_1, .int .i64 x0_2, .int .i64 x0_3]] := HT
  refine ⟨_, rfl, nS, fun a HF => ?_⟩
  refine wc_pick (b := true) HF nS rfl hb30 rfl rfl rfl fun a HF => ?_
  refine wa HF rfl rfl rfl fun a HF => ?_
  refine wc_end (then_n (wp_ret ?_))
  obtain rfl := Option.some.inj h
  have h := retL hk1
  obtain rfl := Option.some.inj h
  refine blk_r (then_r (?_))
  refine bp_ret HF (res_one rfl HF rfl) ?_
  have HT := HT.t0
  exact ⟨rfl, HT⟩
  have h := ifn hb30 h
  refine wc_skip HF nS (HF.wn rfl rfl rfl rfl (Bool.eq_false_iff.2 hb30)) rfl fun a HF => ?_
  refine wc_skip HF nS (HF.wn rfl rfl rfl rfl (Bool.eq_false_iff.2 hb30)) rfl fun a HF => ?_
  refine wc_skip HF nS (HF.wn rfl rfl rfl rfl (Bool.eq_false_iff.2 hb30)) rfl fun a HF => ?_
  refine wc_pick (b := false) HF nS rfl (Bool.eq_false_iff.2 hb30) rfl rfl rfl fun a HF => ?_
  refine wa HF rfl rfl rfl fun a HF => ?_
  refine wc_end (then_n (wp_ret ?_))
  obtain rfl := Option.some.inj h
  have h := retL hk1
  obtain rfl := Option.some.inj h
  refine blk_r (then_r (?_))
  refine bp_ret HF (res_one rfl HF rfl) ?_
  have HT := HT.t0
  exact ⟨rfl, HT⟩
  have h := ifn hb29 h
  refine wc_skip HF nS (HF.wn rfl rfl rfl rfl (Bool.eq_false_iff.2 hb29)) rfl fun a HF => ?_
  refine wc_skip HF nS (HF.wn rfl rfl rfl rfl (Bool.eq_false_iff.2 hb29)) rfl fun a HF => ?_
  refine wc_skip HF nS (HF.wn rfl rfl rfl rfl (Bool.eq_false_iff.2 hb29)) rfl fun a HF => ?_
  refine wc_pick (b := false) HF nS rfl (Bool.eq_false_iff.2 hb29) rfl rfl rfl fun a HF => ?_
  refine wm HF rfl rfl rfl fun a HF => ?_
  refine wc_skip HF nS (HF.wn rfl rfl rfl rfl rfl) rfl fun a HF => ?_
  refine wc_skip HF nS (HF.wn rfl rfl rfl rfl rfl) rfl fun a HF => ?_
  refine wc_skip HF nS (HF.wn rfl rfl rfl rfl rfl) rfl fun a HF => ?_
  refine wc_pick (b := false) HF nS rfl rfl rfl rfl rfl fun a HF => ?_
  refine wa HF rfl rfl rfl fun a HF => ?_
  refine wc_end (then_n (wp_ret ?_))
  obtain rfl := Option.some.inj h
  have h := retL hk1
  obtain rfl := Option.some.inj h
  refine blk_r (then_r (?_))
  refine bp_ret HF (res_one rfl HF rfl) ?_
  have HT := HT.t0
  exact ⟨rfl, HT⟩
  have h := ifn hb28 h
  refine wp_if (b' := false) HF rfl (decide_eq_false hb28) ?_
  refine wp_seq (wc_text (wc_bin HF nS rfl rfl b_eq rfl rfl fun a HF => ?_))
  refine wa HF rfl rfl rfl fun a HF => ?_
  refine wc_end (then_n ?_)
  by_cases hb31 : x0_0 = 13
  have h := ifp hb31 h
  refine wp_if (b' := true) HF rfl (decide_eq_true hb31) ?_
  refine wp_seq (wc_text (wc_faddr HF nS rfl fl85_1 rfl rfl fun a HF => ?_))
  refine wc_load HF rfl sc3 ((HT.boxAt 0 rfl).get 1 rfl) rfl rfl fun a HF => ?_
  obtain ⟨y16, hx20, h⟩ := obs h
  refine wc_call HF cf131 rfl (w_spec_l4Reg fuel hx20) rfl rfl ?_
  rintro e w ⟨rfl, hE⟩
  have hb := hE.below
  have HT := HT.pure hE
  have HT : St w0 (fun _ => False) w [Box p1 [.int .i64 x0_0, .int .i64 x0_1, .int .i64 x0_2, .int .i64 x0_3]] := HT
  refine ⟨_, rfl, nS, fun a HF => ?_⟩
  refine wm HF rfl rfl rfl fun a HF => ?_
  by_cases hb32 : y16 = true
  have h := ifp hb32 h
  refine wc_faddr HF nS rfl fl85_2 (HF.wy rfl rfl rfl rfl hb32) rfl fun a HF => ?_
  refine wc_load HF rfl sc3 ((HT.boxAt 0 rfl).get 2 rfl) (HF.wy rfl rfl rfl rfl hb32) rfl fun a HF => ?_
  obtain ⟨y17, hx21, h⟩ := obs h
  refine wc_call HF cf61 rfl (w_spec_l1In fuel hx21) (HF.wy rfl rfl rfl rfl hb32) rfl ?_
  rintro e w ⟨rfl, hE⟩
  have hb := hE.below
  have HT := HT.pure hE
  have HT : St w0 (fun _ => False) w [Box p1 [.int .i64 x0_0, .int .i64 x0_1, .int .i64 x0_2, .int .i64 x0_3]] := HT
  refine ⟨_, rfl, nS, fun a HF => ?_⟩
  refine wc_pick (b := true) HF nS rfl hb32 rfl rfl rfl fun a HF => ?_
  refine wm HF rfl rfl rfl fun a HF => ?_
  by_cases hb33 : y17 = true
  have h := ifp hb33 h
  refine wc_faddr HF nS rfl fl85_3 (HF.wy rfl rfl rfl rfl hb33) rfl fun a HF => ?_
  refine wc_load HF rfl sc3 ((HT.boxAt 0 rfl).get 3 rfl) (HF.wy rfl rfl rfl rfl hb33) rfl fun a HF => ?_
  refine wc_bin HF nS rfl rfl b_eq (HF.wy rfl rfl rfl rfl hb33) rfl fun a HF => ?_
  refine wc_pick (b := true) HF nS rfl hb33 rfl rfl rfl fun a HF => ?_
  refine wa HF rfl rfl rfl fun a HF => ?_
  refine wc_end (then_n (wp_ret ?_))
  obtain rfl := Option.some.inj h
  have h := retL hk1
  obtain rfl := Option.some.inj h
  refine blk_r (then_r (?_))
  refine bp_ret HF (res_one rfl HF rfl) ?_
  have HT := HT.t0
  exact ⟨rfl, HT⟩
  have h := ifn hb33 h
  refine wc_skip HF nS (HF.wn rfl rfl rfl rfl (Bool.eq_false_iff.2 hb33)) rfl fun a HF => ?_
  refine wc_skip HF nS (HF.wn rfl rfl rfl rfl (Bool.eq_false_iff.2 hb33)) rfl fun a HF => ?_
  refine wc_skip HF nS (HF.wn rfl rfl rfl rfl (Bool.eq_false_iff.2 hb33)) rfl fun a HF => ?_
  refine wc_pick (b := false) HF nS rfl (Bool.eq_false_iff.2 hb33) rfl rfl rfl fun a HF => ?_
  refine wa HF rfl rfl rfl fun a HF => ?_
  refine wc_end (then_n (wp_ret ?_))
  obtain rfl := Option.some.inj h
  have h := retL hk1
  obtain rfl := Option.some.inj h
  refine blk_r (then_r (?_))
  refine bp_ret HF (res_one rfl HF rfl) ?_
  have HT := HT.t0
  exact ⟨rfl, HT⟩
  have h := ifn hb32 h
  refine wc_skip HF nS (HF.wn rfl rfl rfl rfl (Bool.eq_false_iff.2 hb32)) rfl fun a HF => ?_
  refine wc_skip HF nS (HF.wn rfl rfl rfl rfl (Bool.eq_false_iff.2 hb32)) rfl fun a HF => ?_
  refine wc_skip HF nS (HF.wn rfl rfl rfl rfl (Bool.eq_false_iff.2 hb32)) rfl fun a HF => ?_
  refine wc_pick (b := false) HF nS rfl (Bool.eq_false_iff.2 hb32) rfl rfl rfl fun a HF => ?_
  refine wm HF rfl rfl rfl fun a HF => ?_
  refine wc_skip HF nS (HF.wn rfl rfl rfl rfl rfl) rfl fun a HF => ?_
  refine wc_skip HF nS (HF.wn rfl rfl rfl rfl rfl) rfl fun a HF => ?_
  refine wc_skip HF nS (HF.wn rfl rfl rfl rfl rfl) rfl fun a HF => ?_
  refine wc_pick (b := false) HF nS rfl rfl rfl rfl rfl fun a HF => ?_
  refine wa HF rfl rfl rfl fun a HF => ?_
  refine wc_end (then_n (wp_ret ?_))
  obtain rfl := Option.some.inj h
  have h := retL hk1
  obtain rfl := Option.some.inj h
  refine blk_r (then_r (?_))
  refine bp_ret HF (res_one rfl HF rfl) ?_
  have HT := HT.t0
  exact ⟨rfl, HT⟩
  have h := ifn hb31 h
  refine wp_if (b' := false) HF rfl (decide_eq_false hb31) ?_
  refine wp_seq (wc_text (wc_bin HF nS rfl rfl b_eq rfl rfl fun a HF => ?_))
  refine wa HF rfl rfl rfl fun a HF => ?_
  refine wc_end (then_n ?_)
  by_cases hb34 : x0_0 = 14
  have h := ifp hb34 h
  refine wp_if (b' := true) HF rfl (decide_eq_true hb34) ?_
  refine wp_seq (wc_text (wc_faddr HF nS rfl fl85_1 rfl rfl fun a HF => ?_))
  refine wc_load HF rfl sc3 ((HT.boxAt 0 rfl).get 1 rfl) rfl rfl fun a HF => ?_
  obtain ⟨y18, hx22, h⟩ := obs h
  refine wc_call HF cf61 rfl (w_spec_l1In fuel hx22) rfl rfl ?_
  rintro e w ⟨rfl, hE⟩
  have hb := hE.below
  have HT := HT.pure hE
  have HT : St w0 (fun _ => False) w [Box p1 [.int .i64 x0_0, .int .i64 x0_1, .int .i64 x0_2, .int .i64 x0_3]] := HT
  refine ⟨_, rfl, nS, fun a HF => ?_⟩
  refine wm HF rfl rfl rfl fun a HF => ?_
  by_cases hb35 : y18 = true
  have h := ifp hb35 h
  refine wc_faddr HF nS rfl fl85_2 (HF.wy rfl rfl rfl rfl hb35) rfl fun a HF => ?_
  refine wc_load HF rfl sc3 ((HT.boxAt 0 rfl).get 2 rfl) (HF.wy rfl rfl rfl rfl hb35) rfl fun a HF => ?_
  obtain ⟨y19, hx23, h⟩ := obs h
  refine wc_call HF cf131 rfl (w_spec_l4Reg fuel hx23) (HF.wy rfl rfl rfl rfl hb35) rfl ?_
  rintro e w ⟨rfl, hE⟩
  have hb := hE.below
  have HT := HT.pure hE
  have HT : St w0 (fun _ => False) w [Box p1 [.int .i64 x0_0, .int .i64 x0_1, .int .i64 x0_2, .int .i64 x0_3]] := HT
  refine ⟨_, rfl, nS, fun a HF => ?_⟩
  refine wc_pick (b := true) HF nS rfl hb35 rfl rfl rfl fun a HF => ?_
  refine wm HF rfl rfl rfl fun a HF => ?_
  by_cases hb36 : y19 = true
  have h := ifp hb36 h
  refine wc_faddr HF nS rfl fl85_3 (HF.wy rfl rfl rfl rfl hb36) rfl fun a HF => ?_
  refine wc_load HF rfl sc3 ((HT.boxAt 0 rfl).get 3 rfl) (HF.wy rfl rfl rfl rfl hb36) rfl fun a HF => ?_
  refine wc_bin HF nS rfl rfl b_eq (HF.wy rfl rfl rfl rfl hb36) rfl fun a HF => ?_
  refine wc_pick (b := true) HF nS rfl hb36 rfl rfl rfl fun a HF => ?_
  refine wa HF rfl rfl rfl fun a HF => ?_
  refine wc_end (then_n (wp_ret ?_))
  obtain rfl := Option.some.inj h
  have h := retL hk1
  obtain rfl := Option.some.inj h
  refine blk_r (then_r (?_))
  refine bp_ret HF (res_one rfl HF rfl) ?_
  have HT := HT.t0
  exact ⟨rfl, HT⟩
  have h := ifn hb36 h
  refine wc_skip HF nS (HF.wn rfl rfl rfl rfl (Bool.eq_false_iff.2 hb36)) rfl fun a HF => ?_
  refine wc_skip HF nS (HF.wn rfl rfl rfl rfl (Bool.eq_false_iff.2 hb36)) rfl fun a HF => ?_
  refine wc_skip HF nS (HF.wn rfl rfl rfl rfl (Bool.eq_false_iff.2 hb36)) rfl fun a HF => ?_
  refine wc_pick (b := false) HF nS rfl (Bool.eq_false_iff.2 hb36) rfl rfl rfl fun a HF => ?_
  refine wa HF rfl rfl rfl fun a HF => ?_
  refine wc_end (then_n (wp_ret ?_))
  obtain rfl := Option.some.inj h
  have h := retL hk1
  obtain rfl := Option.some.inj h
  refine blk_r (then_r (?_))
  refine bp_ret HF (res_one rfl HF rfl) ?_
  have HT := HT.t0
  exact ⟨rfl, HT⟩
  have h := ifn hb35 h
  refine wc_skip HF nS (HF.wn rfl rfl rfl rfl (Bool.eq_false_iff.2 hb35)) rfl fun a HF => ?_
  refine wc_skip HF nS (HF.wn rfl rfl rfl rfl (Bool.eq_false_iff.2 hb35)) rfl fun a HF => ?_
  refine wc_skip HF nS (HF.wn rfl rfl rfl rfl (Bool.eq_false_iff.2 hb35)) rfl fun a HF => ?_
  refine wc_pick (b := false) HF nS rfl (Bool.eq_false_iff.2 hb35) rfl rfl rfl fun a HF => ?_
  refine wm HF rfl rfl rfl fun a HF => ?_
  refine wc_skip HF nS (HF.wn rfl rfl rfl rfl rfl) rfl fun a HF => ?_
  refine wc_skip HF nS (HF.wn rfl rfl rfl rfl rfl) rfl fun a HF => ?_
  refine wc_skip HF nS (HF.wn rfl rfl rfl rfl rfl) rfl fun a HF => ?_
  refine wc_pick (b := false) HF nS rfl rfl rfl rfl rfl fun a HF => ?_
  refine wa HF rfl rfl rfl fun a HF => ?_
  refine wc_end (then_n (wp_ret ?_))
  obtain rfl := Option.some.inj h
  have h := retL hk1
  obtain rfl := Option.some.inj h
  refine blk_r (then_r (?_))
  refine bp_ret HF (res_one rfl HF rfl) ?_
  have HT := HT.t0
  exact ⟨rfl, HT⟩
  have h := ifn hb34 h
  refine wp_if (b' := false) HF rfl (decide_eq_false hb34) ?_
  refine wp_skip (blk_n ?_)
  have HT := HT.t0
  exact then_n ⟨(Option.some.inj h).symm, HF.nil, HT⟩
  rintro a w ⟨rfl, HF, HT⟩
  have h := brkL1u h
  refine ?_
  refine wp_seq (wc_text (wa HF rfl rfl rfl fun a HF => ?_))
  refine wc_end (then_n (wp_ret ?_))
  obtain rfl := Option.some.inj h
  refine bp_ret HF (res_one rfl HF rfl) ?_
  exact ⟨rfl, HT⟩

def m_spec_l5Skip_L0 (fuel : Nat) (x0 : List I4) (x1 : Int) (e1 : I4) : Nat → Int → Int → Option (Lp Int Bool)
  | 0, _, _ => none
  | k1 + 1, z2, z3 =>
    if z3 < ((x1 + 1) + e1.c) then
      (
        (
          (at? x0 z3).bind fun e2 =>
          if e2.a = 8 then
            if in64 (z2 + 1) then
              some (z2 + 1)
            else none
          else
          some z2).bind fun z5 =>
        (
          (at? x0 z3).bind fun e3 =>
          if e3.a = 9 then
            if in64 (z5 - 1) then
              some (z5 - 1)
            else none
          else
          some z5).bind fun z6 =>
        if z6 < 0 then
          some (.ret false)
        else
        some (.brk z6)).bind <| contM <| un1 fun z4 =>
      if in64 (z3 + 1) then
        m_spec_l5Skip_L0 fuel x0 x1 e1 k1 z4 (z3 + 1)
      else none
    else
    some (.brk z2)

def m_spec_l5Skip (fuel : Nat) (x0 : List I4) (x1 : Int) : Option Bool :=
  if in64 (x1 + 1) then
    (at? x0 x1).bind fun e1 =>
    if in64 ((x1 + 1) + e1.c) then
      if (x0.length : Int) < ((x1 + 1) + e1.c) then
        some false
      else
      (
        if in64 (x1 + 1) then
          m_spec_l5Skip_L0 fuel x0 x1 e1 fuel 0 (x1 + 1)
        else none).bind <| contL <| un1 fun z1 =>
      some (decide (z1 = 0))
    else none
  else none

set_option maxRecDepth 100000 in
set_option maxHeartbeats 4000000 in
theorem w_spec_l5Skip (fuel : Nat) {x0 : List I4} {x1 : Int} {a_x0 : Option Addr} {n_x0 c_x0 : Nat} {r0 : Bool} {w0 : World} (h : m_spec_l5Skip fuel x0 x1 = some r0) (hr_x0 : RdT (fun b => ¬ False) w0 (rowT x0) (.slice a_x0 n_x0 c_x0)) :
    Calls Try.prog 118 #[.slice a_x0 n_x0 c_x0, .int .i64 x1] w0 fun e w => e = .returned (.bool r0) ∧ St w0 (fun _ => False) w [] := by
  obtain rfl := hr_x0.neq
  have HT : St w0 (fun _ => False) w0 [] := St.init0
  rw [m_spec_l5Skip] at h
  refine calls_fr (n := 47) [.slice a_x0 x0.length c_x0, .int .i64 x1] Try.func118 rfl rfl rfl fun a HF => ?_
  have HT : St w0 (fun _ => False) w0 [] := HT
  refine wp_seq (wc_text (wa HF rfl rfl rfl fun a HF => ?_))
  refine wc_end (then_n (wp_seq (wc_text (wm HF rfl rfl rfl fun a HF => ?_))))
  obtain ⟨hg1, h⟩ := grd h
  refine wc_bin HF nS rfl rfl (b_add hg1) rfl rfl fun a HF => ?_
  refine wm HF rfl rfl rfl fun a HF => ?_
  refine wm HF rfl rfl rfl fun a HF => ?_
  obtain ⟨e1, hx1, h⟩ := obs h
  obtain ⟨b1, o1, ha1⟩ := (HT.ro hr_x0).any.addr hx1
  refine wc_ixaddr HF nS el36 rfl ha1 ((HT.ro hr_x0).any).neq rfl hx1 rfl rfl fun a HF => ?_
  refine wc_faddr HF nS rfl fl85_2 rfl rfl fun a HF => ?_
  have hc1 := (HT.ro hr_x0).any.flatAt ha1 hx1
  refine wc_load HF rfl sc3 (hc1.get 2 rfl) rfl rfl fun a HF => ?_
  obtain ⟨hg2, h⟩ := grd h
  refine wc_bin HF nS rfl rfl (b_add hg2) rfl rfl fun a HF => ?_
  refine wa HF rfl rfl rfl fun a HF => ?_
  refine wc_end (then_n (wp_seq (wp_seq (wc_text (wm HF rfl rfl rfl fun a HF => ?_)))))
  refine wm HF rfl rfl rfl fun a HF => ?_
  refine wc_lenR HF nS Try.underlying36 rfl rfl rfl fun a HF => ?_
  refine wc_bin HF nS rfl rfl b_gt rfl rfl fun a HF => ?_
  refine wc_end (then_n ?_)
  by_cases hb1 : (x0.length : Int) < ((x1 + 1) + e1.c)
  have h := ifp hb1 h
  refine wp_if (b' := true) HF rfl (decide_eq_true hb1) ?_
  refine wp_seq (wc_text (wa HF rfl rfl rfl fun a HF => ?_))
  refine wc_end (then_n (wp_ret ?_))
  obtain rfl := Option.some.inj h
  refine then_r (?_)
  refine bp_ret HF (res_one rfl HF rfl) ?_
  exact ⟨rfl, HT⟩
  have h := ifn hb1 h
  refine wp_if (b' := false) HF rfl (decide_eq_false hb1) ?_
  refine wp_skip (then_n (wp_seq (wc_text (wa HF rfl rfl rfl fun a HF => ?_))))
  refine wc_end (then_n ?_)
  obtain ⟨q1, hx2, h⟩ := obs h
  refine wp_cut (fun a w => ∃ z1, q1 = .brk z1 ∧ Fr a 47 [(6, .int .i64 z1)] ∧ St w0 (fun _ => False) w []) ?_ ?_
  have hk1 := h
  have h := hx2
  refine wp_seq (wc_text (wm HF rfl rfl rfl fun a HF => ?_))
  obtain ⟨hg3, h⟩ := grd h
  refine wc_bin HF nS rfl rfl (b_add hg3) rfl rfl fun a HF => ?_
  refine wa HF rfl rfl rfl fun a HF => ?_
  refine wc_end (then_n (wp_block (wp_loopN (fun k1 a w => ∃ z2 z3, m_spec_l5Skip_L0 fuel x0 x1 e1 k1 z2 z3 = some q1 ∧ Fr a 47 [(0, .slice a_x0 x0.length c_x0), (5, .int .i64 ((x1 + 1) + e1.c)), (6, .int .i64 z2), (7, .int .i64 z3)] ∧ St w0 (fun _ => False) w []) fuel ⟨0, x1 + 1, h, (HF.keep (HF.keep (HF.keep (HF.keep HF.nil rfl) rfl) rfl) rfl), HT⟩ ?_)))
  rintro k1 a w ⟨z2, z3, h, HF, HT⟩
  rcases k1 with _ | k1
  cases h
  rw [m_spec_l5Skip_L0] at h
  refine ?_
  refine wp_seq (wp_seq (wc_text (wm HF rfl rfl rfl fun a HF => ?_)))
  refine wm HF rfl rfl rfl fun a HF => ?_
  refine wc_bin HF nS rfl rfl b_lt rfl rfl fun a HF => ?_
  refine wc_end (then_n ?_)
  by_cases hb2 : z3 < ((x1 + 1) + e1.c)
  have h := ifp hb2 h
  refine wp_if (b' := true) HF rfl (decide_eq_true hb2) ?_
  refine wp_skip (then_n ?_)
  obtain ⟨q2, hx3, h⟩ := obs h
  refine wp_cut (fun a w => ∃ z4, q2 = .brk z4 ∧ Fr a 47 [(0, .slice a_x0 x0.length c_x0), (5, .int .i64 ((x1 + 1) + e1.c)), (6, .int .i64 z4), (7, .int .i64 z3)] ∧ St w0 (fun _ => False) w []) ?_ ?_
  have hk2 := h
  have h := hx3
  refine wp_block ?_
  obtain ⟨z5, hx4, h⟩ := obs h
  refine wp_cut (fun a w => Fr a 47 [(0, .slice a_x0 x0.length c_x0), (5, .int .i64 ((x1 + 1) + e1.c)), (6, .int .i64 z5), (7, .int .i64 z3)] ∧ St w0 (fun _ => False) w []) ?_ ?_
  have hk3 := h
  have h := hx4
  refine wp_seq (wc_text (wm HF rfl rfl rfl fun a HF => ?_))
  refine wm HF rfl rfl rfl fun a HF => ?_
  obtain ⟨e2, hx5, h⟩ := obs h
  refine wc_ixaddr HF nS el36 rfl ha1 ((HT.ro hr_x0).any).neq rfl hx5 rfl rfl fun a HF => ?_
  refine wc_faddr HF nS rfl fl85_0 rfl rfl fun a HF => ?_
  have hc2 := (HT.ro hr_x0).any.flatAt ha1 hx5
  refine wc_load HF rfl sc3 (hc2.get 0 rfl) rfl rfl fun a HF => ?_
  refine wc_bin HF nS rfl rfl b_eq rfl rfl fun a HF => ?_
  refine wc_end (then_n ?_)
  by_cases hb3 : e2.a = 8
  have h := ifp hb3 h
  refine wp_if (b' := true) HF rfl (decide_eq_true hb3) ?_
  refine wc_text (wm HF rfl rfl rfl fun a HF => ?_)
  obtain ⟨hg4, h⟩ := grd h
  refine wc_bin HF nS rfl rfl (b_add hg4) rfl rfl fun a HF => ?_
  refine wa HF rfl rfl rfl fun a HF => ?_
  refine wc_end ?_
  obtain rfl := Option.some.inj h
  exact then_n ⟨(HF.keep (HF.keep (HF.keep (HF.keep HF.nil rfl) rfl) rfl) rfl), HT⟩
  have h := ifn hb3 h
  refine wp_if (b' := false) HF rfl (decide_eq_false hb3) ?_
  refine wp_skip ?_
  obtain rfl := Option.some.inj h
  exact then_n ⟨(HF.keep (HF.keep (HF.keep (HF.keep HF.nil rfl) rfl) rfl) rfl), HT⟩
  rintro a w ⟨HF, HT⟩
  refine ?_
  obtain ⟨z6, hx6, h⟩ := obs h
  refine wp_cut (fun a w => Fr a 47 [(0, .slice a_x0 x0.length c_x0), (5, .int .i64 ((x1 + 1) + e1.c)), (6, .int .i64 z6), (7, .int .i64 z3)] ∧ St w0 (fun _ => False) w []) ?_ ?_
  have hk3 := h
  have h := hx6
  refine wp_seq (wc_text (wm HF rfl rfl rfl fun a HF => ?_))
  refine wm HF rfl rfl rfl fun a HF => ?_
  obtain ⟨e3, hx7, h⟩ := obs h
  refine wc_ixaddr HF nS el36 rfl ha1 ((HT.ro hr_x0).any).neq rfl hx7 rfl rfl fun a HF => ?_
  refine wc_faddr HF nS rfl fl85_0 rfl rfl fun a HF => ?_
  have hc3 := (HT.ro hr_x0).any.flatAt ha1 hx7
  refine wc_load HF rfl sc3 (hc3.get 0 rfl) rfl rfl fun a HF => ?_
  refine wc_bin HF nS rfl rfl b_eq rfl rfl fun a HF => ?_
  refine wc_end (then_n ?_)
  by_cases hb4 : e3.a = 9
  have h := ifp hb4 h
  refine wp_if (b' := true) HF rfl (decide_eq_true hb4) ?_
  refine wc_text (wm HF rfl rfl rfl fun a HF => ?_)
  obtain ⟨hg5, h⟩ := grd h
  refine wc_bin HF nS rfl rfl (b_sub hg5) rfl rfl fun a HF => ?_
  refine wa HF rfl rfl rfl fun a HF => ?_
  refine wc_end ?_
  obtain rfl := Option.some.inj h
  exact then_n ⟨(HF.keep (HF.keep (HF.keep (HF.keep HF.nil rfl) rfl) rfl) rfl), HT⟩
  have h := ifn hb4 h
  refine wp_if (b' := false) HF rfl (decide_eq_false hb4) ?_
  refine wp_skip ?_
  obtain rfl := Option.some.inj h
  exact then_n ⟨(HF.keep (HF.keep (HF.keep (HF.keep HF.nil rfl) rfl) rfl) rfl), HT⟩
  rintro a w ⟨HF, HT⟩
  refine ?_
  refine wp_seq (wc_text (wm HF rfl rfl rfl fun a HF => ?_))
  refine wc_bin HF nS rfl rfl b_lt rfl rfl fun a HF => ?_
  refine wc_end (then_n ?_)
  by_cases hb5 : z6 < 0
  have h := ifp hb5 h
  refine wp_if (b' := true) HF rfl (decide_eq_true hb5) ?_
  refine wp_seq (wc_text (wa HF rfl rfl rfl fun a HF => ?_))
  refine wc_end (then_n (wp_ret ?_))
  obtain rfl := Option.some.inj h
  have h := retM hk2
  obtain rfl := Option.some.inj h
  have h := retL hk1
  obtain rfl := Option.some.inj h
  refine blk_r (then_r (then_r (blk_r (then_r (?_)))))
  refine bp_ret HF (res_one rfl HF rfl) ?_
  exact ⟨rfl, HT⟩
  have h := ifn hb5 h
  refine wp_if (b' := false) HF rfl (decide_eq_false hb5) ?_
  exact wp_skip (blk_n (then_n ⟨z6, (Option.some.inj h).symm, (HF.keep (HF.keep (HF.keep (HF.keep HF.nil rfl) rfl) rfl) rfl), HT⟩))
  rintro a w ⟨z4, rfl, HF, HT⟩
  have h := brkM1u h
  refine ?_
  refine wc_text (wm HF rfl rfl rfl fun a HF => ?_)
  obtain ⟨hg6, h⟩ := grd h
  refine wc_bin HF nS rfl rfl (b_add hg6) rfl rfl fun a HF => ?_
  refine wa HF rfl rfl rfl fun a HF => ?_
  exact wc_end (then_n ⟨k1, Nat.lt_succ_self k1, z4, z3 + 1, h, (HF.keep (HF.keep (HF.keep (HF.keep HF.nil rfl) rfl) rfl) rfl), HT⟩)
  have h := ifn hb2 h
  refine wp_if (b' := false) HF rfl (decide_eq_false hb2) ?_
  refine wp_exit ?_
  refine then_x (then_x (?_))
  refine blk_x ?_
  exact then_n ⟨z2, (Option.some.inj h).symm, (HF.keep HF.nil rfl), HT⟩
  rintro a w ⟨z1, rfl, HF, HT⟩
  have h := brkL1u h
  refine ?_
  refine wp_seq (wc_text (wm HF rfl rfl rfl fun a HF => ?_))
  refine wc_bin HF nS rfl rfl b_eq rfl rfl fun a HF => ?_
  refine wa HF rfl rfl rfl fun a HF => ?_
  refine wc_end (then_n (wp_ret ?_))
  obtain rfl := Option.some.inj h
  refine bp_ret HF (res_one rfl HF rfl) ?_
  exact ⟨rfl, HT⟩

def m_spec_CodeOk_L0 (fuel : Nat) (x0 : List I4) : Nat → Int → Int → Int → Option (Lp Int Bool)
  | 0, _, _, _ => none
  | k1 + 1, z2, z3, z4 =>
    if z4 < (x0.length : Int) then
      (
        (at? x0 z4).bind fun e1 =>
        (m_spec_OpOk fuel e1.a e1.b e1.c e1.d).bind fun y1 =>
        if y1 = true then
          (
            if e1.a = 8 then
              if in64 (z2 + 1) then
                some (.brk (z2 + 1, z3))
              else none
            else
            if e1.a = 9 then
              if in64 (z2 - 1) then
                some (.brk (z2 - 1, z3))
              else none
            else
            if e1.a = 7 then
              (m_spec_l5Skip fuel x0 z4).bind fun y2 =>
              if y2 = true then
                some (.brk (z2, z3))
              else
              some (.ret false)
            else
            if e1.a = 11 then
              if in64 (z3 + 1) then
                if 0 < z2 then
                  some (.ret false)
                else
                if 1 < (z3 + 1) then
                  some (.ret false)
                else
                some (.brk (z2, z3 + 1))
              else none
            else
            some (.brk (z2, z3))).bind <| contM <| un2 fun z7 z8 =>
          if z7 < 0 then
            some (.ret false)
          else
          some (.brk (z7, z8))
        else
        some (.ret false)).bind <| contM <| un2 fun z5 z6 =>
      if in64 (z4 + 1) then
        m_spec_CodeOk_L0 fuel x0 k1 z5 z6 (z4 + 1)
      else none
    else
    some (.brk z2)

def m_spec_CodeOk (fuel : Nat) (x0 : List I4) : Option Bool :=
  if 24 < (x0.length : Int) then
    some false
  else
  (m_spec_CodeOk_L0 fuel x0 fuel 0 0 0).bind <| contL <| un1 fun z1 =>
  some (decide (z1 = 0))

set_option maxRecDepth 100000 in
set_option maxHeartbeats 4000000 in
theorem w_spec_CodeOk (fuel : Nat) {x0 : List I4} {a_x0 : Option Addr} {n_x0 c_x0 : Nat} {r0 : Bool} {w0 : World} (h : m_spec_CodeOk fuel x0 = some r0) (hr_x0 : RdT (fun b => ¬ False) w0 (rowT x0) (.slice a_x0 n_x0 c_x0)) :
    Calls Try.prog 91 #[.slice a_x0 n_x0 c_x0] w0 fun e w => e = .returned (.bool r0) ∧ St w0 (fun _ => False) w [] := by
  obtain rfl := hr_x0.neq
  have HT : St w0 (fun _ => False) w0 [] := St.init0
  rw [m_spec_CodeOk] at h
  refine calls_fr (n := 54) [.slice a_x0 x0.length c_x0] Try.func91 rfl rfl rfl fun a HF => ?_
  have HT : St w0 (fun _ => False) w0 [] := HT
  refine wp_seq (wc_text (wa HF rfl rfl rfl fun a HF => ?_))
  refine wc_end (then_n (wp_seq (wp_seq (wc_text (wm HF rfl rfl rfl fun a HF => ?_)))))
  refine wc_lenR HF nS Try.underlying36 rfl rfl rfl fun a HF => ?_
  refine wc_bin HF nS rfl rfl b_gt rfl rfl fun a HF => ?_
  refine wc_end (then_n ?_)
  by_cases hb1 : 24 < (x0.length : Int)
  have h := ifp hb1 h
  refine wp_if (b' := true) HF rfl (decide_eq_true hb1) ?_
  refine wp_seq (wc_text (wa HF rfl rfl rfl fun a HF => ?_))
  refine wc_end (then_n (wp_ret ?_))
  obtain rfl := Option.some.inj h
  refine then_r (?_)
  refine bp_ret HF (res_one rfl HF rfl) ?_
  exact ⟨rfl, HT⟩
  have h := ifn hb1 h
  refine wp_if (b' := false) HF rfl (decide_eq_false hb1) ?_
  refine wp_skip (then_n (wp_seq (wc_text (wa HF rfl rfl rfl fun a HF => ?_))))
  refine wc_end (then_n (wp_seq (wc_text (wa HF rfl rfl rfl fun a HF => ?_))))
  refine wc_end (then_n ?_)
  obtain ⟨q1, hx1, h⟩ := obs h
  refine wp_cut (fun a w => ∃ z1, q1 = .brk z1 ∧ Fr a 54 [(3, .int .i64 z1)] ∧ St w0 (fun _ => False) w []) ?_ ?_
  have hk1 := h
  have h := hx1
  refine wp_seq (wc_text (wa HF rfl rfl rfl fun a HF => ?_))
  refine wc_end (then_n (wp_block (wp_loopN (fun k1 a w => ∃ z2 z3 z4, m_spec_CodeOk_L0 fuel x0 k1 z2 z3 z4 = some q1 ∧ Fr a 54 [(0, .slice a_x0 x0.length c_x0), (3, .int .i64 z2), (4, .int .i64 z3), (5, .int .i64 z4)] ∧ St w0 (fun _ => False) w []) fuel ⟨0, 0, 0, h, (HF.keep (HF.keep (HF.keep (HF.keep HF.nil rfl) rfl) rfl) rfl), HT⟩ ?_)))
  rintro k1 a w ⟨z2, z3, z4, h, HF, HT⟩
  rcases k1 with _ | k1
  cases h
  rw [m_spec_CodeOk_L0] at h
  refine ?_
  refine wp_seq (wp_seq (wc_text (wm HF rfl rfl rfl fun a HF => ?_)))
  refine wm HF rfl rfl rfl fun a HF => ?_
  refine wc_lenR HF nS Try.underlying36 rfl rfl rfl fun a HF => ?_
  refine wc_bin HF nS rfl rfl b_lt rfl rfl fun a HF => ?_
  refine wc_end (then_n ?_)
  by_cases hb2 : z4 < (x0.length : Int)
  have h := ifp hb2 h
  refine wp_if (b' := true) HF rfl (decide_eq_true hb2) ?_
  refine wp_skip (then_n ?_)
  obtain ⟨q2, hx2, h⟩ := obs h
  refine wp_cut (fun a w => ∃ z5 z6, q2 = .brk (z5, z6) ∧ Fr a 54 [(0, .slice a_x0 x0.length c_x0), (3, .int .i64 z5), (4, .int .i64 z6), (5, .int .i64 z4)] ∧ St w0 (fun _ => False) w []) ?_ ?_
  have hk2 := h
  have h := hx2
  refine wp_block (wp_seq (wp_seq (wc_text (wm HF rfl rfl rfl fun a HF => ?_))))
  refine wm HF rfl rfl rfl fun a HF => ?_
  obtain ⟨e1, hx3, h⟩ := obs h
  obtain ⟨b1, o1, ha1⟩ := (HT.ro hr_x0).any.addr hx3
  refine wc_ixaddr HF nS el36 rfl ha1 ((HT.ro hr_x0).any).neq rfl hx3 rfl rfl fun a HF => ?_
  have hc1 := (HT.ro hr_x0).any.flatAt ha1 hx3
  refine wc_loadA (vs := [.int .i64 e1.a, .int .i64 e1.b, .int .i64 e1.c, .int .i64 e1.d]) HF rfl ag85 rfl (hc1.part 0 4) rfl rfl fun a HF => ?_
  obtain ⟨y1, hx4, h⟩ := obs h
  refine wc_call HF cf117 rfl (w_spec_OpOk fuel hx4) rfl rfl ?_
  rintro e w ⟨rfl, hE⟩
  have hb := hE.below
  have HT := HT.pure hE
  have HT : St w0 (fun _ => False) w [] := HT
  refine ⟨_, rfl, nS, fun a HF => ?_⟩
  refine wc_not HF nS rfl rfl rfl fun a HF => ?_
  refine wc_end (then_n ?_)
  by_cases hb3 : y1 = true
  have h := ifp hb3 h
  refine wp_if (b' := false) HF rfl (notT hb3) ?_
  refine wp_skip (then_n ?_)
  obtain ⟨q3, hx5, h⟩ := obs h
  refine wp_cut (fun a w => ∃ z7 z8, q3 = .brk (z7, z8) ∧ Fr a 54 [(0, .slice a_x0 x0.length c_x0), (3, .int .i64 z7), (4, .int .i64 z8), (5, .int .i64 z4)] ∧ St w0 (fun _ => False) w []) ?_ ?_
  have hk3 := h
  have h := hx5
  refine wp_seq (wc_text (wm HF rfl rfl rfl fun a HF => ?_))
  refine wm HF rfl rfl rfl fun a HF => ?_
  refine wc_ixaddr HF nS el36 rfl ha1 ((HT.ro hr_x0).any).neq rfl hx3 rfl rfl fun a HF => ?_
  refine wc_faddr HF nS rfl fl85_0 rfl rfl fun a HF => ?_
  have hc2 := (HT.ro hr_x0).any.flatAt ha1 hx3
  refine wc_load HF rfl sc3 (hc2.get 0 rfl) rfl rfl fun a HF => ?_
  refine wc_end (then_n (wp_block (wp_seq (wc_text (wc_bin HF nS rfl rfl b_eq rfl rfl fun a HF => ?_)))))
  refine wa HF rfl rfl rfl fun a HF => ?_
  refine wc_end (then_n ?_)
  by_cases hb4 : e1.a = 8
  have h := ifp hb4 h
  refine wp_if (b' := true) HF rfl (decide_eq_true hb4) ?_
  refine wc_text (wm HF rfl rfl rfl fun a HF => ?_)
  obtain ⟨hg1, h⟩ := grd h
  refine wc_bin HF nS rfl rfl (b_add hg1) rfl rfl fun a HF => ?_
  refine wa HF rfl rfl rfl fun a HF => ?_
  exact wc_end (blk_n (then_n ⟨z2 + 1, z3, (Option.some.inj h).symm, (HF.keep (HF.keep (HF.keep (HF.keep HF.nil rfl) rfl) rfl) rfl), HT⟩))
  have h := ifn hb4 h
  refine wp_if (b' := false) HF rfl (decide_eq_false hb4) ?_
  refine wp_seq (wc_text (wc_bin HF nS rfl rfl b_eq rfl rfl fun a HF => ?_))
  refine wa HF rfl rfl rfl fun a HF => ?_
  refine wc_end (then_n ?_)
  by_cases hb5 : e1.a = 9
  have h := ifp hb5 h
  refine wp_if (b' := true) HF rfl (decide_eq_true hb5) ?_
  refine wc_text (wm HF rfl rfl rfl fun a HF => ?_)
  obtain ⟨hg2, h⟩ := grd h
  refine wc_bin HF nS rfl rfl (b_sub hg2) rfl rfl fun a HF => ?_
  refine wa HF rfl rfl rfl fun a HF => ?_
  exact wc_end (blk_n (then_n ⟨z2 - 1, z3, (Option.some.inj h).symm, (HF.keep (HF.keep (HF.keep (HF.keep HF.nil rfl) rfl) rfl) rfl), HT⟩))
  have h := ifn hb5 h
  refine wp_if (b' := false) HF rfl (decide_eq_false hb5) ?_
  refine wp_seq (wc_text (wc_bin HF nS rfl rfl b_eq rfl rfl fun a HF => ?_))
  refine wa HF rfl rfl rfl fun a HF => ?_
  refine wc_end (then_n ?_)
  by_cases hb6 : e1.a = 7
  have h := ifp hb6 h
  refine wp_if (b' := true) HF rfl (decide_eq_true hb6) ?_
  refine wp_seq (wc_text (wm HF rfl rfl rfl fun a HF => ?_))
  refine wm HF rfl rfl rfl fun a HF => ?_
  obtain ⟨y2, hx6, h⟩ := obs h
  refine wc_call HF cf118 rfl (w_spec_l5Skip fuel hx6 (HT.ro hr_x0).any) rfl rfl ?_
  rintro e w ⟨rfl, hE⟩
  have hb := hE.below
  have HT := HT.pure hE
  have HT : St w0 (fun _ => False) w [] := HT
  refine ⟨_, rfl, nS, fun a HF => ?_⟩
  refine wc_not HF nS rfl rfl rfl fun a HF => ?_
  refine wc_end (then_n ?_)
  by_cases hb7 : y2 = true
  have h := ifp hb7 h
  refine wp_if (b' := false) HF rfl (notT hb7) ?_
  exact wp_skip (blk_n (then_n ⟨z2, z3, (Option.some.inj h).symm, (HF.keep (HF.keep (HF.keep (HF.keep HF.nil rfl) rfl) rfl) rfl), HT⟩))
  have h := ifn hb7 h
  refine wp_if (b' := true) HF rfl (notF (Bool.eq_false_iff.2 hb7)) ?_
  refine wp_seq (wc_text (wa HF rfl rfl rfl fun a HF => ?_))
  refine wc_end (then_n (wp_ret ?_))
  obtain rfl := Option.some.inj h
  have h := retM hk3
  obtain rfl := Option.some.inj h
  have h := retM hk2
  obtain rfl := Option.some.inj h
  have h := retL hk1
  obtain rfl := Option.some.inj h
  refine blk_r (then_r (blk_r (then_r (then_r (blk_r (then_r (?_)))))))
  refine bp_ret HF (res_one rfl HF rfl) ?_
  exact ⟨rfl, HT⟩
  have h := ifn hb6 h
  refine wp_if (b' := false) HF rfl (decide_eq_false hb6) ?_
  refine wp_seq (wc_text (wc_bin HF nS rfl rfl b_eq rfl rfl fun a HF => ?_))
  refine wa HF rfl rfl rfl fun a HF => ?_
  refine wc_end (then_n ?_)
  by_cases hb8 : e1.a = 11
  have h := ifp hb8 h
  refine wp_if (b' := true) HF rfl (decide_eq_true hb8) ?_
  refine wp_seq (wc_text (wm HF rfl rfl rfl fun a HF => ?_))
  obtain ⟨hg3, h⟩ := grd h
  refine wc_bin HF nS rfl rfl (b_add hg3) rfl rfl fun a HF => ?_
  refine wa HF rfl rfl rfl fun a HF => ?_
  refine wc_end (then_n (wp_seq (wc_text (wm HF rfl rfl rfl fun a HF => ?_))))
  refine wc_bin HF nS rfl rfl b_gt rfl rfl fun a HF => ?_
  refine wm HF rfl rfl rfl fun a HF => ?_
  by_cases hb9 : 0 < z2
  have h := ifp hb9 h
  refine wc_skip HF nS (HF.wn rfl rfl rfl rfl (decide_eq_true hb9)) rfl fun a HF => ?_
  refine wc_skip HF nS (HF.wn rfl rfl rfl rfl (decide_eq_true hb9)) rfl fun a HF => ?_
  refine wc_pick (b := true) HF nS rfl (decide_eq_true hb9) rfl rfl rfl fun a HF => ?_
  refine wc_end (then_n (wp_if (b' := true) HF rfl rfl ?_))
  refine wp_seq (wc_text (wa HF rfl rfl rfl fun a HF => ?_))
  refine wc_end (then_n (wp_ret ?_))
  obtain rfl := Option.some.inj h
  have h := retM hk3
  obtain rfl := Option.some.inj h
  have h := retM hk2
  obtain rfl := Option.some.inj h
  have h := retL hk1
  obtain rfl := Option.some.inj h
  refine blk_r (then_r (blk_r (then_r (then_r (blk_r (then_r (?_)))))))
  refine bp_ret HF (res_one rfl HF rfl) ?_
  exact ⟨rfl, HT⟩
  have h := ifn hb9 h
  refine wc_move HF nS rfl (HF.wy rfl rfl rfl rfl (decide_eq_false hb9)) rfl fun a HF => ?_
  refine wc_bin HF nS rfl rfl b_gt (HF.wy rfl rfl rfl rfl (decide_eq_false hb9)) rfl fun a HF => ?_
  refine wc_pick (b := false) HF nS rfl (decide_eq_false hb9) rfl rfl rfl fun a HF => ?_
  refine wc_end (then_n ?_)
  by_cases hb10 : 1 < (z3 + 1)
  have h := ifp hb10 h
  refine wp_if (b' := true) HF rfl (decide_eq_true hb10) ?_
  refine wp_seq (wc_text (wa HF rfl rfl rfl fun a HF => ?_))
  refine wc_end (then_n (wp_ret ?_))
  obtain rfl := Option.some.inj h
  have h := retM hk3
  obtain rfl := Option.some.inj h
  have h := retM hk2
  obtain rfl := Option.some.inj h
  have h := retL hk1
  obtain rfl := Option.some.inj h
  refine blk_r (then_r (blk_r (then_r (then_r (blk_r (then_r (?_)))))))
  refine bp_ret HF (res_one rfl HF rfl) ?_
  exact ⟨rfl, HT⟩
  have h := ifn hb10 h
  refine wp_if (b' := false) HF rfl (decide_eq_false hb10) ?_
  exact wp_skip (blk_n (then_n ⟨z2, z3 + 1, (Option.some.inj h).symm, (HF.keep (HF.keep (HF.keep (HF.keep HF.nil rfl) rfl) rfl) rfl), HT⟩))
  have h := ifn hb8 h
  refine wp_if (b' := false) HF rfl (decide_eq_false hb8) ?_
  exact wp_skip (blk_n (then_n ⟨z2, z3, (Option.some.inj h).symm, (HF.keep (HF.keep (HF.keep (HF.keep HF.nil rfl) rfl) rfl) rfl), HT⟩))
  rintro a w ⟨z7, z8, rfl, HF, HT⟩
  have h := brkM2 h
  refine ?_
  refine wp_seq (wc_text (wm HF rfl rfl rfl fun a HF => ?_))
  refine wc_bin HF nS rfl rfl b_lt rfl rfl fun a HF => ?_
  refine wc_end (then_n ?_)
  by_cases hb11 : z7 < 0
  have h := ifp hb11 h
  refine wp_if (b' := true) HF rfl (decide_eq_true hb11) ?_
  refine wp_seq (wc_text (wa HF rfl rfl rfl fun a HF => ?_))
  refine wc_end (then_n (wp_ret ?_))
  obtain rfl := Option.some.inj h
  have h := retM hk2
  obtain rfl := Option.some.inj h
  have h := retL hk1
  obtain rfl := Option.some.inj h
  refine blk_r (then_r (then_r (blk_r (then_r (?_)))))
  refine bp_ret HF (res_one rfl HF rfl) ?_
  exact ⟨rfl, HT⟩
  have h := ifn hb11 h
  refine wp_if (b' := false) HF rfl (decide_eq_false hb11) ?_
  exact wp_skip (blk_n (then_n ⟨z7, z8, (Option.some.inj h).symm, (HF.keep (HF.keep (HF.keep (HF.keep HF.nil rfl) rfl) rfl) rfl), HT⟩))
  have h := ifn hb3 h
  refine wp_if (b' := true) HF rfl (notF (Bool.eq_false_iff.2 hb3)) ?_
  refine wp_seq (wc_text (wa HF rfl rfl rfl fun a HF => ?_))
  refine wc_end (then_n (wp_ret ?_))
  obtain rfl := Option.some.inj h
  have h := retM hk2
  obtain rfl := Option.some.inj h
  have h := retL hk1
  obtain rfl := Option.some.inj h
  refine then_r (blk_r (then_r (then_r (blk_r (then_r (?_))))))
  refine bp_ret HF (res_one rfl HF rfl) ?_
  exact ⟨rfl, HT⟩
  rintro a w ⟨z5, z6, rfl, HF, HT⟩
  have h := brkM2 h
  refine ?_
  refine wc_text (wm HF rfl rfl rfl fun a HF => ?_)
  obtain ⟨hg4, h⟩ := grd h
  refine wc_bin HF nS rfl rfl (b_add hg4) rfl rfl fun a HF => ?_
  refine wa HF rfl rfl rfl fun a HF => ?_
  exact wc_end (then_n ⟨k1, Nat.lt_succ_self k1, z5, z6, z4 + 1, h, (HF.keep (HF.keep (HF.keep (HF.keep HF.nil rfl) rfl) rfl) rfl), HT⟩)
  have h := ifn hb2 h
  refine wp_if (b' := false) HF rfl (decide_eq_false hb2) ?_
  refine wp_exit ?_
  refine then_x (then_x (?_))
  refine blk_x ?_
  exact then_n ⟨z2, (Option.some.inj h).symm, (HF.keep HF.nil rfl), HT⟩
  rintro a w ⟨z1, rfl, HF, HT⟩
  have h := brkL1u h
  refine ?_
  refine wp_seq (wc_text (wm HF rfl rfl rfl fun a HF => ?_))
  refine wc_bin HF nS rfl rfl b_eq rfl rfl fun a HF => ?_
  refine wa HF rfl rfl rfl fun a HF => ?_
  refine wc_end (then_n (wp_ret ?_))
  obtain rfl := Option.some.inj h
  refine bp_ret HF (res_one rfl HF rfl) ?_
  exact ⟨rfl, HT⟩

def m_spec_HasFork_L0 (fuel : Nat) (x0 : List I4) : Nat → Int → Option (Lp Unit Bool)
  | 0, _ => none
  | k1 + 1, z1 =>
    if z1 < (x0.length : Int) then
      (at? x0 z1).bind fun e1 =>
      if e1.a = 11 then
        some (.ret true)
      else
      if in64 (z1 + 1) then
        m_spec_HasFork_L0 fuel x0 k1 (z1 + 1)
      else none
    else
    some (.brk ())

def m_spec_HasFork (fuel : Nat) (x0 : List I4) : Option Bool :=
  (m_spec_HasFork_L0 fuel x0 fuel 0).bind <| contL <| un1 fun _ =>
  some false

set_option maxRecDepth 100000 in
set_option maxHeartbeats 4000000 in
theorem w_spec_HasFork (fuel : Nat) {x0 : List I4} {a_x0 : Option Addr} {n_x0 c_x0 : Nat} {r0 : Bool} {w0 : World} (h : m_spec_HasFork fuel x0 = some r0) (hr_x0 : RdT (fun b => ¬ False) w0 (rowT x0) (.slice a_x0 n_x0 c_x0)) :
    Calls Try.prog 92 #[.slice a_x0 n_x0 c_x0] w0 fun e w => e = .returned (.bool r0) ∧ St w0 (fun _ => False) w [] := by
  obtain rfl := hr_x0.neq
  have HT : St w0 (fun _ => False) w0 [] := St.init0
  rw [m_spec_HasFork] at h
  refine calls_fr (n := 16) [.slice a_x0 x0.length c_x0] Try.func92 rfl rfl rfl fun a HF => ?_
  have HT : St w0 (fun _ => False) w0 [] := HT
  refine wp_seq (wc_text (wa HF rfl rfl rfl fun a HF => ?_))
  refine wc_end (then_n ?_)
  obtain ⟨q1, hx1, h⟩ := obs h
  refine wp_cut (fun a w => q1 = .brk () ∧ Fr a 16 [] ∧ St w0 (fun _ => False) w []) ?_ ?_
  have hk1 := h
  have h := hx1
  refine wp_seq (wc_text (wa HF rfl rfl rfl fun a HF => ?_))
  refine wc_end (then_n (wp_block (wp_loopN (fun k1 a w => ∃ z1, m_spec_HasFork_L0 fuel x0 k1 z1 = some q1 ∧ Fr a 16 [(0, .slice a_x0 x0.length c_x0), (3, .int .i64 z1)] ∧ St w0 (fun _ => False) w []) fuel ⟨0, h, (HF.keep (HF.keep HF.nil rfl) rfl), HT⟩ ?_)))
  rintro k1 a w ⟨z1, h, HF, HT⟩
  rcases k1 with _ | k1
  cases h
  rw [m_spec_HasFork_L0] at h
  refine ?_
  refine wp_seq (wp_seq (wc_text (wm HF rfl rfl rfl fun a HF => ?_)))
  refine wm HF rfl rfl rfl fun a HF => ?_
  refine wc_lenR HF nS Try.underlying36 rfl rfl rfl fun a HF => ?_
  refine wc_bin HF nS rfl rfl b_lt rfl rfl fun a HF => ?_
  refine wc_end (then_n ?_)
  by_cases hb1 : z1 < (x0.length : Int)
  have h := ifp hb1 h
  refine wp_if (b' := true) HF rfl (decide_eq_true hb1) ?_
  refine wp_skip (then_n (wp_seq (wp_block (wp_seq (wc_text (wm HF rfl rfl rfl fun a HF => ?_))))))
  refine wm HF rfl rfl rfl fun a HF => ?_
  obtain ⟨e1, hx2, h⟩ := obs h
  obtain ⟨b1, o1, ha1⟩ := (HT.ro hr_x0).any.addr hx2
  refine wc_ixaddr HF nS el36 rfl ha1 ((HT.ro hr_x0).any).neq rfl hx2 rfl rfl fun a HF => ?_
  refine wc_faddr HF nS rfl fl85_0 rfl rfl fun a HF => ?_
  have hc1 := (HT.ro hr_x0).any.flatAt ha1 hx2
  refine wc_load HF rfl sc3 (hc1.get 0 rfl) rfl rfl fun a HF => ?_
  refine wc_bin HF nS rfl rfl b_eq rfl rfl fun a HF => ?_
  refine wc_end (then_n ?_)
  by_cases hb2 : e1.a = 11
  have h := ifp hb2 h
  refine wp_if (b' := true) HF rfl (decide_eq_true hb2) ?_
  refine wp_seq (wc_text (wa HF rfl rfl rfl fun a HF => ?_))
  refine wc_end (then_n (wp_ret ?_))
  obtain rfl := Option.some.inj h
  have h := retL hk1
  obtain rfl := Option.some.inj h
  refine blk_r (then_r (then_r (blk_r (then_r (?_)))))
  refine bp_ret HF (res_one rfl HF rfl) ?_
  exact ⟨rfl, HT⟩
  have h := ifn hb2 h
  refine wp_if (b' := false) HF rfl (decide_eq_false hb2) ?_
  refine wp_skip (blk_n (then_n (wc_text (wm HF rfl rfl rfl fun a HF => ?_))))
  obtain ⟨hg1, h⟩ := grd h
  refine wc_bin HF nS rfl rfl (b_add hg1) rfl rfl fun a HF => ?_
  refine wa HF rfl rfl rfl fun a HF => ?_
  exact wc_end (then_n ⟨k1, Nat.lt_succ_self k1, z1 + 1, h, (HF.keep (HF.keep HF.nil rfl) rfl), HT⟩)
  have h := ifn hb1 h
  refine wp_if (b' := false) HF rfl (decide_eq_false hb1) ?_
  refine wp_exit ?_
  refine then_x (then_x (?_))
  refine blk_x ?_
  exact then_n ⟨(Option.some.inj h).symm, HF.nil, HT⟩
  rintro a w ⟨rfl, HF, HT⟩
  have h := brkL1u h
  refine ?_
  refine wp_seq (wc_text (wa HF rfl rfl rfl fun a HF => ?_))
  refine wc_end (then_n (wp_ret ?_))
  obtain rfl := Option.some.inj h
  refine bp_ret HF (res_one rfl HF rfl) ?_
  exact ⟨rfl, HT⟩

def m_spec_Touches (fuel : Nat) (x0_0 : Int) (x0_1 : Int) (x0_2 : Int) (x0_3 : Int) : Option Int :=
  (m_spec_OpOk fuel x0_0 x0_1 x0_2 x0_3).bind fun y1 =>
  if y1 = true then
    (
      (
        if x0_0 = 5 then
          some (decide (x0_0 = 5))
        else
        some (decide (x0_0 = 6))).bind fun z1 =>
      if z1 = true then
        some (.ret 1)
      else
      (
        if x0_0 = 12 then
          some (decide (x0_0 = 12))
        else
        if x0_0 = 13 then
          some (decide (x0_0 = 13))
        else
        if x0_0 = 14 then
          some (decide (x0_0 = 14))
        else
        if x0_0 = 15 then
          some (decide (x0_0 = 15))
        else
        some (decide (x0_0 = 16))).bind fun z2 =>
      if z2 = true then
        some (.ret 2)
      else
      some (.brk ())).bind <| contL <| un1 fun _ =>
    some 0
  else
  some 0

set_option maxRecDepth 100000 in
set_option maxHeartbeats 4000000 in
theorem w_spec_Touches (fuel : Nat) {x0_0 : Int} {x0_1 : Int} {x0_2 : Int} {x0_3 : Int} {r0 : Int} {w0 : World} (h : m_spec_Touches fuel x0_0 x0_1 x0_2 x0_3 = some r0) :
    Calls Try.prog 93 #[.agg #[.int .i64 x0_0, .int .i64 x0_1, .int .i64 x0_2, .int .i64 x0_3]] w0 fun e w => e = .returned (.int .i64 r0) ∧ St w0 (fun _ => False) w [] := by
  have HT : St w0 (fun _ => False) w0 [] := St.init0
  rw [m_spec_Touches] at h
  refine calls_fr (n := 17) [.agg #[.int .i64 x0_0, .int .i64 x0_1, .int .i64 x0_2, .int .i64 x0_3]] Try.func93 rfl rfl rfl fun a HF => ?_
  have HT : St w0 (fun _ => False) w0 [] := HT
  refine wp_seq (wc_text (wc_box (cs := [.int .i64 x0_0, .int .i64 x0_1, .int .i64 x0_2, .int .i64 x0_3]) HF HT rfl rfl rfl rfl (fun p1 w HT hb => ⟨nS, fun a HF => ?_⟩)))
  refine wa HF rfl rfl rfl fun a HF => ?_
  refine wc_end (then_n (wp_seq (wp_seq (wc_text (wc_loadA (vs := [.int .i64 x0_0, .int .i64 x0_1, .int .i64 x0_2, .int .i64 x0_3]) HF rfl ag85 rfl ((HT.boxAt 0 rfl).part 0 4) rfl rfl fun a HF => ?_)))))
  obtain ⟨y1, hx1, h⟩ := obs h
  refine wc_call HF cf117 rfl (w_spec_OpOk fuel hx1) rfl rfl ?_
  rintro e w ⟨rfl, hE⟩
  have hb := hE.below
  have HT := HT.pure hE
  have HT : St w0 (fun _ => False) w [Box p1 [.int .i64 x0_0, .int .i64 x0_1, .int .i64 x0_2, .int .i64 x0_3]] := HT
  refine ⟨_, rfl, nS, fun a HF => ?_⟩
  refine wc_not HF nS rfl rfl rfl fun a HF => ?_
  refine wc_end (then_n ?_)
  by_cases hb1 : y1 = true
  have h := ifp hb1 h
  refine wp_if (b' := false) HF rfl (notT hb1) ?_
  refine wp_skip (then_n ?_)
  obtain ⟨q1, hx2, h⟩ := obs h
  refine wp_cut (fun a w => q1 = .brk () ∧ Fr a 17 [] ∧ St w0 (fun _ => False) w []) ?_ ?_
  have hk1 := h
  have h := hx2
  refine wp_seq (wc_text (wc_faddr HF nS rfl fl85_0 rfl rfl fun a HF => ?_))
  refine wc_load HF rfl sc3 ((HT.boxAt 0 rfl).get 0 rfl) rfl rfl fun a HF => ?_
  refine wc_end (then_n (wp_block ?_))
  obtain ⟨z1, hx3, h⟩ := obs h
  refine wp_cut (fun a w => Fr a 17 [(7, .int .i64 x0_0), (8, .bool z1)] ∧ St w0 (fun _ => False) w []) ?_ ?_
  have hk2 := h
  have h := hx3
  refine wp_seq (wc_text (wc_bin HF nS rfl rfl b_eq rfl rfl fun a HF => ?_))
  refine wa HF rfl rfl rfl fun a HF => ?_
  refine wc_end (then_n ?_)
  by_cases hb2 : x0_0 = 5
  have h := ifp hb2 h
  refine wp_if (b' := true) HF rfl (decide_eq_true hb2) ?_
  refine wp_skip ?_
  have HT := HT.t0
  obtain rfl := Option.some.inj h
  exact then_n ⟨(HF.keep (HF.keep HF.nil rfl) rfl), HT⟩
  have h := ifn hb2 h
  refine wp_if (b' := false) HF rfl (decide_eq_false hb2) ?_
  refine wc_text (wc_bin HF nS rfl rfl b_eq rfl rfl fun a HF => ?_)
  refine wa HF rfl rfl rfl fun a HF => ?_
  refine wc_end ?_
  have HT := HT.t0
  obtain rfl := Option.some.inj h
  exact then_n ⟨(HF.keep (HF.keep HF.nil rfl) rfl), HT⟩
  rintro a w ⟨HF, HT⟩
  refine ?_
  by_cases hb3 : z1 = true
  have h := ifp hb3 h
  refine wp_if (b' := true) HF rfl hb3 ?_
  refine wp_seq (wc_text (wa HF rfl rfl rfl fun a HF => ?_))
  refine wc_end (then_n (wp_ret ?_))
  obtain rfl := Option.some.inj h
  have h := retL hk1
  obtain rfl := Option.some.inj h
  refine blk_r (then_r (?_))
  refine bp_ret HF (res_one rfl HF rfl) ?_
  exact ⟨rfl, HT⟩
  have h := ifn hb3 h
  refine wp_if (b' := false) HF rfl (Bool.eq_false_iff.2 hb3) ?_
  obtain ⟨z2, hx4, h⟩ := obs h
  refine wp_cut (fun a w => Fr a 17 [(11, .bool z2)] ∧ St w0 (fun _ => False) w []) ?_ ?_
  have hk2 := h
  have h := hx4
  refine wp_seq (wc_text (wc_bin HF nS rfl rfl b_eq rfl rfl fun a HF => ?_))
  refine wa HF rfl rfl rfl fun a HF => ?_
  refine wc_end (then_n ?_)
  by_cases hb4 : x0_0 = 12
  have h := ifp hb4 h
  refine wp_if (b' := true) HF rfl (decide_eq_true hb4) ?_
  refine wp_skip ?_
  obtain rfl := Option.some.inj h
  exact then_n ⟨(HF.keep HF.nil rfl), HT⟩
  have h := ifn hb4 h
  refine wp_if (b' := false) HF rfl (decide_eq_false hb4) ?_
  refine wp_seq (wc_text (wc_bin HF nS rfl rfl b_eq rfl rfl fun a HF => ?_))
  refine wa HF rfl rfl rfl fun a HF => ?_
  refine wc_end (then_n ?_)
  by_cases hb5 : x0_0 = 13
  have h := ifp hb5 h
  refine wp_if (b' := true) HF rfl (decide_eq_true hb5) ?_
  refine wp_skip ?_
  obtain rfl := Option.some.inj h
  exact then_n ⟨(HF.keep HF.nil rfl), HT⟩
  have h := ifn hb5 h
  refine wp_if (b' := false) HF rfl (decide_eq_false hb5) ?_
  refine wp_seq (wc_text (wc_bin HF nS rfl rfl b_eq rfl rfl fun a HF => ?_))
  refine wa HF rfl rfl rfl fun a HF => ?_
  refine wc_end (then_n ?_)
  by_cases hb6 : x0_0 = 14
  have h := ifp hb6 h
  refine wp_if (b' := true) HF rfl (decide_eq_true hb6) ?_
  refine wp_skip ?_
  obtain rfl := Option.some.inj h
  exact then_n ⟨(HF.keep HF.nil rfl), HT⟩
  have h := ifn hb6 h
  refine wp_if (b' := false) HF rfl (decide_eq_false hb6) ?_
  refine wp_seq (wc_text (wc_bin HF nS rfl rfl b_eq rfl rfl fun a HF => ?_))
  refine wa HF rfl rfl rfl fun a HF => ?_
  refine wc_end (then_n ?_)
  by_cases hb7 : x0_0 = 15
  have h := ifp hb7 h
  refine wp_if (b' := true) HF rfl (decide_eq_true hb7) ?_
  refine wp_skip ?_
  obtain rfl := Option.some.inj h
  exact then_n ⟨(HF.keep HF.nil rfl), HT⟩
  have h := ifn hb7 h
  refine wp_if (b' := false) HF rfl (decide_eq_false hb7) ?_
  refine wc_text (wc_bin HF nS rfl rfl b_eq rfl rfl fun a HF => ?_)
  refine wa HF rfl rfl rfl fun a HF => ?_
  refine wc_end ?_
  obtain rfl := Option.some.inj h
  exact then_n ⟨(HF.keep HF.nil rfl), HT⟩
  rintro a w ⟨HF, HT⟩
  refine ?_
  by_cases hb8 : z2 = true
  have h := ifp hb8 h
  refine wp_if (b' := true) HF rfl hb8 ?_
  refine wp_seq (wc_text (wa HF rfl rfl rfl fun a HF => ?_))
  refine wc_end (then_n (wp_ret ?_))
  obtain rfl := Option.some.inj h
  have h := retL hk1
  obtain rfl := Option.some.inj h
  refine blk_r (then_r (?_))
  refine bp_ret HF (res_one rfl HF rfl) ?_
  exact ⟨rfl, HT⟩
  have h := ifn hb8 h
  refine wp_if (b' := false) HF rfl (Bool.eq_false_iff.2 hb8) ?_
  exact wp_skip (blk_n (then_n ⟨(Option.some.inj h).symm, HF.nil, HT⟩))
  rintro a w ⟨rfl, HF, HT⟩
  have h := brkL1u h
  refine ?_
  refine wp_seq (wc_text (wa HF rfl rfl rfl fun a HF => ?_))
  refine wc_end (then_n (wp_ret ?_))
  obtain rfl := Option.some.inj h
  refine bp_ret HF (res_one rfl HF rfl) ?_
  exact ⟨rfl, HT⟩
  have h := ifn hb1 h
  refine wp_if (b' := true) HF rfl (notF (Bool.eq_false_iff.2 hb1)) ?_
  refine wp_seq (wc_text (wa HF rfl rfl rfl fun a HF => ?_))
  refine wc_end (then_n (wp_ret ?_))
  obtain rfl := Option.some.inj h
  refine then_r (?_)
  refine bp_ret HF (res_one rfl HF rfl) ?_
  have HT := HT.t0
  exact ⟨rfl, HT⟩

def m_spec_KidOk_L0 (fuel : Nat) (x0 : List I4) : Nat → Int → Option (Lp Unit Bool)
  | 0, _ => none
  | k1 + 1, z1 =>
    if z1 < (x0.length : Int) then
      (at? x0 z1).bind fun e1 =>
      (m_spec_Touches fuel e1.a e1.b e1.c e1.d).bind fun y3 =>
      if y3 = 2 then
        some (.ret false)
      else
      if in64 (z1 + 1) then
        m_spec_KidOk_L0 fuel x0 k1 (z1 + 1)
      else none
    else
    some (.brk ())

def m_spec_KidOk (fuel : Nat) (x0 : List I4) : Option Bool :=
  (m_spec_CodeOk fuel x0).bind fun y1 =>
  if y1 = true then
    (m_spec_HasFork fuel x0).bind fun y2 =>
    if y2 = true then
      some false
    else
    (m_spec_KidOk_L0 fuel x0 fuel 0).bind <| contL <| un1 fun _ =>
    some true
  else
  some false

set_option maxRecDepth 100000 in
set_option maxHeartbeats 4000000 in
theorem w_spec_KidOk (fuel : Nat) {x0 : List I4} {a_x0 : Option Addr} {n_x0 c_x0 : Nat} {r0 : Bool} {w0 : World} (h : m_spec_KidOk fuel x0 = some r0) (hr_x0 : RdT (fun b => ¬ False) w0 (rowT x0) (.slice a_x0 n_x0 c_x0)) :
    Calls Try.prog 53 #[.slice a_x0 n_x0 c_x0] w0 fun e w => e = .returned (.bool r0) ∧ St w0 (fun _ => False) w [] := by
  obtain rfl := hr_x0.neq
  have HT : St w0 (fun _ => False) w0 [] := St.init0
  rw [m_spec_KidOk] at h
  refine calls_fr (n := 23) [.slice a_x0 x0.length c_x0] Try.func53 rfl rfl rfl fun a HF => ?_
  have HT : St w0 (fun _ => False) w0 [] := HT
  refine wp_seq (wc_text (wa HF rfl rfl rfl fun a HF => ?_))
  refine wc_end (then_n (wp_seq (wp_seq (wc_text (wm HF rfl rfl rfl fun a HF => ?_)))))
  obtain ⟨y1, hx1, h⟩ := obs h
  refine wc_call HF cf91 rfl (w_spec_CodeOk fuel hx1 (HT.ro hr_x0).any) rfl rfl ?_
  rintro e w ⟨rfl, hE⟩
  have hb := hE.below
  have HT := HT.pure hE
  have HT : St w0 (fun _ => False) w [] := HT
  refine ⟨_, rfl, nS, fun a HF => ?_⟩
  refine wc_not HF nS rfl rfl rfl fun a HF => ?_
  refine wm HF rfl rfl rfl fun a HF => ?_
  by_cases hb1 : y1 = true
  have h := ifp hb1 h
  refine wc_move HF nS rfl (HF.wy rfl rfl rfl rfl (notT hb1)) rfl fun a HF => ?_
  obtain ⟨y2, hx2, h⟩ := obs h
  refine wc_call HF cf92 rfl (w_spec_HasFork fuel hx2 (HT.ro hr_x0).any) (HF.wy rfl rfl rfl rfl (notT hb1)) rfl ?_
  rintro e w ⟨rfl, hE⟩
  have hb := hE.below
  have HT := HT.pure hE
  have HT : St w0 (fun _ => False) w [] := HT
  refine ⟨_, rfl, nS, fun a HF => ?_⟩
  refine wc_pick (b := false) HF nS rfl (notT hb1) rfl rfl rfl fun a HF => ?_
  refine wc_end (then_n ?_)
  by_cases hb2 : y2 = true
  have h := ifp hb2 h
  refine wp_if (b' := true) HF rfl hb2 ?_
  refine wp_seq (wc_text (wa HF rfl rfl rfl fun a HF => ?_))
  refine wc_end (then_n (wp_ret ?_))
  obtain rfl := Option.some.inj h
  refine then_r (?_)
  refine bp_ret HF (res_one rfl HF rfl) ?_
  exact ⟨rfl, HT⟩
  have h := ifn hb2 h
  refine wp_if (b' := false) HF rfl (Bool.eq_false_iff.2 hb2) ?_
  refine wp_skip (then_n ?_)
  obtain ⟨q1, hx3, h⟩ := obs h
  refine wp_cut (fun a w => q1 = .brk () ∧ Fr a 23 [] ∧ St w0 (fun _ => False) w []) ?_ ?_
  have hk1 := h
  have h := hx3
  refine wp_seq (wc_text (wa HF rfl rfl rfl fun a HF => ?_))
  refine wc_end (then_n (wp_block (wp_loopN (fun k1 a w => ∃ z1, m_spec_KidOk_L0 fuel x0 k1 z1 = some q1 ∧ Fr a 23 [(0, .slice a_x0 x0.length c_x0), (3, .int .i64 z1)] ∧ St w0 (fun _ => False) w []) fuel ⟨0, h, (HF.keep (HF.keep HF.nil rfl) rfl), HT⟩ ?_)))
  rintro k1 a w ⟨z1, h, HF, HT⟩
  rcases k1 with _ | k1
  cases h
  rw [m_spec_KidOk_L0] at h
  refine ?_
  refine wp_seq (wp_seq (wc_text (wm HF rfl rfl rfl fun a HF => ?_)))
  refine wm HF rfl rfl rfl fun a HF => ?_
  refine wc_lenR HF nS Try.underlying36 rfl rfl rfl fun a HF => ?_
  refine wc_bin HF nS rfl rfl b_lt rfl rfl fun a HF => ?_
  refine wc_end (then_n ?_)
  by_cases hb3 : z1 < (x0.length : Int)
  have h := ifp hb3 h
  refine wp_if (b' := true) HF rfl (decide_eq_true hb3) ?_
  refine wp_skip (then_n (wp_seq (wp_block (wp_seq (wc_text (wm HF rfl rfl rfl fun a HF => ?_))))))
  refine wm HF rfl rfl rfl fun a HF => ?_
  obtain ⟨e1, hx4, h⟩ := obs h
  obtain ⟨b1, o1, ha1⟩ := (HT.ro hr_x0).any.addr hx4
  refine wc_ixaddr HF nS el36 rfl ha1 ((HT.ro hr_x0).any).neq rfl hx4 rfl rfl fun a HF => ?_
  have hc1 := (HT.ro hr_x0).any.flatAt ha1 hx4
  refine wc_loadA (vs := [.int .i64 e1.a, .int .i64 e1.b, .int .i64 e1.c, .int .i64 e1.d]) HF rfl ag85 rfl (hc1.part 0 4) rfl rfl fun a HF => ?_
  obtain ⟨y3, hx5, h⟩ := obs h
  refine wc_call HF cf93 rfl (w_spec_Touches fuel hx5) rfl rfl ?_
  rintro e w ⟨rfl, hE⟩
  have hb := hE.below
  have HT := HT.pure hE
  have HT : St w0 (fun _ => False) w [] := HT
  refine ⟨_, rfl, nS, fun a HF => ?_⟩
  refine wc_bin HF nS rfl rfl b_eq rfl rfl fun a HF => ?_
  refine wc_end (then_n ?_)
  by_cases hb4 : y3 = 2
  have h := ifp hb4 h
  refine wp_if (b' := true) HF rfl (decide_eq_true hb4) ?_
  refine wp_seq (wc_text (wa HF rfl rfl rfl fun a HF => ?_))
  refine wc_end (then_n (wp_ret ?_))
  obtain rfl := Option.some.inj h
  have h := retL hk1
  obtain rfl := Option.some.inj h
  refine blk_r (then_r (then_r (blk_r (then_r (?_)))))
  refine bp_ret HF (res_one rfl HF rfl) ?_
  exact ⟨rfl, HT⟩
  have h := ifn hb4 h
  refine wp_if (b' := false) HF rfl (decide_eq_false hb4) ?_
  refine wp_skip (blk_n (then_n (wc_text (wm HF rfl rfl rfl fun a HF => ?_))))
  obtain ⟨hg1, h⟩ := grd h
  refine wc_bin HF nS rfl rfl (b_add hg1) rfl rfl fun a HF => ?_
  refine wa HF rfl rfl rfl fun a HF => ?_
  exact wc_end (then_n ⟨k1, Nat.lt_succ_self k1, z1 + 1, h, (HF.keep (HF.keep HF.nil rfl) rfl), HT⟩)
  have h := ifn hb3 h
  refine wp_if (b' := false) HF rfl (decide_eq_false hb3) ?_
  refine wp_exit ?_
  refine then_x (then_x (?_))
  refine blk_x ?_
  exact then_n ⟨(Option.some.inj h).symm, HF.nil, HT⟩
  rintro a w ⟨rfl, HF, HT⟩
  have h := brkL1u h
  refine ?_
  refine wp_seq (wc_text (wa HF rfl rfl rfl fun a HF => ?_))
  refine wc_end (then_n (wp_ret ?_))
  obtain rfl := Option.some.inj h
  refine bp_ret HF (res_one rfl HF rfl) ?_
  exact ⟨rfl, HT⟩
  have h := ifn hb1 h
  refine wc_skip HF nS (HF.wn rfl rfl rfl rfl (notF (Bool.eq_false_iff.2 hb1))) rfl fun a HF => ?_
  refine wc_skip HF nS (HF.wn rfl rfl rfl rfl (notF (Bool.eq_false_iff.2 hb1))) rfl fun a HF => ?_
  refine wc_pick (b := true) HF nS rfl (notF (Bool.eq_false_iff.2 hb1)) rfl rfl rfl fun a HF => ?_
  refine wc_end (then_n (wp_if (b' := true) HF rfl rfl ?_))
  refine wp_seq (wc_text (wa HF rfl rfl rfl fun a HF => ?_))
  refine wc_end (then_n (wp_ret ?_))
  obtain rfl := Option.some.inj h
  refine then_r (?_)
  refine bp_ret HF (res_one rfl HF rfl) ?_
  exact ⟨rfl, HT⟩

def m_spec_l3Vals_L0 (fuel : Nat) (x0 : List Int) : Nat → Int → Option (Lp Unit Bool)
  | 0, _ => none
  | k1 + 1, z1 =>
    if z1 < (x0.length : Int) then
      (at? x0 z1).bind fun e1 =>
      (m_spec_l3Val fuel e1).bind fun y1 =>
      if y1 = true then
        if in64 (z1 + 1) then
          m_spec_l3Vals_L0 fuel x0 k1 (z1 + 1)
        else none
      else
      some (.ret false)
    else
    some (.brk ())

def m_spec_l3Vals (fuel : Nat) (x0 : List Int) : Option Bool :=
  if (x0.length : Int) = 8 then
    (m_spec_l3Vals_L0 fuel x0 fuel 0).bind <| contL <| un1 fun _ =>
    some true
  else
  some false

set_option maxRecDepth 100000 in
set_option maxHeartbeats 4000000 in
theorem w_spec_l3Vals (fuel : Nat) {x0 : List Int} {a_x0 : Option Addr} {n_x0 c_x0 : Nat} {r0 : Bool} {w0 : World} (h : m_spec_l3Vals fuel x0 = some r0) (hr_x0 : RdT (fun b => ¬ False) w0 (rowT x0) (.slice a_x0 n_x0 c_x0)) :
    Calls Try.prog 59 #[.slice a_x0 n_x0 c_x0] w0 fun e w => e = .returned (.bool r0) ∧ St w0 (fun _ => False) w [] := by
  obtain rfl := hr_x0.neq
  have HT : St w0 (fun _ => False) w0 [] := St.init0
  rw [m_spec_l3Vals] at h
  refine calls_fr (n := 19) [.slice a_x0 x0.length c_x0] Try.func59 rfl rfl rfl fun a HF => ?_
  have HT : St w0 (fun _ => False) w0 [] := HT
  refine wp_seq (wc_text (wa HF rfl rfl rfl fun a HF => ?_))
  refine wc_end (then_n (wp_seq (wp_seq (wc_text (wm HF rfl rfl rfl fun a HF => ?_)))))
  refine wc_lenR HF nS Try.underlying22 rfl rfl rfl fun a HF => ?_
  refine wc_bin HF nS rfl rfl b_ne rfl rfl fun a HF => ?_
  refine wc_end (then_n ?_)
  by_cases hb1 : (x0.length : Int) = 8
  have h := ifp hb1 h
  refine wp_if (b' := false) HF rfl (notT (decide_eq_true hb1)) ?_
  refine wp_skip (then_n ?_)
  obtain ⟨q1, hx1, h⟩ := obs h
  refine wp_cut (fun a w => q1 = .brk () ∧ Fr a 19 [] ∧ St w0 (fun _ => False) w []) ?_ ?_
  have hk1 := h
  have h := hx1
  refine wp_seq (wc_text (wa HF rfl rfl rfl fun a HF => ?_))
  refine wc_end (then_n (wp_block (wp_loopN (fun k1 a w => ∃ z1, m_spec_l3Vals_L0 fuel x0 k1 z1 = some q1 ∧ Fr a 19 [(0, .slice a_x0 x0.length c_x0), (3, .int .i64 z1)] ∧ St w0 (fun _ => False) w []) fuel ⟨0, h, (HF.keep (HF.keep HF.nil rfl) rfl), HT⟩ ?_)))
  rintro k1 a w ⟨z1, h, HF, HT⟩
  rcases k1 with _ | k1
  cases h
  rw [m_spec_l3Vals_L0] at h
  refine ?_
  refine wp_seq (wp_seq (wc_text (wm HF rfl rfl rfl fun a HF => ?_)))
  refine wm HF rfl rfl rfl fun a HF => ?_
  refine wc_lenR HF nS Try.underlying22 rfl rfl rfl fun a HF => ?_
  refine wc_bin HF nS rfl rfl b_lt rfl rfl fun a HF => ?_
  refine wc_end (then_n ?_)
  by_cases hb2 : z1 < (x0.length : Int)
  have h := ifp hb2 h
  refine wp_if (b' := true) HF rfl (decide_eq_true hb2) ?_
  refine wp_skip (then_n (wp_seq (wp_block (wp_seq (wc_text (wm HF rfl rfl rfl fun a HF => ?_))))))
  refine wm HF rfl rfl rfl fun a HF => ?_
  obtain ⟨e1, hx2, h⟩ := obs h
  obtain ⟨b1, o1, ha1⟩ := (HT.ro hr_x0).any.addr hx2
  refine wc_ixaddr HF nS el22 rfl ha1 ((HT.ro hr_x0).any).neq rfl hx2 rfl rfl fun a HF => ?_
  have hc1 := (HT.ro hr_x0).any.flatAt ha1 hx2
  refine wc_load HF rfl sc3 (hc1.get 0 rfl) rfl rfl fun a HF => ?_
  obtain ⟨y1, hx3, h⟩ := obs h
  refine wc_call HF cf60 rfl (w_spec_l3Val fuel hx3) rfl rfl ?_
  rintro e w ⟨rfl, hE⟩
  have hb := hE.below
  have HT := HT.pure hE
  have HT : St w0 (fun _ => False) w [] := HT
  refine ⟨_, rfl, nS, fun a HF => ?_⟩
  refine wc_not HF nS rfl rfl rfl fun a HF => ?_
  refine wc_end (then_n ?_)
  by_cases hb3 : y1 = true
  have h := ifp hb3 h
  refine wp_if (b' := false) HF rfl (notT hb3) ?_
  refine wp_skip (blk_n (then_n (wc_text (wm HF rfl rfl rfl fun a HF => ?_))))
  obtain ⟨hg1, h⟩ := grd h
  refine wc_bin HF nS rfl rfl (b_add hg1) rfl rfl fun a HF => ?_
  refine wa HF rfl rfl rfl fun a HF => ?_
  exact wc_end (then_n ⟨k1, Nat.lt_succ_self k1, z1 + 1, h, (HF.keep (HF.keep HF.nil rfl) rfl), HT⟩)
  have h := ifn hb3 h
  refine wp_if (b' := true) HF rfl (notF (Bool.eq_false_iff.2 hb3)) ?_
  refine wp_seq (wc_text (wa HF rfl rfl rfl fun a HF => ?_))
  refine wc_end (then_n (wp_ret ?_))
  obtain rfl := Option.some.inj h
  have h := retL hk1
  obtain rfl := Option.some.inj h
  refine blk_r (then_r (then_r (blk_r (then_r (?_)))))
  refine bp_ret HF (res_one rfl HF rfl) ?_
  exact ⟨rfl, HT⟩
  have h := ifn hb2 h
  refine wp_if (b' := false) HF rfl (decide_eq_false hb2) ?_
  refine wp_exit ?_
  refine then_x (then_x (?_))
  refine blk_x ?_
  exact then_n ⟨(Option.some.inj h).symm, HF.nil, HT⟩
  rintro a w ⟨rfl, HF, HT⟩
  have h := brkL1u h
  refine ?_
  refine wp_seq (wc_text (wa HF rfl rfl rfl fun a HF => ?_))
  refine wc_end (then_n (wp_ret ?_))
  obtain rfl := Option.some.inj h
  refine bp_ret HF (res_one rfl HF rfl) ?_
  exact ⟨rfl, HT⟩
  have h := ifn hb1 h
  refine wp_if (b' := true) HF rfl (notF (decide_eq_false hb1)) ?_
  refine wp_seq (wc_text (wa HF rfl rfl rfl fun a HF => ?_))
  refine wc_end (then_n (wp_ret ?_))
  obtain rfl := Option.some.inj h
  refine then_r (?_)
  refine bp_ret HF (res_one rfl HF rfl) ?_
  exact ⟨rfl, HT⟩

def m_spec_l4Regs_L0 (fuel : Nat) (x0 : List Int) : Nat → Int → Option (Lp Unit Bool)
  | 0, _ => none
  | k1 + 1, z1 =>
    if z1 < (x0.length : Int) then
      (at? x0 z1).bind fun e1 =>
      (m_spec_l3Val fuel e1).bind fun y1 =>
      if y1 = true then
        if in64 (z1 + 1) then
          m_spec_l4Regs_L0 fuel x0 k1 (z1 + 1)
        else none
      else
      some (.ret false)
    else
    some (.brk ())

def m_spec_l4Regs (fuel : Nat) (x0 : List Int) : Option Bool :=
  if (x0.length : Int) = 4 then
    (m_spec_l4Regs_L0 fuel x0 fuel 0).bind <| contL <| un1 fun _ =>
    some true
  else
  some false

set_option maxRecDepth 100000 in
set_option maxHeartbeats 4000000 in
theorem w_spec_l4Regs (fuel : Nat) {x0 : List Int} {a_x0 : Option Addr} {n_x0 c_x0 : Nat} {r0 : Bool} {w0 : World} (h : m_spec_l4Regs fuel x0 = some r0) (hr_x0 : RdT (fun b => ¬ False) w0 (rowT x0) (.slice a_x0 n_x0 c_x0)) :
    Calls Try.prog 65 #[.slice a_x0 n_x0 c_x0] w0 fun e w => e = .returned (.bool r0) ∧ St w0 (fun _ => False) w [] := by
  obtain rfl := hr_x0.neq
  have HT : St w0 (fun _ => False) w0 [] := St.init0
  rw [m_spec_l4Regs] at h
  refine calls_fr (n := 19) [.slice a_x0 x0.length c_x0] Try.func65 rfl rfl rfl fun a HF => ?_
  have HT : St w0 (fun _ => False) w0 [] := HT
  refine wp_seq (wc_text (wa HF rfl rfl rfl fun a HF => ?_))
  refine wc_end (then_n (wp_seq (wp_seq (wc_text (wm HF rfl rfl rfl fun a HF => ?_)))))
  refine wc_lenR HF nS Try.underlying22 rfl rfl rfl fun a HF => ?_
  refine wc_bin HF nS rfl rfl b_ne rfl rfl fun a HF => ?_
  refine wc_end (then_n ?_)
  by_cases hb1 : (x0.length : Int) = 4
  have h := ifp hb1 h
  refine wp_if (b' := false) HF rfl (notT (decide_eq_true hb1)) ?_
  refine wp_skip (then_n ?_)
  obtain ⟨q1, hx1, h⟩ := obs h
  refine wp_cut (fun a w => q1 = .brk () ∧ Fr a 19 [] ∧ St w0 (fun _ => False) w []) ?_ ?_
  have hk1 := h
  have h := hx1
  refine wp_seq (wc_text (wa HF rfl rfl rfl fun a HF => ?_))
  refine wc_end (then_n (wp_block (wp_loopN (fun k1 a w => ∃ z1, m_spec_l4Regs_L0 fuel x0 k1 z1 = some q1 ∧ Fr a 19 [(0, .slice a_x0 x0.length c_x0), (3, .int .i64 z1)] ∧ St w0 (fun _ => False) w []) fuel ⟨0, h, (HF.keep (HF.keep HF.nil rfl) rfl), HT⟩ ?_)))
  rintro k1 a w ⟨z1, h, HF, HT⟩
  rcases k1 with _ | k1
  cases h
  rw [m_spec_l4Regs_L0] at h
  refine ?_
  refine wp_seq (wp_seq (wc_text (wm HF rfl rfl rfl fun a HF => ?_)))
  refine wm HF rfl rfl rfl fun a HF => ?_
  refine wc_lenR HF nS Try.underlying22 rfl rfl rfl fun a HF => ?_
  refine wc_bin HF nS rfl rfl b_lt rfl rfl fun a HF => ?_
  refine wc_end (then_n ?_)
  by_cases hb2 : z1 < (x0.length : Int)
  have h := ifp hb2 h
  refine wp_if (b' := true) HF rfl (decide_eq_true hb2) ?_
  refine wp_skip (then_n (wp_seq (wp_block (wp_seq (wc_text (wm HF rfl rfl rfl fun a HF => ?_))))))
  refine wm HF rfl rfl rfl fun a HF => ?_
  obtain ⟨e1, hx2, h⟩ := obs h
  obtain ⟨b1, o1, ha1⟩ := (HT.ro hr_x0).any.addr hx2
  refine wc_ixaddr HF nS el22 rfl ha1 ((HT.ro hr_x0).any).neq rfl hx2 rfl rfl fun a HF => ?_
  have hc1 := (HT.ro hr_x0).any.flatAt ha1 hx2
  refine wc_load HF rfl sc3 (hc1.get 0 rfl) rfl rfl fun a HF => ?_
  obtain ⟨y1, hx3, h⟩ := obs h
  refine wc_call HF cf60 rfl (w_spec_l3Val fuel hx3) rfl rfl ?_
  rintro e w ⟨rfl, hE⟩
  have hb := hE.below
  have HT := HT.pure hE
  have HT : St w0 (fun _ => False) w [] := HT
  refine ⟨_, rfl, nS, fun a HF => ?_⟩
  refine wc_not HF nS rfl rfl rfl fun a HF => ?_
  refine wc_end (then_n ?_)
  by_cases hb3 : y1 = true
  have h := ifp hb3 h
  refine wp_if (b' := false) HF rfl (notT hb3) ?_
  refine wp_skip (blk_n (then_n (wc_text (wm HF rfl rfl rfl fun a HF => ?_))))
  obtain ⟨hg1, h⟩ := grd h
  refine wc_bin HF nS rfl rfl (b_add hg1) rfl rfl fun a HF => ?_
  refine wa HF rfl rfl rfl fun a HF => ?_
  exact wc_end (then_n ⟨k1, Nat.lt_succ_self k1, z1 + 1, h, (HF.keep (HF.keep HF.nil rfl) rfl), HT⟩)
  have h := ifn hb3 h
  refine wp_if (b' := true) HF rfl (notF (Bool.eq_false_iff.2 hb3)) ?_
  refine wp_seq (wc_text (wa HF rfl rfl rfl fun a HF => ?_))
  refine wc_end (then_n (wp_ret ?_))
  obtain rfl := Option.some.inj h
  have h := retL hk1
  obtain rfl := Option.some.inj h
  refine blk_r (then_r (then_r (blk_r (then_r (?_)))))
  refine bp_ret HF (res_one rfl HF rfl) ?_
  exact ⟨rfl, HT⟩
  have h := ifn hb2 h
  refine wp_if (b' := false) HF rfl (decide_eq_false hb2) ?_
  refine wp_exit ?_
  refine then_x (then_x (?_))
  refine blk_x ?_
  exact then_n ⟨(Option.some.inj h).symm, HF.nil, HT⟩
  rintro a w ⟨rfl, HF, HT⟩
  have h := brkL1u h
  refine ?_
  refine wp_seq (wc_text (wa HF rfl rfl rfl fun a HF => ?_))
  refine wc_end (then_n (wp_ret ?_))
  obtain rfl := Option.some.inj h
  refine bp_ret HF (res_one rfl HF rfl) ?_
  exact ⟨rfl, HT⟩
  have h := ifn hb1 h
  refine wp_if (b' := true) HF rfl (notF (decide_eq_false hb1)) ?_
  refine wp_seq (wc_text (wa HF rfl rfl rfl fun a HF => ?_))
  refine wc_end (then_n (wp_ret ?_))
  obtain rfl := Option.some.inj h
  refine then_r (?_)
  refine bp_ret HF (res_one rfl HF rfl) ?_
  exact ⟨rfl, HT⟩

def m_spec_Calc (fuel : Nat) (x0_0 : Int) (x0_1 : Int) (x0_2 : Int) (x0_3 : Int) (x1 : List Int) : Option (List Int × Bool) :=
  if ([] : List Int).length + x1.length ≤ 17179869184 then
    (m_spec_OpOk fuel x0_0 x0_1 x0_2 x0_3).bind fun y1 =>
    if y1 = true then
      (m_spec_l4Regs fuel x1).bind fun y2 =>
      if y2 = true then
        if 4 < x0_0 then
          some (([] : List Int) ++ x1, false)
        else
        if x0_0 = 1 then
          (at? (([] : List Int) ++ x1) x0_1).bind fun e1 =>
          some ((([] : List Int) ++ x1).set x0_1.toNat x0_2, true)
        else
        (at? x1 x0_2).bind fun e2 =>
        (at? x1 x0_3).bind fun e3 =>
        (
          if x0_0 = 2 then
            if in64 (e2 + e3) then
              if (65536 : Int) ≠ 0 then
                (at? (([] : List Int) ++ x1) x0_1).bind fun e4 =>
                some ((([] : List Int) ++ x1).set x0_1.toNat ((e2 + e3).tmod 65536))
              else none
            else none
          else
          if x0_0 = 3 then
            if in64 (e2 - e3) then
              if in64 ((e2 - e3) + 65536) then
                if (65536 : Int) ≠ 0 then
                  (at? (([] : List Int) ++ x1) x0_1).bind fun e5 =>
                  some ((([] : List Int) ++ x1).set x0_1.toNat (((e2 - e3) + 65536).tmod 65536))
                else none
              else none
            else none
          else
          (at? (([] : List Int) ++ x1) x0_1).bind fun e6 =>
          if e2 < e3 then
            (at? ((([] : List Int) ++ x1).set x0_1.toNat 0) x0_1).bind fun e7 =>
            some (((([] : List Int) ++ x1).set x0_1.toNat 0).set x0_1.toNat 1)
          else
          some ((([] : List Int) ++ x1).set x0_1.toNat 0)).bind fun z1 =>
        some (z1, true)
      else
      some (([] : List Int) ++ x1, false)
    else
    some (([] : List Int) ++ x1, false)
  else none

set_option maxRecDepth 100000 in
set_option maxHeartbeats 4000000 in
theorem w_spec_Calc (fuel : Nat) {x0_0 : Int} {x0_1 : Int} {x0_2 : Int} {x0_3 : Int} {x1 : List Int} {a_x1 : Option Addr} {n_x1 c_x1 : Nat} {r0 : List Int} {r1 : Bool} {w0 : World} (h : m_spec_Calc fuel x0_0 x0_1 x0_2 x0_3 x1 = some (r0, r1)) (hr_x1 : RdT (fun b => ¬ False) w0 (rowT x1) (.slice a_x1 n_x1 c_x1)) :
    Calls Try.prog 100 #[.agg #[.int .i64 x0_0, .int .i64 x0_1, .int .i64 x0_2, .int .i64 x0_3], .slice a_x1 n_x1 c_x1] w0 fun e w => ∃ a_r0 n_r0 c_r0, e = .returned (.tuple #[.slice a_r0 n_r0 c_r0, .bool r1]) ∧ St w0 (fun _ => False) w [Own 3 (rowT r0) (.slice a_r0 n_r0 c_r0)] := by
  obtain rfl := hr_x1.neq
  have HT : St w0 (fun _ => False) w0 [] := St.init0
  rw [m_spec_Calc] at h
  refine calls_fr (n := 81) [.agg #[.int .i64 x0_0, .int .i64 x0_1, .int .i64 x0_2, .int .i64 x0_3], .slice a_x1 x1.length c_x1] Try.func100 rfl rfl rfl fun a HF => ?_
  have HT : St w0 (fun _ => False) w0 [] := HT
  refine wp_seq (wc_text (wc_box (cs := [.int .i64 x0_0, .int .i64 x0_1, .int .i64 x0_2, .int .i64 x0_3]) HF HT rfl rfl rfl rfl (fun p1 w HT hb => ⟨nS, fun a HF => ?_⟩)))
  refine wa HF rfl rfl rfl fun a HF => ?_
  refine wa HF rfl rfl rfl fun a HF => ?_
  refine wc_end (then_n (wp_seq (wc_text (wc_bslice (l := ([] : List Int)) (cs := []) (A := []) HF HT bs22_0 rfl rfl (gives_flat rfl) rfl (by decide) rfl rfl (fun p2 w HT hb  => ⟨nS, fun a HF => ?_⟩)))))
  refine wm HF rfl rfl rfl fun a HF => ?_
  obtain ⟨hg1, h⟩ := grd h
  refine wc_appendR HF HT (HT.ro hr_x1).any el22 rfl rfl hg1 rfl rfl rfl (fun a1 c1 w HT => ⟨nS, fun a HF => ?_⟩)
  refine wa HF rfl rfl rfl fun a HF => ?_
  refine wc_end (then_n (wp_seq (wp_seq (wc_text (wc_loadA (vs := [.int .i64 x0_0, .int .i64 x0_1, .int .i64 x0_2, .int .i64 x0_3]) HF rfl ag85 rfl ((HT.boxAt 1 rfl).part 0 4) rfl rfl fun a HF => ?_)))))
  obtain ⟨y1, hx1, h⟩ := obs h
  refine wc_call HF cf117 rfl (w_spec_OpOk fuel hx1) rfl rfl ?_
  rintro e w ⟨rfl, hE⟩
  have hb := hE.below
  have HT := HT.pure hE
  have HT : St w0 (fun _ => False) w [Own 3 (rowT (([] : List Int) ++ x1)) (.slice a1 ((([] : List Int) ++ x1).length) c1), Box p1 [.int .i64 x0_0, .int .i64 x0_1, .int .i64 x0_2, .int .i64 x0_3]] := HT
  refine ⟨_, rfl, nS, fun a HF => ?_⟩
  refine wc_not HF nS rfl rfl rfl fun a HF => ?_
  refine wm HF rfl rfl rfl fun a HF => ?_
  by_cases hb1 : y1 = true
  have h := ifp hb1 h
  refine wc_move HF nS rfl (HF.wy rfl rfl rfl rfl (notT hb1)) rfl fun a HF => ?_
  obtain ⟨y2, hx2, h⟩ := obs h
  refine wc_call HF cf65 rfl (w_spec_l4Regs fuel hx2 (HT.ro hr_x1).any) (HF.wy rfl rfl rfl rfl (notT hb1)) rfl ?_
  rintro e w ⟨rfl, hE⟩
  have hb := hE.below
  have HT := HT.pure hE
  have HT : St w0 (fun _ => False) w [Own 3 (rowT (([] : List Int) ++ x1)) (.slice a1 ((([] : List Int) ++ x1).length) c1), Box p1 [.int .i64 x0_0, .int .i64 x0_1, .int .i64 x0_2, .int .i64 x0_3]] := HT
  refine ⟨_, rfl, nS, fun a HF => ?_⟩
  refine wc_not HF nS rfl (HF.wy rfl rfl rfl rfl (notT hb1)) rfl fun a HF => ?_
  refine wc_pick (b := false) HF nS rfl (notT hb1) rfl rfl rfl fun a HF => ?_
  refine wm HF rfl rfl rfl fun a HF => ?_
  by_cases hb2 : y2 = true
  have h := ifp hb2 h
  refine wc_faddr HF nS rfl fl85_0 (HF.wy rfl rfl rfl rfl (notT hb2)) rfl fun a HF => ?_
  refine wc_load HF rfl sc3 ((HT.boxAt 1 rfl).get 0 rfl) (HF.wy rfl rfl rfl rfl (notT hb2)) rfl fun a HF => ?_
  refine wc_bin HF nS rfl rfl b_gt (HF.wy rfl rfl rfl rfl (notT hb2)) rfl fun a HF => ?_
  refine wc_pick (b := false) HF nS rfl (notT hb2) rfl rfl rfl fun a HF => ?_
  refine wc_end (then_n ?_)
  by_cases hb3 : 4 < x0_0
  have h := ifp hb3 h
  refine wp_if (b' := true) HF rfl (decide_eq_true hb3) ?_
  refine wp_seq (wc_text (wm HF rfl rfl rfl fun a HF => ?_))
  refine wa HF rfl rfl rfl fun a HF => ?_
  refine wa HF rfl rfl rfl fun a HF => ?_
  refine wc_end (then_n (wp_ret ?_))
  have hj1 := Option.some.inj h
  obtain ⟨rfl, hj2⟩ := Prod.mk.inj hj1
  subst hj2
  refine then_r (?_)
  refine bp_ret HF (res_two rfl HF rfl rfl) ?_
  have HT := HT.t1
  exact ⟨a1, (([] : List Int) ++ x1).length, c1, rfl, HT⟩
  have h := ifn hb3 h
  refine wp_if (b' := false) HF rfl (decide_eq_false hb3) ?_
  refine wp_skip (then_n (wp_seq (wp_seq (wc_text (wc_faddr HF nS rfl fl85_0 rfl rfl fun a HF => ?_)))))
  refine wc_load HF rfl sc3 ((HT.boxAt 1 rfl).get 0 rfl) rfl rfl fun a HF => ?_
  refine wc_bin HF nS rfl rfl b_eq rfl rfl fun a HF => ?_
  refine wc_end (then_n ?_)
  by_cases hb4 : x0_0 = 1
  have h := ifp hb4 h
  refine wp_if (b' := true) HF rfl (decide_eq_true hb4) ?_
  refine wp_seq (wc_text (wm HF rfl rfl rfl fun a HF => ?_))
  refine wc_faddr HF nS rfl fl85_1 rfl rfl fun a HF => ?_
  refine wc_load HF rfl sc3 ((HT.boxAt 1 rfl).get 1 rfl) rfl rfl fun a HF => ?_
  refine wc_faddr HF nS rfl fl85_2 rfl rfl fun a HF => ?_
  refine wc_load HF rfl sc3 ((HT.boxAt 1 rfl).get 2 rfl) rfl rfl fun a HF => ?_
  obtain ⟨e1, hx3, h⟩ := obs h
  obtain ⟨b1, o1, ha1⟩ := (HT.rdAt 0 rfl).addr hx3
  refine wc_ixaddr HF nS el22 rfl ha1 ((HT.rdAt 0 rfl)).neq rfl hx3 rfl rfl fun a HF => ?_
  refine wc_storeR (i := x0_1) (j := 0) (x' := x0_2) HF HT ha1 rfl rfl (fun w => (sc3 w).2) rfl rfl hx3 rfl rfl rfl rfl (fun w HT => ⟨nS, ?_⟩)
  refine wc_end (then_n (wp_seq (wc_text (wm HF rfl rfl rfl fun a HF => ?_))))
  refine wa HF rfl rfl rfl fun a HF => ?_
  refine wa HF rfl rfl rfl fun a HF => ?_
  refine wc_end (then_n (wp_ret ?_))
  have hj3 := Option.some.inj h
  obtain ⟨rfl, hj4⟩ := Prod.mk.inj hj3
  subst hj4
  refine then_r (?_)
  refine bp_ret HF (res_two rfl HF rfl rfl) ?_
  have HT := HT.t1
  exact ⟨a1, (([] : List Int) ++ x1).length, c1, rfl, HT⟩
  have h := ifn hb4 h
  refine wp_if (b' := false) HF rfl (decide_eq_false hb4) ?_
  refine wp_skip (then_n (wp_seq (wc_text (wm HF rfl rfl rfl fun a HF => ?_))))
  refine wc_faddr HF nS rfl fl85_2 rfl rfl fun a HF => ?_
  refine wc_load HF rfl sc3 ((HT.boxAt 1 rfl).get 2 rfl) rfl rfl fun a HF => ?_
  obtain ⟨e2, hx4, h⟩ := obs h
  obtain ⟨b2, o2, ha2⟩ := (HT.ro hr_x1).any.addr hx4
  refine wc_ixaddr HF nS el22 rfl ha2 ((HT.ro hr_x1).any).neq rfl hx4 rfl rfl fun a HF => ?_
  have hc1 := (HT.ro hr_x1).any.flatAt ha2 hx4
  refine wc_load HF rfl sc3 (hc1.get 0 rfl) rfl rfl fun a HF => ?_
  refine wa HF rfl rfl rfl fun a HF => ?_
  refine wc_end (then_n (wp_seq (wc_text (wm HF rfl rfl rfl fun a HF => ?_))))
  refine wc_faddr HF nS rfl fl85_3 rfl rfl fun a HF => ?_
  refine wc_load HF rfl sc3 ((HT.boxAt 1 rfl).get 3 rfl) rfl rfl fun a HF => ?_
  obtain ⟨e3, hx5, h⟩ := obs h
  refine wc_ixaddr HF nS el22 rfl ha2 ((HT.ro hr_x1).any).neq rfl hx5 rfl rfl fun a HF => ?_
  have hc2 := (HT.ro hr_x1).any.flatAt ha2 hx5
  refine wc_load HF rfl sc3 (hc2.get 0 rfl) rfl rfl fun a HF => ?_
  refine wa HF rfl rfl rfl fun a HF => ?_
  refine wc_end (then_n ?_)
  obtain ⟨z1, hx6, h⟩ := obs h
  refine wp_cut (fun a w => Fr a 81 [(6, .slice a1 ((([] : List Int) ++ x1).length) c1)] ∧ St w0 (fun _ => False) w [Own 3 (rowT z1) (.slice a1 ((([] : List Int) ++ x1).length) c1)]) ?_ ?_
  have hk1 := h
  have h := hx6
  refine wp_seq (wc_text (wc_faddr HF nS rfl fl85_0 rfl rfl fun a HF => ?_))
  refine wc_load HF rfl sc3 ((HT.boxAt 1 rfl).get 0 rfl) rfl rfl fun a HF => ?_
  refine wc_end (then_n (wp_block (wp_seq (wc_text (wc_bin HF nS rfl rfl b_eq rfl rfl fun a HF => ?_)))))
  refine wa HF rfl rfl rfl fun a HF => ?_
  refine wc_end (then_n ?_)
  by_cases hb5 : x0_0 = 2
  have h := ifp hb5 h
  refine wp_if (b' := true) HF rfl (decide_eq_true hb5) ?_
  refine wc_text (wm HF rfl rfl rfl fun a HF => ?_)
  refine wc_faddr HF nS rfl fl85_1 rfl rfl fun a HF => ?_
  refine wc_load HF rfl sc3 ((HT.boxAt 1 rfl).get 1 rfl) rfl rfl fun a HF => ?_
  refine wm HF rfl rfl rfl fun a HF => ?_
  refine wm HF rfl rfl rfl fun a HF => ?_
  obtain ⟨hg2, h⟩ := grd h
  refine wc_bin HF nS rfl rfl (b_add hg2) rfl rfl fun a HF => ?_
  obtain ⟨hg3, h⟩ := grd h
  refine wc_bin HF nS rfl rfl (b_rem hg3) rfl rfl fun a HF => ?_
  obtain ⟨e4, hx7, h⟩ := obs h
  obtain ⟨b3, o3, ha3⟩ := (HT.rdAt 0 rfl).addr hx7
  refine wc_ixaddr HF nS el22 rfl ha3 ((HT.rdAt 0 rfl)).neq rfl hx7 rfl rfl fun a HF => ?_
  refine wc_storeR (i := x0_1) (j := 0) (x' := (e2 + e3).tmod 65536) HF HT ha3 rfl rfl (fun w => (sc3 w).2) rfl rfl hx7 rfl rfl rfl rfl (fun w HT => ⟨nS, ?_⟩)
  refine wc_end (blk_n ?_)
  have HT := HT.t1
  obtain rfl := Option.some.inj h
  exact then_n ⟨(HF.keep HF.nil rfl), HT⟩
  have h := ifn hb5 h
  refine wp_if (b' := false) HF rfl (decide_eq_false hb5) ?_
  refine wp_seq (wc_text (wc_bin HF nS rfl rfl b_eq rfl rfl fun a HF => ?_))
  refine wa HF rfl rfl rfl fun a HF => ?_
  refine wc_end (then_n ?_)
  by_cases hb6 : x0_0 = 3
  have h := ifp hb6 h
  refine wp_if (b' := true) HF rfl (decide_eq_true hb6) ?_
  refine wc_text (wm HF rfl rfl rfl fun a HF => ?_)
  refine wc_faddr HF nS rfl fl85_1 rfl rfl fun a HF => ?_
  refine wc_load HF rfl sc3 ((HT.boxAt 1 rfl).get 1 rfl) rfl rfl fun a HF => ?_
  refine wm HF rfl rfl rfl fun a HF => ?_
  refine wm HF rfl rfl rfl fun a HF => ?_
  obtain ⟨hg4, h⟩ := grd h
  refine wc_bin HF nS rfl rfl (b_sub hg4) rfl rfl fun a HF => ?_
  obtain ⟨hg5, h⟩ := grd h
  refine wc_bin HF nS rfl rfl (b_add hg5) rfl rfl fun a HF => ?_
  obtain ⟨hg6, h⟩ := grd h
  refine wc_bin HF nS rfl rfl (b_rem hg6) rfl rfl fun a HF => ?_
  obtain ⟨e5, hx8, h⟩ := obs h
  obtain ⟨b4, o4, ha4⟩ := (HT.rdAt 0 rfl).addr hx8
  refine wc_ixaddr HF nS el22 rfl ha4 ((HT.rdAt 0 rfl)).neq rfl hx8 rfl rfl fun a HF => ?_
  refine wc_storeR (i := x0_1) (j := 0) (x' := ((e2 - e3) + 65536).tmod 65536) HF HT ha4 rfl rfl (fun w => (sc3 w).2) rfl rfl hx8 rfl rfl rfl rfl (fun w HT => ⟨nS, ?_⟩)
  refine wc_end (blk_n ?_)
  have HT := HT.t1
  obtain rfl := Option.some.inj h
  exact then_n ⟨(HF.keep HF.nil rfl), HT⟩
  have h := ifn hb6 h
  refine wp_if (b' := false) HF rfl (decide_eq_false hb6) ?_
  refine wp_seq (wc_text (wm HF rfl rfl rfl fun a HF => ?_))
  refine wc_faddr HF nS rfl fl85_1 rfl rfl fun a HF => ?_
  refine wc_load HF rfl sc3 ((HT.boxAt 1 rfl).get 1 rfl) rfl rfl fun a HF => ?_
  obtain ⟨e6, hx9, h⟩ := obs h
  obtain ⟨b5, o5, ha5⟩ := (HT.rdAt 0 rfl).addr hx9
  refine wc_ixaddr HF nS el22 rfl ha5 ((HT.rdAt 0 rfl)).neq rfl hx9 rfl rfl fun a HF => ?_
  refine wc_storeR (i := x0_1) (j := 0) (x' := 0) HF HT ha5 rfl rfl (fun w => (sc3 w).2) rfl rfl hx9 rfl rfl rfl rfl (fun w HT => ⟨nS, ?_⟩)
  refine wc_end (then_n (wp_seq (wc_text (wm HF rfl rfl rfl fun a HF => ?_))))
  refine wm HF rfl rfl rfl fun a HF => ?_
  refine wc_bin HF nS rfl rfl b_lt rfl rfl fun a HF => ?_
  refine wc_end (then_n ?_)
  by_cases hb7 : e2 < e3
  have h := ifp hb7 h
  refine wp_if (b' := true) HF rfl (decide_eq_true hb7) ?_
  refine wc_text (wm HF rfl rfl rfl fun a HF => ?_)
  refine wc_faddr HF nS rfl fl85_1 rfl rfl fun a HF => ?_
  refine wc_load HF rfl sc3 ((HT.boxAt 1 rfl).get 1 rfl) rfl rfl fun a HF => ?_
  obtain ⟨e7, hx10, h⟩ := obs h
  refine wc_ixaddr HF nS el22 rfl ha5 ((HT.rdAt 0 rfl)).neq rfl hx10 rfl rfl fun a HF => ?_
  refine wc_storeR (i := x0_1) (j := 0) (x' := 1) HF HT ha5 rfl rfl (fun w => (sc3 w).2) rfl rfl hx10 rfl rfl rfl rfl (fun w HT => ⟨nS, ?_⟩)
  refine wc_end (blk_n ?_)
  have HT := HT.t1
  obtain rfl := Option.some.inj h
  exact then_n ⟨(HF.keep HF.nil rfl), HT⟩
  have h := ifn hb7 h
  refine wp_if (b' := false) HF rfl (decide_eq_false hb7) ?_
  refine wp_skip (blk_n ?_)
  have HT := HT.t1
  obtain rfl := Option.some.inj h
  exact then_n ⟨(HF.keep HF.nil rfl), HT⟩
  rintro a w ⟨HF, HT⟩
  refine ?_
  refine wp_seq (wc_text (wm HF rfl rfl rfl fun a HF => ?_))
  refine wa HF rfl rfl rfl fun a HF => ?_
  refine wa HF rfl rfl rfl fun a HF => ?_
  refine wc_end (then_n (wp_ret ?_))
  have hj5 := Option.some.inj h
  obtain ⟨rfl, hj6⟩ := Prod.mk.inj hj5
  subst hj6
  refine bp_ret HF (res_two rfl HF rfl rfl) ?_
  exact ⟨a1, (([] : List Int) ++ x1).length, c1, rfl, HT⟩
  have h := ifn hb2 h
  refine wc_skip HF nS (HF.wn rfl rfl rfl rfl (notF (Bool.eq_false_iff.2 hb2))) rfl fun a HF => ?_
  refine wc_skip HF nS (HF.wn rfl rfl rfl rfl (notF (Bool.eq_false_iff.2 hb2))) rfl fun a HF => ?_
  refine wc_skip HF nS (HF.wn rfl rfl rfl rfl (notF (Bool.eq_false_iff.2 hb2))) rfl fun a HF => ?_
  refine wc_pick (b := true) HF nS rfl (notF (Bool.eq_false_iff.2 hb2)) rfl rfl rfl fun a HF => ?_
  refine wc_end (then_n (wp_if (b' := true) HF rfl rfl ?_))
  refine wp_seq (wc_text (wm HF rfl rfl rfl fun a HF => ?_))
  refine wa HF rfl rfl rfl fun a HF => ?_
  refine wa HF rfl rfl rfl fun a HF => ?_
  refine wc_end (then_n (wp_ret ?_))
  have hj7 := Option.some.inj h
  obtain ⟨rfl, hj8⟩ := Prod.mk.inj hj7
  subst hj8
  refine then_r (?_)
  refine bp_ret HF (res_two rfl HF rfl rfl) ?_
  have HT := HT.t1
  exact ⟨a1, (([] : List Int) ++ x1).length, c1, rfl, HT⟩
  have h := ifn hb1 h
  refine wc_skip HF nS (HF.wn rfl rfl rfl rfl (notF (Bool.eq_false_iff.2 hb1))) rfl fun a HF => ?_
  refine wc_skip HF nS (HF.wn rfl rfl rfl rfl (notF (Bool.eq_false_iff.2 hb1))) rfl fun a HF => ?_
  refine wc_skip HF nS (HF.wn rfl rfl rfl rfl (notF (Bool.eq_false_iff.2 hb1))) rfl fun a HF => ?_
  refine wc_pick (b := true) HF nS rfl (notF (Bool.eq_false_iff.2 hb1)) rfl rfl rfl fun a HF => ?_
  refine wm HF rfl rfl rfl fun a HF => ?_
  refine wc_skip HF nS (HF.wn rfl rfl rfl rfl rfl) rfl fun a HF => ?_
  refine wc_skip HF nS (HF.wn rfl rfl rfl rfl rfl) rfl fun a HF => ?_
  refine wc_skip HF nS (HF.wn rfl rfl rfl rfl rfl) rfl fun a HF => ?_
  refine wc_pick (b := true) HF nS rfl rfl rfl rfl rfl fun a HF => ?_
  refine wc_end (then_n (wp_if (b' := true) HF rfl rfl ?_))
  refine wp_seq (wc_text (wm HF rfl rfl rfl fun a HF => ?_))
  refine wa HF rfl rfl rfl fun a HF => ?_
  refine wa HF rfl rfl rfl fun a HF => ?_
  refine wc_end (then_n (wp_ret ?_))
  have hj9 := Option.some.inj h
  obtain ⟨rfl, hj10⟩ := Prod.mk.inj hj9
  subst hj10
  refine then_r (?_)
  refine bp_ret HF (res_two rfl HF rfl rfl) ?_
  have HT := HT.t1
  exact ⟨a1, (([] : List Int) ++ x1).length, c1, rfl, HT⟩

def m_spec_EndOf_L0 (fuel : Nat) (x0 : List I4) : Nat → Int → Int → Option (Lp Unit Int)
  | 0, _, _ => none
  | k1 + 1, z1, z2 =>
    if z2 < (x0.length : Int) then
      (
        (
          (at? x0 z2).bind fun e2 =>
          if e2.a = 8 then
            if in64 (z1 + 1) then
              some (z1 + 1)
            else none
          else
          some z1).bind fun z4 =>
        (
          (at? x0 z2).bind fun e3 =>
          if e3.a = 9 then
            if in64 (z4 - 1) then
              some (z4 - 1)
            else none
          else
          some z4).bind fun z5 =>
        if z5 = 0 then
          some (.ret z2)
        else
        some (.brk z5)).bind <| contM <| un1 fun z3 =>
      if in64 (z2 + 1) then
        m_spec_EndOf_L0 fuel x0 k1 z3 (z2 + 1)
      else none
    else
    some (.brk ())

def m_spec_EndOf (fuel : Nat) (x0 : List I4) (x1 : Int) : Option Int :=
  if x1 < 0 then
    some (-1)
  else
  if (x0.length : Int) ≤ x1 then
    some (-1)
  else
  (at? x0 x1).bind fun e1 =>
  if e1.a = 8 then
    (m_spec_EndOf_L0 fuel x0 fuel 0 x1).bind <| contL <| un1 fun _ =>
    some (-1)
  else
  some (-1)

set_option maxRecDepth 100000 in
set_option maxHeartbeats 4000000 in
theorem w_spec_EndOf (fuel : Nat) {x0 : List I4} {x1 : Int} {a_x0 : Option Addr} {n_x0 c_x0 : Nat} {r0 : Int} {w0 : World} (h : m_spec_EndOf fuel x0 x1 = some r0) (hr_x0 : RdT (fun b => ¬ False) w0 (rowT x0) (.slice a_x0 n_x0 c_x0)) :
    Calls Try.prog 99 #[.slice a_x0 n_x0 c_x0, .int .i64 x1] w0 fun e w => e = .returned (.int .i64 r0) ∧ St w0 (fun _ => False) w [] := by
  obtain rfl := hr_x0.neq
  have HT : St w0 (fun _ => False) w0 [] := St.init0
  rw [m_spec_EndOf] at h
  refine calls_fr (n := 49) [.slice a_x0 x0.length c_x0, .int .i64 x1] Try.func99 rfl rfl rfl fun a HF => ?_
  have HT : St w0 (fun _ => False) w0 [] := HT
  refine wp_seq (wc_text (wa HF rfl rfl rfl fun a HF => ?_))
  refine wc_end (then_n (wp_seq (wp_seq (wc_text (wm HF rfl rfl rfl fun a HF => ?_)))))
  refine wc_bin HF nS rfl rfl b_lt rfl rfl fun a HF => ?_
  refine wm HF rfl rfl rfl fun a HF => ?_
  by_cases hb1 : x1 < 0
  have h := ifp hb1 h
  refine wc_skip HF nS (HF.wn rfl rfl rfl rfl (decide_eq_true hb1)) rfl fun a HF => ?_
  refine wc_skip HF nS (HF.wn rfl rfl rfl rfl (decide_eq_true hb1)) rfl fun a HF => ?_
  refine wc_skip HF nS (HF.wn rfl rfl rfl rfl (decide_eq_true hb1)) rfl fun a HF => ?_
  refine wc_skip HF nS (HF.wn rfl rfl rfl rfl (decide_eq_true hb1)) rfl fun a HF => ?_
  refine wc_pick (b := true) HF nS rfl (decide_eq_true hb1) rfl rfl rfl fun a HF => ?_
  refine wm HF rfl rfl rfl fun a HF => ?_
  refine wc_skip HF nS (HF.wn rfl rfl rfl rfl rfl) rfl fun a HF => ?_
  refine wc_skip HF nS (HF.wn rfl rfl rfl rfl rfl) rfl fun a HF => ?_
  refine wc_skip HF nS (HF.wn rfl rfl rfl rfl rfl) rfl fun a HF => ?_
  refine wc_skip HF nS (HF.wn rfl rfl rfl rfl rfl) rfl fun a HF => ?_
  refine wc_skip HF nS (HF.wn rfl rfl rfl rfl rfl) rfl fun a HF => ?_
  refine wc_skip HF nS (HF.wn rfl rfl rfl rfl rfl) rfl fun a HF => ?_
  refine wc_pick (b := true) HF nS rfl rfl rfl rfl rfl fun a HF => ?_
  refine wc_end (then_n (wp_if (b' := true) HF rfl rfl ?_))
  refine wp_seq (wc_text (wa HF rfl rfl rfl fun a HF => ?_))
  refine wc_end (then_n (wp_ret ?_))
  obtain rfl := Option.some.inj h
  refine then_r (?_)
  refine bp_ret HF (res_one rfl HF rfl) ?_
  exact ⟨rfl, HT⟩
  have h := ifn hb1 h
  refine wc_move HF nS rfl (HF.wy rfl rfl rfl rfl (decide_eq_false hb1)) rfl fun a HF => ?_
  refine wc_move HF nS rfl (HF.wy rfl rfl rfl rfl (decide_eq_false hb1)) rfl fun a HF => ?_
  refine wc_lenR HF nS Try.underlying36 rfl (HF.wy rfl rfl rfl rfl (decide_eq_false hb1)) rfl fun a HF => ?_
  refine wc_bin HF nS rfl rfl b_ge (HF.wy rfl rfl rfl rfl (decide_eq_false hb1)) rfl fun a HF => ?_
  refine wc_pick (b := false) HF nS rfl (decide_eq_false hb1) rfl rfl rfl fun a HF => ?_
  refine wm HF rfl rfl rfl fun a HF => ?_
  by_cases hb2 : (x0.length : Int) ≤ x1
  have h := ifp hb2 h
  refine wc_skip HF nS (HF.wn rfl rfl rfl rfl (decide_eq_true hb2)) rfl fun a HF => ?_
  refine wc_skip HF nS (HF.wn rfl rfl rfl rfl (decide_eq_true hb2)) rfl fun a HF => ?_
  refine wc_skip HF nS (HF.wn rfl rfl rfl rfl (decide_eq_true hb2)) rfl fun a HF => ?_
  refine wc_skip HF nS (HF.wn rfl rfl rfl rfl (decide_eq_true hb2)) rfl fun a HF => ?_
  refine wc_skip HF nS (HF.wn rfl rfl rfl rfl (decide_eq_true hb2)) rfl fun a HF => ?_
  refine wc_skip HF nS (HF.wn rfl rfl rfl rfl (decide_eq_true hb2)) rfl fun a HF => ?_
  refine wc_pick (b := true) HF nS rfl (decide_eq_true hb2) rfl rfl rfl fun a HF => ?_
  refine wc_end (then_n (wp_if (b' := true) HF rfl rfl ?_))
  refine wp_seq (wc_text (wa HF rfl rfl rfl fun a HF => ?_))
  refine wc_end (then_n (wp_ret ?_))
  obtain rfl := Option.some.inj h
  refine then_r (?_)
  refine bp_ret HF (res_one rfl HF rfl) ?_
  exact ⟨rfl, HT⟩
  have h := ifn hb2 h
  refine wc_move HF nS rfl (HF.wy rfl rfl rfl rfl (decide_eq_false hb2)) rfl fun a HF => ?_
  refine wc_move HF nS rfl (HF.wy rfl rfl rfl rfl (decide_eq_false hb2)) rfl fun a HF => ?_
  obtain ⟨e1, hx1, h⟩ := obs h
  obtain ⟨b1, o1, ha1⟩ := (HT.ro hr_x0).any.addr hx1
  refine wc_ixaddr HF nS el36 rfl ha1 ((HT.ro hr_x0).any).neq rfl hx1 (HF.wy rfl rfl rfl rfl (decide_eq_false hb2)) rfl fun a HF => ?_
  refine wc_faddr HF nS rfl fl85_0 (HF.wy rfl rfl rfl rfl (decide_eq_false hb2)) rfl fun a HF => ?_
  have hc1 := (HT.ro hr_x0).any.flatAt ha1 hx1
  refine wc_load HF rfl sc3 (hc1.get 0 rfl) (HF.wy rfl rfl rfl rfl (decide_eq_false hb2)) rfl fun a HF => ?_
  refine wc_bin HF nS rfl rfl b_ne (HF.wy rfl rfl rfl rfl (decide_eq_false hb2)) rfl fun a HF => ?_
  refine wc_pick (b := false) HF nS rfl (decide_eq_false hb2) rfl rfl rfl fun a HF => ?_
  refine wc_end (then_n ?_)
  by_cases hb3 : e1.a = 8
  have h := ifp hb3 h
  refine wp_if (b' := false) HF rfl (notT (decide_eq_true hb3)) ?_
  refine wp_skip (then_n (wp_seq (wc_text (wa HF rfl rfl rfl fun a HF => ?_))))
  refine wc_end (then_n ?_)
  obtain ⟨q1, hx2, h⟩ := obs h
  refine wp_cut (fun a w => q1 = .brk () ∧ Fr a 49 [] ∧ St w0 (fun _ => False) w []) ?_ ?_
  have hk1 := h
  have h := hx2
  refine wp_seq (wc_text (wm HF rfl rfl rfl fun a HF => ?_))
  refine wa HF rfl rfl rfl fun a HF => ?_
  refine wc_end (then_n (wp_block (wp_loopN (fun k1 a w => ∃ z1 z2, m_spec_EndOf_L0 fuel x0 k1 z1 z2 = some q1 ∧ Fr a 49 [(0, .slice a_x0 x0.length c_x0), (5, .int .i64 z1), (6, .int .i64 z2)] ∧ St w0 (fun _ => False) w []) fuel ⟨0, x1, h, (HF.keep (HF.keep (HF.keep HF.nil rfl) rfl) rfl), HT⟩ ?_)))
  rintro k1 a w ⟨z1, z2, h, HF, HT⟩
  rcases k1 with _ | k1
  cases h
  rw [m_spec_EndOf_L0] at h
  refine ?_
  refine wp_seq (wp_seq (wc_text (wm HF rfl rfl rfl fun a HF => ?_)))
  refine wm HF rfl rfl rfl fun a HF => ?_
  refine wc_lenR HF nS Try.underlying36 rfl rfl rfl fun a HF => ?_
  refine wc_bin HF nS rfl rfl b_lt rfl rfl fun a HF => ?_
  refine wc_end (then_n ?_)
  by_cases hb4 : z2 < (x0.length : Int)
  have h := ifp hb4 h
  refine wp_if (b' := true) HF rfl (decide_eq_true hb4) ?_
  refine wp_skip (then_n ?_)
  obtain ⟨q2, hx3, h⟩ := obs h
  refine wp_cut (fun a w => ∃ z3, q2 = .brk z3 ∧ Fr a 49 [(0, .slice a_x0 x0.length c_x0), (5, .int .i64 z3), (6, .int .i64 z2)] ∧ St w0 (fun _ => False) w []) ?_ ?_
  have hk2 := h
  have h := hx3
  refine wp_block ?_
  obtain ⟨z4, hx4, h⟩ := obs h
  refine wp_cut (fun a w => Fr a 49 [(0, .slice a_x0 x0.length c_x0), (5, .int .i64 z4), (6, .int .i64 z2)] ∧ St w0 (fun _ => False) w []) ?_ ?_
  have hk3 := h
  have h := hx4
  refine wp_seq (wc_text (wm HF rfl rfl rfl fun a HF => ?_))
  refine wm HF rfl rfl rfl fun a HF => ?_
  obtain ⟨e2, hx5, h⟩ := obs h
  refine wc_ixaddr HF nS el36 rfl ha1 ((HT.ro hr_x0).any).neq rfl hx5 rfl rfl fun a HF => ?_
  refine wc_faddr HF nS rfl fl85_0 rfl rfl fun a HF => ?_
  have hc2 := (HT.ro hr_x0).any.flatAt ha1 hx5
  refine wc_load HF rfl sc3 (hc2.get 0 rfl) rfl rfl fun a HF => ?_
  refine wc_bin HF nS rfl rfl b_eq rfl rfl fun a HF => ?_
  refine wc_end (then_n ?_)
  by_cases hb5 : e2.a = 8
  have h := ifp hb5 h
  refine wp_if (b' := true) HF rfl (decide_eq_true hb5) ?_
  refine wc_text (wm HF rfl rfl rfl fun a HF => ?_)
  obtain ⟨hg1, h⟩ := grd h
  refine wc_bin HF nS rfl rfl (b_add hg1) rfl rfl fun a HF => ?_
  refine wa HF rfl rfl rfl fun a HF => ?_
  refine wc_end ?_
  obtain rfl := Option.some.inj h
  exact then_n ⟨(HF.keep (HF.keep (HF.keep HF.nil rfl) rfl) rfl), HT⟩
  have h := ifn hb5 h
  refine wp_if (b' := false) HF rfl (decide_eq_false hb5) ?_
  refine wp_skip ?_
  obtain rfl := Option.some.inj h
  exact then_n ⟨(HF.keep (HF.keep (HF.keep HF.nil rfl) rfl) rfl), HT⟩
  rintro a w ⟨HF, HT⟩
  refine ?_
  obtain ⟨z5, hx6, h⟩ := obs h
  refine wp_cut (fun a w => Fr a 49 [(0, .slice a_x0 x0.length c_x0), (5, .int .i64 z5), (6, .int .i64 z2)] ∧ St w0 (fun _ => False) w []) ?_ ?_
  have hk3 := h
  have h := hx6
  refine wp_seq (wc_text (wm HF rfl rfl rfl fun a HF => ?_))
  refine wm HF rfl rfl rfl fun a HF => ?_
  obtain ⟨e3, hx7, h⟩ := obs h
  refine wc_ixaddr HF nS el36 rfl ha1 ((HT.ro hr_x0).any).neq rfl hx7 rfl rfl fun a HF => ?_
  refine wc_faddr HF nS rfl fl85_0 rfl rfl fun a HF => ?_
  have hc3 := (HT.ro hr_x0).any.flatAt ha1 hx7
  refine wc_load HF rfl sc3 (hc3.get 0 rfl) rfl rfl fun a HF => ?_
  refine wc_bin HF nS rfl rfl b_eq rfl rfl fun a HF => ?_
  refine wc_end (then_n ?_)
  by_cases hb6 : e3.a = 9
  have h := ifp hb6 h
  refine wp_if (b' := true) HF rfl (decide_eq_true hb6) ?_
  refine wc_text (wm HF rfl rfl rfl fun a HF => ?_)
  obtain ⟨hg2, h⟩ := grd h
  refine wc_bin HF nS rfl rfl (b_sub hg2) rfl rfl fun a HF => ?_
  refine wa HF rfl rfl rfl fun a HF => ?_
  refine wc_end ?_
  obtain rfl := Option.some.inj h
  exact then_n ⟨(HF.keep (HF.keep (HF.keep HF.nil rfl) rfl) rfl), HT⟩
  have h := ifn hb6 h
  refine wp_if (b' := false) HF rfl (decide_eq_false hb6) ?_
  refine wp_skip ?_
  obtain rfl := Option.some.inj h
  exact then_n ⟨(HF.keep (HF.keep (HF.keep HF.nil rfl) rfl) rfl), HT⟩
  rintro a w ⟨HF, HT⟩
  refine ?_
  refine wp_seq (wc_text (wm HF rfl rfl rfl fun a HF => ?_))
  refine wc_bin HF nS rfl rfl b_eq rfl rfl fun a HF => ?_
  refine wc_end (then_n ?_)
  by_cases hb7 : z5 = 0
  have h := ifp hb7 h
  refine wp_if (b' := true) HF rfl (decide_eq_true hb7) ?_
  refine wp_seq (wc_text (wm HF rfl rfl rfl fun a HF => ?_))
  refine wa HF rfl rfl rfl fun a HF => ?_
  refine wc_end (then_n (wp_ret ?_))
  obtain rfl := Option.some.inj h
  have h := retM hk2
  obtain rfl := Option.some.inj h
  have h := retL hk1
  obtain rfl := Option.some.inj h
  refine blk_r (then_r (then_r (blk_r (then_r (?_)))))
  refine bp_ret HF (res_one rfl HF rfl) ?_
  exact ⟨rfl, HT⟩
  have h := ifn hb7 h
  refine wp_if (b' := false) HF rfl (decide_eq_false hb7) ?_
  exact wp_skip (blk_n (then_n ⟨z5, (Option.some.inj h).symm, (HF.keep (HF.keep (HF.keep HF.nil rfl) rfl) rfl), HT⟩))
  rintro a w ⟨z3, rfl, HF, HT⟩
  have h := brkM1u h
  refine ?_
  refine wc_text (wm HF rfl rfl rfl fun a HF => ?_)
  obtain ⟨hg3, h⟩ := grd h
  refine wc_bin HF nS rfl rfl (b_add hg3) rfl rfl fun a HF => ?_
  refine wa HF rfl rfl rfl fun a HF => ?_
  exact wc_end (then_n ⟨k1, Nat.lt_succ_self k1, z3, z2 + 1, h, (HF.keep (HF.keep (HF.keep HF.nil rfl) rfl) rfl), HT⟩)
  have h := ifn hb4 h
  refine wp_if (b' := false) HF rfl (decide_eq_false hb4) ?_
  refine wp_exit ?_
  refine then_x (then_x (?_))
  refine blk_x ?_
  exact then_n ⟨(Option.some.inj h).symm, HF.nil, HT⟩
  rintro a w ⟨rfl, HF, HT⟩
  have h := brkL1u h
  refine ?_
  refine wp_seq (wc_text (wa HF rfl rfl rfl fun a HF => ?_))
  refine wc_end (then_n (wp_ret ?_))
  obtain rfl := Option.some.inj h
  refine bp_ret HF (res_one rfl HF rfl) ?_
  exact ⟨rfl, HT⟩
  have h := ifn hb3 h
  refine wp_if (b' := true) HF rfl (notF (decide_eq_false hb3)) ?_
  refine wp_seq (wc_text (wa HF rfl rfl rfl fun a HF => ?_))
  refine wc_end (then_n (wp_ret ?_))
  obtain rfl := Option.some.inj h
  refine then_r (?_)
  refine bp_ret HF (res_one rfl HF rfl) ?_
  exact ⟨rfl, HT⟩

def m_spec_l7Copy (fuel : Nat) (x0_0 : List Int) (x0_1 : List Int) (x0_2 : Int) : Option (List Int × List Int × Int) :=
  bind2 (
    if ([] : List Int).length + x0_0.length ≤ 17179869184 then
      if ([] : List Int).length + x0_1.length ≤ 17179869184 then
        some (([] : List Int) ++ x0_0, ([] : List Int) ++ x0_1)
      else none
    else none) fun z1 z2 =>
  some (z1, z2, x0_2)

set_option maxRecDepth 100000 in
set_option maxHeartbeats 4000000 in
theorem w_spec_l7Copy (fuel : Nat) {x0_0 : List Int} {x0_1 : List Int} {x0_2 : Int} {a_x0_0 : Option Addr} {n_x0_0 c_x0_0 : Nat} {a_x0_1 : Option Addr} {n_x0_1 c_x0_1 : Nat} {r0_0 : List Int} {r0_1 : List Int} {r0_2 : Int} {w0 : World} (h : m_spec_l7Copy fuel x0_0 x0_1 x0_2 = some (r0_0, r0_1, r0_2)) (hr_x0_0 : RdT (fun b => ¬ False) w0 (rowT x0_0) (.slice a_x0_0 n_x0_0 c_x0_0)) (hr_x0_1 : RdT (fun b => ¬ False) w0 (rowT x0_1) (.slice a_x0_1 n_x0_1 c_x0_1)) :
    Calls Try.prog 80 #[.agg #[.slice a_x0_0 n_x0_0 c_x0_0, .slice a_x0_1 n_x0_1 c_x0_1, .int .i64 x0_2]] w0 fun e w => ∃ a_r0_0 n_r0_0 c_r0_0, ∃ a_r0_1 n_r0_1 c_r0_1, e = .returned (.agg #[.slice a_r0_0 n_r0_0 c_r0_0, .slice a_r0_1 n_r0_1 c_r0_1, .int .i64 r0_2]) ∧ St w0 (fun _ => False) w [Own 3 (rowT r0_0) (.slice a_r0_0 n_r0_0 c_r0_0), Own 3 (rowT r0_1) (.slice a_r0_1 n_r0_1 c_r0_1)] := by
  obtain rfl := hr_x0_0.neq
  obtain rfl := hr_x0_1.neq
  have HT : St w0 (fun _ => False) w0 [] := St.init0
  rw [m_spec_l7Copy] at h
  refine calls_fr (n := 14) [.agg #[.slice a_x0_0 x0_0.length c_x0_0, .slice a_x0_1 x0_1.length c_x0_1, .int .i64 x0_2]] Try.func80 rfl rfl rfl fun a HF => ?_
  have HT : St w0 (fun _ => False) w0 [] := HT
  refine wp_seq (wc_text (wc_box (cs := [.slice a_x0_0 x0_0.length c_x0_0, .slice a_x0_1 x0_1.length c_x0_1, .int .i64 x0_2]) HF HT rfl rfl rfl rfl (fun p1 w HT hb => ⟨nS, fun a HF => ?_⟩)))
  refine wc_alloc (cs := [.slice none 0 0, .slice none 0 0, .int .i64 0]) HF HT zr27 rfl rfl rfl (fun p2 w HT hb => ⟨nS, fun a HF => ?_⟩)
  refine wc_end (then_n ?_)
  obtain ⟨z1, z2, hx1, h⟩ := obs2 h
  refine wp_cut (fun a w => ∃ a1 n1 c1 a2 n2 c2, Fr a 14 [(2, .pointer (some ⟨p2, 0, none⟩))] ∧ St w0 (fun _ => False) w [Own 3 (rowT z1) (.slice a1 n1 c1), Own 3 (rowT z2) (.slice a2 n2 c2), Box p2 [.slice a1 n1 c1, .slice a2 n2 c2, .int .i64 x0_2]]) ?_ ?_
  have hk1 := h
  have h := hx1
  refine wp_region_tree (.seg [(1, false), (2, false), (5, false), (6, false), (8, false), (9, false)] (.alt 0 false (.alt 3 false (.seg [(4, false), (7, false), (10, true), (11, true)] .stop) (.alt 4 false (.seg [(3, false), (7, false), (10, true), (11, true)] .stop) .none)) (.alt 4 false (.seg [(0, false), (3, false), (7, false), (10, true), (11, true)] .stop) .none))) (fun w' => w'.cell? ⟨p1, 0, none⟩ = some (.slice a_x0_0 x0_0.length c_x0_0) ∧ w'.cell? ⟨p1, 1, none⟩ = some (.slice a_x0_1 x0_1.length c_x0_1) ∧ w'.cell? ⟨p1, 2, none⟩ = some (.int .i64 x0_2) ∧ True) (by kernel_rfl) (by kernel_rfl) ?_
  have HT := HT.drew
  refine wt_seg (wc_faddr HF (fun _ => ⟨(HT.boxAt 1 rfl).get 0 rfl, (HT.boxAt 1 rfl).get 1 rfl, (HT.boxAt 1 rfl).get 2 rfl, trivial⟩) rfl fl27_0 rfl rfl fun a HF => ?_)
  refine wc_loadS HF ⟨(HT.boxAt 1 rfl).get 0 rfl, (HT.boxAt 1 rfl).get 1 rfl, (HT.boxAt 1 rfl).get 2 rfl, trivial⟩ rfl sc22 (fun w hS => hS.1) rfl rfl fun a HF => ?_
  refine wc_faddr HF (fun _ => ⟨(HT.boxAt 1 rfl).get 0 rfl, (HT.boxAt 1 rfl).get 1 rfl, (HT.boxAt 1 rfl).get 2 rfl, trivial⟩) rfl fl27_1 rfl rfl fun a HF => ?_
  refine wc_loadS HF ⟨(HT.boxAt 1 rfl).get 0 rfl, (HT.boxAt 1 rfl).get 1 rfl, (HT.boxAt 1 rfl).get 2 rfl, trivial⟩ rfl sc22 (fun w hS => hS.2.1) rfl rfl fun a HF => ?_
  refine wc_faddr HF (fun _ => ⟨(HT.boxAt 1 rfl).get 0 rfl, (HT.boxAt 1 rfl).get 1 rfl, (HT.boxAt 1 rfl).get 2 rfl, trivial⟩) rfl fl27_2 rfl rfl fun a HF => ?_
  refine wc_loadS HF ⟨(HT.boxAt 1 rfl).get 0 rfl, (HT.boxAt 1 rfl).get 1 rfl, (HT.boxAt 1 rfl).get 2 rfl, trivial⟩ rfl sc3 (fun w hS => hS.2.2.1) rfl rfl fun a HF => ?_
  refine wc_endT ?_
  obtain ⟨hg1, h⟩ := grd h
  obtain ⟨hg2, h⟩ := grd h
  refine wt_alt ?_ ?_
  refine wc_bslice (l := ([] : List Int)) (cs := []) (A := []) HF HT bs22_0 rfl rfl (gives_flat rfl) rfl (by decide) rfl rfl (fun p7 w HT hb  => ⟨(fun _ => ⟨(HT.boxAt 2 rfl).get 0 rfl, (HT.boxAt 2 rfl).get 1 rfl, (HT.boxAt 2 rfl).get 2 rfl, trivial⟩), fun a HF => ?_⟩)
  refine wc_endT (wt_alt ?_ ?_)
  refine wc_appendR HF HT (HT.ro hr_x0_0).any el22 rfl rfl hg1 rfl rfl rfl (fun a11 c11 w HT => ⟨(fun _ => ⟨(HT.boxAt 2 rfl).get 0 rfl, (HT.boxAt 2 rfl).get 1 rfl, (HT.boxAt 2 rfl).get 2 rfl, trivial⟩), fun a HF => ?_⟩)
  refine wc_endT (wt_seg (wc_bslice (l := ([] : List Int)) (cs := []) (A := []) HF HT bs22_0 rfl rfl (gives_flat rfl) rfl (by decide) rfl rfl (fun p9 w HT hb  => ⟨(fun _ => ⟨(HT.boxAt 3 rfl).get 0 rfl, (HT.boxAt 3 rfl).get 1 rfl, (HT.boxAt 3 rfl).get 2 rfl, trivial⟩), fun a HF => ?_⟩)))
  refine wc_appendR HF HT (HT.ro hr_x0_1).any el22 rfl rfl hg2 rfl rfl rfl (fun a12 c12 w HT => ⟨(fun _ => ⟨(HT.boxAt 3 rfl).get 0 rfl, (HT.boxAt 3 rfl).get 1 rfl, (HT.boxAt 3 rfl).get 2 rfl, trivial⟩), fun a HF => ?_⟩)
  refine wc_build (cs := #[.slice a11 ((([] : List Int) ++ x0_0).length) c11, .slice a12 ((([] : List Int) ++ x0_1).length) c12, .int .i64 x0_2]) HF nS bd27 rfl rfl rfl rfl fun a HF => ?_
  have HT := HT.p2
  refine wc_storeB (cs' := [.slice a11 ((([] : List Int) ++ x0_0).length) c11, .slice a12 ((([] : List Int) ++ x0_1).length) c12, .int .i64 x0_2]) HF HT rfl rfl (fun w => (ag27 w).2) rfl rfl rfl rfl rfl (fun w HT => ⟨nS, ?_⟩)
  refine wc_endT (wt_stop ?_)
  have HT := HT.p1.p2.t3
  have hj1 := Option.some.inj h
  obtain ⟨rfl, hj2⟩ := Prod.mk.inj hj1
  subst hj2
  exact then_n ⟨a11, (([] : List Int) ++ x0_0).length, c11, a12, (([] : List Int) ++ x0_1).length, c12, (HF.keep HF.nil rfl), HT⟩
  refine wt_alt ?_ ?_
  refine wc_bslice (l := ([] : List Int)) (cs := []) (A := []) HF HT bs22_0 rfl rfl (gives_flat rfl) rfl (by decide) rfl rfl (fun p10 w HT hb  => ⟨(fun _ => ⟨(HT.boxAt 3 rfl).get 0 rfl, (HT.boxAt 3 rfl).get 1 rfl, (HT.boxAt 3 rfl).get 2 rfl, trivial⟩), fun a HF => ?_⟩)
  refine wc_endT (wt_seg ?_)
  have HT := HT.p1
  refine wc_appendR HF HT (HT.ro hr_x0_0).any el22 rfl rfl hg1 rfl rfl rfl (fun a13 c13 w HT => ⟨(fun _ => ⟨(HT.boxAt 3 rfl).get 0 rfl, (HT.boxAt 3 rfl).get 1 rfl, (HT.boxAt 3 rfl).get 2 rfl, trivial⟩), fun a HF => ?_⟩)
  have HT := HT.p1
  refine wc_appendR HF HT (HT.ro hr_x0_1).any el22 rfl rfl hg2 rfl rfl rfl (fun a14 c14 w HT => ⟨(fun _ => ⟨(HT.boxAt 3 rfl).get 0 rfl, (HT.boxAt 3 rfl).get 1 rfl, (HT.boxAt 3 rfl).get 2 rfl, trivial⟩), fun a HF => ?_⟩)
  refine wc_build (cs := #[.slice a13 ((([] : List Int) ++ x0_0).length) c13, .slice a14 ((([] : List Int) ++ x0_1).length) c14, .int .i64 x0_2]) HF nS bd27 rfl rfl rfl rfl fun a HF => ?_
  have HT := HT.p2
  refine wc_storeB (cs' := [.slice a13 ((([] : List Int) ++ x0_0).length) c13, .slice a14 ((([] : List Int) ++ x0_1).length) c14, .int .i64 x0_2]) HF HT rfl rfl (fun w => (ag27 w).2) rfl rfl rfl rfl rfl (fun w HT => ⟨nS, ?_⟩)
  refine wc_endT (wt_stop ?_)
  have HT := HT.p1.p2.t3
  have hj3 := Option.some.inj h
  obtain ⟨rfl, hj4⟩ := Prod.mk.inj hj3
  subst hj4
  exact then_n ⟨a13, (([] : List Int) ++ x0_0).length, c13, a14, (([] : List Int) ++ x0_1).length, c14, (HF.keep HF.nil rfl), HT⟩
  exact wt_none
  refine wt_alt ?_ ?_
  refine wc_bslice (l := ([] : List Int)) (cs := []) (A := []) HF HT bs22_0 rfl rfl (gives_flat rfl) rfl (by decide) rfl rfl (fun p11 w HT hb  => ⟨(fun _ => ⟨(HT.boxAt 2 rfl).get 0 rfl, (HT.boxAt 2 rfl).get 1 rfl, (HT.boxAt 2 rfl).get 2 rfl, trivial⟩), fun a HF => ?_⟩)
  refine wc_endT (wt_seg (wc_bslice (l := ([] : List Int)) (cs := []) (A := []) HF HT bs22_0 rfl rfl (gives_flat rfl) rfl (by decide) rfl rfl (fun p12 w HT hb  => ⟨(fun _ => ⟨(HT.boxAt 3 rfl).get 0 rfl, (HT.boxAt 3 rfl).get 1 rfl, (HT.boxAt 3 rfl).get 2 rfl, trivial⟩), fun a HF => ?_⟩)))
  refine wc_appendR HF HT (HT.ro hr_x0_0).any el22 rfl rfl hg1 rfl rfl rfl (fun a15 c15 w HT => ⟨(fun _ => ⟨(HT.boxAt 3 rfl).get 0 rfl, (HT.boxAt 3 rfl).get 1 rfl, (HT.boxAt 3 rfl).get 2 rfl, trivial⟩), fun a HF => ?_⟩)
  have HT := HT.p1
  refine wc_appendR HF HT (HT.ro hr_x0_1).any el22 rfl rfl hg2 rfl rfl rfl (fun a16 c16 w HT => ⟨(fun _ => ⟨(HT.boxAt 3 rfl).get 0 rfl, (HT.boxAt 3 rfl).get 1 rfl, (HT.boxAt 3 rfl).get 2 rfl, trivial⟩), fun a HF => ?_⟩)
  refine wc_build (cs := #[.slice a15 ((([] : List Int) ++ x0_0).length) c15, .slice a16 ((([] : List Int) ++ x0_1).length) c16, .int .i64 x0_2]) HF nS bd27 rfl rfl rfl rfl fun a HF => ?_
  have HT := HT.p2
  refine wc_storeB (cs' := [.slice a15 ((([] : List Int) ++ x0_0).length) c15, .slice a16 ((([] : List Int) ++ x0_1).length) c16, .int .i64 x0_2]) HF HT rfl rfl (fun w => (ag27 w).2) rfl rfl rfl rfl rfl (fun w HT => ⟨nS, ?_⟩)
  refine wc_endT (wt_stop ?_)
  have HT := HT.p1.p2.t3
  have hj5 := Option.some.inj h
  obtain ⟨rfl, hj6⟩ := Prod.mk.inj hj5
  subst hj6
  exact then_n ⟨a15, (([] : List Int) ++ x0_0).length, c15, a16, (([] : List Int) ++ x0_1).length, c16, (HF.keep HF.nil rfl), HT⟩
  exact wt_none
  rintro a w ⟨a1, n1, c1, a2, n2, c2, HF, HT⟩
  obtain rfl := (HT.rdAt 0 rfl).neq
  obtain rfl := (HT.rdAt 1 rfl).neq
  refine ?_
  refine wp_ret ?_
  have hj7 := Option.some.inj h
  obtain ⟨rfl, hj8⟩ := Prod.mk.inj hj7
  obtain ⟨rfl, hj9⟩ := Prod.mk.inj hj8
  subst hj9
  refine bp_ret HF (res_cell (vs := [.slice a1 z1.length c1, .slice a2 z2.length c2, .int .i64 x0_2]) rfl HF rfl ag27 rfl (HT.boxAt 2 rfl)) ?_
  have HT := HT.t2
  exact ⟨a1, z1.length, c1, a2, z2.length, c2, rfl, HT⟩
end Go.Proofs.Ytknghnmcckjjbaa
