/- Walks of functions, by program: laws.FnExactSerial, impl.SerialAll, laws.eqOrder, laws.eqOrderS, laws.eqProgS, laws.eqRunS, laws.heldRunS, laws.markOrderS, laws.markProgS, laws.markRunS, laws.szOrder, laws.szOrderS, laws.szProgS, laws.toOrder, laws.toOrderS, laws.toProgS. -/
import Derived.Test.YtknghnmcckjjbaaTy
import Derived.Test.YtknghnmcckjjbaaS4
namespace Go.Proofs.Ytknghnmcckjjbaa
open Go Go.RowKit
set_option linter.unusedVariables false
set_option linter.unusedSimpArgs false
def m_laws_FnExactSerial (fuel : Nat) (x0_0 : List I4) (x0_1 : List KidD) (x1 : List Int) (x2_0 : List Int) (x2_1 : List Int) (x2_2 : Int) : Option Bool :=
  if 1048576 < (x1.length : Int) then
    some true
  else
  (m_laws_szProg fuel x0_0 x0_1 1048576).bind fun y1 =>
  if y1 < 0 then
    some true
  else
  (m_laws_szThings fuel x2_0 x2_1 x2_2 y1).bind fun y2 =>
  if y2 < 0 then
    some true
  else
  bind5 (
    bind2 (m_laws_toProg fuel x0_0 x0_1) fun y3 y4 =>
    (m_laws_toIntS fuel x1).bind fun y5 =>
    bind3 (m_laws_toThings fuel x2_0 x2_1 x2_2) fun y6 y7 y8 =>
    bind5 (m_spec_Serial fuel y3 y4 y5 y6 y7 y8) fun y9 y10 y11 y12 y13 =>
    some (y9, y10, y11, y12, y13)) fun z1 z2 z3 z4 z5 =>
  bind2 (m_laws_toProg fuel x0_0 x0_1) fun y14 y15 =>
  (m_laws_toIntS fuel x1).bind fun y16 =>
  bind3 (m_laws_toThings fuel x2_0 x2_1 x2_2) fun y17 y18 y19 =>
  bind5 (m_impl_Serial fuel y14 y15 y16 y17 y18 y19) fun y20 y21 y22 y23 y24 =>
  (m_laws_eqRun fuel y20 y21 y22 y23 y24 z1 z2 z3 z4 z5).bind fun y25 =>
  if y25 = true then
    bind2 (m_laws_toProg fuel x0_0 x0_1) fun y26 y27 =>
    (m_laws_eqProg fuel y14 y15 y26 y27).bind fun y28 =>
    if y28 = true then
      (m_laws_toIntS fuel x1).bind fun y29 =>
      (m_laws_eqIntS fuel y16 y29).bind fun y30 =>
      if y30 = true then
        bind3 (m_laws_toThings fuel x2_0 x2_1 x2_2) fun y31 y32 y33 =>
        (m_laws_eqThings fuel y17 y18 y19 y31 y32 y33).bind fun y34 =>
        if y34 = true then
          bind3 (m_laws_markProg fuel y14 y15 1) fun y35 y36 y37 =>
          bind2 (m_laws_markIntS fuel y16 y35) fun y38 y39 =>
          bind3 (m_laws_markThings fuel y17 y18 y19 y38) fun y40 y41 y42 =>
          (
            (
              if y40 < 0 then
                some true
              else
              (m_laws_eqRun fuel y20 y21 y22 y23 y24 z1 z2 z3 z4 z5).bind fun y43 =>
              some !(y43)).bind fun z6 =>
            if z6 = true then
              some (.ret false)
            else
            some (.brk ())).bind <| contL <| un1 fun _ =>
          bind4 (m_laws_markRun fuel y20 y21 y22 y23 y24 1) fun y44 y45 y46 y47 =>
          (m_laws_heldRun fuel y20 y45 y46 y47 y24 1).bind fun y48 =>
          if y48 < 0 then
            some false
          else
          if y48 = y44 then
            bind5 (
              bind2 (m_laws_toProg fuel x0_0 x0_1) fun y49 y50 =>
              (m_laws_toIntS fuel x1).bind fun y51 =>
              bind3 (m_laws_toThings fuel x2_0 x2_1 x2_2) fun y52 y53 y54 =>
              bind5 (m_impl_Serial fuel y49 y50 y51 y52 y53 y54) fun y55 y56 y57 y58 y59 =>
              some (y55, y56, y57, y58, y59)) fun z7 z8 z9 z10 z11 =>
            (m_laws_eqRun fuel z7 z8 z9 z10 z11 z1 z2 z3 z4 z5).bind fun y60 =>
            if y60 = true then
              (m_laws_heldRun fuel y20 y45 y46 y47 y24 1).bind fun y61 =>
              if y61 < 0 then
                some false
              else
              if y61 = y44 then
                some true
              else
              some false
            else
            some false
          else
          some false
        else
        some false
      else
      some false
    else
    some false
  else
  some false

set_option maxRecDepth 100000 in
set_option maxHeartbeats 4000000 in
theorem w_laws_FnExactSerial (fuel : Nat) {x0_0 : List I4} {x0_1 : List KidD} {x1 : List Int} {x2_0 : List Int} {x2_1 : List Int} {x2_2 : Int} {a_x0_0 : Option Addr} {n_x0_0 c_x0_0 : Nat} {a_x0_1 : Option Addr} {n_x0_1 c_x0_1 : Nat} {a_x1 : Option Addr} {n_x1 c_x1 : Nat} {a_x2_0 : Option Addr} {n_x2_0 c_x2_0 : Nat} {a_x2_1 : Option Addr} {n_x2_1 c_x2_1 : Nat} {r0 : Bool} {w0 : World} (h : m_laws_FnExactSerial fuel x0_0 x0_1 x1 x2_0 x2_1 x2_2 = some r0) (hr_x0_0 : RdT (fun b => ¬ False) w0 (rowT x0_0) (.slice a_x0_0 n_x0_0 c_x0_0)) (hr_x0_1 : RdT (fun b => ¬ False) w0 (rowT x0_1) (.slice a_x0_1 n_x0_1 c_x0_1)) (hr_x1 : RdT (fun b => ¬ False) w0 (rowT x1) (.slice a_x1 n_x1 c_x1)) (hr_x2_0 : RdT (fun b => ¬ False) w0 (rowT x2_0) (.slice a_x2_0 n_x2_0 c_x2_0)) (hr_x2_1 : RdT (fun b => ¬ False) w0 (rowT x2_1) (.slice a_x2_1 n_x2_1 c_x2_1)) :
    Calls Try.prog 6 #[.agg #[.slice a_x0_0 n_x0_0 c_x0_0, .slice a_x0_1 n_x0_1 c_x0_1], .slice a_x1 n_x1 c_x1, .agg #[.slice a_x2_0 n_x2_0 c_x2_0, .slice a_x2_1 n_x2_1 c_x2_1, .int .i64 x2_2]] w0 fun e w => e = .returned (.bool r0) ∧ St w0 (fun _ => False) w [] := by
  obtain rfl := hr_x0_0.neq
  obtain rfl := hr_x0_1.neq
  obtain rfl := hr_x1.neq
  obtain rfl := hr_x2_0.neq
  obtain rfl := hr_x2_1.neq
  have HT : St w0 (fun _ => False) w0 [] := St.init0
  rw [m_laws_FnExactSerial] at h
  refine calls_fr (n := 113) [.agg #[.slice a_x0_0 x0_0.length c_x0_0, .slice a_x0_1 x0_1.length c_x0_1], .slice a_x1 x1.length c_x1, .agg #[.slice a_x2_0 x2_0.length c_x2_0, .slice a_x2_1 x2_1.length c_x2_1, .int .i64 x2_2]] Try.func6 rfl rfl rfl (fun a HF => ?_)
  have HT : St w0 (fun _ => False) w0 [] := HT
  refine wp_seq ?_
  refine wc_text ?_
  refine wc_box (cs := [.slice a_x0_0 x0_0.length c_x0_0, .slice a_x0_1 x0_1.length c_x0_1]) HF HT rfl rfl rfl rfl (fun p1 w HT hb => ⟨nS, fun a HF => ?_⟩)
  refine wc_box (cs := [.slice a_x2_0 x2_0.length c_x2_0, .slice a_x2_1 x2_1.length c_x2_1, .int .i64 x2_2]) HF HT rfl rfl rfl rfl (fun p2 w HT hb => ⟨nS, fun a HF => ?_⟩)
  refine wc_assign HF nS rfl rfl rfl (fun a HF => ?_)
  refine wc_end ?_
  refine then_n ?_
  refine wp_seq ?_
  refine wp_seq ?_
  refine wc_text ?_
  refine wc_move HF nS rfl rfl rfl (fun a HF => ?_)
  refine wc_lenR HF nS Try.underlying22 rfl rfl rfl (fun a HF => ?_)
  refine wc_bin HF nS rfl rfl b_gt rfl rfl (fun a HF => ?_)
  refine wc_end ?_
  refine then_n ?_
  by_cases hb1 : 1048576 < (x1.length : Int)
  have h := (if_pos hb1).symm.trans h
  refine wp_if (b' := true) HF rfl (decide_eq_true hb1) ?_
  refine wp_seq ?_
  refine wc_text ?_
  refine wc_assign HF nS rfl rfl rfl (fun a HF => ?_)
  refine wc_end ?_
  refine then_n ?_
  refine wp_ret ?_
  obtain rfl := Option.some.inj h
  refine then_r (?_)
  refine bp_ret HF (res_one rfl HF rfl) ?_
  have HT := HT.t0
  exact ⟨rfl, HT⟩
  have h := (if_neg hb1).symm.trans h
  refine wp_if (b' := false) HF rfl (decide_eq_false hb1) ?_
  refine wp_skip ?_
  refine then_n ?_
  refine wp_seq ?_
  refine wc_text ?_
  refine wc_assign HF nS rfl rfl rfl (fun a HF => ?_)
  refine wc_end ?_
  refine then_n ?_
  refine wp_seq ?_
  refine wc_text ?_
  refine wc_loadA (vs := [.slice a_x0_0 x0_0.length c_x0_0, .slice a_x0_1 x0_1.length c_x0_1]) HF rfl ag46 rfl ((HT.boxAt 1 rfl).part 0 2) rfl rfl (fun a HF => ?_)
  refine wc_move HF nS rfl rfl rfl (fun a HF => ?_)
  obtain ⟨y1, hx1, h⟩ := obs h
  refine wc_call HF cf27 rfl (w_laws_szProg fuel hx1 (HT.ro hr_x0_0).any (HT.ro hr_x0_1).any) rfl rfl ?_
  rintro e w ⟨rfl, hE⟩
  have hb := hE.below
  have HT := HT.pure hE
  have HT : St w0 (fun _ => False) w [Box p2 [.slice a_x2_0 x2_0.length c_x2_0, .slice a_x2_1 x2_1.length c_x2_1, .int .i64 x2_2], Box p1 [.slice a_x0_0 x0_0.length c_x0_0, .slice a_x0_1 x0_1.length c_x0_1]] := HT
  refine ⟨_, rfl, nS, fun a HF => ?_⟩
  refine wc_assign HF nS rfl rfl rfl (fun a HF => ?_)
  refine wc_end ?_
  refine then_n ?_
  refine wp_seq ?_
  refine wp_seq ?_
  refine wc_text ?_
  refine wc_move HF nS rfl rfl rfl (fun a HF => ?_)
  refine wc_bin HF nS rfl rfl b_lt rfl rfl (fun a HF => ?_)
  refine wc_end ?_
  refine then_n ?_
  by_cases hb2 : y1 < 0
  have h := (if_pos hb2).symm.trans h
  refine wp_if (b' := true) HF rfl (decide_eq_true hb2) ?_
  refine wp_seq ?_
  refine wc_text ?_
  refine wc_assign HF nS rfl rfl rfl (fun a HF => ?_)
  refine wc_end ?_
  refine then_n ?_
  refine wp_ret ?_
  obtain rfl := Option.some.inj h
  refine then_r (?_)
  refine bp_ret HF (res_one rfl HF rfl) ?_
  have HT := HT.t0
  exact ⟨rfl, HT⟩
  have h := (if_neg hb2).symm.trans h
  refine wp_if (b' := false) HF rfl (decide_eq_false hb2) ?_
  refine wp_skip ?_
  refine then_n ?_
  refine wp_seq ?_
  refine wc_text ?_
  refine wc_loadA (vs := [.slice a_x2_0 x2_0.length c_x2_0, .slice a_x2_1 x2_1.length c_x2_1, .int .i64 x2_2]) HF rfl ag24 rfl ((HT.boxAt 0 rfl).part 0 3) rfl rfl (fun a HF => ?_)
  refine wc_move HF nS rfl rfl rfl (fun a HF => ?_)
  obtain ⟨y2, hx2, h⟩ := obs h
  refine wc_call HF cf10 rfl (w_laws_szThings fuel hx2 (HT.ro hr_x2_0).any (HT.ro hr_x2_1).any) rfl rfl ?_
  rintro e w ⟨rfl, hE⟩
  have hb := hE.below
  have HT := HT.pure hE
  have HT : St w0 (fun _ => False) w [Box p2 [.slice a_x2_0 x2_0.length c_x2_0, .slice a_x2_1 x2_1.length c_x2_1, .int .i64 x2_2], Box p1 [.slice a_x0_0 x0_0.length c_x0_0, .slice a_x0_1 x0_1.length c_x0_1]] := HT
  refine ⟨_, rfl, nS, fun a HF => ?_⟩
  refine wc_assign HF nS rfl rfl rfl (fun a HF => ?_)
  refine wc_end ?_
  refine then_n ?_
  refine wp_seq ?_
  refine wp_seq ?_
  refine wc_text ?_
  refine wc_move HF nS rfl rfl rfl (fun a HF => ?_)
  refine wc_bin HF nS rfl rfl b_lt rfl rfl (fun a HF => ?_)
  refine wc_end ?_
  refine then_n ?_
  by_cases hb3 : y2 < 0
  have h := (if_pos hb3).symm.trans h
  refine wp_if (b' := true) HF rfl (decide_eq_true hb3) ?_
  refine wp_seq ?_
  refine wc_text ?_
  refine wc_assign HF nS rfl rfl rfl (fun a HF => ?_)
  refine wc_end ?_
  refine then_n ?_
  refine wp_ret ?_
  obtain rfl := Option.some.inj h
  refine then_r (?_)
  refine bp_ret HF (res_one rfl HF rfl) ?_
  have HT := HT.t0
  exact ⟨rfl, HT⟩
  have h := (if_neg hb3).symm.trans h
  refine wp_if (b' := false) HF rfl (decide_eq_false hb3) ?_
  refine wp_skip ?_
  refine then_n ?_
  obtain ⟨z1, z2, z3, z4, z5, hx3, h⟩ := obs5 h
  refine wp_cut (fun a w => ∃ a1 n1 c1 a2 n2 c2 a3 n3 c3 p3, Fr a 113 [(1, .slice a_x1 x1.length c_x1), (3, .pointer (some ⟨p1, 0, none⟩)), (5, .pointer (some ⟨p2, 0, none⟩)), (8, .pointer (some ⟨p3, 0, none⟩))] ∧ St w0 (fun _ => False) w [Box p1 [.slice a_x0_0 x0_0.length c_x0_0, .slice a_x0_1 x0_1.length c_x0_1], Box p2 [.slice a_x2_0 x2_0.length c_x2_0, .slice a_x2_1 x2_1.length c_x2_1, .int .i64 x2_2], Own 3 (rowT z2) (.slice a1 n1 c1), Own 3 (rowT z3) (.slice a2 n2 c2), Own 3 (rowT z4) (.slice a3 n3 c3), Box p3 [.int .i64 z1, .slice a1 n1 c1, .slice a2 n2 c2, .slice a3 n3 c3, .int .i64 z5]]) ?_ ?_
  have hk1 := h
  have h := hx3
  refine wp_region_tree (.seg [(0, false), (2, false), (4, false)] (.alt 1 false (.alt 3 false (.alt 5 true (.alt 6 true (.seg [(7, false), (8, true)] .stop) (.alt 7 false (.seg [(6, true), (8, true)] .stop) .none)) (.alt 7 false (.seg [(5, true), (6, true), (8, true)] .stop) .none)) (.alt 7 false (.seg [(3, false), (5, true), (6, true), (8, true)] .stop) .none)) (.alt 7 false (.seg [(1, false), (3, false), (5, true), (6, true), (8, true)] .stop) .none))) (fun w' => LdC w' p1 0 [.slice a_x0_0 x0_0.length c_x0_0, .slice a_x0_1 x0_1.length c_x0_1] ∧ LdC w' p2 0 [.slice a_x2_0 x2_0.length c_x2_0, .slice a_x2_1 x2_1.length c_x2_1, .int .i64 x2_2] ∧ True) (by kernel_rfl) (by kernel_rfl) ?_
  have HT := HT.drew
  refine wt_seg ?_
  refine wc_loadAS (vs := [.slice a_x0_0 x0_0.length c_x0_0, .slice a_x0_1 x0_1.length c_x0_1]) HF ⟨(HT.boxAt 1 rfl).part 0 2, (HT.boxAt 0 rfl).part 0 3, trivial⟩ rfl ag46 rfl (fun w hS => hS.1) rfl rfl (fun a HF => ?_)
  refine wc_move HF (fun _ => ⟨(HT.boxAt 1 rfl).part 0 2, (HT.boxAt 0 rfl).part 0 3, trivial⟩) rfl rfl rfl (fun a HF => ?_)
  refine wc_loadAS (vs := [.slice a_x2_0 x2_0.length c_x2_0, .slice a_x2_1 x2_1.length c_x2_1, .int .i64 x2_2]) HF ⟨(HT.boxAt 1 rfl).part 0 2, (HT.boxAt 0 rfl).part 0 3, trivial⟩ rfl ag24 rfl (fun w hS => hS.2.1) rfl rfl (fun a HF => ?_)
  refine wc_endT ?_
  obtain ⟨y3, y4, hx4, h⟩ := obs2 h
  obtain ⟨y5, hx5, h⟩ := obs h
  obtain ⟨y6, y7, y8, hx6, h⟩ := obs3 h
  obtain ⟨y9, y10, y11, y12, y13, hx7, h⟩ := obs5 h
  refine wt_alt ?_ ?_
  refine wc_call HF cf29 rfl (w_laws_toProg fuel hx4 (HT.ro hr_x0_0).any (HT.ro hr_x0_1).any) rfl rfl ?_
  rintro e w ⟨a68, n68, c68, a69, n69, c69, rfl, hE⟩
  have hb := hE.below
  have HT := HT.pure hE
  obtain rfl := (HT.rdAt 0 rfl).neq
  obtain rfl := (HT.rdAt 1 rfl).neq
  have HT : St w0 (fun _ => False) w [Own 85 (rowT y3) (.slice a68 y3.length c68), Own 127 (rowT y4) (.slice a69 y4.length c69), Box p2 [.slice a_x2_0 x2_0.length c_x2_0, .slice a_x2_1 x2_1.length c_x2_1, .int .i64 x2_2], Box p1 [.slice a_x0_0 x0_0.length c_x0_0, .slice a_x0_1 x0_1.length c_x0_1]] := HT
  refine ⟨_, rfl, (fun _ => ⟨(HT.boxAt 3 rfl).part 0 2, (HT.boxAt 2 rfl).part 0 3, trivial⟩), fun a HF => ?_⟩
  refine wc_endT ?_
  refine wt_alt ?_ ?_
  refine wc_call HF cf20 rfl (w_laws_toIntS fuel hx5 (HT.ro hr_x1).any) rfl rfl ?_
  rintro e w ⟨a98, n98, c98, rfl, hE⟩
  have hb := hE.below
  have HT := HT.pure hE
  obtain rfl := (HT.rdAt 0 rfl).neq
  have HT : St w0 (fun _ => False) w [Own 3 (rowT y5) (.slice a98 y5.length c98), Own 85 (rowT y3) (.slice a68 y3.length c68), Own 127 (rowT y4) (.slice a69 y4.length c69), Box p2 [.slice a_x2_0 x2_0.length c_x2_0, .slice a_x2_1 x2_1.length c_x2_1, .int .i64 x2_2], Box p1 [.slice a_x0_0 x0_0.length c_x0_0, .slice a_x0_1 x0_1.length c_x0_1]] := HT
  refine ⟨_, rfl, (fun _ => ⟨(HT.boxAt 4 rfl).part 0 2, (HT.boxAt 3 rfl).part 0 3, trivial⟩), fun a HF => ?_⟩
  refine wc_endT ?_
  refine wt_alt ?_ ?_
  refine wc_call HF cf12 rfl (w_laws_toThings fuel hx6 (HT.ro hr_x2_0).any (HT.ro hr_x2_1).any) rfl rfl ?_
  rintro e w ⟨a110, n110, c110, a111, n111, c111, rfl, hE⟩
  have hb := hE.below
  have HT := HT.pure hE
  obtain rfl := (HT.rdAt 0 rfl).neq
  obtain rfl := (HT.rdAt 1 rfl).neq
  have HT : St w0 (fun _ => False) w [Own 3 (rowT y6) (.slice a110 y6.length c110), Own 3 (rowT y7) (.slice a111 y7.length c111), Own 3 (rowT y5) (.slice a98 y5.length c98), Own 85 (rowT y3) (.slice a68 y3.length c68), Own 127 (rowT y4) (.slice a69 y4.length c69), Box p2 [.slice a_x2_0 x2_0.length c_x2_0, .slice a_x2_1 x2_1.length c_x2_1, .int .i64 x2_2], Box p1 [.slice a_x0_0 x0_0.length c_x0_0, .slice a_x0_1 x0_1.length c_x0_1]] := HT
  refine ⟨_, rfl, nS, fun a HF => ?_⟩
  refine wc_endT ?_
  refine wt_alt ?_ ?_
  refine wc_call HF cf28 rfl (w_spec_Serial fuel hx7 (HT.rdAt 3 rfl) (HT.rdAt 4 rfl) (HT.rdAt 2 rfl) (HT.rdAt 0 rfl) (HT.rdAt 1 rfl)) rfl rfl ?_
  rintro e w ⟨a115, n115, c115, a116, n116, c116, a117, n117, c117, rfl, hE⟩
  have hb := hE.below
  have HT := HT.pure hE
  obtain rfl := (HT.rdAt 0 rfl).neq
  obtain rfl := (HT.rdAt 1 rfl).neq
  obtain rfl := (HT.rdAt 2 rfl).neq
  have HT : St w0 (fun _ => False) w [Own 3 (rowT y10) (.slice a115 y10.length c115), Own 3 (rowT y11) (.slice a116 y11.length c116), Own 3 (rowT y12) (.slice a117 y12.length c117), Own 3 (rowT y6) (.slice a110 y6.length c110), Own 3 (rowT y7) (.slice a111 y7.length c111), Own 3 (rowT y5) (.slice a98 y5.length c98), Own 85 (rowT y3) (.slice a68 y3.length c68), Own 127 (rowT y4) (.slice a69 y4.length c69), Box p2 [.slice a_x2_0 x2_0.length c_x2_0, .slice a_x2_1 x2_1.length c_x2_1, .int .i64 x2_2], Box p1 [.slice a_x0_0 x0_0.length c_x0_0, .slice a_x0_1 x0_1.length c_x0_1]] := HT
  refine ⟨_, rfl, nS, fun a HF => ?_⟩
  refine wc_endT ?_
  refine wt_seg ?_
  refine wc_alloc (cs := [.int .i64 0, .slice none 0 0, .slice none 0 0, .slice none 0 0, .int .i64 0]) HF HT zr49 rfl rfl rfl (fun p30 w HT hb => ⟨(fun _ => ⟨(HT.boxAt 10 rfl).part 0 2, (HT.boxAt 9 rfl).part 0 3, trivial⟩), fun a HF => ?_⟩)
  refine wc_storeB (cs' := [.int .i64 y9, .slice a115 y10.length c115, .slice a116 y11.length c116, .slice a117 y12.length c117, .int .i64 y13]) HF HT rfl rfl (fun w => (ag49 w).2) rfl rfl rfl rfl rfl (fun w HT => ⟨nS, ?_⟩)
  refine wc_endT ?_
  refine wt_stop ?_
  have HT := HT.p3.p3.p3.p9.p10.t6
  have hj1 := Option.some.inj h
  obtain ⟨hi1, hj2⟩ := Prod.mk.inj hj1
  subst hi1
  obtain ⟨hi2, hj3⟩ := Prod.mk.inj hj2
  subst hi2
  obtain ⟨hi3, hj4⟩ := Prod.mk.inj hj3
  subst hi3
  obtain ⟨hi4, hj5⟩ := Prod.mk.inj hj4
  subst hi4
  subst hj5
  exact then_n ⟨a115, y10.length, c115, a116, y11.length, c116, a117, y12.length, c117, p30, (HF.keep (HF.keep (HF.keep (HF.keep HF.nil rfl) rfl) rfl) rfl), HT⟩
  refine wt_alt ?_ ?_
  refine wc_alloc (cs := [.int .i64 0, .slice none 0 0, .slice none 0 0, .slice none 0 0, .int .i64 0]) HF HT zr49 rfl rfl rfl (fun p31 w HT hb => ⟨(fun _ => ⟨(HT.boxAt 7 rfl).part 0 2, (HT.boxAt 6 rfl).part 0 3, trivial⟩), fun a HF => ?_⟩)
  refine wc_endT ?_
  refine wt_seg ?_
  refine wc_call HF cf28 rfl (w_spec_Serial fuel hx7 (HT.rdAt 4 rfl) (HT.rdAt 5 rfl) (HT.rdAt 3 rfl) (HT.rdAt 1 rfl) (HT.rdAt 2 rfl)) rfl rfl ?_
  rintro e w ⟨a118, n118, c118, a119, n119, c119, a120, n120, c120, rfl, hE⟩
  have hb := hE.below
  have HT := HT.pure hE
  obtain rfl := (HT.rdAt 0 rfl).neq
  obtain rfl := (HT.rdAt 1 rfl).neq
  obtain rfl := (HT.rdAt 2 rfl).neq
  have HT : St w0 (fun _ => False) w [Own 3 (rowT y10) (.slice a118 y10.length c118), Own 3 (rowT y11) (.slice a119 y11.length c119), Own 3 (rowT y12) (.slice a120 y12.length c120), Box p31 [.int .i64 0, .slice none 0 0, .slice none 0 0, .slice none 0 0, .int .i64 0], Own 3 (rowT y6) (.slice a110 y6.length c110), Own 3 (rowT y7) (.slice a111 y7.length c111), Own 3 (rowT y5) (.slice a98 y5.length c98), Own 85 (rowT y3) (.slice a68 y3.length c68), Own 127 (rowT y4) (.slice a69 y4.length c69), Box p2 [.slice a_x2_0 x2_0.length c_x2_0, .slice a_x2_1 x2_1.length c_x2_1, .int .i64 x2_2], Box p1 [.slice a_x0_0 x0_0.length c_x0_0, .slice a_x0_1 x0_1.length c_x0_1]] := HT
  refine ⟨_, rfl, nS, fun a HF => ?_⟩
  have HT := HT.p3
  refine wc_storeB (cs' := [.int .i64 y9, .slice a118 y10.length c118, .slice a119 y11.length c119, .slice a120 y12.length c120, .int .i64 y13]) HF HT rfl rfl (fun w => (ag49 w).2) rfl rfl rfl rfl rfl (fun w HT => ⟨nS, ?_⟩)
  refine wc_endT ?_
  refine wt_stop ?_
  have HT := HT.p3.p3.p3.p9.p10.t6
  have hj6 := Option.some.inj h
  obtain ⟨hi6, hj7⟩ := Prod.mk.inj hj6
  subst hi6
  obtain ⟨hi7, hj8⟩ := Prod.mk.inj hj7
  subst hi7
  obtain ⟨hi8, hj9⟩ := Prod.mk.inj hj8
  subst hi8
  obtain ⟨hi9, hj10⟩ := Prod.mk.inj hj9
  subst hi9
  subst hj10
  exact then_n ⟨a118, y10.length, c118, a119, y11.length, c119, a120, y12.length, c120, p31, (HF.keep (HF.keep (HF.keep (HF.keep HF.nil rfl) rfl) rfl) rfl), HT⟩
  exact wt_none
  refine wt_alt ?_ ?_
  refine wc_alloc (cs := [.int .i64 0, .slice none 0 0, .slice none 0 0, .slice none 0 0, .int .i64 0]) HF HT zr49 rfl rfl rfl (fun p32 w HT hb => ⟨(fun _ => ⟨(HT.boxAt 5 rfl).part 0 2, (HT.boxAt 4 rfl).part 0 3, trivial⟩), fun a HF => ?_⟩)
  refine wc_endT ?_
  refine wt_seg ?_
  refine wc_call HF cf12 rfl (w_laws_toThings fuel hx6 (HT.ro hr_x2_0).any (HT.ro hr_x2_1).any) rfl rfl ?_
  rintro e w ⟨a121, n121, c121, a122, n122, c122, rfl, hE⟩
  have hb := hE.below
  have HT := HT.pure hE
  obtain rfl := (HT.rdAt 0 rfl).neq
  obtain rfl := (HT.rdAt 1 rfl).neq
  have HT : St w0 (fun _ => False) w [Own 3 (rowT y6) (.slice a121 y6.length c121), Own 3 (rowT y7) (.slice a122 y7.length c122), Box p32 [.int .i64 0, .slice none 0 0, .slice none 0 0, .slice none 0 0, .int .i64 0], Own 3 (rowT y5) (.slice a98 y5.length c98), Own 85 (rowT y3) (.slice a68 y3.length c68), Own 127 (rowT y4) (.slice a69 y4.length c69), Box p2 [.slice a_x2_0 x2_0.length c_x2_0, .slice a_x2_1 x2_1.length c_x2_1, .int .i64 x2_2], Box p1 [.slice a_x0_0 x0_0.length c_x0_0, .slice a_x0_1 x0_1.length c_x0_1]] := HT
  refine ⟨_, rfl, nS, fun a HF => ?_⟩
  refine wc_call HF cf28 rfl (w_spec_Serial fuel hx7 (HT.rdAt 4 rfl) (HT.rdAt 5 rfl) (HT.rdAt 3 rfl) (HT.rdAt 0 rfl) (HT.rdAt 1 rfl)) rfl rfl ?_
  rintro e w ⟨a123, n123, c123, a124, n124, c124, a125, n125, c125, rfl, hE⟩
  have hb := hE.below
  have HT := HT.pure hE
  obtain rfl := (HT.rdAt 0 rfl).neq
  obtain rfl := (HT.rdAt 1 rfl).neq
  obtain rfl := (HT.rdAt 2 rfl).neq
  have HT : St w0 (fun _ => False) w [Own 3 (rowT y10) (.slice a123 y10.length c123), Own 3 (rowT y11) (.slice a124 y11.length c124), Own 3 (rowT y12) (.slice a125 y12.length c125), Own 3 (rowT y6) (.slice a121 y6.length c121), Own 3 (rowT y7) (.slice a122 y7.length c122), Box p32 [.int .i64 0, .slice none 0 0, .slice none 0 0, .slice none 0 0, .int .i64 0], Own 3 (rowT y5) (.slice a98 y5.length c98), Own 85 (rowT y3) (.slice a68 y3.length c68), Own 127 (rowT y4) (.slice a69 y4.length c69), Box p2 [.slice a_x2_0 x2_0.length c_x2_0, .slice a_x2_1 x2_1.length c_x2_1, .int .i64 x2_2], Box p1 [.slice a_x0_0 x0_0.length c_x0_0, .slice a_x0_1 x0_1.length c_x0_1]] := HT
  refine ⟨_, rfl, nS, fun a HF => ?_⟩
  have HT := HT.p5
  refine wc_storeB (cs' := [.int .i64 y9, .slice a123 y10.length c123, .slice a124 y11.length c124, .slice a125 y12.length c125, .int .i64 y13]) HF HT rfl rfl (fun w => (ag49 w).2) rfl rfl rfl rfl rfl (fun w HT => ⟨nS, ?_⟩)
  refine wc_endT ?_
  refine wt_stop ?_
  have HT := HT.p3.p3.p3.p9.p10.t6
  have hj11 := Option.some.inj h
  obtain ⟨hi11, hj12⟩ := Prod.mk.inj hj11
  subst hi11
  obtain ⟨hi12, hj13⟩ := Prod.mk.inj hj12
  subst hi12
  obtain ⟨hi13, hj14⟩ := Prod.mk.inj hj13
  subst hi13
  obtain ⟨hi14, hj15⟩ := Prod.mk.inj hj14
  subst hi14
  subst hj15
  exact then_n ⟨a123, y10.length, c123, a124, y11.length, c124, a125, y12.length, c125, p32, (HF.keep (HF.keep (HF.keep (HF.keep HF.nil rfl) rfl) rfl) rfl), HT⟩
  exact wt_none
  refine wt_alt ?_ ?_
  refine wc_alloc (cs := [.int .i64 0, .slice none 0 0, .slice none 0 0, .slice none 0 0, .int .i64 0]) HF HT zr49 rfl rfl rfl (fun p33 w HT hb => ⟨(fun _ => ⟨(HT.boxAt 4 rfl).part 0 2, (HT.boxAt 3 rfl).part 0 3, trivial⟩), fun a HF => ?_⟩)
  refine wc_endT ?_
  refine wt_seg ?_
  refine wc_call HF cf20 rfl (w_laws_toIntS fuel hx5 (HT.ro hr_x1).any) rfl rfl ?_
  rintro e w ⟨a126, n126, c126, rfl, hE⟩
  have hb := hE.below
  have HT := HT.pure hE
  obtain rfl := (HT.rdAt 0 rfl).neq
  have HT : St w0 (fun _ => False) w [Own 3 (rowT y5) (.slice a126 y5.length c126), Box p33 [.int .i64 0, .slice none 0 0, .slice none 0 0, .slice none 0 0, .int .i64 0], Own 85 (rowT y3) (.slice a68 y3.length c68), Own 127 (rowT y4) (.slice a69 y4.length c69), Box p2 [.slice a_x2_0 x2_0.length c_x2_0, .slice a_x2_1 x2_1.length c_x2_1, .int .i64 x2_2], Box p1 [.slice a_x0_0 x0_0.length c_x0_0, .slice a_x0_1 x0_1.length c_x0_1]] := HT
  refine ⟨_, rfl, (fun _ => ⟨(HT.boxAt 5 rfl).part 0 2, (HT.boxAt 4 rfl).part 0 3, trivial⟩), fun a HF => ?_⟩
  refine wc_call HF cf12 rfl (w_laws_toThings fuel hx6 (HT.ro hr_x2_0).any (HT.ro hr_x2_1).any) rfl rfl ?_
  rintro e w ⟨a127, n127, c127, a128, n128, c128, rfl, hE⟩
  have hb := hE.below
  have HT := HT.pure hE
  obtain rfl := (HT.rdAt 0 rfl).neq
  obtain rfl := (HT.rdAt 1 rfl).neq
  have HT : St w0 (fun _ => False) w [Own 3 (rowT y6) (.slice a127 y6.length c127), Own 3 (rowT y7) (.slice a128 y7.length c128), Own 3 (rowT y5) (.slice a126 y5.length c126), Box p33 [.int .i64 0, .slice none 0 0, .slice none 0 0, .slice none 0 0, .int .i64 0], Own 85 (rowT y3) (.slice a68 y3.length c68), Own 127 (rowT y4) (.slice a69 y4.length c69), Box p2 [.slice a_x2_0 x2_0.length c_x2_0, .slice a_x2_1 x2_1.length c_x2_1, .int .i64 x2_2], Box p1 [.slice a_x0_0 x0_0.length c_x0_0, .slice a_x0_1 x0_1.length c_x0_1]] := HT
  refine ⟨_, rfl, nS, fun a HF => ?_⟩
  refine wc_call HF cf28 rfl (w_spec_Serial fuel hx7 (HT.rdAt 4 rfl) (HT.rdAt 5 rfl) (HT.rdAt 2 rfl) (HT.rdAt 0 rfl) (HT.rdAt 1 rfl)) rfl rfl ?_
  rintro e w ⟨a129, n129, c129, a130, n130, c130, a131, n131, c131, rfl, hE⟩
  have hb := hE.below
  have HT := HT.pure hE
  obtain rfl := (HT.rdAt 0 rfl).neq
  obtain rfl := (HT.rdAt 1 rfl).neq
  obtain rfl := (HT.rdAt 2 rfl).neq
  have HT : St w0 (fun _ => False) w [Own 3 (rowT y10) (.slice a129 y10.length c129), Own 3 (rowT y11) (.slice a130 y11.length c130), Own 3 (rowT y12) (.slice a131 y12.length c131), Own 3 (rowT y6) (.slice a127 y6.length c127), Own 3 (rowT y7) (.slice a128 y7.length c128), Own 3 (rowT y5) (.slice a126 y5.length c126), Box p33 [.int .i64 0, .slice none 0 0, .slice none 0 0, .slice none 0 0, .int .i64 0], Own 85 (rowT y3) (.slice a68 y3.length c68), Own 127 (rowT y4) (.slice a69 y4.length c69), Box p2 [.slice a_x2_0 x2_0.length c_x2_0, .slice a_x2_1 x2_1.length c_x2_1, .int .i64 x2_2], Box p1 [.slice a_x0_0 x0_0.length c_x0_0, .slice a_x0_1 x0_1.length c_x0_1]] := HT
  refine ⟨_, rfl, nS, fun a HF => ?_⟩
  have HT := HT.p6
  refine wc_storeB (cs' := [.int .i64 y9, .slice a129 y10.length c129, .slice a130 y11.length c130, .slice a131 y12.length c131, .int .i64 y13]) HF HT rfl rfl (fun w => (ag49 w).2) rfl rfl rfl rfl rfl (fun w HT => ⟨nS, ?_⟩)
  refine wc_endT ?_
  refine wt_stop ?_
  have HT := HT.p3.p3.p3.p9.p10.t6
  have hj16 := Option.some.inj h
  obtain ⟨hi16, hj17⟩ := Prod.mk.inj hj16
  subst hi16
  obtain ⟨hi17, hj18⟩ := Prod.mk.inj hj17
  subst hi17
  obtain ⟨hi18, hj19⟩ := Prod.mk.inj hj18
  subst hi18
  obtain ⟨hi19, hj20⟩ := Prod.mk.inj hj19
  subst hi19
  subst hj20
  exact then_n ⟨a129, y10.length, c129, a130, y11.length, c130, a131, y12.length, c131, p33, (HF.keep (HF.keep (HF.keep (HF.keep HF.nil rfl) rfl) rfl) rfl), HT⟩
  exact wt_none
  refine wt_alt ?_ ?_
  refine wc_alloc (cs := [.int .i64 0, .slice none 0 0, .slice none 0 0, .slice none 0 0, .int .i64 0]) HF HT zr49 rfl rfl rfl (fun p34 w HT hb => ⟨(fun _ => ⟨(HT.boxAt 2 rfl).part 0 2, (HT.boxAt 1 rfl).part 0 3, trivial⟩), fun a HF => ?_⟩)
  refine wc_endT ?_
  refine wt_seg ?_
  refine wc_call HF cf29 rfl (w_laws_toProg fuel hx4 (HT.ro hr_x0_0).any (HT.ro hr_x0_1).any) rfl rfl ?_
  rintro e w ⟨a132, n132, c132, a133, n133, c133, rfl, hE⟩
  have hb := hE.below
  have HT := HT.pure hE
  obtain rfl := (HT.rdAt 0 rfl).neq
  obtain rfl := (HT.rdAt 1 rfl).neq
  have HT : St w0 (fun _ => False) w [Own 85 (rowT y3) (.slice a132 y3.length c132), Own 127 (rowT y4) (.slice a133 y4.length c133), Box p34 [.int .i64 0, .slice none 0 0, .slice none 0 0, .slice none 0 0, .int .i64 0], Box p2 [.slice a_x2_0 x2_0.length c_x2_0, .slice a_x2_1 x2_1.length c_x2_1, .int .i64 x2_2], Box p1 [.slice a_x0_0 x0_0.length c_x0_0, .slice a_x0_1 x0_1.length c_x0_1]] := HT
  refine ⟨_, rfl, (fun _ => ⟨(HT.boxAt 4 rfl).part 0 2, (HT.boxAt 3 rfl).part 0 3, trivial⟩), fun a HF => ?_⟩
  refine wc_call HF cf20 rfl (w_laws_toIntS fuel hx5 (HT.ro hr_x1).any) rfl rfl ?_
  rintro e w ⟨a134, n134, c134, rfl, hE⟩
  have hb := hE.below
  have HT := HT.pure hE
  obtain rfl := (HT.rdAt 0 rfl).neq
  have HT : St w0 (fun _ => False) w [Own 3 (rowT y5) (.slice a134 y5.length c134), Own 85 (rowT y3) (.slice a132 y3.length c132), Own 127 (rowT y4) (.slice a133 y4.length c133), Box p34 [.int .i64 0, .slice none 0 0, .slice none 0 0, .slice none 0 0, .int .i64 0], Box p2 [.slice a_x2_0 x2_0.length c_x2_0, .slice a_x2_1 x2_1.length c_x2_1, .int .i64 x2_2], Box p1 [.slice a_x0_0 x0_0.length c_x0_0, .slice a_x0_1 x0_1.length c_x0_1]] := HT
  refine ⟨_, rfl, (fun _ => ⟨(HT.boxAt 5 rfl).part 0 2, (HT.boxAt 4 rfl).part 0 3, trivial⟩), fun a HF => ?_⟩
  refine wc_call HF cf12 rfl (w_laws_toThings fuel hx6 (HT.ro hr_x2_0).any (HT.ro hr_x2_1).any) rfl rfl ?_
  rintro e w ⟨a135, n135, c135, a136, n136, c136, rfl, hE⟩
  have hb := hE.below
  have HT := HT.pure hE
  obtain rfl := (HT.rdAt 0 rfl).neq
  obtain rfl := (HT.rdAt 1 rfl).neq
  have HT : St w0 (fun _ => False) w [Own 3 (rowT y6) (.slice a135 y6.length c135), Own 3 (rowT y7) (.slice a136 y7.length c136), Own 3 (rowT y5) (.slice a134 y5.length c134), Own 85 (rowT y3) (.slice a132 y3.length c132), Own 127 (rowT y4) (.slice a133 y4.length c133), Box p34 [.int .i64 0, .slice none 0 0, .slice none 0 0, .slice none 0 0, .int .i64 0], Box p2 [.slice a_x2_0 x2_0.length c_x2_0, .slice a_x2_1 x2_1.length c_x2_1, .int .i64 x2_2], Box p1 [.slice a_x0_0 x0_0.length c_x0_0, .slice a_x0_1 x0_1.length c_x0_1]] := HT
  refine ⟨_, rfl, nS, fun a HF => ?_⟩
  refine wc_call HF cf28 rfl (w_spec_Serial fuel hx7 (HT.rdAt 3 rfl) (HT.rdAt 4 rfl) (HT.rdAt 2 rfl) (HT.rdAt 0 rfl) (HT.rdAt 1 rfl)) rfl rfl ?_
  rintro e w ⟨a137, n137, c137, a138, n138, c138, a139, n139, c139, rfl, hE⟩
  have hb := hE.below
  have HT := HT.pure hE
  obtain rfl := (HT.rdAt 0 rfl).neq
  obtain rfl := (HT.rdAt 1 rfl).neq
  obtain rfl := (HT.rdAt 2 rfl).neq
  have HT : St w0 (fun _ => False) w [Own 3 (rowT y10) (.slice a137 y10.length c137), Own 3 (rowT y11) (.slice a138 y11.length c138), Own 3 (rowT y12) (.slice a139 y12.length c139), Own 3 (rowT y6) (.slice a135 y6.length c135), Own 3 (rowT y7) (.slice a136 y7.length c136), Own 3 (rowT y5) (.slice a134 y5.length c134), Own 85 (rowT y3) (.slice a132 y3.length c132), Own 127 (rowT y4) (.slice a133 y4.length c133), Box p34 [.int .i64 0, .slice none 0 0, .slice none 0 0, .slice none 0 0, .int .i64 0], Box p2 [.slice a_x2_0 x2_0.length c_x2_0, .slice a_x2_1 x2_1.length c_x2_1, .int .i64 x2_2], Box p1 [.slice a_x0_0 x0_0.length c_x0_0, .slice a_x0_1 x0_1.length c_x0_1]] := HT
  refine ⟨_, rfl, nS, fun a HF => ?_⟩
  have HT := HT.p8
  refine wc_storeB (cs' := [.int .i64 y9, .slice a137 y10.length c137, .slice a138 y11.length c138, .slice a139 y12.length c139, .int .i64 y13]) HF HT rfl rfl (fun w => (ag49 w).2) rfl rfl rfl rfl rfl (fun w HT => ⟨nS, ?_⟩)
  refine wc_endT ?_
  refine wt_stop ?_
  have HT := HT.p3.p3.p3.p9.p10.t6
  have hj21 := Option.some.inj h
  obtain ⟨hi21, hj22⟩ := Prod.mk.inj hj21
  subst hi21
  obtain ⟨hi22, hj23⟩ := Prod.mk.inj hj22
  subst hi22
  obtain ⟨hi23, hj24⟩ := Prod.mk.inj hj23
  subst hi23
  obtain ⟨hi24, hj25⟩ := Prod.mk.inj hj24
  subst hi24
  subst hj25
  exact then_n ⟨a137, y10.length, c137, a138, y11.length, c138, a139, y12.length, c139, p34, (HF.keep (HF.keep (HF.keep (HF.keep HF.nil rfl) rfl) rfl) rfl), HT⟩
  exact wt_none
  rintro a w ⟨a1, n1, c1, a2, n2, c2, a3, n3, c3, p3, HF, HT⟩
  obtain rfl := (HT.rdAt 2 rfl).neq
  obtain rfl := (HT.rdAt 3 rfl).neq
  obtain rfl := (HT.rdAt 4 rfl).neq
  refine ?_
  refine wp_seq ?_
  refine wc_text ?_
  refine wc_loadA (vs := [.slice a_x0_0 x0_0.length c_x0_0, .slice a_x0_1 x0_1.length c_x0_1]) HF rfl ag46 rfl ((HT.boxAt 0 rfl).part 0 2) rfl rfl (fun a HF => ?_)
  obtain ⟨y14, y15, hx8, h⟩ := obs2 h
  refine wc_call HF cf29 rfl (w_laws_toProg fuel hx8 (HT.ro hr_x0_0).any (HT.ro hr_x0_1).any) rfl rfl ?_
  rintro e w ⟨a140, n140, c140, a141, n141, c141, rfl, hE⟩
  have hb := hE.below
  have HT := HT.pure hE
  obtain rfl := (HT.rdAt 0 rfl).neq
  obtain rfl := (HT.rdAt 1 rfl).neq
  have HT : St w0 (fun _ => False) w [Own 85 (rowT y14) (.slice a140 y14.length c140), Own 127 (rowT y15) (.slice a141 y15.length c141), Box p1 [.slice a_x0_0 x0_0.length c_x0_0, .slice a_x0_1 x0_1.length c_x0_1], Box p2 [.slice a_x2_0 x2_0.length c_x2_0, .slice a_x2_1 x2_1.length c_x2_1, .int .i64 x2_2], Own 3 (rowT z2) (.slice a1 z2.length c1), Own 3 (rowT z3) (.slice a2 z3.length c2), Own 3 (rowT z4) (.slice a3 z4.length c3), Box p3 [.int .i64 z1, .slice a1 z2.length c1, .slice a2 z3.length c2, .slice a3 z4.length c3, .int .i64 z5]] := HT
  refine ⟨_, rfl, nS, fun a HF => ?_⟩
  refine wc_alloc (cs := [.slice none 0 0, .slice none 0 0]) HF HT zr53 rfl rfl rfl (fun p35 w HT hb => ⟨nS, fun a HF => ?_⟩)
  refine wc_storeB (cs' := [.slice a140 y14.length c140, .slice a141 y15.length c141]) HF HT rfl rfl (fun w => (ag53 w).2) rfl rfl rfl rfl rfl (fun w HT => ⟨nS, ?_⟩)
  refine wc_end ?_
  refine then_n ?_
  refine wp_seq ?_
  refine wc_text ?_
  refine wc_move HF nS rfl rfl rfl (fun a HF => ?_)
  obtain ⟨y16, hx9, h⟩ := obs h
  refine wc_call HF cf20 rfl (w_laws_toIntS fuel hx9 (HT.ro hr_x1).any) rfl rfl ?_
  rintro e w ⟨a142, n142, c142, rfl, hE⟩
  have hb := hE.below
  have HT := HT.pure hE
  obtain rfl := (HT.rdAt 0 rfl).neq
  have HT : St w0 (fun _ => False) w [Own 3 (rowT y16) (.slice a142 y16.length c142), Box p35 [.slice a140 y14.length c140, .slice a141 y15.length c141], Own 85 (rowT y14) (.slice a140 y14.length c140), Own 127 (rowT y15) (.slice a141 y15.length c141), Box p1 [.slice a_x0_0 x0_0.length c_x0_0, .slice a_x0_1 x0_1.length c_x0_1], Box p2 [.slice a_x2_0 x2_0.length c_x2_0, .slice a_x2_1 x2_1.length c_x2_1, .int .i64 x2_2], Own 3 (rowT z2) (.slice a1 z2.length c1), Own 3 (rowT z3) (.slice a2 z3.length c2), Own 3 (rowT z4) (.slice a3 z4.length c3), Box p3 [.int .i64 z1, .slice a1 z2.length c1, .slice a2 z3.length c2, .slice a3 z4.length c3, .int .i64 z5]] := HT
  refine ⟨_, rfl, nS, fun a HF => ?_⟩
  refine wc_assign HF nS rfl rfl rfl (fun a HF => ?_)
  refine wc_end ?_
  refine then_n ?_
  refine wp_seq ?_
  refine wc_text ?_
  refine wc_loadA (vs := [.slice a_x2_0 x2_0.length c_x2_0, .slice a_x2_1 x2_1.length c_x2_1, .int .i64 x2_2]) HF rfl ag24 rfl ((HT.boxAt 5 rfl).part 0 3) rfl rfl (fun a HF => ?_)
  obtain ⟨y17, y18, y19, hx10, h⟩ := obs3 h
  refine wc_call HF cf12 rfl (w_laws_toThings fuel hx10 (HT.ro hr_x2_0).any (HT.ro hr_x2_1).any) rfl rfl ?_
  rintro e w ⟨a143, n143, c143, a144, n144, c144, rfl, hE⟩
  have hb := hE.below
  have HT := HT.pure hE
  obtain rfl := (HT.rdAt 0 rfl).neq
  obtain rfl := (HT.rdAt 1 rfl).neq
  have HT : St w0 (fun _ => False) w [Own 3 (rowT y17) (.slice a143 y17.length c143), Own 3 (rowT y18) (.slice a144 y18.length c144), Own 3 (rowT y16) (.slice a142 y16.length c142), Box p35 [.slice a140 y14.length c140, .slice a141 y15.length c141], Own 85 (rowT y14) (.slice a140 y14.length c140), Own 127 (rowT y15) (.slice a141 y15.length c141), Box p1 [.slice a_x0_0 x0_0.length c_x0_0, .slice a_x0_1 x0_1.length c_x0_1], Box p2 [.slice a_x2_0 x2_0.length c_x2_0, .slice a_x2_1 x2_1.length c_x2_1, .int .i64 x2_2], Own 3 (rowT z2) (.slice a1 z2.length c1), Own 3 (rowT z3) (.slice a2 z3.length c2), Own 3 (rowT z4) (.slice a3 z4.length c3), Box p3 [.int .i64 z1, .slice a1 z2.length c1, .slice a2 z3.length c2, .slice a3 z4.length c3, .int .i64 z5]] := HT
  refine ⟨_, rfl, nS, fun a HF => ?_⟩
  refine wc_alloc (cs := [.slice none 0 0, .slice none 0 0, .int .i64 0]) HF HT zr27 rfl rfl rfl (fun p36 w HT hb => ⟨nS, fun a HF => ?_⟩)
  refine wc_storeB (cs' := [.slice a143 y17.length c143, .slice a144 y18.length c144, .int .i64 y19]) HF HT rfl rfl (fun w => (ag27 w).2) rfl rfl rfl rfl rfl (fun w HT => ⟨nS, ?_⟩)
  refine wc_end ?_
  refine then_n ?_
  refine wp_seq ?_
  refine wc_text ?_
  refine wc_loadA (vs := [.slice a140 y14.length c140, .slice a141 y15.length c141]) HF rfl ag53 rfl ((HT.boxAt 4 rfl).part 0 2) rfl rfl (fun a HF => ?_)
  refine wc_move HF nS rfl rfl rfl (fun a HF => ?_)
  refine wc_loadA (vs := [.slice a143 y17.length c143, .slice a144 y18.length c144, .int .i64 y19]) HF rfl ag27 rfl ((HT.boxAt 0 rfl).part 0 3) rfl rfl (fun a HF => ?_)
  obtain ⟨y20, y21, y22, y23, y24, hx11, h⟩ := obs5 h
  refine wc_call HF cf30 rfl (w_impl_Serial fuel hx11 (HT.rdAt 5 rfl) (HT.rdAt 6 rfl) (HT.rdAt 3 rfl) (HT.rdAt 1 rfl) (HT.rdAt 2 rfl)) rfl rfl ?_
  rintro e w ⟨a145, n145, c145, a146, n146, c146, a147, n147, c147, rfl, hE⟩
  have hb := hE.below
  have HT := HT.pure hE
  obtain rfl := (HT.rdAAt 0 rfl).neq
  obtain rfl := (HT.rdAAt 1 rfl).neq
  obtain rfl := (HT.rdAAt 2 rfl).neq
  have HT : St w0 (fun _ => False) w [OwnA (rowT y21) (.slice a145 y21.length c145), OwnA (rowT y22) (.slice a146 y22.length c146), OwnA (rowT y23) (.slice a147 y23.length c147), Box p36 [.slice a143 y17.length c143, .slice a144 y18.length c144, .int .i64 y19], Own 3 (rowT y17) (.slice a143 y17.length c143), Own 3 (rowT y18) (.slice a144 y18.length c144), Own 3 (rowT y16) (.slice a142 y16.length c142), Box p35 [.slice a140 y14.length c140, .slice a141 y15.length c141], Own 85 (rowT y14) (.slice a140 y14.length c140), Own 127 (rowT y15) (.slice a141 y15.length c141), Box p1 [.slice a_x0_0 x0_0.length c_x0_0, .slice a_x0_1 x0_1.length c_x0_1], Box p2 [.slice a_x2_0 x2_0.length c_x2_0, .slice a_x2_1 x2_1.length c_x2_1, .int .i64 x2_2], Own 3 (rowT z2) (.slice a1 z2.length c1), Own 3 (rowT z3) (.slice a2 z3.length c2), Own 3 (rowT z4) (.slice a3 z4.length c3), Box p3 [.int .i64 z1, .slice a1 z2.length c1, .slice a2 z3.length c2, .slice a3 z4.length c3, .int .i64 z5]] := HT
  refine ⟨_, rfl, nS, fun a HF => ?_⟩
  refine wc_alloc (cs := [.int .i64 0, .slice none 0 0, .slice none 0 0, .slice none 0 0, .int .i64 0]) HF HT zr49 rfl rfl rfl (fun p37 w HT hb => ⟨nS, fun a HF => ?_⟩)
  refine wc_storeB (cs' := [.int .i64 y20, .slice a145 y21.length c145, .slice a146 y22.length c146, .slice a147 y23.length c147, .int .i64 y24]) HF HT rfl rfl (fun w => (ag49 w).2) rfl rfl rfl rfl rfl (fun w HT => ⟨nS, ?_⟩)
  refine wc_end ?_
  refine then_n ?_
  refine wp_seq ?_
  refine wp_seq ?_
  refine wc_text ?_
  refine wc_loadA (vs := [.int .i64 y20, .slice a145 y21.length c145, .slice a146 y22.length c146, .slice a147 y23.length c147, .int .i64 y24]) HF rfl ag49 rfl ((HT.boxAt 0 rfl).part 0 5) rfl rfl (fun a HF => ?_)
  refine wc_loadA (vs := [.int .i64 z1, .slice a1 z2.length c1, .slice a2 z3.length c2, .slice a3 z4.length c3, .int .i64 z5]) HF rfl ag49 rfl ((HT.boxAt 16 rfl).part 0 5) rfl rfl (fun a HF => ?_)
  obtain ⟨y25, hx12, h⟩ := obs h
  refine wc_call HF cf31 rfl (w_laws_eqRun fuel hx12 (HT.rdAAt 1 rfl) (HT.rdAAt 2 rfl) (HT.rdAAt 3 rfl) (HT.rdAt 13 rfl) (HT.rdAt 14 rfl) (HT.rdAt 15 rfl)) rfl rfl ?_
  rintro e w ⟨rfl, hE⟩
  have hb := hE.below
  have HT := HT.pure hE
  have HT : St w0 (fun _ => False) w [Box p37 [.int .i64 y20, .slice a145 y21.length c145, .slice a146 y22.length c146, .slice a147 y23.length c147, .int .i64 y24], OwnA (rowT y21) (.slice a145 y21.length c145), OwnA (rowT y22) (.slice a146 y22.length c146), OwnA (rowT y23) (.slice a147 y23.length c147), Box p36 [.slice a143 y17.length c143, .slice a144 y18.length c144, .int .i64 y19], Own 3 (rowT y17) (.slice a143 y17.length c143), Own 3 (rowT y18) (.slice a144 y18.length c144), Own 3 (rowT y16) (.slice a142 y16.length c142), Box p35 [.slice a140 y14.length c140, .slice a141 y15.length c141], Own 85 (rowT y14) (.slice a140 y14.length c140), Own 127 (rowT y15) (.slice a141 y15.length c141), Box p1 [.slice a_x0_0 x0_0.length c_x0_0, .slice a_x0_1 x0_1.length c_x0_1], Box p2 [.slice a_x2_0 x2_0.length c_x2_0, .slice a_x2_1 x2_1.length c_x2_1, .int .i64 x2_2], Own 3 (rowT z2) (.slice a1 z2.length c1), Own 3 (rowT z3) (.slice a2 z3.length c2), Own 3 (rowT z4) (.slice a3 z4.length c3), Box p3 [.int .i64 z1, .slice a1 z2.length c1, .slice a2 z3.length c2, .slice a3 z4.length c3, .int .i64 z5]] := HT
  refine ⟨_, rfl, nS, fun a HF => ?_⟩
  refine wc_not HF nS rfl rfl rfl (fun a HF => ?_)
  refine wc_end ?_
  refine then_n ?_
  by_cases hb4 : y25 = true
  have h := (if_pos hb4).symm.trans h
  refine wp_if (b' := false) HF rfl (notT hb4) ?_
  refine wp_skip ?_
  refine then_n ?_
  refine wp_seq ?_
  refine wp_seq ?_
  refine wp_region_can [(0, false), (1, true), (2, false), (3, true), (4, true)] (fun w' => LdC w' p35 0 [.slice a140 y14.length c140, .slice a141 y15.length c141] ∧ True) (by kernel_rfl) (by kernel_rfl) ?_
  have HT := HT.drew
  refine wc_loadAS (vs := [.slice a140 y14.length c140, .slice a141 y15.length c141]) HF ⟨(HT.boxAt 8 rfl).part 0 2, trivial⟩ rfl ag53 rfl (fun w hS => hS.1) rfl rfl (fun a HF => ?_)
  refine wc_loadA (vs := [.slice a_x0_0 x0_0.length c_x0_0, .slice a_x0_1 x0_1.length c_x0_1]) HF rfl ag46 rfl ((HT.boxAt 11 rfl).part 0 2) rfl rfl (fun a HF => ?_)
  obtain ⟨y26, y27, hx13, h⟩ := obs2 h
  refine wc_call HF cf29 rfl (w_laws_toProg fuel hx13 (HT.ro hr_x0_0).any (HT.ro hr_x0_1).any) rfl rfl ?_
  rintro e w ⟨a148, n148, c148, a149, n149, c149, rfl, hE⟩
  have hb := hE.below
  have HT := HT.pure hE
  obtain rfl := (HT.rdAt 0 rfl).neq
  obtain rfl := (HT.rdAt 1 rfl).neq
  have HT : St w0 (fun _ => False) w [Own 85 (rowT y26) (.slice a148 y26.length c148), Own 127 (rowT y27) (.slice a149 y27.length c149), Box p37 [.int .i64 y20, .slice a145 y21.length c145, .slice a146 y22.length c146, .slice a147 y23.length c147, .int .i64 y24], OwnA (rowT y21) (.slice a145 y21.length c145), OwnA (rowT y22) (.slice a146 y22.length c146), OwnA (rowT y23) (.slice a147 y23.length c147), Box p36 [.slice a143 y17.length c143, .slice a144 y18.length c144, .int .i64 y19], Own 3 (rowT y17) (.slice a143 y17.length c143), Own 3 (rowT y18) (.slice a144 y18.length c144), Own 3 (rowT y16) (.slice a142 y16.length c142), Box p35 [.slice a140 y14.length c140, .slice a141 y15.length c141], Own 85 (rowT y14) (.slice a140 y14.length c140), Own 127 (rowT y15) (.slice a141 y15.length c141), Box p1 [.slice a_x0_0 x0_0.length c_x0_0, .slice a_x0_1 x0_1.length c_x0_1], Box p2 [.slice a_x2_0 x2_0.length c_x2_0, .slice a_x2_1 x2_1.length c_x2_1, .int .i64 x2_2], Own 3 (rowT z2) (.slice a1 z2.length c1), Own 3 (rowT z3) (.slice a2 z3.length c2), Own 3 (rowT z4) (.slice a3 z4.length c3), Box p3 [.int .i64 z1, .slice a1 z2.length c1, .slice a2 z3.length c2, .slice a3 z4.length c3, .int .i64 z5]] := HT
  refine ⟨_, rfl, (fun _ => ⟨(HT.boxAt 10 rfl).part 0 2, trivial⟩), fun a HF => ?_⟩
  obtain ⟨y28, hx14, h⟩ := obs h
  refine wc_call HF cf32 rfl (w_laws_eqProg fuel hx14 (HT.rdAt 11 rfl) (HT.rdAt 12 rfl) (HT.rdAt 0 rfl) (HT.rdAt 1 rfl)) rfl rfl ?_
  rintro e w ⟨rfl, hE⟩
  have hb := hE.below
  have HT := HT.pure hE
  have HT : St w0 (fun _ => False) w [Own 85 (rowT y26) (.slice a148 y26.length c148), Own 127 (rowT y27) (.slice a149 y27.length c149), Box p37 [.int .i64 y20, .slice a145 y21.length c145, .slice a146 y22.length c146, .slice a147 y23.length c147, .int .i64 y24], OwnA (rowT y21) (.slice a145 y21.length c145), OwnA (rowT y22) (.slice a146 y22.length c146), OwnA (rowT y23) (.slice a147 y23.length c147), Box p36 [.slice a143 y17.length c143, .slice a144 y18.length c144, .int .i64 y19], Own 3 (rowT y17) (.slice a143 y17.length c143), Own 3 (rowT y18) (.slice a144 y18.length c144), Own 3 (rowT y16) (.slice a142 y16.length c142), Box p35 [.slice a140 y14.length c140, .slice a141 y15.length c141], Own 85 (rowT y14) (.slice a140 y14.length c140), Own 127 (rowT y15) (.slice a141 y15.length c141), Box p1 [.slice a_x0_0 x0_0.length c_x0_0, .slice a_x0_1 x0_1.length c_x0_1], Box p2 [.slice a_x2_0 x2_0.length c_x2_0, .slice a_x2_1 x2_1.length c_x2_1, .int .i64 x2_2], Own 3 (rowT z2) (.slice a1 z2.length c1), Own 3 (rowT z3) (.slice a2 z3.length c2), Own 3 (rowT z4) (.slice a3 z4.length c3), Box p3 [.int .i64 z1, .slice a1 z2.length c1, .slice a2 z3.length c2, .slice a3 z4.length c3, .int .i64 z5]] := HT
  refine ⟨_, rfl, nS, fun a HF => ?_⟩
  refine wc_not HF nS rfl rfl rfl (fun a HF => ?_)
  refine wc_endN ?_
  refine then_n ?_
  by_cases hb5 : y28 = true
  have h := (if_pos hb5).symm.trans h
  refine wp_if (b' := false) HF rfl (notT hb5) ?_
  refine wp_skip ?_
  refine then_n ?_
  refine wp_seq ?_
  refine wp_seq ?_
  refine wc_text ?_
  refine wc_move HF nS rfl rfl rfl (fun a HF => ?_)
  refine wc_move HF nS rfl rfl rfl (fun a HF => ?_)
  obtain ⟨y29, hx15, h⟩ := obs h
  refine wc_call HF cf20 rfl (w_laws_toIntS fuel hx15 (HT.ro hr_x1).any) rfl rfl ?_
  rintro e w ⟨a150, n150, c150, rfl, hE⟩
  have hb := hE.below
  have HT := HT.pure hE
  obtain rfl := (HT.rdAt 0 rfl).neq
  have HT : St w0 (fun _ => False) w [Own 3 (rowT y29) (.slice a150 y29.length c150), Own 85 (rowT y26) (.slice a148 y26.length c148), Own 127 (rowT y27) (.slice a149 y27.length c149), Box p37 [.int .i64 y20, .slice a145 y21.length c145, .slice a146 y22.length c146, .slice a147 y23.length c147, .int .i64 y24], OwnA (rowT y21) (.slice a145 y21.length c145), OwnA (rowT y22) (.slice a146 y22.length c146), OwnA (rowT y23) (.slice a147 y23.length c147), Box p36 [.slice a143 y17.length c143, .slice a144 y18.length c144, .int .i64 y19], Own 3 (rowT y17) (.slice a143 y17.length c143), Own 3 (rowT y18) (.slice a144 y18.length c144), Own 3 (rowT y16) (.slice a142 y16.length c142), Box p35 [.slice a140 y14.length c140, .slice a141 y15.length c141], Own 85 (rowT y14) (.slice a140 y14.length c140), Own 127 (rowT y15) (.slice a141 y15.length c141), Box p1 [.slice a_x0_0 x0_0.length c_x0_0, .slice a_x0_1 x0_1.length c_x0_1], Box p2 [.slice a_x2_0 x2_0.length c_x2_0, .slice a_x2_1 x2_1.length c_x2_1, .int .i64 x2_2], Own 3 (rowT z2) (.slice a1 z2.length c1), Own 3 (rowT z3) (.slice a2 z3.length c2), Own 3 (rowT z4) (.slice a3 z4.length c3), Box p3 [.int .i64 z1, .slice a1 z2.length c1, .slice a2 z3.length c2, .slice a3 z4.length c3, .int .i64 z5]] := HT
  refine ⟨_, rfl, nS, fun a HF => ?_⟩
  obtain ⟨y30, hx16, h⟩ := obs h
  refine wc_call HF cf22 rfl (w_laws_eqIntS fuel hx16 (HT.rdAt 10 rfl) (HT.rdAt 0 rfl)) rfl rfl ?_
  rintro e w ⟨rfl, hE⟩
  have hb := hE.below
  have HT := HT.pure hE
  have HT : St w0 (fun _ => False) w [Own 3 (rowT y29) (.slice a150 y29.length c150), Own 85 (rowT y26) (.slice a148 y26.length c148), Own 127 (rowT y27) (.slice a149 y27.length c149), Box p37 [.int .i64 y20, .slice a145 y21.length c145, .slice a146 y22.length c146, .slice a147 y23.length c147, .int .i64 y24], OwnA (rowT y21) (.slice a145 y21.length c145), OwnA (rowT y22) (.slice a146 y22.length c146), OwnA (rowT y23) (.slice a147 y23.length c147), Box p36 [.slice a143 y17.length c143, .slice a144 y18.length c144, .int .i64 y19], Own 3 (rowT y17) (.slice a143 y17.length c143), Own 3 (rowT y18) (.slice a144 y18.length c144), Own 3 (rowT y16) (.slice a142 y16.length c142), Box p35 [.slice a140 y14.length c140, .slice a141 y15.length c141], Own 85 (rowT y14) (.slice a140 y14.length c140), Own 127 (rowT y15) (.slice a141 y15.length c141), Box p1 [.slice a_x0_0 x0_0.length c_x0_0, .slice a_x0_1 x0_1.length c_x0_1], Box p2 [.slice a_x2_0 x2_0.length c_x2_0, .slice a_x2_1 x2_1.length c_x2_1, .int .i64 x2_2], Own 3 (rowT z2) (.slice a1 z2.length c1), Own 3 (rowT z3) (.slice a2 z3.length c2), Own 3 (rowT z4) (.slice a3 z4.length c3), Box p3 [.int .i64 z1, .slice a1 z2.length c1, .slice a2 z3.length c2, .slice a3 z4.length c3, .int .i64 z5]] := HT
  refine ⟨_, rfl, nS, fun a HF => ?_⟩
  refine wc_not HF nS rfl rfl rfl (fun a HF => ?_)
  refine wc_end ?_
  refine then_n ?_
  by_cases hb6 : y30 = true
  have h := (if_pos hb6).symm.trans h
  refine wp_if (b' := false) HF rfl (notT hb6) ?_
  refine wp_skip ?_
  refine then_n ?_
  refine wp_seq ?_
  refine wp_seq ?_
  refine wp_region_can [(0, false), (1, true), (2, false), (3, true), (4, true)] (fun w' => LdC w' p36 0 [.slice a143 y17.length c143, .slice a144 y18.length c144, .int .i64 y19] ∧ True) (by kernel_rfl) (by kernel_rfl) ?_
  have HT := HT.drew
  refine wc_loadAS (vs := [.slice a143 y17.length c143, .slice a144 y18.length c144, .int .i64 y19]) HF ⟨(HT.boxAt 7 rfl).part 0 3, trivial⟩ rfl ag27 rfl (fun w hS => hS.1) rfl rfl (fun a HF => ?_)
  refine wc_loadA (vs := [.slice a_x2_0 x2_0.length c_x2_0, .slice a_x2_1 x2_1.length c_x2_1, .int .i64 x2_2]) HF rfl ag24 rfl ((HT.boxAt 15 rfl).part 0 3) rfl rfl (fun a HF => ?_)
  obtain ⟨y31, y32, y33, hx17, h⟩ := obs3 h
  refine wc_call HF cf12 rfl (w_laws_toThings fuel hx17 (HT.ro hr_x2_0).any (HT.ro hr_x2_1).any) rfl rfl ?_
  rintro e w ⟨a151, n151, c151, a152, n152, c152, rfl, hE⟩
  have hb := hE.below
  have HT := HT.pure hE
  obtain rfl := (HT.rdAt 0 rfl).neq
  obtain rfl := (HT.rdAt 1 rfl).neq
  have HT : St w0 (fun _ => False) w [Own 3 (rowT y31) (.slice a151 y31.length c151), Own 3 (rowT y32) (.slice a152 y32.length c152), Own 3 (rowT y29) (.slice a150 y29.length c150), Own 85 (rowT y26) (.slice a148 y26.length c148), Own 127 (rowT y27) (.slice a149 y27.length c149), Box p37 [.int .i64 y20, .slice a145 y21.length c145, .slice a146 y22.length c146, .slice a147 y23.length c147, .int .i64 y24], OwnA (rowT y21) (.slice a145 y21.length c145), OwnA (rowT y22) (.slice a146 y22.length c146), OwnA (rowT y23) (.slice a147 y23.length c147), Box p36 [.slice a143 y17.length c143, .slice a144 y18.length c144, .int .i64 y19], Own 3 (rowT y17) (.slice a143 y17.length c143), Own 3 (rowT y18) (.slice a144 y18.length c144), Own 3 (rowT y16) (.slice a142 y16.length c142), Box p35 [.slice a140 y14.length c140, .slice a141 y15.length c141], Own 85 (rowT y14) (.slice a140 y14.length c140), Own 127 (rowT y15) (.slice a141 y15.length c141), Box p1 [.slice a_x0_0 x0_0.length c_x0_0, .slice a_x0_1 x0_1.length c_x0_1], Box p2 [.slice a_x2_0 x2_0.length c_x2_0, .slice a_x2_1 x2_1.length c_x2_1, .int .i64 x2_2], Own 3 (rowT z2) (.slice a1 z2.length c1), Own 3 (rowT z3) (.slice a2 z3.length c2), Own 3 (rowT z4) (.slice a3 z4.length c3), Box p3 [.int .i64 z1, .slice a1 z2.length c1, .slice a2 z3.length c2, .slice a3 z4.length c3, .int .i64 z5]] := HT
  refine ⟨_, rfl, (fun _ => ⟨(HT.boxAt 9 rfl).part 0 3, trivial⟩), fun a HF => ?_⟩
  obtain ⟨y34, hx18, h⟩ := obs h
  refine wc_call HF cf14 rfl (w_laws_eqThings fuel hx18 (HT.rdAt 10 rfl) (HT.rdAt 11 rfl) (HT.rdAt 0 rfl) (HT.rdAt 1 rfl)) rfl rfl ?_
  rintro e w ⟨rfl, hE⟩
  have hb := hE.below
  have HT := HT.pure hE
  have HT : St w0 (fun _ => False) w [Own 3 (rowT y31) (.slice a151 y31.length c151), Own 3 (rowT y32) (.slice a152 y32.length c152), Own 3 (rowT y29) (.slice a150 y29.length c150), Own 85 (rowT y26) (.slice a148 y26.length c148), Own 127 (rowT y27) (.slice a149 y27.length c149), Box p37 [.int .i64 y20, .slice a145 y21.length c145, .slice a146 y22.length c146, .slice a147 y23.length c147, .int .i64 y24], OwnA (rowT y21) (.slice a145 y21.length c145), OwnA (rowT y22) (.slice a146 y22.length c146), OwnA (rowT y23) (.slice a147 y23.length c147), Box p36 [.slice a143 y17.length c143, .slice a144 y18.length c144, .int .i64 y19], Own 3 (rowT y17) (.slice a143 y17.length c143), Own 3 (rowT y18) (.slice a144 y18.length c144), Own 3 (rowT y16) (.slice a142 y16.length c142), Box p35 [.slice a140 y14.length c140, .slice a141 y15.length c141], Own 85 (rowT y14) (.slice a140 y14.length c140), Own 127 (rowT y15) (.slice a141 y15.length c141), Box p1 [.slice a_x0_0 x0_0.length c_x0_0, .slice a_x0_1 x0_1.length c_x0_1], Box p2 [.slice a_x2_0 x2_0.length c_x2_0, .slice a_x2_1 x2_1.length c_x2_1, .int .i64 x2_2], Own 3 (rowT z2) (.slice a1 z2.length c1), Own 3 (rowT z3) (.slice a2 z3.length c2), Own 3 (rowT z4) (.slice a3 z4.length c3), Box p3 [.int .i64 z1, .slice a1 z2.length c1, .slice a2 z3.length c2, .slice a3 z4.length c3, .int .i64 z5]] := HT
  refine ⟨_, rfl, nS, fun a HF => ?_⟩
  refine wc_not HF nS rfl rfl rfl (fun a HF => ?_)
  refine wc_endN ?_
  refine then_n ?_
  by_cases hb7 : y34 = true
  have h := (if_pos hb7).symm.trans h
  refine wp_if (b' := false) HF rfl (notT hb7) ?_
  refine wp_skip ?_
  refine then_n ?_
  refine wp_seq ?_
  refine wc_text ?_
  refine wc_assign HF nS rfl rfl rfl (fun a HF => ?_)
  refine wc_end ?_
  refine then_n ?_
  refine wp_seq ?_
  refine wc_text ?_
  refine wc_loadA (vs := [.slice a140 y14.length c140, .slice a141 y15.length c141]) HF rfl ag53 rfl ((HT.boxAt 13 rfl).part 0 2) rfl rfl (fun a HF => ?_)
  refine wc_move HF nS rfl rfl rfl (fun a HF => ?_)
  have HT := HT.p14
  have HT := HT.weak
  have HT := HT.p15
  have HT := HT.weak
  obtain ⟨y35, y36, y37, hx19, h⟩ := obs3 h
  have HT := HT.p1
  obtain ⟨F1, hAF1, hFF1, hbackF1, hroF1, hownF1, hownAF1⟩ := St.handR2 (A := [OwnA (rowT y14) (.slice a140 y14.length c140), OwnA (rowT y15) (.slice a141 y15.length c141)]) HT
  refine wc_call HF cf33 rfl (w_laws_markProg fuel hx19 hAF1) rfl rfl ?_
  rintro e w ⟨rfl, hE⟩
  have HT := hbackF1 _ _ hE
  have HT : St w0 (fun _ => False) w [OwnA (rowT y36) (.slice a140 y14.length c140), OwnA (rowT y37) (.slice a141 y15.length c141), Own 3 (rowT y31) (.slice a151 y31.length c151), Own 3 (rowT y32) (.slice a152 y32.length c152), Own 3 (rowT y29) (.slice a150 y29.length c150), Own 85 (rowT y26) (.slice a148 y26.length c148), Own 127 (rowT y27) (.slice a149 y27.length c149), Box p37 [.int .i64 y20, .slice a145 y21.length c145, .slice a146 y22.length c146, .slice a147 y23.length c147, .int .i64 y24], OwnA (rowT y21) (.slice a145 y21.length c145), OwnA (rowT y22) (.slice a146 y22.length c146), OwnA (rowT y23) (.slice a147 y23.length c147), Box p36 [.slice a143 y17.length c143, .slice a144 y18.length c144, .int .i64 y19], Own 3 (rowT y17) (.slice a143 y17.length c143), Own 3 (rowT y18) (.slice a144 y18.length c144), Own 3 (rowT y16) (.slice a142 y16.length c142), Box p35 [.slice a140 y14.length c140, .slice a141 y15.length c141], Box p1 [.slice a_x0_0 x0_0.length c_x0_0, .slice a_x0_1 x0_1.length c_x0_1], Box p2 [.slice a_x2_0 x2_0.length c_x2_0, .slice a_x2_1 x2_1.length c_x2_1, .int .i64 x2_2], Own 3 (rowT z2) (.slice a1 z2.length c1), Own 3 (rowT z3) (.slice a2 z3.length c2), Own 3 (rowT z4) (.slice a3 z4.length c3), Box p3 [.int .i64 z1, .slice a1 z2.length c1, .slice a2 z3.length c2, .slice a3 z4.length c3, .int .i64 z5]] := HT
  refine ⟨_, rfl, nS, fun a HF => ?_⟩
  refine wc_assign HF nS rfl rfl rfl (fun a HF => ?_)
  refine wc_end ?_
  refine then_n ?_
  refine wp_seq ?_
  refine wc_text ?_
  refine wc_move HF nS rfl rfl rfl (fun a HF => ?_)
  refine wc_move HF nS rfl rfl rfl (fun a HF => ?_)
  have HT := HT.p14
  have HT := HT.weak
  obtain ⟨y38, y39, hx20, h⟩ := obs2 h
  obtain ⟨F2, hAF2, hFF2, hbackF2, hroF2, hownF2, hownAF2⟩ := St.handR2 (A := [OwnA (rowT y16) (.slice a142 y16.length c142)]) HT
  refine wc_call HF cf25 rfl (w_laws_markIntS fuel hx20 hAF2) rfl rfl ?_
  rintro e w ⟨rfl, hE⟩
  have HT := hbackF2 _ _ hE
  have HT : St w0 (fun _ => False) w [OwnA (rowT y39) (.slice a142 y16.length c142), OwnA (rowT y36) (.slice a140 y14.length c140), OwnA (rowT y37) (.slice a141 y15.length c141), Own 3 (rowT y31) (.slice a151 y31.length c151), Own 3 (rowT y32) (.slice a152 y32.length c152), Own 3 (rowT y29) (.slice a150 y29.length c150), Own 85 (rowT y26) (.slice a148 y26.length c148), Own 127 (rowT y27) (.slice a149 y27.length c149), Box p37 [.int .i64 y20, .slice a145 y21.length c145, .slice a146 y22.length c146, .slice a147 y23.length c147, .int .i64 y24], OwnA (rowT y21) (.slice a145 y21.length c145), OwnA (rowT y22) (.slice a146 y22.length c146), OwnA (rowT y23) (.slice a147 y23.length c147), Box p36 [.slice a143 y17.length c143, .slice a144 y18.length c144, .int .i64 y19], Own 3 (rowT y17) (.slice a143 y17.length c143), Own 3 (rowT y18) (.slice a144 y18.length c144), Box p35 [.slice a140 y14.length c140, .slice a141 y15.length c141], Box p1 [.slice a_x0_0 x0_0.length c_x0_0, .slice a_x0_1 x0_1.length c_x0_1], Box p2 [.slice a_x2_0 x2_0.length c_x2_0, .slice a_x2_1 x2_1.length c_x2_1, .int .i64 x2_2], Own 3 (rowT z2) (.slice a1 z2.length c1), Own 3 (rowT z3) (.slice a2 z3.length c2), Own 3 (rowT z4) (.slice a3 z4.length c3), Box p3 [.int .i64 z1, .slice a1 z2.length c1, .slice a2 z3.length c2, .slice a3 z4.length c3, .int .i64 z5]] := HT
  refine ⟨_, rfl, nS, fun a HF => ?_⟩
  refine wc_assign HF nS rfl rfl rfl (fun a HF => ?_)
  refine wc_end ?_
  refine then_n ?_
  refine wp_seq ?_
  refine wc_text ?_
  refine wc_loadA (vs := [.slice a143 y17.length c143, .slice a144 y18.length c144, .int .i64 y19]) HF rfl ag27 rfl ((HT.boxAt 12 rfl).part 0 3) rfl rfl (fun a HF => ?_)
  refine wc_move HF nS rfl rfl rfl (fun a HF => ?_)
  have HT := HT.p13
  have HT := HT.weak
  have HT := HT.p14
  have HT := HT.weak
  obtain ⟨y40, y41, y42, hx21, h⟩ := obs3 h
  have HT := HT.p1
  obtain ⟨F3, hAF3, hFF3, hbackF3, hroF3, hownF3, hownAF3⟩ := St.handR2 (A := [OwnA (rowT y17) (.slice a143 y17.length c143), OwnA (rowT y18) (.slice a144 y18.length c144)]) HT
  refine wc_call HF cf34 rfl (w_laws_markThings fuel hx21 hAF3) rfl rfl ?_
  rintro e w ⟨rfl, hE⟩
  have HT := hbackF3 _ _ hE
  have HT : St w0 (fun _ => False) w [OwnA (rowT y41) (.slice a143 y17.length c143), OwnA (rowT y42) (.slice a144 y18.length c144), OwnA (rowT y39) (.slice a142 y16.length c142), OwnA (rowT y36) (.slice a140 y14.length c140), OwnA (rowT y37) (.slice a141 y15.length c141), Own 3 (rowT y31) (.slice a151 y31.length c151), Own 3 (rowT y32) (.slice a152 y32.length c152), Own 3 (rowT y29) (.slice a150 y29.length c150), Own 85 (rowT y26) (.slice a148 y26.length c148), Own 127 (rowT y27) (.slice a149 y27.length c149), Box p37 [.int .i64 y20, .slice a145 y21.length c145, .slice a146 y22.length c146, .slice a147 y23.length c147, .int .i64 y24], OwnA (rowT y21) (.slice a145 y21.length c145), OwnA (rowT y22) (.slice a146 y22.length c146), OwnA (rowT y23) (.slice a147 y23.length c147), Box p36 [.slice a143 y17.length c143, .slice a144 y18.length c144, .int .i64 y19], Box p35 [.slice a140 y14.length c140, .slice a141 y15.length c141], Box p1 [.slice a_x0_0 x0_0.length c_x0_0, .slice a_x0_1 x0_1.length c_x0_1], Box p2 [.slice a_x2_0 x2_0.length c_x2_0, .slice a_x2_1 x2_1.length c_x2_1, .int .i64 x2_2], Own 3 (rowT z2) (.slice a1 z2.length c1), Own 3 (rowT z3) (.slice a2 z3.length c2), Own 3 (rowT z4) (.slice a3 z4.length c3), Box p3 [.int .i64 z1, .slice a1 z2.length c1, .slice a2 z3.length c2, .slice a3 z4.length c3, .int .i64 z5]] := HT
  refine ⟨_, rfl, nS, fun a HF => ?_⟩
  refine wc_assign HF nS rfl rfl rfl (fun a HF => ?_)
  refine wc_end ?_
  refine then_n ?_
  obtain ⟨q2, hx22, h⟩ := obs h
  refine wp_cut (fun a w => q2 = .brk () ∧ Fr a 113 [(1, .slice a_x1 x1.length c_x1), (3, .pointer (some ⟨p1, 0, none⟩)), (5, .pointer (some ⟨p2, 0, none⟩)), (8, .pointer (some ⟨p3, 0, none⟩)), (12, .pointer (some ⟨p37, 0, none⟩))] ∧ St w0 (fun _ => False) w [Box p1 [.slice a_x0_0 x0_0.length c_x0_0, .slice a_x0_1 x0_1.length c_x0_1], Box p2 [.slice a_x2_0 x2_0.length c_x2_0, .slice a_x2_1 x2_1.length c_x2_1, .int .i64 x2_2], Own 3 (rowT z2) (.slice a1 z2.length c1), Own 3 (rowT z3) (.slice a2 z3.length c2), Own 3 (rowT z4) (.slice a3 z4.length c3), Box p3 [.int .i64 z1, .slice a1 z2.length c1, .slice a2 z3.length c2, .slice a3 z4.length c3, .int .i64 z5], OwnA (rowT y21) (.slice a145 y21.length c145), OwnA (rowT y22) (.slice a146 y22.length c146), OwnA (rowT y23) (.slice a147 y23.length c147), Box p37 [.int .i64 y20, .slice a145 y21.length c145, .slice a146 y22.length c146, .slice a147 y23.length c147, .int .i64 y24]]) ?_ ?_
  have hk1 := h
  have h := hx22
  obtain ⟨z6, hx23, h⟩ := obs h
  refine wp_cut (fun a w => Fr a 113 [(1, .slice a_x1 x1.length c_x1), (3, .pointer (some ⟨p1, 0, none⟩)), (5, .pointer (some ⟨p2, 0, none⟩)), (8, .pointer (some ⟨p3, 0, none⟩)), (12, .pointer (some ⟨p37, 0, none⟩)), (82, .bool z6)] ∧ St w0 (fun _ => False) w [Box p1 [.slice a_x0_0 x0_0.length c_x0_0, .slice a_x0_1 x0_1.length c_x0_1], Box p2 [.slice a_x2_0 x2_0.length c_x2_0, .slice a_x2_1 x2_1.length c_x2_1, .int .i64 x2_2], Own 3 (rowT z2) (.slice a1 z2.length c1), Own 3 (rowT z3) (.slice a2 z3.length c2), Own 3 (rowT z4) (.slice a3 z4.length c3), Box p3 [.int .i64 z1, .slice a1 z2.length c1, .slice a2 z3.length c2, .slice a3 z4.length c3, .int .i64 z5], OwnA (rowT y21) (.slice a145 y21.length c145), OwnA (rowT y22) (.slice a146 y22.length c146), OwnA (rowT y23) (.slice a147 y23.length c147), Box p37 [.int .i64 y20, .slice a145 y21.length c145, .slice a146 y22.length c146, .slice a147 y23.length c147, .int .i64 y24]]) ?_ ?_
  have hk2 := h
  have h := hx23
  refine wc_text ?_
  refine wc_move HF nS rfl rfl rfl (fun a HF => ?_)
  refine wc_bin HF nS rfl rfl b_lt rfl rfl (fun a HF => ?_)
  refine wc_move HF nS rfl rfl rfl (fun a HF => ?_)
  by_cases hb8 : y40 < 0
  have h := (if_pos hb8).symm.trans h
  refine wc_skip HF nS (HF.wn rfl rfl rfl rfl (decide_eq_true hb8)) rfl (fun a HF => ?_)
  refine wc_skip HF nS (HF.wn rfl rfl rfl rfl (decide_eq_true hb8)) rfl (fun a HF => ?_)
  refine wc_skip HF nS (HF.wn rfl rfl rfl rfl (decide_eq_true hb8)) rfl (fun a HF => ?_)
  refine wc_skip HF nS (HF.wn rfl rfl rfl rfl (decide_eq_true hb8)) rfl (fun a HF => ?_)
  refine wc_pick (b := true) HF nS rfl (decide_eq_true hb8) rfl rfl rfl (fun a HF => ?_)
  refine wc_end ?_
  have HT := HT.p10.p13.p13.p13.p21.p21.p21.p21.p21.p21.t10
  obtain rfl := Option.some.inj h
  exact then_n ⟨(HF.keep (HF.keep (HF.keep (HF.keep (HF.keep (HF.keep HF.nil rfl) rfl) rfl) rfl) rfl) rfl), HT⟩
  have h := (if_neg hb8).symm.trans h
  refine wc_loadA (vs := [.int .i64 y20, .slice a145 y21.length c145, .slice a146 y22.length c146, .slice a147 y23.length c147, .int .i64 y24]) HF rfl ag49 rfl ((HT.boxAt 10 rfl).part 0 5) (HF.wy rfl rfl rfl rfl (decide_eq_false hb8)) rfl (fun a HF => ?_)
  refine wc_loadA (vs := [.int .i64 z1, .slice a1 z2.length c1, .slice a2 z3.length c2, .slice a3 z4.length c3, .int .i64 z5]) HF rfl ag49 rfl ((HT.boxAt 21 rfl).part 0 5) (HF.wy rfl rfl rfl rfl (decide_eq_false hb8)) rfl (fun a HF => ?_)
  obtain ⟨y43, hx24, h⟩ := obs h
  refine wc_call HF cf31 rfl (w_laws_eqRun fuel hx24 (HT.rdAAt 11 rfl) (HT.rdAAt 12 rfl) (HT.rdAAt 13 rfl) (HT.rdAt 18 rfl) (HT.rdAt 19 rfl) (HT.rdAt 20 rfl)) (HF.wy rfl rfl rfl rfl (decide_eq_false hb8)) rfl ?_
  rintro e w ⟨rfl, hE⟩
  have hb := hE.below
  have HT := HT.pure hE
  have HT : St w0 (fun _ => False) w [OwnA (rowT y41) (.slice a143 y17.length c143), OwnA (rowT y42) (.slice a144 y18.length c144), OwnA (rowT y39) (.slice a142 y16.length c142), OwnA (rowT y36) (.slice a140 y14.length c140), OwnA (rowT y37) (.slice a141 y15.length c141), Own 3 (rowT y31) (.slice a151 y31.length c151), Own 3 (rowT y32) (.slice a152 y32.length c152), Own 3 (rowT y29) (.slice a150 y29.length c150), Own 85 (rowT y26) (.slice a148 y26.length c148), Own 127 (rowT y27) (.slice a149 y27.length c149), Box p37 [.int .i64 y20, .slice a145 y21.length c145, .slice a146 y22.length c146, .slice a147 y23.length c147, .int .i64 y24], OwnA (rowT y21) (.slice a145 y21.length c145), OwnA (rowT y22) (.slice a146 y22.length c146), OwnA (rowT y23) (.slice a147 y23.length c147), Box p36 [.slice a143 y17.length c143, .slice a144 y18.length c144, .int .i64 y19], Box p35 [.slice a140 y14.length c140, .slice a141 y15.length c141], Box p1 [.slice a_x0_0 x0_0.length c_x0_0, .slice a_x0_1 x0_1.length c_x0_1], Box p2 [.slice a_x2_0 x2_0.length c_x2_0, .slice a_x2_1 x2_1.length c_x2_1, .int .i64 x2_2], Own 3 (rowT z2) (.slice a1 z2.length c1), Own 3 (rowT z3) (.slice a2 z3.length c2), Own 3 (rowT z4) (.slice a3 z4.length c3), Box p3 [.int .i64 z1, .slice a1 z2.length c1, .slice a2 z3.length c2, .slice a3 z4.length c3, .int .i64 z5]] := HT
  refine ⟨_, rfl, nS, fun a HF => ?_⟩
  refine wc_not HF nS rfl (HF.wy rfl rfl rfl rfl (decide_eq_false hb8)) rfl (fun a HF => ?_)
  refine wc_pick (b := false) HF nS rfl (decide_eq_false hb8) rfl rfl rfl (fun a HF => ?_)
  refine wc_end ?_
  have HT := HT.p10.p13.p13.p13.p21.p21.p21.p21.p21.p21.t10
  obtain rfl := Option.some.inj h
  exact then_n ⟨(HF.keep (HF.keep (HF.keep (HF.keep (HF.keep (HF.keep HF.nil rfl) rfl) rfl) rfl) rfl) rfl), HT⟩
  rintro a w ⟨HF, HT⟩
  refine ?_
  by_cases hb9 : z6 = true
  have h := (if_pos hb9).symm.trans h
  refine wp_if (b' := true) HF rfl hb9 ?_
  refine wp_seq ?_
  refine wc_text ?_
  refine wc_assign HF nS rfl rfl rfl (fun a HF => ?_)
  refine wc_end ?_
  refine then_n ?_
  refine wp_ret ?_
  obtain rfl := Option.some.inj h
  have h := retL hk1
  obtain rfl := Option.some.inj h
  refine then_r (?_)
  refine bp_ret HF (res_one rfl HF rfl) ?_
  have HT := HT.t0
  exact ⟨rfl, HT⟩
  have h := (if_neg hb9).symm.trans h
  refine wp_if (b' := false) HF rfl (Bool.eq_false_iff.2 hb9) ?_
  refine wp_skip ?_
  exact then_n ⟨(Option.some.inj h).symm, (HF.keep (HF.keep (HF.keep (HF.keep (HF.keep HF.nil rfl) rfl) rfl) rfl) rfl), HT⟩
  rintro a w ⟨rfl, HF, HT⟩
  have h := brkL1u h
  refine ?_
  refine wp_seq ?_
  refine wc_text ?_
  refine wc_assign HF nS rfl rfl rfl (fun a HF => ?_)
  refine wc_end ?_
  refine then_n ?_
  refine wp_seq ?_
  refine wc_text ?_
  refine wc_loadA (vs := [.int .i64 y20, .slice a145 y21.length c145, .slice a146 y22.length c146, .slice a147 y23.length c147, .int .i64 y24]) HF rfl ag49 rfl ((HT.boxAt 9 rfl).part 0 5) rfl rfl (fun a HF => ?_)
  refine wc_move HF nS rfl rfl rfl (fun a HF => ?_)
  obtain ⟨y44, y45, y46, y47, hx25, h⟩ := obs4 h
  have HT := HT.p8.p8.p8
  obtain ⟨F4, hAF4, hFF4, hbackF4, hroF4, hownF4, hownAF4⟩ := St.handR2 (A := [OwnA (rowT y21) (.slice a145 y21.length c145), OwnA (rowT y22) (.slice a146 y22.length c146), OwnA (rowT y23) (.slice a147 y23.length c147)]) HT
  refine wc_call HF cf35 rfl (w_laws_markRun fuel hx25 hAF4) rfl rfl ?_
  rintro e w ⟨rfl, hE⟩
  have HT := hbackF4 _ _ hE
  have HT : St w0 (fun _ => False) w [OwnA (rowT y45) (.slice a145 y21.length c145), OwnA (rowT y46) (.slice a146 y22.length c146), OwnA (rowT y47) (.slice a147 y23.length c147), Box p1 [.slice a_x0_0 x0_0.length c_x0_0, .slice a_x0_1 x0_1.length c_x0_1], Box p2 [.slice a_x2_0 x2_0.length c_x2_0, .slice a_x2_1 x2_1.length c_x2_1, .int .i64 x2_2], Own 3 (rowT z2) (.slice a1 z2.length c1), Own 3 (rowT z3) (.slice a2 z3.length c2), Own 3 (rowT z4) (.slice a3 z4.length c3), Box p3 [.int .i64 z1, .slice a1 z2.length c1, .slice a2 z3.length c2, .slice a3 z4.length c3, .int .i64 z5], Box p37 [.int .i64 y20, .slice a145 y21.length c145, .slice a146 y22.length c146, .slice a147 y23.length c147, .int .i64 y24]] := HT
  refine ⟨_, rfl, nS, fun a HF => ?_⟩
  refine wc_assign HF nS rfl rfl rfl (fun a HF => ?_)
  refine wc_end ?_
  refine then_n ?_
  refine wp_seq ?_
  refine wc_text ?_
  refine wc_assign HF nS rfl rfl rfl (fun a HF => ?_)
  refine wc_end ?_
  refine then_n ?_
  refine wp_seq ?_
  refine wc_text ?_
  refine wc_loadA (vs := [.int .i64 y20, .slice a145 y21.length c145, .slice a146 y22.length c146, .slice a147 y23.length c147, .int .i64 y24]) HF rfl ag49 rfl ((HT.boxAt 9 rfl).part 0 5) rfl rfl (fun a HF => ?_)
  refine wc_move HF nS rfl rfl rfl (fun a HF => ?_)
  obtain ⟨y48, hx26, h⟩ := obs h
  refine wc_call HF cf36 rfl (w_laws_heldRun fuel hx26 (HT.rdAAt 0 rfl) (HT.rdAAt 1 rfl) (HT.rdAAt 2 rfl)) rfl rfl ?_
  rintro e w ⟨rfl, hE⟩
  have hb := hE.below
  have HT := HT.pure hE
  have HT : St w0 (fun _ => False) w [OwnA (rowT y45) (.slice a145 y21.length c145), OwnA (rowT y46) (.slice a146 y22.length c146), OwnA (rowT y47) (.slice a147 y23.length c147), Box p1 [.slice a_x0_0 x0_0.length c_x0_0, .slice a_x0_1 x0_1.length c_x0_1], Box p2 [.slice a_x2_0 x2_0.length c_x2_0, .slice a_x2_1 x2_1.length c_x2_1, .int .i64 x2_2], Own 3 (rowT z2) (.slice a1 z2.length c1), Own 3 (rowT z3) (.slice a2 z3.length c2), Own 3 (rowT z4) (.slice a3 z4.length c3), Box p3 [.int .i64 z1, .slice a1 z2.length c1, .slice a2 z3.length c2, .slice a3 z4.length c3, .int .i64 z5], Box p37 [.int .i64 y20, .slice a145 y21.length c145, .slice a146 y22.length c146, .slice a147 y23.length c147, .int .i64 y24]] := HT
  refine ⟨_, rfl, nS, fun a HF => ?_⟩
  refine wc_assign HF nS rfl rfl rfl (fun a HF => ?_)
  refine wc_end ?_
  refine then_n ?_
  refine wp_seq ?_
  refine wp_seq ?_
  refine wc_text ?_
  refine wc_move HF nS rfl rfl rfl (fun a HF => ?_)
  refine wc_bin HF nS rfl rfl b_lt rfl rfl (fun a HF => ?_)
  refine wc_end ?_
  refine then_n ?_
  by_cases hb10 : y48 < 0
  have h := (if_pos hb10).symm.trans h
  refine wp_if (b' := true) HF rfl (decide_eq_true hb10) ?_
  refine wp_seq ?_
  refine wc_text ?_
  refine wc_assign HF nS rfl rfl rfl (fun a HF => ?_)
  refine wc_end ?_
  refine then_n ?_
  refine wp_ret ?_
  obtain rfl := Option.some.inj h
  refine then_r (?_)
  refine bp_ret HF (res_one rfl HF rfl) ?_
  have HT := HT.t0
  exact ⟨rfl, HT⟩
  have h := (if_neg hb10).symm.trans h
  refine wp_if (b' := false) HF rfl (decide_eq_false hb10) ?_
  refine wp_skip ?_
  refine then_n ?_
  refine wp_seq ?_
  refine wp_seq ?_
  refine wc_text ?_
  refine wc_move HF nS rfl rfl rfl (fun a HF => ?_)
  refine wc_move HF nS rfl rfl rfl (fun a HF => ?_)
  refine wc_bin HF nS rfl rfl b_ne rfl rfl (fun a HF => ?_)
  refine wc_end ?_
  refine then_n ?_
  by_cases hb11 : y48 = y44
  have h := (if_pos hb11).symm.trans h
  refine wp_if (b' := false) HF rfl (notT (decide_eq_true hb11)) ?_
  refine wp_skip ?_
  refine then_n ?_
  obtain ⟨z7, z8, z9, z10, z11, hx27, h⟩ := obs5 h
  refine wp_cut (fun a w => ∃ a153 n153 c153 a154 n154 c154 a155 n155 c155 p38, Fr a 113 [(8, .pointer (some ⟨p3, 0, none⟩)), (12, .pointer (some ⟨p37, 0, none⟩)), (14, .int .i64 y44), (16, .pointer (some ⟨p38, 0, none⟩))] ∧ St w0 (fun _ => False) w [Own 3 (rowT z2) (.slice a1 z2.length c1), Own 3 (rowT z3) (.slice a2 z3.length c2), Own 3 (rowT z4) (.slice a3 z4.length c3), Box p3 [.int .i64 z1, .slice a1 z2.length c1, .slice a2 z3.length c2, .slice a3 z4.length c3, .int .i64 z5], OwnA (rowT y45) (.slice a145 y21.length c145), OwnA (rowT y46) (.slice a146 y22.length c146), OwnA (rowT y47) (.slice a147 y23.length c147), Box p37 [.int .i64 y20, .slice a145 y21.length c145, .slice a146 y22.length c146, .slice a147 y23.length c147, .int .i64 y24], OwnA (rowT z8) (.slice a153 n153 c153), OwnA (rowT z9) (.slice a154 n154 c154), OwnA (rowT z10) (.slice a155 n155 c155), Box p38 [.int .i64 z7, .slice a153 n153 c153, .slice a154 n154 c154, .slice a155 n155 c155, .int .i64 z11]]) ?_ ?_
  have hk1 := h
  have h := hx27
  refine wp_region_tree (.seg [(0, false), (2, false), (4, false)] (.alt 1 false (.alt 3 false (.alt 5 true (.alt 6 true (.seg [(7, false), (8, true)] .stop) (.alt 7 false (.seg [(6, true), (8, true)] .stop) .none)) (.alt 7 false (.seg [(5, true), (6, true), (8, true)] .stop) .none)) (.alt 7 false (.seg [(3, false), (5, true), (6, true), (8, true)] .stop) .none)) (.alt 7 false (.seg [(1, false), (3, false), (5, true), (6, true), (8, true)] .stop) .none))) (fun w' => LdC w' p1 0 [.slice a_x0_0 x0_0.length c_x0_0, .slice a_x0_1 x0_1.length c_x0_1] ∧ LdC w' p2 0 [.slice a_x2_0 x2_0.length c_x2_0, .slice a_x2_1 x2_1.length c_x2_1, .int .i64 x2_2] ∧ True) (by kernel_rfl) (by kernel_rfl) ?_
  have HT := HT.drew
  refine wt_seg ?_
  refine wc_loadAS (vs := [.slice a_x0_0 x0_0.length c_x0_0, .slice a_x0_1 x0_1.length c_x0_1]) HF ⟨(HT.boxAt 3 rfl).part 0 2, (HT.boxAt 4 rfl).part 0 3, trivial⟩ rfl ag46 rfl (fun w hS => hS.1) rfl rfl (fun a HF => ?_)
  refine wc_move HF (fun _ => ⟨(HT.boxAt 3 rfl).part 0 2, (HT.boxAt 4 rfl).part 0 3, trivial⟩) rfl rfl rfl (fun a HF => ?_)
  refine wc_loadAS (vs := [.slice a_x2_0 x2_0.length c_x2_0, .slice a_x2_1 x2_1.length c_x2_1, .int .i64 x2_2]) HF ⟨(HT.boxAt 3 rfl).part 0 2, (HT.boxAt 4 rfl).part 0 3, trivial⟩ rfl ag24 rfl (fun w hS => hS.2.1) rfl rfl (fun a HF => ?_)
  refine wc_endT ?_
  obtain ⟨y49, y50, hx28, h⟩ := obs2 h
  obtain ⟨y51, hx29, h⟩ := obs h
  obtain ⟨y52, y53, y54, hx30, h⟩ := obs3 h
  obtain ⟨y55, y56, y57, y58, y59, hx31, h⟩ := obs5 h
  refine wt_alt ?_ ?_
  refine wc_call HF cf29 rfl (w_laws_toProg fuel hx28 (HT.ro hr_x0_0).any (HT.ro hr_x0_1).any) rfl rfl ?_
  rintro e w ⟨a220, n220, c220, a221, n221, c221, rfl, hE⟩
  have hb := hE.below
  have HT := HT.pure hE
  obtain rfl := (HT.rdAt 0 rfl).neq
  obtain rfl := (HT.rdAt 1 rfl).neq
  have HT : St w0 (fun _ => False) w [Own 85 (rowT y49) (.slice a220 y49.length c220), Own 127 (rowT y50) (.slice a221 y50.length c221), OwnA (rowT y45) (.slice a145 y21.length c145), OwnA (rowT y46) (.slice a146 y22.length c146), OwnA (rowT y47) (.slice a147 y23.length c147), Box p1 [.slice a_x0_0 x0_0.length c_x0_0, .slice a_x0_1 x0_1.length c_x0_1], Box p2 [.slice a_x2_0 x2_0.length c_x2_0, .slice a_x2_1 x2_1.length c_x2_1, .int .i64 x2_2], Own 3 (rowT z2) (.slice a1 z2.length c1), Own 3 (rowT z3) (.slice a2 z3.length c2), Own 3 (rowT z4) (.slice a3 z4.length c3), Box p3 [.int .i64 z1, .slice a1 z2.length c1, .slice a2 z3.length c2, .slice a3 z4.length c3, .int .i64 z5], Box p37 [.int .i64 y20, .slice a145 y21.length c145, .slice a146 y22.length c146, .slice a147 y23.length c147, .int .i64 y24]] := HT
  refine ⟨_, rfl, (fun _ => ⟨(HT.boxAt 5 rfl).part 0 2, (HT.boxAt 6 rfl).part 0 3, trivial⟩), fun a HF => ?_⟩
  refine wc_endT ?_
  refine wt_alt ?_ ?_
  refine wc_call HF cf20 rfl (w_laws_toIntS fuel hx29 (HT.ro hr_x1).any) rfl rfl ?_
  rintro e w ⟨a250, n250, c250, rfl, hE⟩
  have hb := hE.below
  have HT := HT.pure hE
  obtain rfl := (HT.rdAt 0 rfl).neq
  have HT : St w0 (fun _ => False) w [Own 3 (rowT y51) (.slice a250 y51.length c250), Own 85 (rowT y49) (.slice a220 y49.length c220), Own 127 (rowT y50) (.slice a221 y50.length c221), OwnA (rowT y45) (.slice a145 y21.length c145), OwnA (rowT y46) (.slice a146 y22.length c146), OwnA (rowT y47) (.slice a147 y23.length c147), Box p1 [.slice a_x0_0 x0_0.length c_x0_0, .slice a_x0_1 x0_1.length c_x0_1], Box p2 [.slice a_x2_0 x2_0.length c_x2_0, .slice a_x2_1 x2_1.length c_x2_1, .int .i64 x2_2], Own 3 (rowT z2) (.slice a1 z2.length c1), Own 3 (rowT z3) (.slice a2 z3.length c2), Own 3 (rowT z4) (.slice a3 z4.length c3), Box p3 [.int .i64 z1, .slice a1 z2.length c1, .slice a2 z3.length c2, .slice a3 z4.length c3, .int .i64 z5], Box p37 [.int .i64 y20, .slice a145 y21.length c145, .slice a146 y22.length c146, .slice a147 y23.length c147, .int .i64 y24]] := HT
  refine ⟨_, rfl, (fun _ => ⟨(HT.boxAt 6 rfl).part 0 2, (HT.boxAt 7 rfl).part 0 3, trivial⟩), fun a HF => ?_⟩
  refine wc_endT ?_
  refine wt_alt ?_ ?_
  refine wc_call HF cf12 rfl (w_laws_toThings fuel hx30 (HT.ro hr_x2_0).any (HT.ro hr_x2_1).any) rfl rfl ?_
  rintro e w ⟨a262, n262, c262, a263, n263, c263, rfl, hE⟩
  have hb := hE.below
  have HT := HT.pure hE
  obtain rfl := (HT.rdAt 0 rfl).neq
  obtain rfl := (HT.rdAt 1 rfl).neq
  have HT : St w0 (fun _ => False) w [Own 3 (rowT y52) (.slice a262 y52.length c262), Own 3 (rowT y53) (.slice a263 y53.length c263), Own 3 (rowT y51) (.slice a250 y51.length c250), Own 85 (rowT y49) (.slice a220 y49.length c220), Own 127 (rowT y50) (.slice a221 y50.length c221), OwnA (rowT y45) (.slice a145 y21.length c145), OwnA (rowT y46) (.slice a146 y22.length c146), OwnA (rowT y47) (.slice a147 y23.length c147), Box p1 [.slice a_x0_0 x0_0.length c_x0_0, .slice a_x0_1 x0_1.length c_x0_1], Box p2 [.slice a_x2_0 x2_0.length c_x2_0, .slice a_x2_1 x2_1.length c_x2_1, .int .i64 x2_2], Own 3 (rowT z2) (.slice a1 z2.length c1), Own 3 (rowT z3) (.slice a2 z3.length c2), Own 3 (rowT z4) (.slice a3 z4.length c3), Box p3 [.int .i64 z1, .slice a1 z2.length c1, .slice a2 z3.length c2, .slice a3 z4.length c3, .int .i64 z5], Box p37 [.int .i64 y20, .slice a145 y21.length c145, .slice a146 y22.length c146, .slice a147 y23.length c147, .int .i64 y24]] := HT
  refine ⟨_, rfl, nS, fun a HF => ?_⟩
  refine wc_endT ?_
  refine wt_alt ?_ ?_
  refine wc_call HF cf30 rfl (w_impl_Serial fuel hx31 (HT.rdAt 3 rfl) (HT.rdAt 4 rfl) (HT.rdAt 2 rfl) (HT.rdAt 0 rfl) (HT.rdAt 1 rfl)) rfl rfl ?_
  rintro e w ⟨a267, n267, c267, a268, n268, c268, a269, n269, c269, rfl, hE⟩
  have hb := hE.below
  have HT := HT.pure hE
  obtain rfl := (HT.rdAAt 0 rfl).neq
  obtain rfl := (HT.rdAAt 1 rfl).neq
  obtain rfl := (HT.rdAAt 2 rfl).neq
  have HT : St w0 (fun _ => False) w [OwnA (rowT y56) (.slice a267 y56.length c267), OwnA (rowT y57) (.slice a268 y57.length c268), OwnA (rowT y58) (.slice a269 y58.length c269), Own 3 (rowT y52) (.slice a262 y52.length c262), Own 3 (rowT y53) (.slice a263 y53.length c263), Own 3 (rowT y51) (.slice a250 y51.length c250), Own 85 (rowT y49) (.slice a220 y49.length c220), Own 127 (rowT y50) (.slice a221 y50.length c221), OwnA (rowT y45) (.slice a145 y21.length c145), OwnA (rowT y46) (.slice a146 y22.length c146), OwnA (rowT y47) (.slice a147 y23.length c147), Box p1 [.slice a_x0_0 x0_0.length c_x0_0, .slice a_x0_1 x0_1.length c_x0_1], Box p2 [.slice a_x2_0 x2_0.length c_x2_0, .slice a_x2_1 x2_1.length c_x2_1, .int .i64 x2_2], Own 3 (rowT z2) (.slice a1 z2.length c1), Own 3 (rowT z3) (.slice a2 z3.length c2), Own 3 (rowT z4) (.slice a3 z4.length c3), Box p3 [.int .i64 z1, .slice a1 z2.length c1, .slice a2 z3.length c2, .slice a3 z4.length c3, .int .i64 z5], Box p37 [.int .i64 y20, .slice a145 y21.length c145, .slice a146 y22.length c146, .slice a147 y23.length c147, .int .i64 y24]] := HT
  refine ⟨_, rfl, nS, fun a HF => ?_⟩
  refine wc_endT ?_
  refine wt_seg ?_
  refine wc_alloc (cs := [.int .i64 0, .slice none 0 0, .slice none 0 0, .slice none 0 0, .int .i64 0]) HF HT zr49 rfl rfl rfl (fun p65 w HT hb => ⟨(fun _ => ⟨(HT.boxAt 12 rfl).part 0 2, (HT.boxAt 13 rfl).part 0 3, trivial⟩), fun a HF => ?_⟩)
  refine wc_storeB (cs' := [.int .i64 y55, .slice a267 y56.length c267, .slice a268 y57.length c268, .slice a269 y58.length c269, .int .i64 y59]) HF HT rfl rfl (fun w => (ag49 w).2) rfl rfl rfl rfl rfl (fun w HT => ⟨nS, ?_⟩)
  refine wc_endT ?_
  refine wt_stop ?_
  have HT := HT.p3.p3.p3.p18.p12.p12.p12.p18.p18.p18.p18.t12
  have hj26 := Option.some.inj h
  obtain ⟨hi26, hj27⟩ := Prod.mk.inj hj26
  subst hi26
  obtain ⟨hi27, hj28⟩ := Prod.mk.inj hj27
  subst hi27
  obtain ⟨hi28, hj29⟩ := Prod.mk.inj hj28
  subst hi28
  obtain ⟨hi29, hj30⟩ := Prod.mk.inj hj29
  subst hi29
  subst hj30
  exact then_n ⟨a267, y56.length, c267, a268, y57.length, c268, a269, y58.length, c269, p65, (HF.keep (HF.keep (HF.keep (HF.keep HF.nil rfl) rfl) rfl) rfl), HT⟩
  refine wt_alt ?_ ?_
  refine wc_alloc (cs := [.int .i64 0, .slice none 0 0, .slice none 0 0, .slice none 0 0, .int .i64 0]) HF HT zr49 rfl rfl rfl (fun p66 w HT hb => ⟨(fun _ => ⟨(HT.boxAt 9 rfl).part 0 2, (HT.boxAt 10 rfl).part 0 3, trivial⟩), fun a HF => ?_⟩)
  refine wc_endT ?_
  refine wt_seg ?_
  refine wc_call HF cf30 rfl (w_impl_Serial fuel hx31 (HT.rdAt 4 rfl) (HT.rdAt 5 rfl) (HT.rdAt 3 rfl) (HT.rdAt 1 rfl) (HT.rdAt 2 rfl)) rfl rfl ?_
  rintro e w ⟨a270, n270, c270, a271, n271, c271, a272, n272, c272, rfl, hE⟩
  have hb := hE.below
  have HT := HT.pure hE
  obtain rfl := (HT.rdAAt 0 rfl).neq
  obtain rfl := (HT.rdAAt 1 rfl).neq
  obtain rfl := (HT.rdAAt 2 rfl).neq
  have HT : St w0 (fun _ => False) w [OwnA (rowT y56) (.slice a270 y56.length c270), OwnA (rowT y57) (.slice a271 y57.length c271), OwnA (rowT y58) (.slice a272 y58.length c272), Box p66 [.int .i64 0, .slice none 0 0, .slice none 0 0, .slice none 0 0, .int .i64 0], Own 3 (rowT y52) (.slice a262 y52.length c262), Own 3 (rowT y53) (.slice a263 y53.length c263), Own 3 (rowT y51) (.slice a250 y51.length c250), Own 85 (rowT y49) (.slice a220 y49.length c220), Own 127 (rowT y50) (.slice a221 y50.length c221), OwnA (rowT y45) (.slice a145 y21.length c145), OwnA (rowT y46) (.slice a146 y22.length c146), OwnA (rowT y47) (.slice a147 y23.length c147), Box p1 [.slice a_x0_0 x0_0.length c_x0_0, .slice a_x0_1 x0_1.length c_x0_1], Box p2 [.slice a_x2_0 x2_0.length c_x2_0, .slice a_x2_1 x2_1.length c_x2_1, .int .i64 x2_2], Own 3 (rowT z2) (.slice a1 z2.length c1), Own 3 (rowT z3) (.slice a2 z3.length c2), Own 3 (rowT z4) (.slice a3 z4.length c3), Box p3 [.int .i64 z1, .slice a1 z2.length c1, .slice a2 z3.length c2, .slice a3 z4.length c3, .int .i64 z5], Box p37 [.int .i64 y20, .slice a145 y21.length c145, .slice a146 y22.length c146, .slice a147 y23.length c147, .int .i64 y24]] := HT
  refine ⟨_, rfl, nS, fun a HF => ?_⟩
  have HT := HT.p3
  refine wc_storeB (cs' := [.int .i64 y55, .slice a270 y56.length c270, .slice a271 y57.length c271, .slice a272 y58.length c272, .int .i64 y59]) HF HT rfl rfl (fun w => (ag49 w).2) rfl rfl rfl rfl rfl (fun w HT => ⟨nS, ?_⟩)
  refine wc_endT ?_
  refine wt_stop ?_
  have HT := HT.p3.p3.p3.p18.p12.p12.p12.p18.p18.p18.p18.t12
  have hj31 := Option.some.inj h
  obtain ⟨hi31, hj32⟩ := Prod.mk.inj hj31
  subst hi31
  obtain ⟨hi32, hj33⟩ := Prod.mk.inj hj32
  subst hi32
  obtain ⟨hi33, hj34⟩ := Prod.mk.inj hj33
  subst hi33
  obtain ⟨hi34, hj35⟩ := Prod.mk.inj hj34
  subst hi34
  subst hj35
  exact then_n ⟨a270, y56.length, c270, a271, y57.length, c271, a272, y58.length, c272, p66, (HF.keep (HF.keep (HF.keep (HF.keep HF.nil rfl) rfl) rfl) rfl), HT⟩
  exact wt_none
  refine wt_alt ?_ ?_
  refine wc_alloc (cs := [.int .i64 0, .slice none 0 0, .slice none 0 0, .slice none 0 0, .int .i64 0]) HF HT zr49 rfl rfl rfl (fun p67 w HT hb => ⟨(fun _ => ⟨(HT.boxAt 7 rfl).part 0 2, (HT.boxAt 8 rfl).part 0 3, trivial⟩), fun a HF => ?_⟩)
  refine wc_endT ?_
  refine wt_seg ?_
  refine wc_call HF cf12 rfl (w_laws_toThings fuel hx30 (HT.ro hr_x2_0).any (HT.ro hr_x2_1).any) rfl rfl ?_
  rintro e w ⟨a273, n273, c273, a274, n274, c274, rfl, hE⟩
  have hb := hE.below
  have HT := HT.pure hE
  obtain rfl := (HT.rdAt 0 rfl).neq
  obtain rfl := (HT.rdAt 1 rfl).neq
  have HT : St w0 (fun _ => False) w [Own 3 (rowT y52) (.slice a273 y52.length c273), Own 3 (rowT y53) (.slice a274 y53.length c274), Box p67 [.int .i64 0, .slice none 0 0, .slice none 0 0, .slice none 0 0, .int .i64 0], Own 3 (rowT y51) (.slice a250 y51.length c250), Own 85 (rowT y49) (.slice a220 y49.length c220), Own 127 (rowT y50) (.slice a221 y50.length c221), OwnA (rowT y45) (.slice a145 y21.length c145), OwnA (rowT y46) (.slice a146 y22.length c146), OwnA (rowT y47) (.slice a147 y23.length c147), Box p1 [.slice a_x0_0 x0_0.length c_x0_0, .slice a_x0_1 x0_1.length c_x0_1], Box p2 [.slice a_x2_0 x2_0.length c_x2_0, .slice a_x2_1 x2_1.length c_x2_1, .int .i64 x2_2], Own 3 (rowT z2) (.slice a1 z2.length c1), Own 3 (rowT z3) (.slice a2 z3.length c2), Own 3 (rowT z4) (.slice a3 z4.length c3), Box p3 [.int .i64 z1, .slice a1 z2.length c1, .slice a2 z3.length c2, .slice a3 z4.length c3, .int .i64 z5], Box p37 [.int .i64 y20, .slice a145 y21.length c145, .slice a146 y22.length c146, .slice a147 y23.length c147, .int .i64 y24]] := HT
  refine ⟨_, rfl, nS, fun a HF => ?_⟩
  refine wc_call HF cf30 rfl (w_impl_Serial fuel hx31 (HT.rdAt 4 rfl) (HT.rdAt 5 rfl) (HT.rdAt 3 rfl) (HT.rdAt 0 rfl) (HT.rdAt 1 rfl)) rfl rfl ?_
  rintro e w ⟨a275, n275, c275, a276, n276, c276, a277, n277, c277, rfl, hE⟩
  have hb := hE.below
  have HT := HT.pure hE
  obtain rfl := (HT.rdAAt 0 rfl).neq
  obtain rfl := (HT.rdAAt 1 rfl).neq
  obtain rfl := (HT.rdAAt 2 rfl).neq
  have HT : St w0 (fun _ => False) w [OwnA (rowT y56) (.slice a275 y56.length c275), OwnA (rowT y57) (.slice a276 y57.length c276), OwnA (rowT y58) (.slice a277 y58.length c277), Own 3 (rowT y52) (.slice a273 y52.length c273), Own 3 (rowT y53) (.slice a274 y53.length c274), Box p67 [.int .i64 0, .slice none 0 0, .slice none 0 0, .slice none 0 0, .int .i64 0], Own 3 (rowT y51) (.slice a250 y51.length c250), Own 85 (rowT y49) (.slice a220 y49.length c220), Own 127 (rowT y50) (.slice a221 y50.length c221), OwnA (rowT y45) (.slice a145 y21.length c145), OwnA (rowT y46) (.slice a146 y22.length c146), OwnA (rowT y47) (.slice a147 y23.length c147), Box p1 [.slice a_x0_0 x0_0.length c_x0_0, .slice a_x0_1 x0_1.length c_x0_1], Box p2 [.slice a_x2_0 x2_0.length c_x2_0, .slice a_x2_1 x2_1.length c_x2_1, .int .i64 x2_2], Own 3 (rowT z2) (.slice a1 z2.length c1), Own 3 (rowT z3) (.slice a2 z3.length c2), Own 3 (rowT z4) (.slice a3 z4.length c3), Box p3 [.int .i64 z1, .slice a1 z2.length c1, .slice a2 z3.length c2, .slice a3 z4.length c3, .int .i64 z5], Box p37 [.int .i64 y20, .slice a145 y21.length c145, .slice a146 y22.length c146, .slice a147 y23.length c147, .int .i64 y24]] := HT
  refine ⟨_, rfl, nS, fun a HF => ?_⟩
  have HT := HT.p5
  refine wc_storeB (cs' := [.int .i64 y55, .slice a275 y56.length c275, .slice a276 y57.length c276, .slice a277 y58.length c277, .int .i64 y59]) HF HT rfl rfl (fun w => (ag49 w).2) rfl rfl rfl rfl rfl (fun w HT => ⟨nS, ?_⟩)
  refine wc_endT ?_
  refine wt_stop ?_
  have HT := HT.p3.p3.p3.p18.p12.p12.p12.p18.p18.p18.p18.t12
  have hj36 := Option.some.inj h
  obtain ⟨hi36, hj37⟩ := Prod.mk.inj hj36
  subst hi36
  obtain ⟨hi37, hj38⟩ := Prod.mk.inj hj37
  subst hi37
  obtain ⟨hi38, hj39⟩ := Prod.mk.inj hj38
  subst hi38
  obtain ⟨hi39, hj40⟩ := Prod.mk.inj hj39
  subst hi39
  subst hj40
  exact then_n ⟨a275, y56.length, c275, a276, y57.length, c276, a277, y58.length, c277, p67, (HF.keep (HF.keep (HF.keep (HF.keep HF.nil rfl) rfl) rfl) rfl), HT⟩
  exact wt_none
  refine wt_alt ?_ ?_
  refine wc_alloc (cs := [.int .i64 0, .slice none 0 0, .slice none 0 0, .slice none 0 0, .int .i64 0]) HF HT zr49 rfl rfl rfl (fun p68 w HT hb => ⟨(fun _ => ⟨(HT.boxAt 6 rfl).part 0 2, (HT.boxAt 7 rfl).part 0 3, trivial⟩), fun a HF => ?_⟩)
  refine wc_endT ?_
  refine wt_seg ?_
  refine wc_call HF cf20 rfl (w_laws_toIntS fuel hx29 (HT.ro hr_x1).any) rfl rfl ?_
  rintro e w ⟨a278, n278, c278, rfl, hE⟩
  have hb := hE.below
  have HT := HT.pure hE
  obtain rfl := (HT.rdAt 0 rfl).neq
  have HT : St w0 (fun _ => False) w [Own 3 (rowT y51) (.slice a278 y51.length c278), Box p68 [.int .i64 0, .slice none 0 0, .slice none 0 0, .slice none 0 0, .int .i64 0], Own 85 (rowT y49) (.slice a220 y49.length c220), Own 127 (rowT y50) (.slice a221 y50.length c221), OwnA (rowT y45) (.slice a145 y21.length c145), OwnA (rowT y46) (.slice a146 y22.length c146), OwnA (rowT y47) (.slice a147 y23.length c147), Box p1 [.slice a_x0_0 x0_0.length c_x0_0, .slice a_x0_1 x0_1.length c_x0_1], Box p2 [.slice a_x2_0 x2_0.length c_x2_0, .slice a_x2_1 x2_1.length c_x2_1, .int .i64 x2_2], Own 3 (rowT z2) (.slice a1 z2.length c1), Own 3 (rowT z3) (.slice a2 z3.length c2), Own 3 (rowT z4) (.slice a3 z4.length c3), Box p3 [.int .i64 z1, .slice a1 z2.length c1, .slice a2 z3.length c2, .slice a3 z4.length c3, .int .i64 z5], Box p37 [.int .i64 y20, .slice a145 y21.length c145, .slice a146 y22.length c146, .slice a147 y23.length c147, .int .i64 y24]] := HT
  refine ⟨_, rfl, (fun _ => ⟨(HT.boxAt 7 rfl).part 0 2, (HT.boxAt 8 rfl).part 0 3, trivial⟩), fun a HF => ?_⟩
  refine wc_call HF cf12 rfl (w_laws_toThings fuel hx30 (HT.ro hr_x2_0).any (HT.ro hr_x2_1).any) rfl rfl ?_
  rintro e w ⟨a279, n279, c279, a280, n280, c280, rfl, hE⟩
  have hb := hE.below
  have HT := HT.pure hE
  obtain rfl := (HT.rdAt 0 rfl).neq
  obtain rfl := (HT.rdAt 1 rfl).neq
  have HT : St w0 (fun _ => False) w [Own 3 (rowT y52) (.slice a279 y52.length c279), Own 3 (rowT y53) (.slice a280 y53.length c280), Own 3 (rowT y51) (.slice a278 y51.length c278), Box p68 [.int .i64 0, .slice none 0 0, .slice none 0 0, .slice none 0 0, .int .i64 0], Own 85 (rowT y49) (.slice a220 y49.length c220), Own 127 (rowT y50) (.slice a221 y50.length c221), OwnA (rowT y45) (.slice a145 y21.length c145), OwnA (rowT y46) (.slice a146 y22.length c146), OwnA (rowT y47) (.slice a147 y23.length c147), Box p1 [.slice a_x0_0 x0_0.length c_x0_0, .slice a_x0_1 x0_1.length c_x0_1], Box p2 [.slice a_x2_0 x2_0.length c_x2_0, .slice a_x2_1 x2_1.length c_x2_1, .int .i64 x2_2], Own 3 (rowT z2) (.slice a1 z2.length c1), Own 3 (rowT z3) (.slice a2 z3.length c2), Own 3 (rowT z4) (.slice a3 z4.length c3), Box p3 [.int .i64 z1, .slice a1 z2.length c1, .slice a2 z3.length c2, .slice a3 z4.length c3, .int .i64 z5], Box p37 [.int .i64 y20, .slice a145 y21.length c145, .slice a146 y22.length c146, .slice a147 y23.length c147, .int .i64 y24]] := HT
  refine ⟨_, rfl, nS, fun a HF => ?_⟩
  refine wc_call HF cf30 rfl (w_impl_Serial fuel hx31 (HT.rdAt 4 rfl) (HT.rdAt 5 rfl) (HT.rdAt 2 rfl) (HT.rdAt 0 rfl) (HT.rdAt 1 rfl)) rfl rfl ?_
  rintro e w ⟨a281, n281, c281, a282, n282, c282, a283, n283, c283, rfl, hE⟩
  have hb := hE.below
  have HT := HT.pure hE
  obtain rfl := (HT.rdAAt 0 rfl).neq
  obtain rfl := (HT.rdAAt 1 rfl).neq
  obtain rfl := (HT.rdAAt 2 rfl).neq
  have HT : St w0 (fun _ => False) w [OwnA (rowT y56) (.slice a281 y56.length c281), OwnA (rowT y57) (.slice a282 y57.length c282), OwnA (rowT y58) (.slice a283 y58.length c283), Own 3 (rowT y52) (.slice a279 y52.length c279), Own 3 (rowT y53) (.slice a280 y53.length c280), Own 3 (rowT y51) (.slice a278 y51.length c278), Box p68 [.int .i64 0, .slice none 0 0, .slice none 0 0, .slice none 0 0, .int .i64 0], Own 85 (rowT y49) (.slice a220 y49.length c220), Own 127 (rowT y50) (.slice a221 y50.length c221), OwnA (rowT y45) (.slice a145 y21.length c145), OwnA (rowT y46) (.slice a146 y22.length c146), OwnA (rowT y47) (.slice a147 y23.length c147), Box p1 [.slice a_x0_0 x0_0.length c_x0_0, .slice a_x0_1 x0_1.length c_x0_1], Box p2 [.slice a_x2_0 x2_0.length c_x2_0, .slice a_x2_1 x2_1.length c_x2_1, .int .i64 x2_2], Own 3 (rowT z2) (.slice a1 z2.length c1), Own 3 (rowT z3) (.slice a2 z3.length c2), Own 3 (rowT z4) (.slice a3 z4.length c3), Box p3 [.int .i64 z1, .slice a1 z2.length c1, .slice a2 z3.length c2, .slice a3 z4.length c3, .int .i64 z5], Box p37 [.int .i64 y20, .slice a145 y21.length c145, .slice a146 y22.length c146, .slice a147 y23.length c147, .int .i64 y24]] := HT
  refine ⟨_, rfl, nS, fun a HF => ?_⟩
  have HT := HT.p6
  refine wc_storeB (cs' := [.int .i64 y55, .slice a281 y56.length c281, .slice a282 y57.length c282, .slice a283 y58.length c283, .int .i64 y59]) HF HT rfl rfl (fun w => (ag49 w).2) rfl rfl rfl rfl rfl (fun w HT => ⟨nS, ?_⟩)
  refine wc_endT ?_
  refine wt_stop ?_
  have HT := HT.p3.p3.p3.p18.p12.p12.p12.p18.p18.p18.p18.t12
  have hj41 := Option.some.inj h
  obtain ⟨hi41, hj42⟩ := Prod.mk.inj hj41
  subst hi41
  obtain ⟨hi42, hj43⟩ := Prod.mk.inj hj42
  subst hi42
  obtain ⟨hi43, hj44⟩ := Prod.mk.inj hj43
  subst hi43
  obtain ⟨hi44, hj45⟩ := Prod.mk.inj hj44
  subst hi44
  subst hj45
  exact then_n ⟨a281, y56.length, c281, a282, y57.length, c282, a283, y58.length, c283, p68, (HF.keep (HF.keep (HF.keep (HF.keep HF.nil rfl) rfl) rfl) rfl), HT⟩
  exact wt_none
  refine wt_alt ?_ ?_
  refine wc_alloc (cs := [.int .i64 0, .slice none 0 0, .slice none 0 0, .slice none 0 0, .int .i64 0]) HF HT zr49 rfl rfl rfl (fun p69 w HT hb => ⟨(fun _ => ⟨(HT.boxAt 4 rfl).part 0 2, (HT.boxAt 5 rfl).part 0 3, trivial⟩), fun a HF => ?_⟩)
  refine wc_endT ?_
  refine wt_seg ?_
  refine wc_call HF cf29 rfl (w_laws_toProg fuel hx28 (HT.ro hr_x0_0).any (HT.ro hr_x0_1).any) rfl rfl ?_
  rintro e w ⟨a284, n284, c284, a285, n285, c285, rfl, hE⟩
  have hb := hE.below
  have HT := HT.pure hE
  obtain rfl := (HT.rdAt 0 rfl).neq
  obtain rfl := (HT.rdAt 1 rfl).neq
  have HT : St w0 (fun _ => False) w [Own 85 (rowT y49) (.slice a284 y49.length c284), Own 127 (rowT y50) (.slice a285 y50.length c285), Box p69 [.int .i64 0, .slice none 0 0, .slice none 0 0, .slice none 0 0, .int .i64 0], OwnA (rowT y45) (.slice a145 y21.length c145), OwnA (rowT y46) (.slice a146 y22.length c146), OwnA (rowT y47) (.slice a147 y23.length c147), Box p1 [.slice a_x0_0 x0_0.length c_x0_0, .slice a_x0_1 x0_1.length c_x0_1], Box p2 [.slice a_x2_0 x2_0.length c_x2_0, .slice a_x2_1 x2_1.length c_x2_1, .int .i64 x2_2], Own 3 (rowT z2) (.slice a1 z2.length c1), Own 3 (rowT z3) (.slice a2 z3.length c2), Own 3 (rowT z4) (.slice a3 z4.length c3), Box p3 [.int .i64 z1, .slice a1 z2.length c1, .slice a2 z3.length c2, .slice a3 z4.length c3, .int .i64 z5], Box p37 [.int .i64 y20, .slice a145 y21.length c145, .slice a146 y22.length c146, .slice a147 y23.length c147, .int .i64 y24]] := HT
  refine ⟨_, rfl, (fun _ => ⟨(HT.boxAt 6 rfl).part 0 2, (HT.boxAt 7 rfl).part 0 3, trivial⟩), fun a HF => ?_⟩
  refine wc_call HF cf20 rfl (w_laws_toIntS fuel hx29 (HT.ro hr_x1).any) rfl rfl ?_
  rintro e w ⟨a286, n286, c286, rfl, hE⟩
  have hb := hE.below
  have HT := HT.pure hE
  obtain rfl := (HT.rdAt 0 rfl).neq
  have HT : St w0 (fun _ => False) w [Own 3 (rowT y51) (.slice a286 y51.length c286), Own 85 (rowT y49) (.slice a284 y49.length c284), Own 127 (rowT y50) (.slice a285 y50.length c285), Box p69 [.int .i64 0, .slice none 0 0, .slice none 0 0, .slice none 0 0, .int .i64 0], OwnA (rowT y45) (.slice a145 y21.length c145), OwnA (rowT y46) (.slice a146 y22.length c146), OwnA (rowT y47) (.slice a147 y23.length c147), Box p1 [.slice a_x0_0 x0_0.length c_x0_0, .slice a_x0_1 x0_1.length c_x0_1], Box p2 [.slice a_x2_0 x2_0.length c_x2_0, .slice a_x2_1 x2_1.length c_x2_1, .int .i64 x2_2], Own 3 (rowT z2) (.slice a1 z2.length c1), Own 3 (rowT z3) (.slice a2 z3.length c2), Own 3 (rowT z4) (.slice a3 z4.length c3), Box p3 [.int .i64 z1, .slice a1 z2.length c1, .slice a2 z3.length c2, .slice a3 z4.length c3, .int .i64 z5], Box p37 [.int .i64 y20, .slice a145 y21.length c145, .slice a146 y22.length c146, .slice a147 y23.length c147, .int .i64 y24]] := HT
  refine ⟨_, rfl, (fun _ => ⟨(HT.boxAt 7 rfl).part 0 2, (HT.boxAt 8 rfl).part 0 3, trivial⟩), fun a HF => ?_⟩
  refine wc_call HF cf12 rfl (w_laws_toThings fuel hx30 (HT.ro hr_x2_0).any (HT.ro hr_x2_1).any) rfl rfl ?_
  rintro e w ⟨a287, n287, c287, a288, n288, c288, rfl, hE⟩
  have hb := hE.below
  have HT := HT.pure hE
  obtain rfl := (HT.rdAt 0 rfl).neq
  obtain rfl := (HT.rdAt 1 rfl).neq
  have HT : St w0 (fun _ => False) w [Own 3 (rowT y52) (.slice a287 y52.length c287), Own 3 (rowT y53) (.slice a288 y53.length c288), Own 3 (rowT y51) (.slice a286 y51.length c286), Own 85 (rowT y49) (.slice a284 y49.length c284), Own 127 (rowT y50) (.slice a285 y50.length c285), Box p69 [.int .i64 0, .slice none 0 0, .slice none 0 0, .slice none 0 0, .int .i64 0], OwnA (rowT y45) (.slice a145 y21.length c145), OwnA (rowT y46) (.slice a146 y22.length c146), OwnA (rowT y47) (.slice a147 y23.length c147), Box p1 [.slice a_x0_0 x0_0.length c_x0_0, .slice a_x0_1 x0_1.length c_x0_1], Box p2 [.slice a_x2_0 x2_0.length c_x2_0, .slice a_x2_1 x2_1.length c_x2_1, .int .i64 x2_2], Own 3 (rowT z2) (.slice a1 z2.length c1), Own 3 (rowT z3) (.slice a2 z3.length c2), Own 3 (rowT z4) (.slice a3 z4.length c3), Box p3 [.int .i64 z1, .slice a1 z2.length c1, .slice a2 z3.length c2, .slice a3 z4.length c3, .int .i64 z5], Box p37 [.int .i64 y20, .slice a145 y21.length c145, .slice a146 y22.length c146, .slice a147 y23.length c147, .int .i64 y24]] := HT
  refine ⟨_, rfl, nS, fun a HF => ?_⟩
  refine wc_call HF cf30 rfl (w_impl_Serial fuel hx31 (HT.rdAt 3 rfl) (HT.rdAt 4 rfl) (HT.rdAt 2 rfl) (HT.rdAt 0 rfl) (HT.rdAt 1 rfl)) rfl rfl ?_
  rintro e w ⟨a289, n289, c289, a290, n290, c290, a291, n291, c291, rfl, hE⟩
  have hb := hE.below
  have HT := HT.pure hE
  obtain rfl := (HT.rdAAt 0 rfl).neq
  obtain rfl := (HT.rdAAt 1 rfl).neq
  obtain rfl := (HT.rdAAt 2 rfl).neq
  have HT : St w0 (fun _ => False) w [OwnA (rowT y56) (.slice a289 y56.length c289), OwnA (rowT y57) (.slice a290 y57.length c290), OwnA (rowT y58) (.slice a291 y58.length c291), Own 3 (rowT y52) (.slice a287 y52.length c287), Own 3 (rowT y53) (.slice a288 y53.length c288), Own 3 (rowT y51) (.slice a286 y51.length c286), Own 85 (rowT y49) (.slice a284 y49.length c284), Own 127 (rowT y50) (.slice a285 y50.length c285), Box p69 [.int .i64 0, .slice none 0 0, .slice none 0 0, .slice none 0 0, .int .i64 0], OwnA (rowT y45) (.slice a145 y21.length c145), OwnA (rowT y46) (.slice a146 y22.length c146), OwnA (rowT y47) (.slice a147 y23.length c147), Box p1 [.slice a_x0_0 x0_0.length c_x0_0, .slice a_x0_1 x0_1.length c_x0_1], Box p2 [.slice a_x2_0 x2_0.length c_x2_0, .slice a_x2_1 x2_1.length c_x2_1, .int .i64 x2_2], Own 3 (rowT z2) (.slice a1 z2.length c1), Own 3 (rowT z3) (.slice a2 z3.length c2), Own 3 (rowT z4) (.slice a3 z4.length c3), Box p3 [.int .i64 z1, .slice a1 z2.length c1, .slice a2 z3.length c2, .slice a3 z4.length c3, .int .i64 z5], Box p37 [.int .i64 y20, .slice a145 y21.length c145, .slice a146 y22.length c146, .slice a147 y23.length c147, .int .i64 y24]] := HT
  refine ⟨_, rfl, nS, fun a HF => ?_⟩
  have HT := HT.p8
  refine wc_storeB (cs' := [.int .i64 y55, .slice a289 y56.length c289, .slice a290 y57.length c290, .slice a291 y58.length c291, .int .i64 y59]) HF HT rfl rfl (fun w => (ag49 w).2) rfl rfl rfl rfl rfl (fun w HT => ⟨nS, ?_⟩)
  refine wc_endT ?_
  refine wt_stop ?_
  have HT := HT.p3.p3.p3.p18.p12.p12.p12.p18.p18.p18.p18.t12
  have hj46 := Option.some.inj h
  obtain ⟨hi46, hj47⟩ := Prod.mk.inj hj46
  subst hi46
  obtain ⟨hi47, hj48⟩ := Prod.mk.inj hj47
  subst hi47
  obtain ⟨hi48, hj49⟩ := Prod.mk.inj hj48
  subst hi48
  obtain ⟨hi49, hj50⟩ := Prod.mk.inj hj49
  subst hi49
  subst hj50
  exact then_n ⟨a289, y56.length, c289, a290, y57.length, c290, a291, y58.length, c291, p69, (HF.keep (HF.keep (HF.keep (HF.keep HF.nil rfl) rfl) rfl) rfl), HT⟩
  exact wt_none
  rintro a w ⟨a153, n153, c153, a154, n154, c154, a155, n155, c155, p38, HF, HT⟩
  obtain rfl := (HT.rdAAt 8 rfl).neq
  obtain rfl := (HT.rdAAt 9 rfl).neq
  obtain rfl := (HT.rdAAt 10 rfl).neq
  refine ?_
  refine wp_seq ?_
  refine wp_seq ?_
  refine wc_text ?_
  refine wc_loadA (vs := [.int .i64 z7, .slice a153 z8.length c153, .slice a154 z9.length c154, .slice a155 z10.length c155, .int .i64 z11]) HF rfl ag49 rfl ((HT.boxAt 11 rfl).part 0 5) rfl rfl (fun a HF => ?_)
  refine wc_loadA (vs := [.int .i64 z1, .slice a1 z2.length c1, .slice a2 z3.length c2, .slice a3 z4.length c3, .int .i64 z5]) HF rfl ag49 rfl ((HT.boxAt 3 rfl).part 0 5) rfl rfl (fun a HF => ?_)
  obtain ⟨y60, hx32, h⟩ := obs h
  refine wc_call HF cf31 rfl (w_laws_eqRun fuel hx32 (HT.rdAAt 8 rfl) (HT.rdAAt 9 rfl) (HT.rdAAt 10 rfl) (HT.rdAt 0 rfl) (HT.rdAt 1 rfl) (HT.rdAt 2 rfl)) rfl rfl ?_
  rintro e w ⟨rfl, hE⟩
  have hb := hE.below
  have HT := HT.pure hE
  have HT : St w0 (fun _ => False) w [Own 3 (rowT z2) (.slice a1 z2.length c1), Own 3 (rowT z3) (.slice a2 z3.length c2), Own 3 (rowT z4) (.slice a3 z4.length c3), Box p3 [.int .i64 z1, .slice a1 z2.length c1, .slice a2 z3.length c2, .slice a3 z4.length c3, .int .i64 z5], OwnA (rowT y45) (.slice a145 y21.length c145), OwnA (rowT y46) (.slice a146 y22.length c146), OwnA (rowT y47) (.slice a147 y23.length c147), Box p37 [.int .i64 y20, .slice a145 y21.length c145, .slice a146 y22.length c146, .slice a147 y23.length c147, .int .i64 y24], OwnA (rowT z8) (.slice a153 z8.length c153), OwnA (rowT z9) (.slice a154 z9.length c154), OwnA (rowT z10) (.slice a155 z10.length c155), Box p38 [.int .i64 z7, .slice a153 z8.length c153, .slice a154 z9.length c154, .slice a155 z10.length c155, .int .i64 z11]] := HT
  refine ⟨_, rfl, nS, fun a HF => ?_⟩
  refine wc_not HF nS rfl rfl rfl (fun a HF => ?_)
  refine wc_end ?_
  refine then_n ?_
  by_cases hb12 : y60 = true
  have h := (if_pos hb12).symm.trans h
  refine wp_if (b' := false) HF rfl (notT hb12) ?_
  refine wp_skip ?_
  refine then_n ?_
  refine wp_seq ?_
  refine wc_text ?_
  refine wc_assign HF nS rfl rfl rfl (fun a HF => ?_)
  refine wc_end ?_
  refine then_n ?_
  refine wp_seq ?_
  refine wc_text ?_
  refine wc_loadA (vs := [.int .i64 y20, .slice a145 y21.length c145, .slice a146 y22.length c146, .slice a147 y23.length c147, .int .i64 y24]) HF rfl ag49 rfl ((HT.boxAt 7 rfl).part 0 5) rfl rfl (fun a HF => ?_)
  refine wc_move HF nS rfl rfl rfl (fun a HF => ?_)
  obtain ⟨y61, hx33, h⟩ := obs h
  refine wc_call HF cf36 rfl (w_laws_heldRun fuel hx33 (HT.rdAAt 4 rfl) (HT.rdAAt 5 rfl) (HT.rdAAt 6 rfl)) rfl rfl ?_
  rintro e w ⟨rfl, hE⟩
  have hb := hE.below
  have HT := HT.pure hE
  have HT : St w0 (fun _ => False) w [Own 3 (rowT z2) (.slice a1 z2.length c1), Own 3 (rowT z3) (.slice a2 z3.length c2), Own 3 (rowT z4) (.slice a3 z4.length c3), Box p3 [.int .i64 z1, .slice a1 z2.length c1, .slice a2 z3.length c2, .slice a3 z4.length c3, .int .i64 z5], OwnA (rowT y45) (.slice a145 y21.length c145), OwnA (rowT y46) (.slice a146 y22.length c146), OwnA (rowT y47) (.slice a147 y23.length c147), Box p37 [.int .i64 y20, .slice a145 y21.length c145, .slice a146 y22.length c146, .slice a147 y23.length c147, .int .i64 y24], OwnA (rowT z8) (.slice a153 z8.length c153), OwnA (rowT z9) (.slice a154 z9.length c154), OwnA (rowT z10) (.slice a155 z10.length c155), Box p38 [.int .i64 z7, .slice a153 z8.length c153, .slice a154 z9.length c154, .slice a155 z10.length c155, .int .i64 z11]] := HT
  refine ⟨_, rfl, nS, fun a HF => ?_⟩
  refine wc_assign HF nS rfl rfl rfl (fun a HF => ?_)
  refine wc_end ?_
  refine then_n ?_
  refine wp_seq ?_
  refine wp_seq ?_
  refine wc_text ?_
  refine wc_move HF nS rfl rfl rfl (fun a HF => ?_)
  refine wc_bin HF nS rfl rfl b_lt rfl rfl (fun a HF => ?_)
  refine wc_end ?_
  refine then_n ?_
  by_cases hb13 : y61 < 0
  have h := (if_pos hb13).symm.trans h
  refine wp_if (b' := true) HF rfl (decide_eq_true hb13) ?_
  refine wp_seq ?_
  refine wc_text ?_
  refine wc_assign HF nS rfl rfl rfl (fun a HF => ?_)
  refine wc_end ?_
  refine then_n ?_
  refine wp_ret ?_
  obtain rfl := Option.some.inj h
  refine then_r (?_)
  refine bp_ret HF (res_one rfl HF rfl) ?_
  have HT := HT.t0
  exact ⟨rfl, HT⟩
  have h := (if_neg hb13).symm.trans h
  refine wp_if (b' := false) HF rfl (decide_eq_false hb13) ?_
  refine wp_skip ?_
  refine then_n ?_
  refine wp_seq ?_
  refine wp_seq ?_
  refine wc_text ?_
  refine wc_move HF nS rfl rfl rfl (fun a HF => ?_)
  refine wc_move HF nS rfl rfl rfl (fun a HF => ?_)
  refine wc_bin HF nS rfl rfl b_ne rfl rfl (fun a HF => ?_)
  refine wc_end ?_
  refine then_n ?_
  by_cases hb14 : y61 = y44
  have h := (if_pos hb14).symm.trans h
  refine wp_if (b' := false) HF rfl (notT (decide_eq_true hb14)) ?_
  refine wp_skip ?_
  refine then_n ?_
  refine wp_seq ?_
  refine wc_text ?_
  refine wc_assign HF nS rfl rfl rfl (fun a HF => ?_)
  refine wc_end ?_
  refine then_n ?_
  refine wp_ret ?_
  obtain rfl := Option.some.inj h
  refine bp_ret HF (res_one rfl HF rfl) ?_
  have HT := HT.t0
  exact ⟨rfl, HT⟩
  have h := (if_neg hb14).symm.trans h
  refine wp_if (b' := true) HF rfl (notF (decide_eq_false hb14)) ?_
  refine wp_seq ?_
  refine wc_text ?_
  refine wc_assign HF nS rfl rfl rfl (fun a HF => ?_)
  refine wc_end ?_
  refine then_n ?_
  refine wp_ret ?_
  obtain rfl := Option.some.inj h
  refine then_r (?_)
  refine bp_ret HF (res_one rfl HF rfl) ?_
  have HT := HT.t0
  exact ⟨rfl, HT⟩
  have h := (if_neg hb12).symm.trans h
  refine wp_if (b' := true) HF rfl (notF (Bool.eq_false_iff.2 hb12)) ?_
  refine wp_seq ?_
  refine wc_text ?_
  refine wc_assign HF nS rfl rfl rfl (fun a HF => ?_)
  refine wc_end ?_
  refine then_n ?_
  refine wp_ret ?_
  obtain rfl := Option.some.inj h
  refine then_r (?_)
  refine bp_ret HF (res_one rfl HF rfl) ?_
  have HT := HT.t0
  exact ⟨rfl, HT⟩
  have h := (if_neg hb11).symm.trans h
  refine wp_if (b' := true) HF rfl (notF (decide_eq_false hb11)) ?_
  refine wp_seq ?_
  refine wc_text ?_
  refine wc_assign HF nS rfl rfl rfl (fun a HF => ?_)
  refine wc_end ?_
  refine then_n ?_
  refine wp_ret ?_
  obtain rfl := Option.some.inj h
  refine then_r (?_)
  refine bp_ret HF (res_one rfl HF rfl) ?_
  have HT := HT.t0
  exact ⟨rfl, HT⟩
  have h := (if_neg hb7).symm.trans h
  refine wp_if (b' := true) HF rfl (notF (Bool.eq_false_iff.2 hb7)) ?_
  refine wp_seq ?_
  refine wc_text ?_
  refine wc_assign HF nS rfl rfl rfl (fun a HF => ?_)
  refine wc_end ?_
  refine then_n ?_
  refine wp_ret ?_
  obtain rfl := Option.some.inj h
  refine then_r (?_)
  refine bp_ret HF (res_one rfl HF rfl) ?_
  have HT := HT.t0
  exact ⟨rfl, HT⟩
  have h := (if_neg hb6).symm.trans h
  refine wp_if (b' := true) HF rfl (notF (Bool.eq_false_iff.2 hb6)) ?_
  refine wp_seq ?_
  refine wc_text ?_
  refine wc_assign HF nS rfl rfl rfl (fun a HF => ?_)
  refine wc_end ?_
  refine then_n ?_
  refine wp_ret ?_
  obtain rfl := Option.some.inj h
  refine then_r (?_)
  refine bp_ret HF (res_one rfl HF rfl) ?_
  have HT := HT.t0
  exact ⟨rfl, HT⟩
  have h := (if_neg hb5).symm.trans h
  refine wp_if (b' := true) HF rfl (notF (Bool.eq_false_iff.2 hb5)) ?_
  refine wp_seq ?_
  refine wc_text ?_
  refine wc_assign HF nS rfl rfl rfl (fun a HF => ?_)
  refine wc_end ?_
  refine then_n ?_
  refine wp_ret ?_
  obtain rfl := Option.some.inj h
  refine then_r (?_)
  refine bp_ret HF (res_one rfl HF rfl) ?_
  have HT := HT.t0
  exact ⟨rfl, HT⟩
  have h := (if_neg hb4).symm.trans h
  refine wp_if (b' := true) HF rfl (notF (Bool.eq_false_iff.2 hb4)) ?_
  refine wp_seq ?_
  refine wc_text ?_
  refine wc_assign HF nS rfl rfl rfl (fun a HF => ?_)
  refine wc_end ?_
  refine then_n ?_
  refine wp_ret ?_
  obtain rfl := Option.some.inj h
  refine then_r (?_)
  refine bp_ret HF (res_one rfl HF rfl) ?_
  have HT := HT.t0
  exact ⟨rfl, HT⟩

end Go.Proofs.Ytknghnmcckjjbaa
