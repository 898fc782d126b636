/- Walks of the helpers of the laws on memories. -/
import Derived.Test.YtmhdjnmfioaciaaTy
import Derived.Test.YtmhdjnmfioaciaaG1
namespace Go.Proofs.Ytmhdjnmfioaciaa
open Go Go.RowKit
set_option linter.unusedVariables false
set_option linter.unusedSimpArgs false
def m_laws_toWord (fuel : Nat) (x0_0 : Int) (x0_1 : Int) (x0_2 : Int) : Option (Int × Int × Int) :=
  some (x0_0, x0_1, x0_2)

set_option maxRecDepth 100000 in
set_option maxHeartbeats 4000000 in
theorem w_laws_toWord (fuel : Nat) {x0_0 : Int} {x0_1 : Int} {x0_2 : Int} {r0_0 : Int} {r0_1 : Int} {r0_2 : Int} {w0 : World} (h : m_laws_toWord fuel x0_0 x0_1 x0_2 = some (r0_0, r0_1, r0_2)) :
    Calls Try.prog 66 #[.agg #[.int .i64 x0_0, .int .i64 x0_1, .int .i64 x0_2]] w0 fun e w => e = .returned (.agg #[.int .i64 r0_0, .int .i64 r0_1, .int .i64 r0_2]) ∧ St w0 (fun _ => False) w [] := by
  have HT : St w0 (fun _ => False) w0 [] := St.init0
  rw [m_laws_toWord] at h
  refine calls_fr (n := 14) [.agg #[.int .i64 x0_0, .int .i64 x0_1, .int .i64 x0_2]] Try.func66 rfl rfl rfl (fun a HF => ?_)
  have HT : St w0 (fun _ => False) w0 [] := HT
  refine wp_seq ?_
  refine wc_text ?_
  refine wc_box (cs := [.int .i64 x0_0, .int .i64 x0_1, .int .i64 x0_2]) HF HT rfl rfl rfl rfl (fun p1 w HT hb => ⟨nS, fun a HF => ?_⟩)
  refine wc_alloc (cs := [.int .i64 0, .int .i64 0, .int .i64 0]) HF HT zr61 rfl rfl rfl (fun p2 w HT hb => ⟨nS, fun a HF => ?_⟩)
  refine wc_end ?_
  refine then_n ?_
  refine wp_seq ?_
  refine wc_text ?_
  refine wc_alloc (cs := [.int .i64 0, .int .i64 0, .int .i64 0]) HF HT zr61 rfl rfl rfl (fun p3 w HT hb => ⟨nS, fun a HF => ?_⟩)
  refine wc_end ?_
  refine then_n ?_
  refine wp_seq ?_
  refine wc_text ?_
  refine wc_faddr HF nS rfl fl75_0 rfl rfl (fun a HF => ?_)
  refine wc_load HF rfl sc3 ((HT.boxAt 2 rfl).get 0 rfl) rfl rfl (fun a HF => ?_)
  refine wc_faddr HF nS rfl fl61_0 rfl rfl (fun a HF => ?_)
  refine wc_storeB (cs' := [.int .i64 x0_0, .int .i64 0, .int .i64 0]) HF HT rfl rfl (fun w => (sc3 w).2) rfl rfl rfl rfl rfl (fun w HT => ⟨nS, ?_⟩)
  refine wc_end ?_
  refine then_n ?_
  refine wp_seq ?_
  refine wc_text ?_
  refine wc_faddr HF nS rfl fl75_1 rfl rfl (fun a HF => ?_)
  refine wc_load HF rfl sc3 ((HT.boxAt 2 rfl).get 1 rfl) rfl rfl (fun a HF => ?_)
  refine wc_faddr HF nS rfl fl61_1 rfl rfl (fun a HF => ?_)
  refine wc_storeB (cs' := [.int .i64 x0_0, .int .i64 x0_1, .int .i64 0]) HF HT rfl rfl (fun w => (sc3 w).2) rfl rfl rfl rfl rfl (fun w HT => ⟨nS, ?_⟩)
  refine wc_end ?_
  refine then_n ?_
  refine wp_seq ?_
  refine wc_text ?_
  refine wc_faddr HF nS rfl fl75_2 rfl rfl (fun a HF => ?_)
  refine wc_load HF rfl sc3 ((HT.boxAt 2 rfl).get 2 rfl) rfl rfl (fun a HF => ?_)
  refine wc_faddr HF nS rfl fl61_2 rfl rfl (fun a HF => ?_)
  refine wc_storeB (cs' := [.int .i64 x0_0, .int .i64 x0_1, .int .i64 x0_2]) HF HT rfl rfl (fun w => (sc3 w).2) rfl rfl rfl rfl rfl (fun w HT => ⟨nS, ?_⟩)
  refine wc_end ?_
  refine then_n ?_
  refine wp_seq ?_
  refine wc_text ?_
  refine wc_loadA (vs := [.int .i64 x0_0, .int .i64 x0_1, .int .i64 x0_2]) HF rfl ag61 rfl ((HT.boxAt 0 rfl).part 0 3) rfl rfl (fun a HF => ?_)
  have HT : St w0 (fun _ => False) w [Box p2 [.int .i64 0, .int .i64 0, .int .i64 0], Box p3 [.int .i64 x0_0, .int .i64 x0_1, .int .i64 x0_2], Box p1 [.int .i64 x0_0, .int .i64 x0_1, .int .i64 x0_2]] := HT.pick 1
  refine wc_storeB (cs' := [.int .i64 x0_0, .int .i64 x0_1, .int .i64 x0_2]) HF HT rfl rfl (fun w => (ag61 w).2) rfl rfl rfl rfl rfl (fun w HT => ⟨nS, ?_⟩)
  refine wc_end ?_
  refine then_n ?_
  refine wp_ret ?_
  have hj1 := Option.some.inj h
  obtain ⟨hi1, hj2⟩ := Prod.mk.inj hj1
  subst hi1
  obtain ⟨hi2, hj3⟩ := Prod.mk.inj hj2
  subst hi2
  subst hj3
  refine bp_ret HF (res_cell (vs := [.int .i64 x0_0, .int .i64 x0_1, .int .i64 x0_2]) rfl HF rfl ag61 rfl (HT.boxAt 0 rfl)) ?_
  have HT : St w0 (fun _ => False) w [] := HT.take 0
  exact ⟨rfl, HT⟩

def m_laws_toWordS_L0 (fuel : Nat) (x0 : List I3) : Nat → (List I3) → Int → Option (List I3)
  | 0, _, _ => none
  | k1 + 1, z2, z3 =>
    if z3 < (x0.length : Int) then
      (at? x0 z3).bind fun e1 =>
      bind3 (m_laws_toWord fuel e1.a e1.b e1.c) fun y1 y2 y3 =>
      (at? z2 z3).bind fun e2 =>
      if in64 (z3 + 1) then
        m_laws_toWordS_L0 fuel x0 k1 (z2.set z3.toNat (⟨y1, y2, y3⟩ : I3)) (z3 + 1)
      else none
    else
      some z2

def m_laws_toWordS (fuel : Nat) (x0 : List I3) : Option (List I3) :=
  if 0 ≤ ((x0.length : Int) : Int) ∧ (x0.length : Int) ≤ 1048576 then
    (m_laws_toWordS_L0 fuel x0 fuel (List.replicate ((x0.length : Int) : Int).toNat ((⟨0, 0, 0⟩ : I3) : I3)) 0).bind fun z1 =>
    some z1
  else none

set_option maxRecDepth 100000 in
set_option maxHeartbeats 4000000 in
theorem w_laws_toWordS (fuel : Nat) {x0 : List I3} {a_x0 : Option Addr} {n_x0 c_x0 : Nat} {r0 : List I3} {w0 : World} (h : m_laws_toWordS fuel x0 = some r0) (hr_x0 : RdT (fun b => ¬ False) w0 (rowT x0) (.slice a_x0 n_x0 c_x0)) :
    Calls Try.prog 48 #[.slice a_x0 n_x0 c_x0] w0 fun e w => ∃ a_r0 n_r0 c_r0, e = .returned (.slice a_r0 n_r0 c_r0) ∧ St w0 (fun _ => False) w [Own 61 (rowT r0) (.slice a_r0 n_r0 c_r0)] := by
  obtain rfl := hr_x0.neq
  have HT : St w0 (fun _ => False) w0 [] := St.init0
  rw [m_laws_toWordS] at h
  refine calls_fr (n := 23) [.slice a_x0 x0.length c_x0] Try.func48 rfl rfl rfl (fun a HF => ?_)
  have HT : St w0 (fun _ => False) w0 [] := HT
  refine wp_seq ?_
  refine wc_text ?_
  refine wc_assign HF nS rfl rfl rfl (fun a HF => ?_)
  refine wc_end ?_
  refine then_n ?_
  refine wp_seq ?_
  refine wc_text ?_
  refine wc_move HF nS rfl rfl rfl (fun a HF => ?_)
  refine wc_lenR HF nS Try.underlying22 rfl rfl rfl (fun a HF => ?_)
  obtain ⟨hg1, h⟩ := grd h
  refine wc_make (x := ((⟨0, 0, 0⟩ : I3) : I3)) HF HT el27 rfl rfl hg1 rfl rfl rfl rfl (fun p1 w HT hb => ⟨nS, fun a HF => ?_⟩)
  refine wc_assign HF nS rfl rfl rfl (fun a HF => ?_)
  refine wc_end ?_
  refine then_n ?_
  obtain ⟨z1, hx1, h⟩ := obs h
  refine wp_cut (fun a w => ∃ a1 n1 c1, Fr a 23 [(2, .slice none 0 0), (3, .slice a1 n1 c1)] ∧ St w0 (fun _ => False) w [Own 61 (rowT z1) (.slice a1 n1 c1)]) ?_ ?_
  · have hk1 := h
    have h := hx1
    refine wp_seq ?_
    refine wc_text ?_
    refine wc_assign HF nS rfl rfl rfl (fun a HF => ?_)
    refine wc_end ?_
    refine then_n ?_
    refine wp_block ?_
    refine wp_loopN (fun k1 a w => ∃ z2 z3 a2 n2 c2, m_laws_toWordS_L0 fuel x0 k1 z2 z3 = some z1 ∧ Fr a 23 [(0, .slice a_x0 x0.length c_x0), (2, .slice none 0 0), (3, .slice a2 n2 c2), (4, .int .i64 z3)] ∧ St w0 (fun _ => False) w [Own 61 (rowT z2) (.slice a2 n2 c2)]) fuel ⟨List.replicate ((x0.length : Int) : Int).toNat ((⟨0, 0, 0⟩ : I3) : I3), 0, (some ⟨p1, 0, none⟩), (List.replicate ((x0.length : Int) : Int).toNat ((⟨0, 0, 0⟩ : I3) : I3)).length, (List.replicate ((x0.length : Int) : Int).toNat ((⟨0, 0, 0⟩ : I3) : I3)).length, h, (HF.keep (HF.keep (HF.keep (HF.keep HF.nil rfl) rfl) rfl) rfl), HT⟩ ?_
    rintro k1 a w ⟨z2, z3, a2, n2, c2, h, HF, HT⟩
    cases k1 with
    | zero => cases h
    | succ k1 =>
      rw [m_laws_toWordS_L0] at h
      obtain rfl := (HT.rdAt 0 rfl).neq
      refine ?_
      refine wp_seq ?_
      refine wp_seq ?_
      refine wc_text ?_
      refine wc_move HF nS rfl rfl rfl (fun a HF => ?_)
      refine wc_move HF nS rfl rfl rfl (fun a HF => ?_)
      refine wc_lenR HF nS Try.underlying22 rfl rfl rfl (fun a HF => ?_)
      refine wc_bin HF nS rfl rfl b_lt rfl rfl (fun a HF => ?_)
      refine wc_end ?_
      refine then_n ?_
      by_cases hb1 : z3 < (x0.length : Int)
      · have h := (if_pos hb1).symm.trans h
        refine wp_if (b' := true) HF rfl (decide_eq_true hb1) ?_
        refine wp_skip ?_
        refine then_n ?_
        refine wp_seq ?_
        refine wp_block ?_
        refine wc_text ?_
        refine wc_move HF nS rfl rfl rfl (fun a HF => ?_)
        refine wc_move HF nS rfl rfl rfl (fun a HF => ?_)
        refine wc_move HF nS rfl rfl rfl (fun a HF => ?_)
        refine wc_move HF nS rfl rfl rfl (fun a HF => ?_)
        obtain ⟨e1, hx2, h⟩ := obs h
        obtain ⟨b1, o1, ha1⟩ := (HT.ro hr_x0).any.addr hx2
        refine wc_ixaddr HF nS el22 rfl ha1 ((HT.ro hr_x0).any).neq rfl hx2 rfl rfl (fun a HF => ?_)
        have hc1 := (HT.ro hr_x0).any.flatAt ha1 hx2
        refine wc_loadA (vs := [.int .i64 e1.a, .int .i64 e1.b, .int .i64 e1.c]) HF rfl ag75 rfl (hc1.part 0 3) rfl rfl (fun a HF => ?_)
        obtain ⟨y1, y2, y3, hx3, h⟩ := obs3 h
        refine wc_call HF cf66 rfl (w_laws_toWord fuel hx3) rfl rfl ?_
        rintro e w ⟨rfl, hE⟩
        have hb := hE.below
        have HT := HT.pure hE
        have HT : St w0 (fun _ => False) w [Own 61 (rowT z2) (.slice a2 z2.length c2)] := HT
        refine ⟨_, rfl, nS, fun a HF => ?_⟩
        obtain ⟨e2, hx4, h⟩ := obs h
        obtain ⟨b2, o2, ha2⟩ := (HT.rdAt 0 rfl).addr hx4
        refine wc_ixaddr HF nS el27 rfl ha2 ((HT.rdAt 0 rfl)).neq rfl hx4 rfl rfl (fun a HF => ?_)
        refine wc_storeR (i := z3) (j := 0) (x' := (⟨y1, y2, y3⟩ : I3)) HF HT ha2 rfl rfl (fun w => (ag61 w).2) rfl rfl hx4 rfl rfl rfl rfl (fun w HT => ⟨nS, ?_⟩)
        refine wc_end ?_
        refine blk_n ?_
        refine then_n ?_
        refine wc_text ?_
        refine wc_move HF nS rfl rfl rfl (fun a HF => ?_)
        obtain ⟨hg2, h⟩ := grd h
        refine wc_bin HF nS rfl rfl (b_add hg2) rfl rfl (fun a HF => ?_)
        refine wc_assign HF nS rfl rfl rfl (fun a HF => ?_)
        refine wc_end ?_
        exact then_n ⟨k1, Nat.lt_succ_self k1, z2.set z3.toNat (⟨y1, y2, y3⟩ : I3), z3 + 1, a2, z2.length, c2, h, (HF.keep (HF.keep (HF.keep (HF.keep HF.nil rfl) rfl) rfl) rfl), HT⟩
      · have h := (if_neg hb1).symm.trans h
        refine wp_if (b' := false) HF rfl (decide_eq_false hb1) ?_
        refine wp_exit ?_
        refine then_x (then_x (?_))
        refine blk_x ?_
        obtain rfl := Option.some.inj h
        exact then_n ⟨a2, z2.length, c2, (HF.keep (HF.keep HF.nil rfl) rfl), HT⟩
  · rintro a w ⟨a1, n1, c1, HF, HT⟩
    obtain rfl := (HT.rdAt 0 rfl).neq
    refine ?_
    refine wp_seq ?_
    refine wc_text ?_
    refine wc_move HF nS rfl rfl rfl (fun a HF => ?_)
    refine wc_assign HF nS rfl rfl rfl (fun a HF => ?_)
    refine wc_end ?_
    refine then_n ?_
    refine wp_ret ?_
    obtain rfl := Option.some.inj h
    refine bp_ret HF (res_one rfl HF rfl) ?_
    exact ⟨a1, z1.length, c1, rfl, HT⟩

def m_laws_toMem (fuel : Nat) (x0_0 : Int) (x0_1 : List I3) : Option (Int × List I3) :=
  (m_laws_toWordS fuel x0_1).bind fun y1 =>
  some (x0_0, y1)

set_option maxRecDepth 100000 in
set_option maxHeartbeats 4000000 in
theorem w_laws_toMem (fuel : Nat) {x0_0 : Int} {x0_1 : List I3} {a_x0_1 : Option Addr} {n_x0_1 c_x0_1 : Nat} {r0_0 : Int} {r0_1 : List I3} {w0 : World} (h : m_laws_toMem fuel x0_0 x0_1 = some (r0_0, r0_1)) (hr_x0_1 : RdT (fun b => ¬ False) w0 (rowT x0_1) (.slice a_x0_1 n_x0_1 c_x0_1)) :
    Calls Try.prog 15 #[.agg #[.int .i64 x0_0, .slice a_x0_1 n_x0_1 c_x0_1]] w0 fun e w => ∃ a_r0_1 n_r0_1 c_r0_1, e = .returned (.agg #[.int .i64 r0_0, .slice a_r0_1 n_r0_1 c_r0_1]) ∧ St w0 (fun _ => False) w [Own 61 (rowT r0_1) (.slice a_r0_1 n_r0_1 c_r0_1)] := by
  obtain rfl := hr_x0_1.neq
  have HT : St w0 (fun _ => False) w0 [] := St.init0
  rw [m_laws_toMem] at h
  refine calls_fr (n := 12) [.agg #[.int .i64 x0_0, .slice a_x0_1 x0_1.length c_x0_1]] Try.func15 rfl rfl rfl (fun a HF => ?_)
  have HT : St w0 (fun _ => False) w0 [] := HT
  refine wp_seq ?_
  refine wc_text ?_
  refine wc_box (cs := [.int .i64 x0_0, .slice a_x0_1 x0_1.length c_x0_1]) HF HT rfl rfl rfl rfl (fun p1 w HT hb => ⟨nS, fun a HF => ?_⟩)
  refine wc_alloc (cs := [.int .i64 0, .slice none 0 0]) HF HT zr29 rfl rfl rfl (fun p2 w HT hb => ⟨nS, fun a HF => ?_⟩)
  refine wc_end ?_
  refine then_n ?_
  refine wp_seq ?_
  refine wc_text ?_
  refine wc_alloc (cs := [.int .i64 0, .slice none 0 0]) HF HT zr29 rfl rfl rfl (fun p3 w HT hb => ⟨nS, fun a HF => ?_⟩)
  refine wc_end ?_
  refine then_n ?_
  refine wp_seq ?_
  refine wc_text ?_
  refine wc_faddr HF nS rfl fl24_0 rfl rfl (fun a HF => ?_)
  refine wc_load HF rfl sc3 ((HT.boxAt 2 rfl).get 0 rfl) rfl rfl (fun a HF => ?_)
  refine wc_faddr HF nS rfl fl29_0 rfl rfl (fun a HF => ?_)
  refine wc_storeB (cs' := [.int .i64 x0_0, .slice none 0 0]) HF HT rfl rfl (fun w => (sc3 w).2) rfl rfl rfl rfl rfl (fun w HT => ⟨nS, ?_⟩)
  refine wc_end ?_
  refine then_n ?_
  refine wp_seq ?_
  refine wc_text ?_
  refine wc_faddr HF nS rfl fl24_1 rfl rfl (fun a HF => ?_)
  refine wc_load HF rfl sc22 ((HT.boxAt 2 rfl).get 1 rfl) rfl rfl (fun a HF => ?_)
  obtain ⟨y1, hx1, h⟩ := obs h
  refine wc_call HF cf48 rfl (w_laws_toWordS fuel hx1 (HT.ro hr_x0_1).any) rfl rfl ?_
  rintro e w ⟨a1, n1, c1, rfl, hE⟩
  have hb := hE.below
  have HT := HT.pure hE
  obtain rfl := (HT.rdAt 0 rfl).neq
  have HT : St w0 (fun _ => False) w [Own 61 (rowT y1) (.slice a1 y1.length c1), Box p3 [.int .i64 x0_0, .slice none 0 0], Box p2 [.int .i64 0, .slice none 0 0], Box p1 [.int .i64 x0_0, .slice a_x0_1 x0_1.length c_x0_1]] := HT
  refine ⟨_, rfl, nS, fun a HF => ?_⟩
  refine wc_faddr HF nS rfl fl29_1 rfl rfl (fun a HF => ?_)
  have HT : St w0 (fun _ => False) w [Box p3 [.int .i64 x0_0, .slice none 0 0], Own 61 (rowT y1) (.slice a1 y1.length c1), Box p2 [.int .i64 0, .slice none 0 0], Box p1 [.int .i64 x0_0, .slice a_x0_1 x0_1.length c_x0_1]] := HT.pick 1
  refine wc_storeB (cs' := [.int .i64 x0_0, .slice a1 y1.length c1]) HF HT rfl rfl (fun w => (sc27 w).2) rfl rfl rfl rfl rfl (fun w HT => ⟨nS, ?_⟩)
  refine wc_end ?_
  refine then_n ?_
  refine wp_seq ?_
  refine wc_text ?_
  refine wc_loadA (vs := [.int .i64 x0_0, .slice a1 y1.length c1]) HF rfl ag29 rfl ((HT.boxAt 0 rfl).part 0 2) rfl rfl (fun a HF => ?_)
  have HT : St w0 (fun _ => False) w [Box p2 [.int .i64 0, .slice none 0 0], Box p3 [.int .i64 x0_0, .slice a1 y1.length c1], Own 61 (rowT y1) (.slice a1 y1.length c1), Box p1 [.int .i64 x0_0, .slice a_x0_1 x0_1.length c_x0_1]] := HT.pick 2
  refine wc_storeB (cs' := [.int .i64 x0_0, .slice a1 y1.length c1]) HF HT rfl rfl (fun w => (ag29 w).2) rfl rfl rfl rfl rfl (fun w HT => ⟨nS, ?_⟩)
  refine wc_end ?_
  refine then_n ?_
  refine wp_ret ?_
  have hj1 := Option.some.inj h
  obtain ⟨hi1, hj2⟩ := Prod.mk.inj hj1
  subst hi1
  subst hj2
  refine bp_ret HF (res_cell (vs := [.int .i64 x0_0, .slice a1 y1.length c1]) rfl HF rfl ag29 rfl (HT.boxAt 0 rfl)) ?_
  have HT : St w0 (fun _ => False) w [Own 61 (rowT y1) (.slice a1 y1.length c1), Box p2 [.int .i64 x0_0, .slice a1 y1.length c1], Box p3 [.int .i64 x0_0, .slice a1 y1.length c1], Box p1 [.int .i64 x0_0, .slice a_x0_1 x0_1.length c_x0_1]] := HT.pick 2
  have HT : St w0 (fun _ => False) w [Own 61 (rowT y1) (.slice a1 y1.length c1)] := HT.take 1
  exact ⟨a1, y1.length, c1, rfl, HT⟩

def m_laws_szWordS (fuel : Nat) (x0 : List I3) (x1 : Int) : Option Int :=
  if in64 (x1 - (x0.length : Int)) then
    if (x1 - (x0.length : Int)) < 0 then
      some (-1)
    else
      some (x1 - (x0.length : Int))
  else none

set_option maxRecDepth 100000 in
set_option maxHeartbeats 4000000 in
theorem w_laws_szWordS (fuel : Nat) {x0 : List I3} {x1 : Int} {a_x0 : Option Addr} {n_x0 c_x0 : Nat} {r0 : Int} {w0 : World} (h : m_laws_szWordS fuel x0 x1 = some r0) (hr_x0 : RdT (fun b => ¬ False) w0 (rowT x0) (.slice a_x0 n_x0 c_x0)) :
    Calls Try.prog 45 #[.slice a_x0 n_x0 c_x0, .int .i64 x1] w0 fun e w => e = .returned (.int .i64 r0) ∧ St w0 (fun _ => False) w [] := by
  obtain rfl := hr_x0.neq
  have HT : St w0 (fun _ => False) w0 [] := St.init0
  rw [m_laws_szWordS] at h
  refine calls_fr (n := 12) [.slice a_x0 x0.length c_x0, .int .i64 x1] Try.func45 rfl rfl rfl (fun a HF => ?_)
  have HT : St w0 (fun _ => False) w0 [] := HT
  refine wp_seq ?_
  refine wc_text ?_
  refine wc_assign HF nS rfl rfl rfl (fun a HF => ?_)
  refine wc_end ?_
  refine then_n ?_
  refine wp_seq ?_
  refine wc_text ?_
  refine wc_move HF nS rfl rfl rfl (fun a HF => ?_)
  refine wc_move HF nS rfl rfl rfl (fun a HF => ?_)
  refine wc_lenR HF nS Try.underlying22 rfl rfl rfl (fun a HF => ?_)
  obtain ⟨hg1, h⟩ := grd h
  refine wc_bin HF nS rfl rfl (b_sub hg1) rfl rfl (fun a HF => ?_)
  refine wc_assign HF nS rfl rfl rfl (fun a HF => ?_)
  refine wc_end ?_
  refine then_n ?_
  refine wp_seq ?_
  refine wp_seq ?_
  refine wc_text ?_
  refine wc_move HF nS rfl rfl rfl (fun a HF => ?_)
  refine wc_bin HF nS rfl rfl b_lt rfl rfl (fun a HF => ?_)
  refine wc_end ?_
  refine then_n ?_
  by_cases hb1 : (x1 - (x0.length : Int)) < 0
  · have h := (if_pos hb1).symm.trans h
    refine wp_if (b' := true) HF rfl (decide_eq_true hb1) ?_
    refine wp_seq ?_
    refine wc_text ?_
    refine wc_assign HF nS rfl rfl rfl (fun a HF => ?_)
    refine wc_end ?_
    refine then_n ?_
    refine wp_ret ?_
    obtain rfl := Option.some.inj h
    refine then_r (?_)
    refine bp_ret HF (res_one rfl HF rfl) ?_
    exact ⟨rfl, HT⟩
  · have h := (if_neg hb1).symm.trans h
    refine wp_if (b' := false) HF rfl (decide_eq_false hb1) ?_
    refine wp_skip ?_
    refine then_n ?_
    refine wp_seq ?_
    refine wc_text ?_
    refine wc_move HF nS rfl rfl rfl (fun a HF => ?_)
    refine wc_assign HF nS rfl rfl rfl (fun a HF => ?_)
    refine wc_end ?_
    refine then_n ?_
    refine wp_ret ?_
    obtain rfl := Option.some.inj h
    refine bp_ret HF (res_one rfl HF rfl) ?_
    exact ⟨rfl, HT⟩

def m_laws_szMem (fuel : Nat) (x0_0 : Int) (x0_1 : List I3) (x1 : Int) : Option Int :=
  (m_laws_szWordS fuel x0_1 x1).bind fun y1 =>
  if y1 < 0 then
    some (-1)
  else
    some y1

set_option maxRecDepth 100000 in
set_option maxHeartbeats 4000000 in
theorem w_laws_szMem (fuel : Nat) {x0_0 : Int} {x0_1 : List I3} {x1 : Int} {a_x0_1 : Option Addr} {n_x0_1 c_x0_1 : Nat} {r0 : Int} {w0 : World} (h : m_laws_szMem fuel x0_0 x0_1 x1 = some r0) (hr_x0_1 : RdT (fun b => ¬ False) w0 (rowT x0_1) (.slice a_x0_1 n_x0_1 c_x0_1)) :
    Calls Try.prog 13 #[.agg #[.int .i64 x0_0, .slice a_x0_1 n_x0_1 c_x0_1], .int .i64 x1] w0 fun e w => e = .returned (.int .i64 r0) ∧ St w0 (fun _ => False) w [] := by
  obtain rfl := hr_x0_1.neq
  have HT : St w0 (fun _ => False) w0 [] := St.init0
  rw [m_laws_szMem] at h
  refine calls_fr (n := 12) [.agg #[.int .i64 x0_0, .slice a_x0_1 x0_1.length c_x0_1], .int .i64 x1] Try.func13 rfl rfl rfl (fun a HF => ?_)
  have HT : St w0 (fun _ => False) w0 [] := HT
  refine wp_seq ?_
  refine wc_text ?_
  refine wc_box (cs := [.int .i64 x0_0, .slice a_x0_1 x0_1.length c_x0_1]) HF HT rfl rfl rfl rfl (fun p1 w HT hb => ⟨nS, fun a HF => ?_⟩)
  refine wc_assign HF nS rfl rfl rfl (fun a HF => ?_)
  refine wc_end ?_
  refine then_n ?_
  refine wp_seq ?_
  refine wc_text ?_
  refine wc_faddr HF nS rfl fl24_1 rfl rfl (fun a HF => ?_)
  refine wc_load HF rfl sc22 ((HT.boxAt 0 rfl).get 1 rfl) rfl rfl (fun a HF => ?_)
  refine wc_move HF nS rfl rfl rfl (fun a HF => ?_)
  obtain ⟨y1, hx1, h⟩ := obs h
  refine wc_call HF cf45 rfl (w_laws_szWordS fuel hx1 (HT.ro hr_x0_1).any) rfl rfl ?_
  rintro e w ⟨rfl, hE⟩
  have hb := hE.below
  have HT := HT.pure hE
  have HT : St w0 (fun _ => False) w [Box p1 [.int .i64 x0_0, .slice a_x0_1 x0_1.length c_x0_1]] := HT
  refine ⟨_, rfl, nS, fun a HF => ?_⟩
  refine wc_assign HF nS rfl rfl rfl (fun a HF => ?_)
  refine wc_end ?_
  refine then_n ?_
  refine wp_seq ?_
  refine wp_seq ?_
  refine wc_text ?_
  refine wc_move HF nS rfl rfl rfl (fun a HF => ?_)
  refine wc_bin HF nS rfl rfl b_lt rfl rfl (fun a HF => ?_)
  refine wc_end ?_
  refine then_n ?_
  by_cases hb1 : y1 < 0
  · have h := (if_pos hb1).symm.trans h
    refine wp_if (b' := true) HF rfl (decide_eq_true hb1) ?_
    refine wp_seq ?_
    refine wc_text ?_
    refine wc_assign HF nS rfl rfl rfl (fun a HF => ?_)
    refine wc_end ?_
    refine then_n ?_
    refine wp_ret ?_
    obtain rfl := Option.some.inj h
    refine then_r (?_)
    refine bp_ret HF (res_one rfl HF rfl) ?_
    have HT : St w0 (fun _ => False) w [] := HT.take 0
    exact ⟨rfl, HT⟩
  · have h := (if_neg hb1).symm.trans h
    refine wp_if (b' := false) HF rfl (decide_eq_false hb1) ?_
    refine wp_skip ?_
    refine then_n ?_
    refine wp_seq ?_
    refine wc_text ?_
    refine wc_move HF nS rfl rfl rfl (fun a HF => ?_)
    refine wc_assign HF nS rfl rfl rfl (fun a HF => ?_)
    refine wc_end ?_
    refine then_n ?_
    refine wp_ret ?_
    obtain rfl := Option.some.inj h
    refine bp_ret HF (res_one rfl HF rfl) ?_
    have HT : St w0 (fun _ => False) w [] := HT.take 0
    exact ⟨rfl, HT⟩

def m_laws_eqWord (fuel : Nat) (x0_0 : Int) (x0_1 : Int) (x0_2 : Int) (x1_0 : Int) (x1_1 : Int) (x1_2 : Int) : Option Bool :=
  if x0_0 = x1_0 then
    if x0_1 = x1_1 then
      if x0_2 = x1_2 then
        some true
      else
        some false
    else
      some false
  else
    some false

set_option maxRecDepth 100000 in
set_option maxHeartbeats 4000000 in
theorem w_laws_eqWord (fuel : Nat) {x0_0 : Int} {x0_1 : Int} {x0_2 : Int} {x1_0 : Int} {x1_1 : Int} {x1_2 : Int} {r0 : Bool} {w0 : World} (h : m_laws_eqWord fuel x0_0 x0_1 x0_2 x1_0 x1_1 x1_2 = some r0) :
    Calls Try.prog 67 #[.agg #[.int .i64 x0_0, .int .i64 x0_1, .int .i64 x0_2], .agg #[.int .i64 x1_0, .int .i64 x1_1, .int .i64 x1_2]] w0 fun e w => e = .returned (.bool r0) ∧ St w0 (fun _ => False) w [] := by
  have HT : St w0 (fun _ => False) w0 [] := St.init0
  rw [m_laws_eqWord] at h
  refine calls_fr (n := 20) [.agg #[.int .i64 x0_0, .int .i64 x0_1, .int .i64 x0_2], .agg #[.int .i64 x1_0, .int .i64 x1_1, .int .i64 x1_2]] Try.func67 rfl rfl rfl (fun a HF => ?_)
  have HT : St w0 (fun _ => False) w0 [] := HT
  refine wp_seq ?_
  refine wc_text ?_
  refine wc_box (cs := [.int .i64 x0_0, .int .i64 x0_1, .int .i64 x0_2]) HF HT rfl rfl rfl rfl (fun p1 w HT hb => ⟨nS, fun a HF => ?_⟩)
  refine wc_box (cs := [.int .i64 x1_0, .int .i64 x1_1, .int .i64 x1_2]) HF HT rfl rfl rfl rfl (fun p2 w HT hb => ⟨nS, fun a HF => ?_⟩)
  refine wc_assign HF nS rfl rfl rfl (fun a HF => ?_)
  refine wc_end ?_
  refine then_n ?_
  refine wp_seq ?_
  refine wp_seq ?_
  refine wc_text ?_
  refine wc_faddr HF nS rfl fl61_0 rfl rfl (fun a HF => ?_)
  refine wc_load HF rfl sc3 ((HT.boxAt 1 rfl).get 0 rfl) rfl rfl (fun a HF => ?_)
  refine wc_faddr HF nS rfl fl61_0 rfl rfl (fun a HF => ?_)
  refine wc_load HF rfl sc3 ((HT.boxAt 0 rfl).get 0 rfl) rfl rfl (fun a HF => ?_)
  refine wc_bin HF nS rfl rfl b_ne rfl rfl (fun a HF => ?_)
  refine wc_end ?_
  refine then_n ?_
  by_cases hb1 : x0_0 = x1_0
  · have h := (if_pos hb1).symm.trans h
    refine wp_if (b' := false) HF rfl (notT (decide_eq_true hb1)) ?_
    refine wp_skip ?_
    refine then_n ?_
    refine wp_seq ?_
    refine wp_seq ?_
    refine wc_text ?_
    refine wc_faddr HF nS rfl fl61_1 rfl rfl (fun a HF => ?_)
    refine wc_load HF rfl sc3 ((HT.boxAt 1 rfl).get 1 rfl) rfl rfl (fun a HF => ?_)
    refine wc_faddr HF nS rfl fl61_1 rfl rfl (fun a HF => ?_)
    refine wc_load HF rfl sc3 ((HT.boxAt 0 rfl).get 1 rfl) rfl rfl (fun a HF => ?_)
    refine wc_bin HF nS rfl rfl b_ne rfl rfl (fun a HF => ?_)
    refine wc_end ?_
    refine then_n ?_
    by_cases hb2 : x0_1 = x1_1
    · have h := (if_pos hb2).symm.trans h
      refine wp_if (b' := false) HF rfl (notT (decide_eq_true hb2)) ?_
      refine wp_skip ?_
      refine then_n ?_
      refine wp_seq ?_
      refine wp_seq ?_
      refine wc_text ?_
      refine wc_faddr HF nS rfl fl61_2 rfl rfl (fun a HF => ?_)
      refine wc_load HF rfl sc3 ((HT.boxAt 1 rfl).get 2 rfl) rfl rfl (fun a HF => ?_)
      refine wc_faddr HF nS rfl fl61_2 rfl rfl (fun a HF => ?_)
      refine wc_load HF rfl sc3 ((HT.boxAt 0 rfl).get 2 rfl) rfl rfl (fun a HF => ?_)
      refine wc_bin HF nS rfl rfl b_ne rfl rfl (fun a HF => ?_)
      refine wc_end ?_
      refine then_n ?_
      by_cases hb3 : x0_2 = x1_2
      · have h := (if_pos hb3).symm.trans h
        refine wp_if (b' := false) HF rfl (notT (decide_eq_true hb3)) ?_
        refine wp_skip ?_
        refine then_n ?_
        refine wp_seq ?_
        refine wc_text ?_
        refine wc_assign HF nS rfl rfl rfl (fun a HF => ?_)
        refine wc_end ?_
        refine then_n ?_
        refine wp_ret ?_
        obtain rfl := Option.some.inj h
        refine bp_ret HF (res_one rfl HF rfl) ?_
        have HT : St w0 (fun _ => False) w [] := HT.take 0
        exact ⟨rfl, HT⟩
      · have h := (if_neg hb3).symm.trans h
        refine wp_if (b' := true) HF rfl (notF (decide_eq_false hb3)) ?_
        refine wp_seq ?_
        refine wc_text ?_
        refine wc_assign HF nS rfl rfl rfl (fun a HF => ?_)
        refine wc_end ?_
        refine then_n ?_
        refine wp_ret ?_
        obtain rfl := Option.some.inj h
        refine then_r (?_)
        refine bp_ret HF (res_one rfl HF rfl) ?_
        have HT : St w0 (fun _ => False) w [] := HT.take 0
        exact ⟨rfl, HT⟩
    · have h := (if_neg hb2).symm.trans h
      refine wp_if (b' := true) HF rfl (notF (decide_eq_false hb2)) ?_
      refine wp_seq ?_
      refine wc_text ?_
      refine wc_assign HF nS rfl rfl rfl (fun a HF => ?_)
      refine wc_end ?_
      refine then_n ?_
      refine wp_ret ?_
      obtain rfl := Option.some.inj h
      refine then_r (?_)
      refine bp_ret HF (res_one rfl HF rfl) ?_
      have HT : St w0 (fun _ => False) w [] := HT.take 0
      exact ⟨rfl, HT⟩
  · have h := (if_neg hb1).symm.trans h
    refine wp_if (b' := true) HF rfl (notF (decide_eq_false hb1)) ?_
    refine wp_seq ?_
    refine wc_text ?_
    refine wc_assign HF nS rfl rfl rfl (fun a HF => ?_)
    refine wc_end ?_
    refine then_n ?_
    refine wp_ret ?_
    obtain rfl := Option.some.inj h
    refine then_r (?_)
    refine bp_ret HF (res_one rfl HF rfl) ?_
    have HT : St w0 (fun _ => False) w [] := HT.take 0
    exact ⟨rfl, HT⟩

def m_laws_eqWordS_L0 (fuel : Nat) (x0 : List I3) (x1 : List I3) : Nat → Int → Option (Lp Unit Bool)
  | 0, _ => none
  | k1 + 1, z1 =>
    if z1 < (x0.length : Int) then
      (at? x0 z1).bind fun e1 =>
      (at? x1 z1).bind fun e2 =>
      (m_laws_eqWord fuel e1.a e1.b e1.c e2.a e2.b e2.c).bind fun y1 =>
      if y1 = true then
        if in64 (z1 + 1) then
          m_laws_eqWordS_L0 fuel x0 x1 k1 (z1 + 1)
        else none
      else
        some (.ret false)
    else
      some (.brk ())

def m_laws_eqWordS (fuel : Nat) (x0 : List I3) (x1 : List I3) : Option Bool :=
  if (x0.length : Int) = (x1.length : Int) then
    (m_laws_eqWordS_L0 fuel x0 x1 fuel 0).bind <| contL <| un1 fun _ =>
    some true
  else
    some false

set_option maxRecDepth 100000 in
set_option maxHeartbeats 4000000 in
theorem w_laws_eqWordS (fuel : Nat) {x0 : List I3} {x1 : List I3} {a_x0 : Option Addr} {n_x0 c_x0 : Nat} {a_x1 : Option Addr} {n_x1 c_x1 : Nat} {r0 : Bool} {w0 : World} (h : m_laws_eqWordS fuel x0 x1 = some r0) (hr_x0 : RdT (fun b => ¬ False) w0 (rowT x0) (.slice a_x0 n_x0 c_x0)) (hr_x1 : RdT (fun b => ¬ False) w0 (rowT x1) (.slice a_x1 n_x1 c_x1)) :
    Calls Try.prog 51 #[.slice a_x0 n_x0 c_x0, .slice a_x1 n_x1 c_x1] w0 fun e w => e = .returned (.bool r0) ∧ St w0 (fun _ => False) w [] := by
  obtain rfl := hr_x0.neq
  obtain rfl := hr_x1.neq
  have HT : St w0 (fun _ => False) w0 [] := St.init0
  rw [m_laws_eqWordS] at h
  refine calls_fr (n := 27) [.slice a_x0 x0.length c_x0, .slice a_x1 x1.length c_x1] Try.func51 rfl rfl rfl (fun a HF => ?_)
  have HT : St w0 (fun _ => False) w0 [] := HT
  refine wp_seq ?_
  refine wc_text ?_
  refine wc_assign HF nS rfl rfl rfl (fun a HF => ?_)
  refine wc_end ?_
  refine then_n ?_
  refine wp_seq ?_
  refine wp_seq ?_
  refine wc_text ?_
  refine wc_move HF nS rfl rfl rfl (fun a HF => ?_)
  refine wc_lenR HF nS Try.underlying27 rfl rfl rfl (fun a HF => ?_)
  refine wc_move HF nS rfl rfl rfl (fun a HF => ?_)
  refine wc_lenR HF nS Try.underlying27 rfl rfl rfl (fun a HF => ?_)
  refine wc_bin HF nS rfl rfl b_ne rfl rfl (fun a HF => ?_)
  refine wc_end ?_
  refine then_n ?_
  by_cases hb1 : (x0.length : Int) = (x1.length : Int)
  · have h := (if_pos hb1).symm.trans h
    refine wp_if (b' := false) HF rfl (notT (decide_eq_true hb1)) ?_
    refine wp_skip ?_
    refine then_n ?_
    obtain ⟨q1, hx1, h⟩ := obs h
    refine wp_cut (fun a w => q1 = .brk () ∧ Fr a 27 [(4, .bool false)] ∧ St w0 (fun _ => False) w []) ?_ ?_
    · have hk1 := h
      have h := hx1
      refine wp_seq ?_
      refine wc_text ?_
      refine wc_assign HF nS rfl rfl rfl (fun a HF => ?_)
      refine wc_end ?_
      refine then_n ?_
      refine wp_block ?_
      refine wp_loopN (fun k1 a w => ∃ z1, m_laws_eqWordS_L0 fuel x0 x1 k1 z1 = some q1 ∧ Fr a 27 [(0, .slice a_x0 x0.length c_x0), (1, .slice a_x1 x1.length c_x1), (4, .bool false), (5, .int .i64 z1)] ∧ St w0 (fun _ => False) w []) fuel ⟨0, h, (HF.keep (HF.keep (HF.keep (HF.keep HF.nil rfl) rfl) rfl) rfl), HT⟩ ?_
      rintro k1 a w ⟨z1, h, HF, HT⟩
      cases k1 with
      | zero => cases h
      | succ k1 =>
        rw [m_laws_eqWordS_L0] at h
        refine ?_
        refine wp_seq ?_
        refine wp_seq ?_
        refine wc_text ?_
        refine wc_move HF nS rfl rfl rfl (fun a HF => ?_)
        refine wc_move HF nS rfl rfl rfl (fun a HF => ?_)
        refine wc_lenR HF nS Try.underlying27 rfl rfl rfl (fun a HF => ?_)
        refine wc_bin HF nS rfl rfl b_lt rfl rfl (fun a HF => ?_)
        refine wc_end ?_
        refine then_n ?_
        by_cases hb2 : z1 < (x0.length : Int)
        · have h := (if_pos hb2).symm.trans h
          refine wp_if (b' := true) HF rfl (decide_eq_true hb2) ?_
          refine wp_skip ?_
          refine then_n ?_
          refine wp_seq ?_
          refine wp_block ?_
          refine wp_seq ?_
          refine wp_region_can [(0, true), (1, true), (2, true), (3, true), (4, true), (5, true), (6, true), (7, true), (8, true), (9, true)] (fun w' => True) (by kernel_rfl) (by kernel_rfl) ?_
          have HT : St w0 (fun _ => False) w.drew [] := HT.drew
          refine wc_move HF nS rfl rfl rfl (fun a HF => ?_)
          refine wc_move HF nS rfl rfl rfl (fun a HF => ?_)
          obtain ⟨e1, hx2, h⟩ := obs h
          obtain ⟨b1, o1, ha1⟩ := (HT.ro hr_x0).any.addr hx2
          refine wc_ixaddr HF nS el27 rfl ha1 ((HT.ro hr_x0).any).neq rfl hx2 rfl rfl (fun a HF => ?_)
          have hc1 := (HT.ro hr_x0).any.flatAt ha1 hx2
          refine wc_loadA (vs := [.int .i64 e1.a, .int .i64 e1.b, .int .i64 e1.c]) HF rfl ag61 rfl (hc1.part 0 3) rfl rfl (fun a HF => ?_)
          refine wc_move HF nS rfl rfl rfl (fun a HF => ?_)
          refine wc_move HF nS rfl rfl rfl (fun a HF => ?_)
          obtain ⟨e2, hx3, h⟩ := obs h
          obtain ⟨b2, o2, ha2⟩ := (HT.ro hr_x1).any.addr hx3
          refine wc_ixaddr HF nS el27 rfl ha2 ((HT.ro hr_x1).any).neq rfl hx3 rfl rfl (fun a HF => ?_)
          have hc2 := (HT.ro hr_x1).any.flatAt ha2 hx3
          refine wc_loadA (vs := [.int .i64 e2.a, .int .i64 e2.b, .int .i64 e2.c]) HF rfl ag61 rfl (hc2.part 0 3) rfl rfl (fun a HF => ?_)
          obtain ⟨y1, hx4, h⟩ := obs h
          refine wc_call HF cf67 rfl (w_laws_eqWord fuel hx4) rfl rfl ?_
          rintro e w ⟨rfl, hE⟩
          have hb := hE.below
          have HT := HT.pure hE
          have HT : St w0 (fun _ => False) w [] := HT
          refine ⟨_, rfl, nS, fun a HF => ?_⟩
          refine wc_not HF nS rfl rfl rfl (fun a HF => ?_)
          refine wc_endN ?_
          refine then_n ?_
          by_cases hb3 : y1 = true
          · have h := (if_pos hb3).symm.trans h
            refine wp_if (b' := false) HF rfl (notT hb3) ?_
            refine wp_skip ?_
            refine blk_n ?_
            refine then_n ?_
            refine wc_text ?_
            refine wc_move HF nS rfl rfl rfl (fun a HF => ?_)
            obtain ⟨hg1, h⟩ := grd h
            refine wc_bin HF nS rfl rfl (b_add hg1) rfl rfl (fun a HF => ?_)
            refine wc_assign HF nS rfl rfl rfl (fun a HF => ?_)
            refine wc_end ?_
            exact then_n ⟨k1, Nat.lt_succ_self k1, z1 + 1, h, (HF.keep (HF.keep (HF.keep (HF.keep HF.nil rfl) rfl) rfl) rfl), HT⟩
          · have h := (if_neg hb3).symm.trans h
            refine wp_if (b' := true) HF rfl (notF (Bool.eq_false_iff.2 hb3)) ?_
            refine wp_seq ?_
            refine wc_text ?_
            refine wc_assign HF nS rfl rfl rfl (fun a HF => ?_)
            refine wc_end ?_
            refine then_n ?_
            refine wp_ret ?_
            obtain rfl := Option.some.inj h
            have h := retL hk1
            obtain rfl := Option.some.inj h
            refine blk_r (then_r (then_r (blk_r (then_r (?_)))))
            refine bp_ret HF (res_one rfl HF rfl) ?_
            exact ⟨rfl, HT⟩
        · have h := (if_neg hb2).symm.trans h
          refine wp_if (b' := false) HF rfl (decide_eq_false hb2) ?_
          refine wp_exit ?_
          refine then_x (then_x (?_))
          refine blk_x ?_
          exact then_n ⟨(Option.some.inj h).symm, (HF.keep HF.nil rfl), HT⟩
    · rintro a w ⟨rfl, HF, HT⟩
      have h := brkL1 h
      refine ?_
      refine wp_seq ?_
      refine wc_text ?_
      refine wc_assign HF nS rfl rfl rfl (fun a HF => ?_)
      refine wc_end ?_
      refine then_n ?_
      refine wp_ret ?_
      obtain rfl := Option.some.inj h
      refine bp_ret HF (res_one rfl HF rfl) ?_
      exact ⟨rfl, HT⟩
  · have h := (if_neg hb1).symm.trans h
    refine wp_if (b' := true) HF rfl (notF (decide_eq_false hb1)) ?_
    refine wp_seq ?_
    refine wc_text ?_
    refine wc_assign HF nS rfl rfl rfl (fun a HF => ?_)
    refine wc_end ?_
    refine then_n ?_
    refine wp_ret ?_
    obtain rfl := Option.some.inj h
    refine then_r (?_)
    refine bp_ret HF (res_one rfl HF rfl) ?_
    exact ⟨rfl, HT⟩

def m_laws_eqMem (fuel : Nat) (x0_0 : Int) (x0_1 : List I3) (x1_0 : Int) (x1_1 : List I3) : Option Bool :=
  if x0_0 = x1_0 then
    (m_laws_eqWordS fuel x0_1 x1_1).bind fun y1 =>
    if y1 = true then
      some true
    else
      some false
  else
    some false

set_option maxRecDepth 100000 in
set_option maxHeartbeats 4000000 in
theorem w_laws_eqMem (fuel : Nat) {x0_0 : Int} {x0_1 : List I3} {x1_0 : Int} {x1_1 : List I3} {a_x0_1 : Option Addr} {n_x0_1 c_x0_1 : Nat} {a_x1_1 : Option Addr} {n_x1_1 c_x1_1 : Nat} {r0 : Bool} {w0 : World} (h : m_laws_eqMem fuel x0_0 x0_1 x1_0 x1_1 = some r0) (hr_x0_1 : RdT (fun b => ¬ False) w0 (rowT x0_1) (.slice a_x0_1 n_x0_1 c_x0_1)) (hr_x1_1 : RdT (fun b => ¬ False) w0 (rowT x1_1) (.slice a_x1_1 n_x1_1 c_x1_1)) :
    Calls Try.prog 17 #[.agg #[.int .i64 x0_0, .slice a_x0_1 n_x0_1 c_x0_1], .agg #[.int .i64 x1_0, .slice a_x1_1 n_x1_1 c_x1_1]] w0 fun e w => e = .returned (.bool r0) ∧ St w0 (fun _ => False) w [] := by
  obtain rfl := hr_x0_1.neq
  obtain rfl := hr_x1_1.neq
  have HT : St w0 (fun _ => False) w0 [] := St.init0
  rw [m_laws_eqMem] at h
  refine calls_fr (n := 16) [.agg #[.int .i64 x0_0, .slice a_x0_1 x0_1.length c_x0_1], .agg #[.int .i64 x1_0, .slice a_x1_1 x1_1.length c_x1_1]] Try.func17 rfl rfl rfl (fun a HF => ?_)
  have HT : St w0 (fun _ => False) w0 [] := HT
  refine wp_seq ?_
  refine wc_text ?_
  refine wc_box (cs := [.int .i64 x0_0, .slice a_x0_1 x0_1.length c_x0_1]) HF HT rfl rfl rfl rfl (fun p1 w HT hb => ⟨nS, fun a HF => ?_⟩)
  refine wc_box (cs := [.int .i64 x1_0, .slice a_x1_1 x1_1.length c_x1_1]) HF HT rfl rfl rfl rfl (fun p2 w HT hb => ⟨nS, fun a HF => ?_⟩)
  refine wc_assign HF nS rfl rfl rfl (fun a HF => ?_)
  refine wc_end ?_
  refine then_n ?_
  refine wp_seq ?_
  refine wp_seq ?_
  refine wc_text ?_
  refine wc_faddr HF nS rfl fl29_0 rfl rfl (fun a HF => ?_)
  refine wc_load HF rfl sc3 ((HT.boxAt 1 rfl).get 0 rfl) rfl rfl (fun a HF => ?_)
  refine wc_faddr HF nS rfl fl29_0 rfl rfl (fun a HF => ?_)
  refine wc_load HF rfl sc3 ((HT.boxAt 0 rfl).get 0 rfl) rfl rfl (fun a HF => ?_)
  refine wc_bin HF nS rfl rfl b_ne rfl rfl (fun a HF => ?_)
  refine wc_end ?_
  refine then_n ?_
  by_cases hb1 : x0_0 = x1_0
  · have h := (if_pos hb1).symm.trans h
    refine wp_if (b' := false) HF rfl (notT (decide_eq_true hb1)) ?_
    refine wp_skip ?_
    refine then_n ?_
    refine wp_seq ?_
    refine wp_seq ?_
    refine wc_text ?_
    refine wc_faddr HF nS rfl fl29_1 rfl rfl (fun a HF => ?_)
    refine wc_load HF rfl sc27 ((HT.boxAt 1 rfl).get 1 rfl) rfl rfl (fun a HF => ?_)
    refine wc_faddr HF nS rfl fl29_1 rfl rfl (fun a HF => ?_)
    refine wc_load HF rfl sc27 ((HT.boxAt 0 rfl).get 1 rfl) rfl rfl (fun a HF => ?_)
    obtain ⟨y1, hx1, h⟩ := obs h
    refine wc_call HF cf51 rfl (w_laws_eqWordS fuel hx1 (HT.ro hr_x0_1).any (HT.ro hr_x1_1).any) rfl rfl ?_
    rintro e w ⟨rfl, hE⟩
    have hb := hE.below
    have HT := HT.pure hE
    have HT : St w0 (fun _ => False) w [Box p2 [.int .i64 x1_0, .slice a_x1_1 x1_1.length c_x1_1], Box p1 [.int .i64 x0_0, .slice a_x0_1 x0_1.length c_x0_1]] := HT
    refine ⟨_, rfl, nS, fun a HF => ?_⟩
    refine wc_not HF nS rfl rfl rfl (fun a HF => ?_)
    refine wc_end ?_
    refine then_n ?_
    by_cases hb2 : y1 = true
    · have h := (if_pos hb2).symm.trans h
      refine wp_if (b' := false) HF rfl (notT hb2) ?_
      refine wp_skip ?_
      refine then_n ?_
      refine wp_seq ?_
      refine wc_text ?_
      refine wc_assign HF nS rfl rfl rfl (fun a HF => ?_)
      refine wc_end ?_
      refine then_n ?_
      refine wp_ret ?_
      obtain rfl := Option.some.inj h
      refine bp_ret HF (res_one rfl HF rfl) ?_
      have HT : St w0 (fun _ => False) w [] := HT.take 0
      exact ⟨rfl, HT⟩
    · have h := (if_neg hb2).symm.trans h
      refine wp_if (b' := true) HF rfl (notF (Bool.eq_false_iff.2 hb2)) ?_
      refine wp_seq ?_
      refine wc_text ?_
      refine wc_assign HF nS rfl rfl rfl (fun a HF => ?_)
      refine wc_end ?_
      refine then_n ?_
      refine wp_ret ?_
      obtain rfl := Option.some.inj h
      refine then_r (?_)
      refine bp_ret HF (res_one rfl HF rfl) ?_
      have HT : St w0 (fun _ => False) w [] := HT.take 0
      exact ⟨rfl, HT⟩
  · have h := (if_neg hb1).symm.trans h
    refine wp_if (b' := true) HF rfl (notF (decide_eq_false hb1)) ?_
    refine wp_seq ?_
    refine wc_text ?_
    refine wc_assign HF nS rfl rfl rfl (fun a HF => ?_)
    refine wc_end ?_
    refine then_n ?_
    refine wp_ret ?_
    obtain rfl := Option.some.inj h
    refine then_r (?_)
    refine bp_ret HF (res_one rfl HF rfl) ?_
    have HT : St w0 (fun _ => False) w [] := HT.take 0
    exact ⟨rfl, HT⟩

def m_laws_toIntS_L0 (fuel : Nat) (x0 : List Int) : Nat → (List Int) → Int → Option (List Int)
  | 0, _, _ => none
  | k1 + 1, z2, z3 =>
    if z3 < (x0.length : Int) then
      (at? x0 z3).bind fun e1 =>
      (at? z2 z3).bind fun e2 =>
      if in64 (z3 + 1) then
        m_laws_toIntS_L0 fuel x0 k1 (z2.set z3.toNat e1) (z3 + 1)
      else none
    else
      some z2

def m_laws_toIntS (fuel : Nat) (x0 : List Int) : Option (List Int) :=
  if 0 ≤ ((x0.length : Int) : Int) ∧ (x0.length : Int) ≤ 1048576 then
    (m_laws_toIntS_L0 fuel x0 fuel (List.replicate ((x0.length : Int) : Int).toNat (0 : Int)) 0).bind fun z1 =>
    some z1
  else none

set_option maxRecDepth 100000 in
set_option maxHeartbeats 4000000 in
theorem w_laws_toIntS (fuel : Nat) {x0 : List Int} {a_x0 : Option Addr} {n_x0 c_x0 : Nat} {r0 : List Int} {w0 : World} (h : m_laws_toIntS fuel x0 = some r0) (hr_x0 : RdT (fun b => ¬ False) w0 (rowT x0) (.slice a_x0 n_x0 c_x0)) :
    Calls Try.prog 23 #[.slice a_x0 n_x0 c_x0] w0 fun e w => ∃ a_r0 n_r0 c_r0, e = .returned (.slice a_r0 n_r0 c_r0) ∧ St w0 (fun _ => False) w [Own 3 (rowT r0) (.slice a_r0 n_r0 c_r0)] := by
  obtain rfl := hr_x0.neq
  have HT : St w0 (fun _ => False) w0 [] := St.init0
  rw [m_laws_toIntS] at h
  refine calls_fr (n := 22) [.slice a_x0 x0.length c_x0] Try.func23 rfl rfl rfl (fun a HF => ?_)
  have HT : St w0 (fun _ => False) w0 [] := HT
  refine wp_seq ?_
  refine wc_text ?_
  refine wc_assign HF nS rfl rfl rfl (fun a HF => ?_)
  refine wc_end ?_
  refine then_n ?_
  refine wp_seq ?_
  refine wc_text ?_
  refine wc_move HF nS rfl rfl rfl (fun a HF => ?_)
  refine wc_lenR HF nS Try.underlying38 rfl rfl rfl (fun a HF => ?_)
  obtain ⟨hg1, h⟩ := grd h
  refine wc_make (x := (0 : Int)) HF HT el38 rfl rfl hg1 rfl rfl rfl rfl (fun p1 w HT hb => ⟨nS, fun a HF => ?_⟩)
  refine wc_assign HF nS rfl rfl rfl (fun a HF => ?_)
  refine wc_end ?_
  refine then_n ?_
  obtain ⟨z1, hx1, h⟩ := obs h
  refine wp_cut (fun a w => Fr a 22 [(2, .slice none 0 0), (3, .slice (some ⟨p1, 0, none⟩) ((List.replicate ((x0.length : Int) : Int).toNat (0 : Int)).length) ((List.replicate ((x0.length : Int) : Int).toNat (0 : Int)).length))] ∧ St w0 (fun _ => False) w [Own 3 (rowT z1) (.slice (some ⟨p1, 0, none⟩) ((List.replicate ((x0.length : Int) : Int).toNat (0 : Int)).length) ((List.replicate ((x0.length : Int) : Int).toNat (0 : Int)).length))]) ?_ ?_
  · have hk1 := h
    have h := hx1
    refine wp_seq ?_
    refine wc_text ?_
    refine wc_assign HF nS rfl rfl rfl (fun a HF => ?_)
    refine wc_end ?_
    refine then_n ?_
    refine wp_block ?_
    refine wp_loopN (fun k1 a w => ∃ z2 z3, m_laws_toIntS_L0 fuel x0 k1 z2 z3 = some z1 ∧ Fr a 22 [(0, .slice a_x0 x0.length c_x0), (2, .slice none 0 0), (3, .slice (some ⟨p1, 0, none⟩) ((List.replicate ((x0.length : Int) : Int).toNat (0 : Int)).length) ((List.replicate ((x0.length : Int) : Int).toNat (0 : Int)).length)), (4, .int .i64 z3)] ∧ St w0 (fun _ => False) w [Own 3 (rowT z2) (.slice (some ⟨p1, 0, none⟩) ((List.replicate ((x0.length : Int) : Int).toNat (0 : Int)).length) ((List.replicate ((x0.length : Int) : Int).toNat (0 : Int)).length))]) fuel ⟨List.replicate ((x0.length : Int) : Int).toNat (0 : Int), 0, h, (HF.keep (HF.keep (HF.keep (HF.keep HF.nil rfl) rfl) rfl) rfl), HT⟩ ?_
    rintro k1 a w ⟨z2, z3, h, HF, HT⟩
    cases k1 with
    | zero => cases h
    | succ k1 =>
      rw [m_laws_toIntS_L0] at h
      refine ?_
      refine wp_seq ?_
      refine wp_seq ?_
      refine wc_text ?_
      refine wc_move HF nS rfl rfl rfl (fun a HF => ?_)
      refine wc_move HF nS rfl rfl rfl (fun a HF => ?_)
      refine wc_lenR HF nS Try.underlying38 rfl rfl rfl (fun a HF => ?_)
      refine wc_bin HF nS rfl rfl b_lt rfl rfl (fun a HF => ?_)
      refine wc_end ?_
      refine then_n ?_
      by_cases hb1 : z3 < (x0.length : Int)
      · have h := (if_pos hb1).symm.trans h
        refine wp_if (b' := true) HF rfl (decide_eq_true hb1) ?_
        refine wp_skip ?_
        refine then_n ?_
        refine wp_seq ?_
        refine wp_block ?_
        refine wc_text ?_
        refine wc_move HF nS rfl rfl rfl (fun a HF => ?_)
        refine wc_move HF nS rfl rfl rfl (fun a HF => ?_)
        refine wc_move HF nS rfl rfl rfl (fun a HF => ?_)
        refine wc_move HF nS rfl rfl rfl (fun a HF => ?_)
        obtain ⟨e1, hx2, h⟩ := obs h
        obtain ⟨b1, o1, ha1⟩ := (HT.ro hr_x0).any.addr hx2
        refine wc_ixaddr HF nS el38 rfl ha1 ((HT.ro hr_x0).any).neq rfl hx2 rfl rfl (fun a HF => ?_)
        have hc1 := (HT.ro hr_x0).any.flatAt ha1 hx2
        refine wc_load HF rfl sc3 (hc1.get 0 rfl) rfl rfl (fun a HF => ?_)
        obtain ⟨e2, hx3, h⟩ := obs h
        refine wc_ixaddr HF nS el38 rfl rfl ((HT.rdAt 0 rfl)).neq rfl hx3 rfl rfl (fun a HF => ?_)
        refine wc_storeR (i := z3) (j := 0) (x' := e1) HF HT rfl rfl rfl (fun w => (sc3 w).2) rfl rfl hx3 rfl rfl rfl rfl (fun w HT => ⟨nS, ?_⟩)
        refine wc_end ?_
        refine blk_n ?_
        refine then_n ?_
        refine wc_text ?_
        refine wc_move HF nS rfl rfl rfl (fun a HF => ?_)
        obtain ⟨hg2, h⟩ := grd h
        refine wc_bin HF nS rfl rfl (b_add hg2) rfl rfl (fun a HF => ?_)
        refine wc_assign HF nS rfl rfl rfl (fun a HF => ?_)
        refine wc_end ?_
        exact then_n ⟨k1, Nat.lt_succ_self k1, z2.set z3.toNat e1, z3 + 1, h, (HF.keep (HF.keep (HF.keep (HF.keep HF.nil rfl) rfl) rfl) rfl), HT⟩
      · have h := (if_neg hb1).symm.trans h
        refine wp_if (b' := false) HF rfl (decide_eq_false hb1) ?_
        refine wp_exit ?_
        refine then_x (then_x (?_))
        refine blk_x ?_
        obtain rfl := Option.some.inj h
        exact then_n ⟨(HF.keep (HF.keep HF.nil rfl) rfl), HT⟩
  · rintro a w ⟨HF, HT⟩
    refine ?_
    refine wp_seq ?_
    refine wc_text ?_
    refine wc_move HF nS rfl rfl rfl (fun a HF => ?_)
    refine wc_assign HF nS rfl rfl rfl (fun a HF => ?_)
    refine wc_end ?_
    refine then_n ?_
    refine wp_ret ?_
    obtain rfl := Option.some.inj h
    refine bp_ret HF (res_one rfl HF rfl) ?_
    exact ⟨(some ⟨p1, 0, none⟩), (List.replicate ((x0.length : Int) : Int).toNat (0 : Int)).length, (List.replicate ((x0.length : Int) : Int).toNat (0 : Int)).length, rfl, HT⟩

def m_laws_eqIntS_L0 (fuel : Nat) (x0 : List Int) (x1 : List Int) : Nat → Int → Option (Lp Unit Bool)
  | 0, _ => none
  | k1 + 1, z1 =>
    if z1 < (x0.length : Int) then
      (at? x0 z1).bind fun e1 =>
      (at? x1 z1).bind fun e2 =>
      if e1 = e2 then
        if in64 (z1 + 1) then
          m_laws_eqIntS_L0 fuel x0 x1 k1 (z1 + 1)
        else none
      else
        some (.ret false)
    else
      some (.brk ())

def m_laws_eqIntS (fuel : Nat) (x0 : List Int) (x1 : List Int) : Option Bool :=
  if (x0.length : Int) = (x1.length : Int) then
    (m_laws_eqIntS_L0 fuel x0 x1 fuel 0).bind <| contL <| un1 fun _ =>
    some true
  else
    some false

set_option maxRecDepth 100000 in
set_option maxHeartbeats 4000000 in
theorem w_laws_eqIntS (fuel : Nat) {x0 : List Int} {x1 : List Int} {a_x0 : Option Addr} {n_x0 c_x0 : Nat} {a_x1 : Option Addr} {n_x1 c_x1 : Nat} {r0 : Bool} {w0 : World} (h : m_laws_eqIntS fuel x0 x1 = some r0) (hr_x0 : RdT (fun b => ¬ False) w0 (rowT x0) (.slice a_x0 n_x0 c_x0)) (hr_x1 : RdT (fun b => ¬ False) w0 (rowT x1) (.slice a_x1 n_x1 c_x1)) :
    Calls Try.prog 25 #[.slice a_x0 n_x0 c_x0, .slice a_x1 n_x1 c_x1] w0 fun e w => e = .returned (.bool r0) ∧ St w0 (fun _ => False) w [] := by
  obtain rfl := hr_x0.neq
  obtain rfl := hr_x1.neq
  have HT : St w0 (fun _ => False) w0 [] := St.init0
  rw [m_laws_eqIntS] at h
  refine calls_fr (n := 26) [.slice a_x0 x0.length c_x0, .slice a_x1 x1.length c_x1] Try.func25 rfl rfl rfl (fun a HF => ?_)
  have HT : St w0 (fun _ => False) w0 [] := HT
  refine wp_seq ?_
  refine wc_text ?_
  refine wc_assign HF nS rfl rfl rfl (fun a HF => ?_)
  refine wc_end ?_
  refine then_n ?_
  refine wp_seq ?_
  refine wp_seq ?_
  refine wc_text ?_
  refine wc_move HF nS rfl rfl rfl (fun a HF => ?_)
  refine wc_lenR HF nS Try.underlying38 rfl rfl rfl (fun a HF => ?_)
  refine wc_move HF nS rfl rfl rfl (fun a HF => ?_)
  refine wc_lenR HF nS Try.underlying38 rfl rfl rfl (fun a HF => ?_)
  refine wc_bin HF nS rfl rfl b_ne rfl rfl (fun a HF => ?_)
  refine wc_end ?_
  refine then_n ?_
  by_cases hb1 : (x0.length : Int) = (x1.length : Int)
  · have h := (if_pos hb1).symm.trans h
    refine wp_if (b' := false) HF rfl (notT (decide_eq_true hb1)) ?_
    refine wp_skip ?_
    refine then_n ?_
    obtain ⟨q1, hx1, h⟩ := obs h
    refine wp_cut (fun a w => q1 = .brk () ∧ Fr a 26 [(4, .bool false)] ∧ St w0 (fun _ => False) w []) ?_ ?_
    · have hk1 := h
      have h := hx1
      refine wp_seq ?_
      refine wc_text ?_
      refine wc_assign HF nS rfl rfl rfl (fun a HF => ?_)
      refine wc_end ?_
      refine then_n ?_
      refine wp_block ?_
      refine wp_loopN (fun k1 a w => ∃ z1, m_laws_eqIntS_L0 fuel x0 x1 k1 z1 = some q1 ∧ Fr a 26 [(0, .slice a_x0 x0.length c_x0), (1, .slice a_x1 x1.length c_x1), (4, .bool false), (5, .int .i64 z1)] ∧ St w0 (fun _ => False) w []) fuel ⟨0, h, (HF.keep (HF.keep (HF.keep (HF.keep HF.nil rfl) rfl) rfl) rfl), HT⟩ ?_
      rintro k1 a w ⟨z1, h, HF, HT⟩
      cases k1 with
      | zero => cases h
      | succ k1 =>
        rw [m_laws_eqIntS_L0] at h
        refine ?_
        refine wp_seq ?_
        refine wp_seq ?_
        refine wc_text ?_
        refine wc_move HF nS rfl rfl rfl (fun a HF => ?_)
        refine wc_move HF nS rfl rfl rfl (fun a HF => ?_)
        refine wc_lenR HF nS Try.underlying38 rfl rfl rfl (fun a HF => ?_)
        refine wc_bin HF nS rfl rfl b_lt rfl rfl (fun a HF => ?_)
        refine wc_end ?_
        refine then_n ?_
        by_cases hb2 : z1 < (x0.length : Int)
        · have h := (if_pos hb2).symm.trans h
          refine wp_if (b' := true) HF rfl (decide_eq_true hb2) ?_
          refine wp_skip ?_
          refine then_n ?_
          refine wp_seq ?_
          refine wp_block ?_
          refine wp_seq ?_
          refine wp_region_can [(0, true), (1, true), (2, true), (3, true), (4, true), (5, true), (6, true), (7, true), (8, true)] (fun w' => True) (by kernel_rfl) (by kernel_rfl) ?_
          have HT : St w0 (fun _ => False) w.drew [] := HT.drew
          refine wc_move HF nS rfl rfl rfl (fun a HF => ?_)
          refine wc_move HF nS rfl rfl rfl (fun a HF => ?_)
          obtain ⟨e1, hx2, h⟩ := obs h
          obtain ⟨b1, o1, ha1⟩ := (HT.ro hr_x0).any.addr hx2
          refine wc_ixaddr HF nS el38 rfl ha1 ((HT.ro hr_x0).any).neq rfl hx2 rfl rfl (fun a HF => ?_)
          have hc1 := (HT.ro hr_x0).any.flatAt ha1 hx2
          refine wc_load HF rfl sc3 (hc1.get 0 rfl) rfl rfl (fun a HF => ?_)
          refine wc_move HF nS rfl rfl rfl (fun a HF => ?_)
          refine wc_move HF nS rfl rfl rfl (fun a HF => ?_)
          obtain ⟨e2, hx3, h⟩ := obs h
          obtain ⟨b2, o2, ha2⟩ := (HT.ro hr_x1).any.addr hx3
          refine wc_ixaddr HF nS el38 rfl ha2 ((HT.ro hr_x1).any).neq rfl hx3 rfl rfl (fun a HF => ?_)
          have hc2 := (HT.ro hr_x1).any.flatAt ha2 hx3
          refine wc_load HF rfl sc3 (hc2.get 0 rfl) rfl rfl (fun a HF => ?_)
          refine wc_bin HF nS rfl rfl b_ne rfl rfl (fun a HF => ?_)
          refine wc_endN ?_
          refine then_n ?_
          by_cases hb3 : e1 = e2
          · have h := (if_pos hb3).symm.trans h
            refine wp_if (b' := false) HF rfl (notT (decide_eq_true hb3)) ?_
            refine wp_skip ?_
            refine blk_n ?_
            refine then_n ?_
            refine wc_text ?_
            refine wc_move HF nS rfl rfl rfl (fun a HF => ?_)
            obtain ⟨hg1, h⟩ := grd h
            refine wc_bin HF nS rfl rfl (b_add hg1) rfl rfl (fun a HF => ?_)
            refine wc_assign HF nS rfl rfl rfl (fun a HF => ?_)
            refine wc_end ?_
            exact then_n ⟨k1, Nat.lt_succ_self k1, z1 + 1, h, (HF.keep (HF.keep (HF.keep (HF.keep HF.nil rfl) rfl) rfl) rfl), HT⟩
          · have h := (if_neg hb3).symm.trans h
            refine wp_if (b' := true) HF rfl (notF (decide_eq_false hb3)) ?_
            refine wp_seq ?_
            refine wc_text ?_
            refine wc_assign HF nS rfl rfl rfl (fun a HF => ?_)
            refine wc_end ?_
            refine then_n ?_
            refine wp_ret ?_
            obtain rfl := Option.some.inj h
            have h := retL hk1
            obtain rfl := Option.some.inj h
            refine blk_r (then_r (then_r (blk_r (then_r (?_)))))
            refine bp_ret HF (res_one rfl HF rfl) ?_
            exact ⟨rfl, HT⟩
        · have h := (if_neg hb2).symm.trans h
          refine wp_if (b' := false) HF rfl (decide_eq_false hb2) ?_
          refine wp_exit ?_
          refine then_x (then_x (?_))
          refine blk_x ?_
          exact then_n ⟨(Option.some.inj h).symm, (HF.keep HF.nil rfl), HT⟩
    · rintro a w ⟨rfl, HF, HT⟩
      have h := brkL1 h
      refine ?_
      refine wp_seq ?_
      refine wc_text ?_
      refine wc_assign HF nS rfl rfl rfl (fun a HF => ?_)
      refine wc_end ?_
      refine then_n ?_
      refine wp_ret ?_
      obtain rfl := Option.some.inj h
      refine bp_ret HF (res_one rfl HF rfl) ?_
      exact ⟨rfl, HT⟩
  · have h := (if_neg hb1).symm.trans h
    refine wp_if (b' := true) HF rfl (notF (decide_eq_false hb1)) ?_
    refine wp_seq ?_
    refine wc_text ?_
    refine wc_assign HF nS rfl rfl rfl (fun a HF => ?_)
    refine wc_end ?_
    refine then_n ?_
    refine wp_ret ?_
    obtain rfl := Option.some.inj h
    refine then_r (?_)
    refine bp_ret HF (res_one rfl HF rfl) ?_
    exact ⟨rfl, HT⟩

def m_laws_markIntS_L0 (fuel : Nat) (x0 : List Int) : Nat → (List Int) → Int → Int → Option (Int × List Int)
  | 0, _, _, _ => none
  | k1 + 1, z3, z4, z5 =>
    if z5 < (x0.length : Int) then
      (at? z3 z5).bind fun e1 =>
      if in64 (z4 + 1) then
        if in64 (z5 + 1) then
          m_laws_markIntS_L0 fuel x0 k1 (z3.set z5.toNat z4) (z4 + 1) (z5 + 1)
        else none
      else none
    else
      some (z4, z3)

def m_laws_markIntS (fuel : Nat) (x0 : List Int) (x1 : Int) : Option (Int × List Int) :=
  bind2 (m_laws_markIntS_L0 fuel x0 fuel x0 x1 0) fun z1 z2 =>
  some (z1, z2)

set_option maxRecDepth 100000 in
set_option maxHeartbeats 4000000 in
theorem w_laws_markIntS (fuel : Nat) {x0 : List Int} {x1 : Int} {a_x0 : Option Addr} {n_x0 c_x0 : Nat} {r0 : Int} {x0' : List Int} {w0 : World} {F : Foot} (h : m_laws_markIntS fuel x0 x1 = some (r0, x0')) (hA : StF w0 F [Own 3 (rowT x0) (.slice a_x0 n_x0 c_x0)]) :
    Calls Try.prog 26 #[.slice a_x0 n_x0 c_x0, .int .i64 x1] w0 fun e w => e = .returned (.int .i64 r0) ∧ St w0 F w [Own 3 (rowT x0') (.slice a_x0 n_x0 c_x0)] := by
  have HT0 := St.init hA
  obtain rfl := (HT0.rdAt 0 rfl).neq
  have HT : St w0 F w0 [Own 3 (rowT x0) (.slice a_x0 x0.length c_x0)] := St.init hA
  rw [m_laws_markIntS] at h
  refine calls_fr (n := 19) [.slice a_x0 x0.length c_x0, .int .i64 x1] Try.func26 rfl rfl rfl (fun a HF => ?_)
  have HT : St w0 F w0 [Own 3 (rowT x0) (.slice a_x0 x0.length c_x0)] := HT
  refine wp_seq ?_
  refine wc_text ?_
  refine wc_assign HF nS rfl rfl rfl (fun a HF => ?_)
  refine wc_end ?_
  refine then_n ?_
  obtain ⟨z1, z2, hx1, h⟩ := obs2 h
  refine wp_cut (fun a w => Fr a 19 [(1, .int .i64 z1), (4, .int .i64 0)] ∧ St w0 F w [Own 3 (rowT z2) (.slice a_x0 x0.length c_x0)]) ?_ ?_
  · have hk1 := h
    have h := hx1
    refine wp_seq ?_
    refine wc_text ?_
    refine wc_assign HF nS rfl rfl rfl (fun a HF => ?_)
    refine wc_end ?_
    refine then_n ?_
    refine wp_block ?_
    refine wp_loopN (fun k1 a w => ∃ z3 z4 z5, m_laws_markIntS_L0 fuel x0 k1 z3 z4 z5 = some (z1, z2) ∧ Fr a 19 [(0, .slice a_x0 x0.length c_x0), (1, .int .i64 z4), (4, .int .i64 0), (5, .int .i64 z5)] ∧ St w0 F w [Own 3 (rowT z3) (.slice a_x0 x0.length c_x0)]) fuel ⟨x0, x1, 0, h, (HF.keep (HF.keep (HF.keep (HF.keep HF.nil rfl) rfl) rfl) rfl), HT⟩ ?_
    rintro k1 a w ⟨z3, z4, z5, h, HF, HT⟩
    cases k1 with
    | zero => cases h
    | succ k1 =>
      rw [m_laws_markIntS_L0] at h
      refine ?_
      refine wp_seq ?_
      refine wp_seq ?_
      refine wc_text ?_
      refine wc_move HF nS rfl rfl rfl (fun a HF => ?_)
      refine wc_move HF nS rfl rfl rfl (fun a HF => ?_)
      refine wc_lenR HF nS Try.underlying38 rfl rfl rfl (fun a HF => ?_)
      refine wc_bin HF nS rfl rfl b_lt rfl rfl (fun a HF => ?_)
      refine wc_end ?_
      refine then_n ?_
      by_cases hb1 : z5 < (x0.length : Int)
      · have h := (if_pos hb1).symm.trans h
        refine wp_if (b' := true) HF rfl (decide_eq_true hb1) ?_
        refine wp_skip ?_
        refine then_n ?_
        refine wp_seq ?_
        refine wp_block ?_
        refine wp_seq ?_
        refine wc_text ?_
        refine wc_move HF nS rfl rfl rfl (fun a HF => ?_)
        refine wc_move HF nS rfl rfl rfl (fun a HF => ?_)
        refine wc_move HF nS rfl rfl rfl (fun a HF => ?_)
        obtain ⟨e1, hx2, h⟩ := obs h
        obtain ⟨b1, o1, ha1⟩ := (HT.rdAt 0 rfl).addr hx2
        refine wc_ixaddr HF nS el38 rfl ha1 ((HT.rdAt 0 rfl)).neq rfl hx2 rfl rfl (fun a HF => ?_)
        refine wc_storeR (i := z5) (j := 0) (x' := z4) HF HT ha1 rfl rfl (fun w => (sc3 w).2) rfl rfl hx2 rfl rfl rfl rfl (fun w HT => ⟨nS, ?_⟩)
        refine wc_end ?_
        refine then_n ?_
        refine wc_text ?_
        refine wc_move HF nS rfl rfl rfl (fun a HF => ?_)
        obtain ⟨hg1, h⟩ := grd h
        refine wc_bin HF nS rfl rfl (b_add hg1) rfl rfl (fun a HF => ?_)
        refine wc_assign HF nS rfl rfl rfl (fun a HF => ?_)
        refine wc_end ?_
        refine blk_n ?_
        refine then_n ?_
        refine wc_text ?_
        refine wc_move HF nS rfl rfl rfl (fun a HF => ?_)
        obtain ⟨hg2, h⟩ := grd h
        refine wc_bin HF nS rfl rfl (b_add hg2) rfl rfl (fun a HF => ?_)
        refine wc_assign HF nS rfl rfl rfl (fun a HF => ?_)
        refine wc_end ?_
        exact then_n ⟨k1, Nat.lt_succ_self k1, z3.set z5.toNat z4, z4 + 1, z5 + 1, h, (HF.keep (HF.keep (HF.keep (HF.keep HF.nil rfl) rfl) rfl) rfl), HT⟩
      · have h := (if_neg hb1).symm.trans h
        refine wp_if (b' := false) HF rfl (decide_eq_false hb1) ?_
        refine wp_exit ?_
        refine then_x (then_x (?_))
        refine blk_x ?_
        have hj1 := Option.some.inj h
        obtain ⟨hi1, hj2⟩ := Prod.mk.inj hj1
        subst hi1
        subst hj2
        exact then_n ⟨(HF.keep (HF.keep HF.nil rfl) rfl), HT⟩
  · rintro a w ⟨HF, HT⟩
    refine ?_
    refine wp_seq ?_
    refine wc_text ?_
    refine wc_move HF nS rfl rfl rfl (fun a HF => ?_)
    refine wc_assign HF nS rfl rfl rfl (fun a HF => ?_)
    refine wc_end ?_
    refine then_n ?_
    refine wp_ret ?_
    have hj3 := Option.some.inj h
    obtain ⟨hi3, hj4⟩ := Prod.mk.inj hj3
    subst hi3
    subst hj4
    refine bp_ret HF (res_one rfl HF rfl) ?_
    exact ⟨rfl, HT⟩

def m_laws_heldIntS_L0 (fuel : Nat) (x0 : List Int) : Nat → Int → Int → Option (Lp Int Int)
  | 0, _, _ => none
  | k1 + 1, z2, z3 =>
    if z3 < (x0.length : Int) then
      (at? x0 z3).bind fun e1 =>
      if e1 = z2 then
        if in64 (z2 + 1) then
          if in64 (z3 + 1) then
            m_laws_heldIntS_L0 fuel x0 k1 (z2 + 1) (z3 + 1)
          else none
        else none
      else
        some (.ret (-1))
    else
      some (.brk z2)

def m_laws_heldIntS (fuel : Nat) (x0 : List Int) (x1 : Int) : Option Int :=
  (m_laws_heldIntS_L0 fuel x0 fuel x1 0).bind <| contL <| un1 fun z1 =>
  some z1

set_option maxRecDepth 100000 in
set_option maxHeartbeats 4000000 in
theorem w_laws_heldIntS (fuel : Nat) {x0 : List Int} {x1 : Int} {a_x0 : Option Addr} {n_x0 c_x0 : Nat} {r0 : Int} {w0 : World} (h : m_laws_heldIntS fuel x0 x1 = some r0) (hr_x0 : RdT (fun b => ¬ False) w0 (rowT x0) (.slice a_x0 n_x0 c_x0)) :
    Calls Try.prog 33 #[.slice a_x0 n_x0 c_x0, .int .i64 x1] w0 fun e w => e = .returned (.int .i64 r0) ∧ St w0 (fun _ => False) w [] := by
  obtain rfl := hr_x0.neq
  have HT : St w0 (fun _ => False) w0 [] := St.init0
  rw [m_laws_heldIntS] at h
  refine calls_fr (n := 21) [.slice a_x0 x0.length c_x0, .int .i64 x1] Try.func33 rfl rfl rfl (fun a HF => ?_)
  have HT : St w0 (fun _ => False) w0 [] := HT
  refine wp_seq ?_
  refine wc_text ?_
  refine wc_assign HF nS rfl rfl rfl (fun a HF => ?_)
  refine wc_end ?_
  refine then_n ?_
  obtain ⟨q1, hx1, h⟩ := obs h
  refine wp_cut (fun a w => ∃ z1, q1 = .brk z1 ∧ Fr a 21 [(1, .int .i64 z1), (4, .int .i64 0)] ∧ St w0 (fun _ => False) w []) ?_ ?_
  · have hk1 := h
    have h := hx1
    refine wp_seq ?_
    refine wc_text ?_
    refine wc_assign HF nS rfl rfl rfl (fun a HF => ?_)
    refine wc_end ?_
    refine then_n ?_
    refine wp_block ?_
    refine wp_loopN (fun k1 a w => ∃ z2 z3, m_laws_heldIntS_L0 fuel x0 k1 z2 z3 = some q1 ∧ Fr a 21 [(0, .slice a_x0 x0.length c_x0), (1, .int .i64 z2), (4, .int .i64 0), (5, .int .i64 z3)] ∧ St w0 (fun _ => False) w []) fuel ⟨x1, 0, h, (HF.keep (HF.keep (HF.keep (HF.keep HF.nil rfl) rfl) rfl) rfl), HT⟩ ?_
    rintro k1 a w ⟨z2, z3, h, HF, HT⟩
    cases k1 with
    | zero => cases h
    | succ k1 =>
      rw [m_laws_heldIntS_L0] at h
      refine ?_
      refine wp_seq ?_
      refine wp_seq ?_
      refine wc_text ?_
      refine wc_move HF nS rfl rfl rfl (fun a HF => ?_)
      refine wc_move HF nS rfl rfl rfl (fun a HF => ?_)
      refine wc_lenR HF nS Try.underlying38 rfl rfl rfl (fun a HF => ?_)
      refine wc_bin HF nS rfl rfl b_lt rfl rfl (fun a HF => ?_)
      refine wc_end ?_
      refine then_n ?_
      by_cases hb1 : z3 < (x0.length : Int)
      · have h := (if_pos hb1).symm.trans h
        refine wp_if (b' := true) HF rfl (decide_eq_true hb1) ?_
        refine wp_skip ?_
        refine then_n ?_
        refine wp_seq ?_
        refine wp_block ?_
        refine wp_seq ?_
        refine wp_seq ?_
        refine wc_text ?_
        refine wc_move HF nS rfl rfl rfl (fun a HF => ?_)
        refine wc_move HF nS rfl rfl rfl (fun a HF => ?_)
        obtain ⟨e1, hx2, h⟩ := obs h
        obtain ⟨b1, o1, ha1⟩ := (HT.ro hr_x0).any.addr hx2
        refine wc_ixaddr HF nS el38 rfl ha1 ((HT.ro hr_x0).any).neq rfl hx2 rfl rfl (fun a HF => ?_)
        have hc1 := (HT.ro hr_x0).any.flatAt ha1 hx2
        refine wc_load HF rfl sc3 (hc1.get 0 rfl) rfl rfl (fun a HF => ?_)
        refine wc_move HF nS rfl rfl rfl (fun a HF => ?_)
        refine wc_bin HF nS rfl rfl b_ne rfl rfl (fun a HF => ?_)
        refine wc_end ?_
        refine then_n ?_
        by_cases hb2 : e1 = z2
        · have h := (if_pos hb2).symm.trans h
          refine wp_if (b' := false) HF rfl (notT (decide_eq_true hb2)) ?_
          refine wp_skip ?_
          refine then_n ?_
          refine wc_text ?_
          refine wc_move HF nS rfl rfl rfl (fun a HF => ?_)
          obtain ⟨hg1, h⟩ := grd h
          refine wc_bin HF nS rfl rfl (b_add hg1) rfl rfl (fun a HF => ?_)
          refine wc_assign HF nS rfl rfl rfl (fun a HF => ?_)
          refine wc_end ?_
          refine blk_n ?_
          refine then_n ?_
          refine wc_text ?_
          refine wc_move HF nS rfl rfl rfl (fun a HF => ?_)
          obtain ⟨hg2, h⟩ := grd h
          refine wc_bin HF nS rfl rfl (b_add hg2) rfl rfl (fun a HF => ?_)
          refine wc_assign HF nS rfl rfl rfl (fun a HF => ?_)
          refine wc_end ?_
          exact then_n ⟨k1, Nat.lt_succ_self k1, z2 + 1, z3 + 1, h, (HF.keep (HF.keep (HF.keep (HF.keep HF.nil rfl) rfl) rfl) rfl), HT⟩
        · have h := (if_neg hb2).symm.trans h
          refine wp_if (b' := true) HF rfl (notF (decide_eq_false hb2)) ?_
          refine wp_seq ?_
          refine wc_text ?_
          refine wc_assign HF nS rfl rfl rfl (fun a HF => ?_)
          refine wc_end ?_
          refine then_n ?_
          refine wp_ret ?_
          obtain rfl := Option.some.inj h
          have h := retL hk1
          obtain rfl := Option.some.inj h
          refine then_r (blk_r (then_r (then_r (blk_r (then_r (?_))))))
          refine bp_ret HF (res_one rfl HF rfl) ?_
          exact ⟨rfl, HT⟩
      · have h := (if_neg hb1).symm.trans h
        refine wp_if (b' := false) HF rfl (decide_eq_false hb1) ?_
        refine wp_exit ?_
        refine then_x (then_x (?_))
        refine blk_x ?_
        exact then_n ⟨z2, (Option.some.inj h).symm, (HF.keep (HF.keep HF.nil rfl) rfl), HT⟩
  · rintro a w ⟨z1, rfl, HF, HT⟩
    have h := brkL1 h
    refine ?_
    refine wp_seq ?_
    refine wc_text ?_
    refine wc_move HF nS rfl rfl rfl (fun a HF => ?_)
    refine wc_assign HF nS rfl rfl rfl (fun a HF => ?_)
    refine wc_end ?_
    refine then_n ?_
    refine wp_ret ?_
    obtain rfl := Option.some.inj h
    refine bp_ret HF (res_one rfl HF rfl) ?_
    exact ⟨rfl, HT⟩

def m_laws_markWordS_L0 (fuel : Nat) (x0 : List I3) : Nat → (List I3) → Int → Int → Option (Int × List I3)
  | 0, _, _, _ => none
  | k1 + 1, z3, z4, z5 =>
    if z5 < (x0.length : Int) then
      (at? z3 z5).bind fun e1 =>
      if in64 (z4 + 1) then
        (at? (z3.set z5.toNat (⟨z4, e1.b, e1.c⟩ : I3)) z5).bind fun e2 =>
        if in64 ((z4 + 1) + 1) then
          (at? ((z3.set z5.toNat (⟨z4, e1.b, e1.c⟩ : I3)).set z5.toNat (⟨e2.a, z4 + 1, e2.c⟩ : I3)) z5).bind fun e3 =>
          if in64 (((z4 + 1) + 1) + 1) then
            if in64 (z5 + 1) then
              m_laws_markWordS_L0 fuel x0 k1 (((z3.set z5.toNat (⟨z4, e1.b, e1.c⟩ : I3)).set z5.toNat (⟨e2.a, z4 + 1, e2.c⟩ : I3)).set z5.toNat (⟨e3.a, e3.b, (z4 + 1) + 1⟩ : I3)) (((z4 + 1) + 1) + 1) (z5 + 1)
            else none
          else none
        else none
      else none
    else
      some (z4, z3)

def m_laws_markWordS (fuel : Nat) (x0 : List I3) (x1 : Int) : Option (Int × List I3) :=
  bind2 (m_laws_markWordS_L0 fuel x0 fuel x0 x1 0) fun z1 z2 =>
  some (z1, z2)

set_option maxRecDepth 100000 in
set_option maxHeartbeats 4000000 in
theorem w_laws_markWordS (fuel : Nat) {x0 : List I3} {x1 : Int} {a_x0 : Option Addr} {n_x0 c_x0 : Nat} {r0 : Int} {x0' : List I3} {w0 : World} {F : Foot} (h : m_laws_markWordS fuel x0 x1 = some (r0, x0')) (hA : StF w0 F [Own 61 (rowT x0) (.slice a_x0 n_x0 c_x0)]) :
    Calls Try.prog 56 #[.slice a_x0 n_x0 c_x0, .int .i64 x1] w0 fun e w => e = .returned (.int .i64 r0) ∧ St w0 F w [Own 61 (rowT x0') (.slice a_x0 n_x0 c_x0)] := by
  have HT0 := St.init hA
  obtain rfl := (HT0.rdAt 0 rfl).neq
  have HT : St w0 F w0 [Own 61 (rowT x0) (.slice a_x0 x0.length c_x0)] := St.init hA
  rw [m_laws_markWordS] at h
  refine calls_fr (n := 34) [.slice a_x0 x0.length c_x0, .int .i64 x1] Try.func56 rfl rfl rfl (fun a HF => ?_)
  have HT : St w0 F w0 [Own 61 (rowT x0) (.slice a_x0 x0.length c_x0)] := HT
  refine wp_seq ?_
  refine wc_text ?_
  refine wc_assign HF nS rfl rfl rfl (fun a HF => ?_)
  refine wc_end ?_
  refine then_n ?_
  obtain ⟨z1, z2, hx1, h⟩ := obs2 h
  refine wp_cut (fun a w => Fr a 34 [(1, .int .i64 z1), (4, .int .i64 0)] ∧ St w0 F w [Own 61 (rowT z2) (.slice a_x0 x0.length c_x0)]) ?_ ?_
  · have hk1 := h
    have h := hx1
    refine wp_seq ?_
    refine wc_text ?_
    refine wc_assign HF nS rfl rfl rfl (fun a HF => ?_)
    refine wc_end ?_
    refine then_n ?_
    refine wp_block ?_
    refine wp_loopN (fun k1 a w => ∃ z3 z4 z5, m_laws_markWordS_L0 fuel x0 k1 z3 z4 z5 = some (z1, z2) ∧ Fr a 34 [(0, .slice a_x0 x0.length c_x0), (1, .int .i64 z4), (4, .int .i64 0), (5, .int .i64 z5)] ∧ St w0 F w [Own 61 (rowT z3) (.slice a_x0 x0.length c_x0)]) fuel ⟨x0, x1, 0, h, (HF.keep (HF.keep (HF.keep (HF.keep HF.nil rfl) rfl) rfl) rfl), HT⟩ ?_
    rintro k1 a w ⟨z3, z4, z5, h, HF, HT⟩
    cases k1 with
    | zero => cases h
    | succ k1 =>
      rw [m_laws_markWordS_L0] at h
      refine ?_
      refine wp_seq ?_
      refine wp_seq ?_
      refine wc_text ?_
      refine wc_move HF nS rfl rfl rfl (fun a HF => ?_)
      refine wc_move HF nS rfl rfl rfl (fun a HF => ?_)
      refine wc_lenR HF nS Try.underlying27 rfl rfl rfl (fun a HF => ?_)
      refine wc_bin HF nS rfl rfl b_lt rfl rfl (fun a HF => ?_)
      refine wc_end ?_
      refine then_n ?_
      by_cases hb1 : z5 < (x0.length : Int)
      · have h := (if_pos hb1).symm.trans h
        refine wp_if (b' := true) HF rfl (decide_eq_true hb1) ?_
        refine wp_skip ?_
        refine then_n ?_
        refine wp_seq ?_
        refine wp_block ?_
        refine wp_seq ?_
        refine wc_text ?_
        refine wc_move HF nS rfl rfl rfl (fun a HF => ?_)
        refine wc_move HF nS rfl rfl rfl (fun a HF => ?_)
        refine wc_move HF nS rfl rfl rfl (fun a HF => ?_)
        obtain ⟨e1, hx2, h⟩ := obs h
        obtain ⟨b1, o1, ha1⟩ := (HT.rdAt 0 rfl).addr hx2
        refine wc_ixaddr HF nS el27 rfl ha1 ((HT.rdAt 0 rfl)).neq rfl hx2 rfl rfl (fun a HF => ?_)
        refine wc_faddr HF nS rfl fl61_0 rfl rfl (fun a HF => ?_)
        refine wc_storeR (i := z5) (j := 0) (x' := (⟨z4, e1.b, e1.c⟩ : I3)) HF HT ha1 rfl rfl (fun w => (sc3 w).2) rfl rfl hx2 rfl rfl rfl rfl (fun w HT => ⟨nS, ?_⟩)
        refine wc_end ?_
        refine then_n ?_
        refine wp_seq ?_
        refine wc_text ?_
        refine wc_move HF nS rfl rfl rfl (fun a HF => ?_)
        obtain ⟨hg1, h⟩ := grd h
        refine wc_bin HF nS rfl rfl (b_add hg1) rfl rfl (fun a HF => ?_)
        refine wc_assign HF nS rfl rfl rfl (fun a HF => ?_)
        refine wc_end ?_
        refine then_n ?_
        refine wp_seq ?_
        refine wc_text ?_
        refine wc_move HF nS rfl rfl rfl (fun a HF => ?_)
        refine wc_move HF nS rfl rfl rfl (fun a HF => ?_)
        refine wc_move HF nS rfl rfl rfl (fun a HF => ?_)
        obtain ⟨e2, hx3, h⟩ := obs h
        refine wc_ixaddr HF nS el27 rfl ha1 ((HT.rdAt 0 rfl)).neq rfl hx3 rfl rfl (fun a HF => ?_)
        refine wc_faddr HF nS rfl fl61_1 rfl rfl (fun a HF => ?_)
        refine wc_storeR (i := z5) (j := 1) (x' := (⟨e2.a, z4 + 1, e2.c⟩ : I3)) HF HT ha1 rfl rfl (fun w => (sc3 w).2) rfl rfl hx3 rfl rfl rfl rfl (fun w HT => ⟨nS, ?_⟩)
        refine wc_end ?_
        refine then_n ?_
        refine wp_seq ?_
        refine wc_text ?_
        refine wc_move HF nS rfl rfl rfl (fun a HF => ?_)
        obtain ⟨hg2, h⟩ := grd h
        refine wc_bin HF nS rfl rfl (b_add hg2) rfl rfl (fun a HF => ?_)
        refine wc_assign HF nS rfl rfl rfl (fun a HF => ?_)
        refine wc_end ?_
        refine then_n ?_
        refine wp_seq ?_
        refine wc_text ?_
        refine wc_move HF nS rfl rfl rfl (fun a HF => ?_)
        refine wc_move HF nS rfl rfl rfl (fun a HF => ?_)
        refine wc_move HF nS rfl rfl rfl (fun a HF => ?_)
        obtain ⟨e3, hx4, h⟩ := obs h
        refine wc_ixaddr HF nS el27 rfl ha1 ((HT.rdAt 0 rfl)).neq rfl hx4 rfl rfl (fun a HF => ?_)
        refine wc_faddr HF nS rfl fl61_2 rfl rfl (fun a HF => ?_)
        refine wc_storeR (i := z5) (j := 2) (x' := (⟨e3.a, e3.b, (z4 + 1) + 1⟩ : I3)) HF HT ha1 rfl rfl (fun w => (sc3 w).2) rfl rfl hx4 rfl rfl rfl rfl (fun w HT => ⟨nS, ?_⟩)
        refine wc_end ?_
        refine then_n ?_
        refine wc_text ?_
        refine wc_move HF nS rfl rfl rfl (fun a HF => ?_)
        obtain ⟨hg3, h⟩ := grd h
        refine wc_bin HF nS rfl rfl (b_add hg3) rfl rfl (fun a HF => ?_)
        refine wc_assign HF nS rfl rfl rfl (fun a HF => ?_)
        refine wc_end ?_
        refine blk_n ?_
        refine then_n ?_
        refine wc_text ?_
        refine wc_move HF nS rfl rfl rfl (fun a HF => ?_)
        obtain ⟨hg4, h⟩ := grd h
        refine wc_bin HF nS rfl rfl (b_add hg4) rfl rfl (fun a HF => ?_)
        refine wc_assign HF nS rfl rfl rfl (fun a HF => ?_)
        refine wc_end ?_
        exact then_n ⟨k1, Nat.lt_succ_self k1, ((z3.set z5.toNat (⟨z4, e1.b, e1.c⟩ : I3)).set z5.toNat (⟨e2.a, z4 + 1, e2.c⟩ : I3)).set z5.toNat (⟨e3.a, e3.b, (z4 + 1) + 1⟩ : I3), ((z4 + 1) + 1) + 1, z5 + 1, h, (HF.keep (HF.keep (HF.keep (HF.keep HF.nil rfl) rfl) rfl) rfl), HT⟩
      · have h := (if_neg hb1).symm.trans h
        refine wp_if (b' := false) HF rfl (decide_eq_false hb1) ?_
        refine wp_exit ?_
        refine then_x (then_x (?_))
        refine blk_x ?_
        have hj1 := Option.some.inj h
        obtain ⟨hi1, hj2⟩ := Prod.mk.inj hj1
        subst hi1
        subst hj2
        exact then_n ⟨(HF.keep (HF.keep HF.nil rfl) rfl), HT⟩
  · rintro a w ⟨HF, HT⟩
    refine ?_
    refine wp_seq ?_
    refine wc_text ?_
    refine wc_move HF nS rfl rfl rfl (fun a HF => ?_)
    refine wc_assign HF nS rfl rfl rfl (fun a HF => ?_)
    refine wc_end ?_
    refine then_n ?_
    refine wp_ret ?_
    have hj3 := Option.some.inj h
    obtain ⟨hi3, hj4⟩ := Prod.mk.inj hj3
    subst hi3
    subst hj4
    refine bp_ret HF (res_one rfl HF rfl) ?_
    exact ⟨rfl, HT⟩

def m_laws_heldWordS_L0 (fuel : Nat) (x0 : List I3) : Nat → Int → Int → Option (Lp Int Int)
  | 0, _, _ => none
  | k1 + 1, z2, z3 =>
    if z3 < (x0.length : Int) then
      (at? x0 z3).bind fun e1 =>
      if e1.a = z2 then
        if in64 (z2 + 1) then
          if e1.b = (z2 + 1) then
            if in64 ((z2 + 1) + 1) then
              if e1.c = ((z2 + 1) + 1) then
                if in64 (((z2 + 1) + 1) + 1) then
                  if in64 (z3 + 1) then
                    m_laws_heldWordS_L0 fuel x0 k1 (((z2 + 1) + 1) + 1) (z3 + 1)
                  else none
                else none
              else
                some (.ret (-1))
            else none
          else
            some (.ret (-1))
        else none
      else
        some (.ret (-1))
    else
      some (.brk z2)

def m_laws_heldWordS (fuel : Nat) (x0 : List I3) (x1 : Int) : Option Int :=
  (m_laws_heldWordS_L0 fuel x0 fuel x1 0).bind <| contL <| un1 fun z1 =>
  some z1

set_option maxRecDepth 100000 in
set_option maxHeartbeats 4000000 in
theorem w_laws_heldWordS (fuel : Nat) {x0 : List I3} {x1 : Int} {a_x0 : Option Addr} {n_x0 c_x0 : Nat} {r0 : Int} {w0 : World} (h : m_laws_heldWordS fuel x0 x1 = some r0) (hr_x0 : RdT (fun b => ¬ False) w0 (rowT x0) (.slice a_x0 n_x0 c_x0)) :
    Calls Try.prog 57 #[.slice a_x0 n_x0 c_x0, .int .i64 x1] w0 fun e w => e = .returned (.int .i64 r0) ∧ St w0 (fun _ => False) w [] := by
  obtain rfl := hr_x0.neq
  have HT : St w0 (fun _ => False) w0 [] := St.init0
  rw [m_laws_heldWordS] at h
  refine calls_fr (n := 40) [.slice a_x0 x0.length c_x0, .int .i64 x1] Try.func57 rfl rfl rfl (fun a HF => ?_)
  have HT : St w0 (fun _ => False) w0 [] := HT
  refine wp_seq ?_
  refine wc_text ?_
  refine wc_assign HF nS rfl rfl rfl (fun a HF => ?_)
  refine wc_end ?_
  refine then_n ?_
  obtain ⟨q1, hx1, h⟩ := obs h
  refine wp_cut (fun a w => ∃ z1, q1 = .brk z1 ∧ Fr a 40 [(1, .int .i64 z1), (4, .int .i64 0)] ∧ St w0 (fun _ => False) w []) ?_ ?_
  · have hk1 := h
    have h := hx1
    refine wp_seq ?_
    refine wc_text ?_
    refine wc_assign HF nS rfl rfl rfl (fun a HF => ?_)
    refine wc_end ?_
    refine then_n ?_
    refine wp_block ?_
    refine wp_loopN (fun k1 a w => ∃ z2 z3, m_laws_heldWordS_L0 fuel x0 k1 z2 z3 = some q1 ∧ Fr a 40 [(0, .slice a_x0 x0.length c_x0), (1, .int .i64 z2), (4, .int .i64 0), (5, .int .i64 z3)] ∧ St w0 (fun _ => False) w []) fuel ⟨x1, 0, h, (HF.keep (HF.keep (HF.keep (HF.keep HF.nil rfl) rfl) rfl) rfl), HT⟩ ?_
    rintro k1 a w ⟨z2, z3, h, HF, HT⟩
    cases k1 with
    | zero => cases h
    | succ k1 =>
      rw [m_laws_heldWordS_L0] at h
      refine ?_
      refine wp_seq ?_
      refine wp_seq ?_
      refine wc_text ?_
      refine wc_move HF nS rfl rfl rfl (fun a HF => ?_)
      refine wc_move HF nS rfl rfl rfl (fun a HF => ?_)
      refine wc_lenR HF nS Try.underlying27 rfl rfl rfl (fun a HF => ?_)
      refine wc_bin HF nS rfl rfl b_lt rfl rfl (fun a HF => ?_)
      refine wc_end ?_
      refine then_n ?_
      by_cases hb1 : z3 < (x0.length : Int)
      · have h := (if_pos hb1).symm.trans h
        refine wp_if (b' := true) HF rfl (decide_eq_true hb1) ?_
        refine wp_skip ?_
        refine then_n ?_
        refine wp_seq ?_
        refine wp_block ?_
        refine wp_seq ?_
        refine wp_seq ?_
        refine wc_text ?_
        refine wc_move HF nS rfl rfl rfl (fun a HF => ?_)
        refine wc_move HF nS rfl rfl rfl (fun a HF => ?_)
        obtain ⟨e1, hx2, h⟩ := obs h
        obtain ⟨b1, o1, ha1⟩ := (HT.ro hr_x0).any.addr hx2
        refine wc_ixaddr HF nS el27 rfl ha1 ((HT.ro hr_x0).any).neq rfl hx2 rfl rfl (fun a HF => ?_)
        refine wc_faddr HF nS rfl fl61_0 rfl rfl (fun a HF => ?_)
        have hc1 := (HT.ro hr_x0).any.flatAt ha1 hx2
        refine wc_load HF rfl sc3 (hc1.get 0 rfl) rfl rfl (fun a HF => ?_)
        refine wc_move HF nS rfl rfl rfl (fun a HF => ?_)
        refine wc_bin HF nS rfl rfl b_ne rfl rfl (fun a HF => ?_)
        refine wc_end ?_
        refine then_n ?_
        by_cases hb2 : e1.a = z2
        · have h := (if_pos hb2).symm.trans h
          refine wp_if (b' := false) HF rfl (notT (decide_eq_true hb2)) ?_
          refine wp_skip ?_
          refine then_n ?_
          refine wp_seq ?_
          refine wc_text ?_
          refine wc_move HF nS rfl rfl rfl (fun a HF => ?_)
          obtain ⟨hg1, h⟩ := grd h
          refine wc_bin HF nS rfl rfl (b_add hg1) rfl rfl (fun a HF => ?_)
          refine wc_assign HF nS rfl rfl rfl (fun a HF => ?_)
          refine wc_end ?_
          refine then_n ?_
          refine wp_seq ?_
          refine wp_seq ?_
          refine wc_text ?_
          refine wc_move HF nS rfl rfl rfl (fun a HF => ?_)
          refine wc_move HF nS rfl rfl rfl (fun a HF => ?_)
          refine wc_ixaddr HF nS el27 rfl ha1 ((HT.ro hr_x0).any).neq rfl hx2 rfl rfl (fun a HF => ?_)
          refine wc_faddr HF nS rfl fl61_1 rfl rfl (fun a HF => ?_)
          have hc2 := (HT.ro hr_x0).any.flatAt ha1 hx2
          refine wc_load HF rfl sc3 (hc2.get 1 rfl) rfl rfl (fun a HF => ?_)
          refine wc_move HF nS rfl rfl rfl (fun a HF => ?_)
          refine wc_bin HF nS rfl rfl b_ne rfl rfl (fun a HF => ?_)
          refine wc_end ?_
          refine then_n ?_
          by_cases hb3 : e1.b = (z2 + 1)
          · have h := (if_pos hb3).symm.trans h
            refine wp_if (b' := false) HF rfl (notT (decide_eq_true hb3)) ?_
            refine wp_skip ?_
            refine then_n ?_
            refine wp_seq ?_
            refine wc_text ?_
            refine wc_move HF nS rfl rfl rfl (fun a HF => ?_)
            obtain ⟨hg2, h⟩ := grd h
            refine wc_bin HF nS rfl rfl (b_add hg2) rfl rfl (fun a HF => ?_)
            refine wc_assign HF nS rfl rfl rfl (fun a HF => ?_)
            refine wc_end ?_
            refine then_n ?_
            refine wp_seq ?_
            refine wp_seq ?_
            refine wc_text ?_
            refine wc_move HF nS rfl rfl rfl (fun a HF => ?_)
            refine wc_move HF nS rfl rfl rfl (fun a HF => ?_)
            refine wc_ixaddr HF nS el27 rfl ha1 ((HT.ro hr_x0).any).neq rfl hx2 rfl rfl (fun a HF => ?_)
            refine wc_faddr HF nS rfl fl61_2 rfl rfl (fun a HF => ?_)
            have hc3 := (HT.ro hr_x0).any.flatAt ha1 hx2
            refine wc_load HF rfl sc3 (hc3.get 2 rfl) rfl rfl (fun a HF => ?_)
            refine wc_move HF nS rfl rfl rfl (fun a HF => ?_)
            refine wc_bin HF nS rfl rfl b_ne rfl rfl (fun a HF => ?_)
            refine wc_end ?_
            refine then_n ?_
            by_cases hb4 : e1.c = ((z2 + 1) + 1)
            · have h := (if_pos hb4).symm.trans h
              refine wp_if (b' := false) HF rfl (notT (decide_eq_true hb4)) ?_
              refine wp_skip ?_
              refine then_n ?_
              refine wc_text ?_
              refine wc_move HF nS rfl rfl rfl (fun a HF => ?_)
              obtain ⟨hg3, h⟩ := grd h
              refine wc_bin HF nS rfl rfl (b_add hg3) rfl rfl (fun a HF => ?_)
              refine wc_assign HF nS rfl rfl rfl (fun a HF => ?_)
              refine wc_end ?_
              refine blk_n ?_
              refine then_n ?_
              refine wc_text ?_
              refine wc_move HF nS rfl rfl rfl (fun a HF => ?_)
              obtain ⟨hg4, h⟩ := grd h
              refine wc_bin HF nS rfl rfl (b_add hg4) rfl rfl (fun a HF => ?_)
              refine wc_assign HF nS rfl rfl rfl (fun a HF => ?_)
              refine wc_end ?_
              exact then_n ⟨k1, Nat.lt_succ_self k1, ((z2 + 1) + 1) + 1, z3 + 1, h, (HF.keep (HF.keep (HF.keep (HF.keep HF.nil rfl) rfl) rfl) rfl), HT⟩
            · have h := (if_neg hb4).symm.trans h
              refine wp_if (b' := true) HF rfl (notF (decide_eq_false hb4)) ?_
              refine wp_seq ?_
              refine wc_text ?_
              refine wc_assign HF nS rfl rfl rfl (fun a HF => ?_)
              refine wc_end ?_
              refine then_n ?_
              refine wp_ret ?_
              obtain rfl := Option.some.inj h
              have h := retL hk1
              obtain rfl := Option.some.inj h
              refine then_r (blk_r (then_r (then_r (blk_r (then_r (?_))))))
              refine bp_ret HF (res_one rfl HF rfl) ?_
              exact ⟨rfl, HT⟩
          · have h := (if_neg hb3).symm.trans h
            refine wp_if (b' := true) HF rfl (notF (decide_eq_false hb3)) ?_
            refine wp_seq ?_
            refine wc_text ?_
            refine wc_assign HF nS rfl rfl rfl (fun a HF => ?_)
            refine wc_end ?_
            refine then_n ?_
            refine wp_ret ?_
            obtain rfl := Option.some.inj h
            have h := retL hk1
            obtain rfl := Option.some.inj h
            refine then_r (blk_r (then_r (then_r (blk_r (then_r (?_))))))
            refine bp_ret HF (res_one rfl HF rfl) ?_
            exact ⟨rfl, HT⟩
        · have h := (if_neg hb2).symm.trans h
          refine wp_if (b' := true) HF rfl (notF (decide_eq_false hb2)) ?_
          refine wp_seq ?_
          refine wc_text ?_
          refine wc_assign HF nS rfl rfl rfl (fun a HF => ?_)
          refine wc_end ?_
          refine then_n ?_
          refine wp_ret ?_
          obtain rfl := Option.some.inj h
          have h := retL hk1
          obtain rfl := Option.some.inj h
          refine then_r (blk_r (then_r (then_r (blk_r (then_r (?_))))))
          refine bp_ret HF (res_one rfl HF rfl) ?_
          exact ⟨rfl, HT⟩
      · have h := (if_neg hb1).symm.trans h
        refine wp_if (b' := false) HF rfl (decide_eq_false hb1) ?_
        refine wp_exit ?_
        refine then_x (then_x (?_))
        refine blk_x ?_
        exact then_n ⟨z2, (Option.some.inj h).symm, (HF.keep (HF.keep HF.nil rfl) rfl), HT⟩
  · rintro a w ⟨z1, rfl, HF, HT⟩
    have h := brkL1 h
    refine ?_
    refine wp_seq ?_
    refine wc_text ?_
    refine wc_move HF nS rfl rfl rfl (fun a HF => ?_)
    refine wc_assign HF nS rfl rfl rfl (fun a HF => ?_)
    refine wc_end ?_
    refine then_n ?_
    refine wp_ret ?_
    obtain rfl := Option.some.inj h
    refine bp_ret HF (res_one rfl HF rfl) ?_
    exact ⟨rfl, HT⟩

def m_laws_markMem (fuel : Nat) (x0_0 : Int) (x0_1 : List I3) (x1 : Int) : Option (Int × List I3) :=
  bind2 (m_laws_markWordS fuel x0_1 x1) fun y1 y2 =>
  some (y1, y2)

set_option maxRecDepth 100000 in
set_option maxHeartbeats 4000000 in
theorem w_laws_markMem (fuel : Nat) {x0_0 : Int} {x0_1 : List I3} {x1 : Int} {a_x0_1 : Option Addr} {n_x0_1 c_x0_1 : Nat} {r0 : Int} {x0_1' : List I3} {w0 : World} {F : Foot} (h : m_laws_markMem fuel x0_0 x0_1 x1 = some (r0, x0_1')) (hA : StF w0 F [Own 61 (rowT x0_1) (.slice a_x0_1 n_x0_1 c_x0_1)]) :
    Calls Try.prog 27 #[.agg #[.int .i64 x0_0, .slice a_x0_1 n_x0_1 c_x0_1], .int .i64 x1] w0 fun e w => e = .returned (.int .i64 r0) ∧ St w0 F w [Own 61 (rowT x0_1') (.slice a_x0_1 n_x0_1 c_x0_1)] := by
  have HT0 := St.init hA
  obtain rfl := (HT0.rdAt 0 rfl).neq
  have HT : St w0 F w0 [Own 61 (rowT x0_1) (.slice a_x0_1 x0_1.length c_x0_1)] := St.init hA
  rw [m_laws_markMem] at h
  refine calls_fr (n := 10) [.agg #[.int .i64 x0_0, .slice a_x0_1 x0_1.length c_x0_1], .int .i64 x1] Try.func27 rfl rfl rfl (fun a HF => ?_)
  have HT : St w0 F w0 [Own 61 (rowT x0_1) (.slice a_x0_1 x0_1.length c_x0_1)] := HT
  refine wp_seq ?_
  refine wc_text ?_
  refine wc_box (cs := [.int .i64 x0_0, .slice a_x0_1 x0_1.length c_x0_1]) HF HT rfl rfl rfl rfl (fun p1 w HT hb => ⟨nS, fun a HF => ?_⟩)
  refine wc_assign HF nS rfl rfl rfl (fun a HF => ?_)
  refine wc_end ?_
  refine then_n ?_
  refine wp_seq ?_
  refine wc_text ?_
  refine wc_faddr HF nS rfl fl29_1 rfl rfl (fun a HF => ?_)
  refine wc_load HF rfl sc27 ((HT.boxAt 0 rfl).get 1 rfl) rfl rfl (fun a HF => ?_)
  refine wc_move HF nS rfl rfl rfl (fun a HF => ?_)
  obtain ⟨y1, y2, hx1, h⟩ := obs2 h
  have HT : St w0 F w [Own 61 (rowT x0_1) (.slice a_x0_1 x0_1.length c_x0_1), Box p1 [.int .i64 x0_0, .slice a_x0_1 x0_1.length c_x0_1]] := HT.pick 1
  obtain ⟨F1, hAF1, hFF1, hbackF1, hroF1, hownF1⟩ := St.handR (A := [Own 61 (rowT x0_1) (.slice a_x0_1 x0_1.length c_x0_1)]) HT
  refine wc_call HF cf56 rfl (w_laws_markWordS fuel hx1 hAF1) rfl rfl ?_
  rintro e w ⟨rfl, hE⟩
  have HT := hbackF1 _ _ hE
  have HT : St w0 F w [Own 61 (rowT y2) (.slice a_x0_1 x0_1.length c_x0_1), Box p1 [.int .i64 x0_0, .slice a_x0_1 x0_1.length c_x0_1]] := HT
  refine ⟨_, rfl, nS, fun a HF => ?_⟩
  refine wc_assign HF nS rfl rfl rfl (fun a HF => ?_)
  refine wc_end ?_
  refine then_n ?_
  refine wp_seq ?_
  refine wc_text ?_
  refine wc_move HF nS rfl rfl rfl (fun a HF => ?_)
  refine wc_assign HF nS rfl rfl rfl (fun a HF => ?_)
  refine wc_end ?_
  refine then_n ?_
  refine wp_ret ?_
  have hj1 := Option.some.inj h
  obtain ⟨hi1, hj2⟩ := Prod.mk.inj hj1
  subst hi1
  subst hj2
  refine bp_ret HF (res_one rfl HF rfl) ?_
  have HT : St w0 F w [Own 61 (rowT y2) (.slice a_x0_1 x0_1.length c_x0_1)] := HT.take 1
  exact ⟨rfl, HT⟩

def m_laws_heldMem (fuel : Nat) (x0_0 : Int) (x0_1 : List I3) (x1 : Int) : Option Int :=
  (m_laws_heldWordS fuel x0_1 x1).bind fun y1 =>
  if y1 < 0 then
    some (-1)
  else
    some y1

set_option maxRecDepth 100000 in
set_option maxHeartbeats 4000000 in
theorem w_laws_heldMem (fuel : Nat) {x0_0 : Int} {x0_1 : List I3} {x1 : Int} {a_x0_1 : Option Addr} {n_x0_1 c_x0_1 : Nat} {r0 : Int} {w0 : World} (h : m_laws_heldMem fuel x0_0 x0_1 x1 = some r0) (hr_x0_1 : RdT (fun b => ¬ False) w0 (rowT x0_1) (.slice a_x0_1 n_x0_1 c_x0_1)) :
    Calls Try.prog 28 #[.agg #[.int .i64 x0_0, .slice a_x0_1 n_x0_1 c_x0_1], .int .i64 x1] w0 fun e w => e = .returned (.int .i64 r0) ∧ St w0 (fun _ => False) w [] := by
  obtain rfl := hr_x0_1.neq
  have HT : St w0 (fun _ => False) w0 [] := St.init0
  rw [m_laws_heldMem] at h
  refine calls_fr (n := 12) [.agg #[.int .i64 x0_0, .slice a_x0_1 x0_1.length c_x0_1], .int .i64 x1] Try.func28 rfl rfl rfl (fun a HF => ?_)
  have HT : St w0 (fun _ => False) w0 [] := HT
  refine wp_seq ?_
  refine wc_text ?_
  refine wc_box (cs := [.int .i64 x0_0, .slice a_x0_1 x0_1.length c_x0_1]) HF HT rfl rfl rfl rfl (fun p1 w HT hb => ⟨nS, fun a HF => ?_⟩)
  refine wc_assign HF nS rfl rfl rfl (fun a HF => ?_)
  refine wc_end ?_
  refine then_n ?_
  refine wp_seq ?_
  refine wc_text ?_
  refine wc_faddr HF nS rfl fl29_1 rfl rfl (fun a HF => ?_)
  refine wc_load HF rfl sc27 ((HT.boxAt 0 rfl).get 1 rfl) rfl rfl (fun a HF => ?_)
  refine wc_move HF nS rfl rfl rfl (fun a HF => ?_)
  obtain ⟨y1, hx1, h⟩ := obs h
  refine wc_call HF cf57 rfl (w_laws_heldWordS fuel hx1 (HT.ro hr_x0_1).any) rfl rfl ?_
  rintro e w ⟨rfl, hE⟩
  have hb := hE.below
  have HT := HT.pure hE
  have HT : St w0 (fun _ => False) w [Box p1 [.int .i64 x0_0, .slice a_x0_1 x0_1.length c_x0_1]] := HT
  refine ⟨_, rfl, nS, fun a HF => ?_⟩
  refine wc_assign HF nS rfl rfl rfl (fun a HF => ?_)
  refine wc_end ?_
  refine then_n ?_
  refine wp_seq ?_
  refine wp_seq ?_
  refine wc_text ?_
  refine wc_move HF nS rfl rfl rfl (fun a HF => ?_)
  refine wc_bin HF nS rfl rfl b_lt rfl rfl (fun a HF => ?_)
  refine wc_end ?_
  refine then_n ?_
  by_cases hb1 : y1 < 0
  · have h := (if_pos hb1).symm.trans h
    refine wp_if (b' := true) HF rfl (decide_eq_true hb1) ?_
    refine wp_seq ?_
    refine wc_text ?_
    refine wc_assign HF nS rfl rfl rfl (fun a HF => ?_)
    refine wc_end ?_
    refine then_n ?_
    refine wp_ret ?_
    obtain rfl := Option.some.inj h
    refine then_r (?_)
    refine bp_ret HF (res_one rfl HF rfl) ?_
    have HT : St w0 (fun _ => False) w [] := HT.take 0
    exact ⟨rfl, HT⟩
  · have h := (if_neg hb1).symm.trans h
    refine wp_if (b' := false) HF rfl (decide_eq_false hb1) ?_
    refine wp_skip ?_
    refine then_n ?_
    refine wp_seq ?_
    refine wc_text ?_
    refine wc_move HF nS rfl rfl rfl (fun a HF => ?_)
    refine wc_assign HF nS rfl rfl rfl (fun a HF => ?_)
    refine wc_end ?_
    refine then_n ?_
    refine wp_ret ?_
    obtain rfl := Option.some.inj h
    refine bp_ret HF (res_one rfl HF rfl) ?_
    have HT : St w0 (fun _ => False) w [] := HT.take 0
    exact ⟨rfl, HT⟩
end Go.Proofs.Ytmhdjnmfioaciaa
