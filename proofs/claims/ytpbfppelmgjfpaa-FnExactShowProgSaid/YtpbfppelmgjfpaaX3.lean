/- Walks of functions, by program: laws.toKidS, laws.toProg, spec.HasFork, spec.Touches, spec.KidOk, spec.ProgOk, spec.ShowProg, laws.FnExactShowProg. -/
import Derived.Test.YtpbfppelmgjfpaaTy
import Derived.Test.YtpbfppelmgjfpaaX2
namespace Go.Proofs.Ytpbfppelmgjfpaa
open Go Go.RowKit
set_option linter.unusedVariables false
set_option linter.unusedSimpArgs false
def m_laws_toKidS_L0 (fuel : Nat) (x0 : List KidD) : Nat → (List KidD) → Int → Option (List KidD)
  | 0, _, _ => none
  | k1 + 1, z2, z3 =>
    if z3 < (x0.length : Int) then
      (at? x0 z3).bind fun e1 =>
      (m_laws_toKid fuel e1.code).bind fun y1 =>
      (at? z2 z3).bind fun e2 =>
      if in64 (z3 + 1) then
        m_laws_toKidS_L0 fuel x0 k1 (z2.set z3.toNat (⟨y1⟩ : KidD)) (z3 + 1)
      else none
    else
      some z2

def m_laws_toKidS (fuel : Nat) (x0 : List KidD) : Option (List KidD) :=
  if 0 ≤ ((x0.length : Int) : Int) ∧ (x0.length : Int) ≤ 1048576 then
    (m_laws_toKidS_L0 fuel x0 fuel (List.replicate ((x0.length : Int) : Int).toNat ((⟨[]⟩ : KidD) : KidD)) 0).bind fun z1 =>
    some z1
  else none

set_option maxRecDepth 100000 in
set_option maxHeartbeats 4000000 in
theorem w_laws_toKidS (fuel : Nat) {x0 : List KidD} {a_x0 : Option Addr} {n_x0 c_x0 : Nat} {r0 : List KidD} {w0 : World} (h : m_laws_toKidS fuel x0 = some r0) (hr_x0 : RdT (fun b => ¬ False) w0 (rowT x0) (.slice a_x0 n_x0 c_x0)) :
    Calls Try.prog 57 #[.slice a_x0 n_x0 c_x0] w0 fun e w => ∃ a_r0 n_r0 c_r0, e = .returned (.slice a_r0 n_r0 c_r0) ∧ St w0 (fun _ => False) w [Own 77 (rowT r0) (.slice a_r0 n_r0 c_r0)] := by
  obtain rfl := hr_x0.neq
  have HT : St w0 (fun _ => False) w0 [] := St.init0
  rw [m_laws_toKidS] at h
  refine calls_fr (n := 23) [.slice a_x0 x0.length c_x0] Try.func57 rfl rfl rfl (fun a HF => ?_)
  have HT : St w0 (fun _ => False) w0 [] := HT
  refine wp_seq ?_
  refine wc_text ?_
  refine wc_assign HF nS rfl rfl rfl (fun a HF => ?_)
  refine wc_end ?_
  refine then_n ?_
  refine wp_seq ?_
  refine wc_text ?_
  refine wc_move HF nS rfl rfl rfl (fun a HF => ?_)
  refine wc_lenR HF nS Try.underlying42 rfl rfl rfl (fun a HF => ?_)
  obtain ⟨hg1, h⟩ := grd h
  refine wc_makeN (x := ((⟨[]⟩ : KidD) : KidD)) HF HT el47 rfl rfl hg1 rfl (fun w => (ownTs_zero_row ownTs_zero_nil)) rfl rfl (fun p1 w HT hb => ⟨nS, fun a HF => ?_⟩)
  refine wc_assign HF nS rfl rfl rfl (fun a HF => ?_)
  refine wc_end ?_
  refine then_n ?_
  obtain ⟨z1, hx1, h⟩ := obs h
  refine wp_cut (fun a w => Fr a 23 [(3, .slice (some ⟨p1, 0, none⟩) ((List.replicate ((x0.length : Int) : Int).toNat ((⟨[]⟩ : KidD) : KidD)).length) ((List.replicate ((x0.length : Int) : Int).toNat ((⟨[]⟩ : KidD) : KidD)).length))] ∧ St w0 (fun _ => False) w [Own 77 (rowT z1) (.slice (some ⟨p1, 0, none⟩) ((List.replicate ((x0.length : Int) : Int).toNat ((⟨[]⟩ : KidD) : KidD)).length) ((List.replicate ((x0.length : Int) : Int).toNat ((⟨[]⟩ : KidD) : KidD)).length))]) ?_ ?_
  · have hk1 := h
    have h := hx1
    refine wp_seq ?_
    refine wc_text ?_
    refine wc_assign HF nS rfl rfl rfl (fun a HF => ?_)
    refine wc_end ?_
    refine then_n ?_
    refine wp_block ?_
    refine wp_loopN (fun k1 a w => ∃ z2 z3, m_laws_toKidS_L0 fuel x0 k1 z2 z3 = some z1 ∧ Fr a 23 [(0, .slice a_x0 x0.length c_x0), (3, .slice (some ⟨p1, 0, none⟩) ((List.replicate ((x0.length : Int) : Int).toNat ((⟨[]⟩ : KidD) : KidD)).length) ((List.replicate ((x0.length : Int) : Int).toNat ((⟨[]⟩ : KidD) : KidD)).length)), (4, .int .i64 z3)] ∧ St w0 (fun _ => False) w [Own 77 (rowT z2) (.slice (some ⟨p1, 0, none⟩) ((List.replicate ((x0.length : Int) : Int).toNat ((⟨[]⟩ : KidD) : KidD)).length) ((List.replicate ((x0.length : Int) : Int).toNat ((⟨[]⟩ : KidD) : KidD)).length))]) fuel ⟨List.replicate ((x0.length : Int) : Int).toNat ((⟨[]⟩ : KidD) : KidD), 0, h, (HF.keep (HF.keep (HF.keep HF.nil rfl) rfl) rfl), HT⟩ ?_
    rintro k1 a w ⟨z2, z3, h, HF, HT⟩
    cases k1 with
    | zero => cases h
    | succ k1 =>
      rw [m_laws_toKidS_L0] at h
      refine ?_
      refine wp_seq ?_
      refine wp_seq ?_
      refine wc_text ?_
      refine wc_move HF nS rfl rfl rfl (fun a HF => ?_)
      refine wc_move HF nS rfl rfl rfl (fun a HF => ?_)
      refine wc_lenR HF nS Try.underlying42 rfl rfl rfl (fun a HF => ?_)
      refine wc_bin HF nS rfl rfl b_lt rfl rfl (fun a HF => ?_)
      refine wc_end ?_
      refine then_n ?_
      by_cases hb1 : z3 < (x0.length : Int)
      · have h := (if_pos hb1).symm.trans h
        refine wp_if (b' := true) HF rfl (decide_eq_true hb1) ?_
        refine wp_skip ?_
        refine then_n ?_
        refine wp_seq ?_
        refine wp_block ?_
        refine wc_text ?_
        refine wc_move HF nS rfl rfl rfl (fun a HF => ?_)
        refine wc_move HF nS rfl rfl rfl (fun a HF => ?_)
        refine wc_move HF nS rfl rfl rfl (fun a HF => ?_)
        refine wc_move HF nS rfl rfl rfl (fun a HF => ?_)
        obtain ⟨e1, hx2, h⟩ := obs h
        obtain ⟨b1, o1, ha1⟩ := (HT.ro hr_x0).any.addr hx2
        refine wc_ixaddr HF nS el42 rfl ha1 ((HT.ro hr_x0).any).neq rfl hx2 rfl rfl (fun a HF => ?_)
        obtain ⟨_, hP1, hc1, hr1⟩ := hr_x0.elemAt ha1 hx2
        obtain ⟨a1, c1, rfl, hr2⟩ := cells_Kid hr1
        have hc2 := HT.roLd hP1 hc1
        refine wc_loadA (vs := [.slice a1 e1.code.length c1]) HF rfl ag95 rfl (hc2.part 0 1) rfl rfl (fun a HF => ?_)
        obtain ⟨y1, hx3, h⟩ := obs h
        refine wc_call HF cf86 rfl (w_laws_toKid fuel hx3 (HT.ro hr2).any) rfl rfl ?_
        rintro e w ⟨a2, n1, c2, rfl, hE⟩
        have hb := hE.below
        have HT := HT.pure hE
        obtain rfl := (HT.rdAt 0 rfl).neq
        have HT : St w0 (fun _ => False) w [Own 25 (rowT y1) (.slice a2 y1.length c2), Own 77 (rowT z2) (.slice (some ⟨p1, 0, none⟩) ((List.replicate ((x0.length : Int) : Int).toNat ((⟨[]⟩ : KidD) : KidD)).length) ((List.replicate ((x0.length : Int) : Int).toNat ((⟨[]⟩ : KidD) : KidD)).length))] := HT
        refine ⟨_, rfl, nS, fun a HF => ?_⟩
        obtain ⟨e2, hx4, h⟩ := obs h
        refine wc_ixaddr HF nS el47 rfl rfl ((HT.rdAt 1 rfl)).neq rfl hx4 rfl rfl (fun a HF => ?_)
        have HT : St w0 (fun _ => False) w [Own 77 (rowT z2) (.slice (some ⟨p1, 0, none⟩) ((List.replicate ((x0.length : Int) : Int).toNat ((⟨[]⟩ : KidD) : KidD)).length) ((List.replicate ((x0.length : Int) : Int).toNat ((⟨[]⟩ : KidD) : KidD)).length)), Own 25 (rowT y1) (.slice a2 y1.length c2)] := HT.pick 1
        refine wc_storeN (i := z3) (x' := (⟨y1⟩ : KidD)) (A := [Own 25 (rowT y1) (.slice a2 y1.length c2)]) HF HT rfl rfl rfl (fun w => (ag77 w).2) rfl hx4 (fun w => (gives_own gives_nil)) rfl (fun w HT => ⟨nS, ?_⟩)
        refine wc_end ?_
        refine blk_n ?_
        refine then_n ?_
        refine wc_text ?_
        refine wc_move HF nS rfl rfl rfl (fun a HF => ?_)
        obtain ⟨hg2, h⟩ := grd h
        refine wc_bin HF nS rfl rfl (b_add hg2) rfl rfl (fun a HF => ?_)
        refine wc_assign HF nS rfl rfl rfl (fun a HF => ?_)
        refine wc_end ?_
        exact then_n ⟨k1, Nat.lt_succ_self k1, z2.set z3.toNat (⟨y1⟩ : KidD), z3 + 1, h, (HF.keep (HF.keep (HF.keep HF.nil rfl) rfl) rfl), HT⟩
      · have h := (if_neg hb1).symm.trans h
        refine wp_if (b' := false) HF rfl (decide_eq_false hb1) ?_
        refine wp_exit ?_
        refine then_x (then_x (?_))
        refine blk_x ?_
        obtain rfl := Option.some.inj h
        exact then_n ⟨(HF.keep HF.nil rfl), HT⟩
  · rintro a w ⟨HF, HT⟩
    refine ?_
    refine wp_seq ?_
    refine wc_text ?_
    refine wc_move HF nS rfl rfl rfl (fun a HF => ?_)
    refine wc_assign HF nS rfl rfl rfl (fun a HF => ?_)
    refine wc_end ?_
    refine then_n ?_
    refine wp_ret ?_
    obtain rfl := Option.some.inj h
    refine bp_ret HF (res_one rfl HF rfl) ?_
    exact ⟨(some ⟨p1, 0, none⟩), (List.replicate ((x0.length : Int) : Int).toNat ((⟨[]⟩ : KidD) : KidD)).length, (List.replicate ((x0.length : Int) : Int).toNat ((⟨[]⟩ : KidD) : KidD)).length, rfl, HT⟩

def m_laws_toProg (fuel : Nat) (x0_0 : List I4) (x0_1 : List KidD) : Option (List I4 × List KidD) :=
  (m_laws_toOpS fuel x0_0).bind fun y1 =>
  (m_laws_toKidS fuel x0_1).bind fun y2 =>
  some (y1, y2)

set_option maxRecDepth 100000 in
set_option maxHeartbeats 4000000 in
theorem w_laws_toProg (fuel : Nat) {x0_0 : List I4} {x0_1 : List KidD} {a_x0_0 : Option Addr} {n_x0_0 c_x0_0 : Nat} {a_x0_1 : Option Addr} {n_x0_1 c_x0_1 : Nat} {r0_0 : List I4} {r0_1 : List KidD} {w0 : World} (h : m_laws_toProg fuel x0_0 x0_1 = some (r0_0, r0_1)) (hr_x0_0 : RdT (fun b => ¬ False) w0 (rowT x0_0) (.slice a_x0_0 n_x0_0 c_x0_0)) (hr_x0_1 : RdT (fun b => ¬ False) w0 (rowT x0_1) (.slice a_x0_1 n_x0_1 c_x0_1)) :
    Calls Try.prog 27 #[.agg #[.slice a_x0_0 n_x0_0 c_x0_0, .slice a_x0_1 n_x0_1 c_x0_1]] w0 fun e w => ∃ a_r0_0 n_r0_0 c_r0_0, ∃ a_r0_1 n_r0_1 c_r0_1, e = .returned (.agg #[.slice a_r0_0 n_r0_0 c_r0_0, .slice a_r0_1 n_r0_1 c_r0_1]) ∧ St w0 (fun _ => False) w [Own 25 (rowT r0_0) (.slice a_r0_0 n_r0_0 c_r0_0), Own 77 (rowT r0_1) (.slice a_r0_1 n_r0_1 c_r0_1)] := by
  obtain rfl := hr_x0_0.neq
  obtain rfl := hr_x0_1.neq
  have HT : St w0 (fun _ => False) w0 [] := St.init0
  rw [m_laws_toProg] at h
  refine calls_fr (n := 13) [.agg #[.slice a_x0_0 x0_0.length c_x0_0, .slice a_x0_1 x0_1.length c_x0_1]] Try.func27 rfl rfl rfl (fun a HF => ?_)
  have HT : St w0 (fun _ => False) w0 [] := HT
  refine wp_seq ?_
  refine wc_text ?_
  refine wc_box (cs := [.slice a_x0_0 x0_0.length c_x0_0, .slice a_x0_1 x0_1.length c_x0_1]) HF HT rfl rfl rfl rfl (fun p1 w HT hb => ⟨nS, fun a HF => ?_⟩)
  refine wc_alloc (cs := [.slice none 0 0, .slice none 0 0]) HF HT zr49 rfl rfl rfl (fun p2 w HT hb => ⟨nS, fun a HF => ?_⟩)
  refine wc_end ?_
  refine then_n ?_
  refine wp_seq ?_
  refine wc_text ?_
  refine wc_alloc (cs := [.slice none 0 0, .slice none 0 0]) HF HT zr49 rfl rfl rfl (fun p3 w HT hb => ⟨nS, fun a HF => ?_⟩)
  refine wc_end ?_
  refine then_n ?_
  refine wp_seq ?_
  refine wc_text ?_
  refine wc_faddr HF nS rfl fl44_0 rfl rfl (fun a HF => ?_)
  refine wc_load HF rfl sc32 ((HT.boxAt 2 rfl).get 0 rfl) rfl rfl (fun a HF => ?_)
  obtain ⟨y1, hx1, h⟩ := obs h
  refine wc_call HF cf18 rfl (w_laws_toOpS fuel hx1 (HT.ro hr_x0_0).any) rfl rfl ?_
  rintro e w ⟨a1, n1, c1, rfl, hE⟩
  have hb := hE.below
  have HT := HT.pure hE
  obtain rfl := (HT.rdAt 0 rfl).neq
  have HT : St w0 (fun _ => False) w [Own 25 (rowT y1) (.slice a1 y1.length c1), Box p3 [.slice none 0 0, .slice none 0 0], Box p2 [.slice none 0 0, .slice none 0 0], Box p1 [.slice a_x0_0 x0_0.length c_x0_0, .slice a_x0_1 x0_1.length c_x0_1]] := HT
  refine ⟨_, rfl, nS, fun a HF => ?_⟩
  refine wc_faddr HF nS rfl fl49_0 rfl rfl (fun a HF => ?_)
  have HT : St w0 (fun _ => False) w [Box p3 [.slice none 0 0, .slice none 0 0], Own 25 (rowT y1) (.slice a1 y1.length c1), Box p2 [.slice none 0 0, .slice none 0 0], Box p1 [.slice a_x0_0 x0_0.length c_x0_0, .slice a_x0_1 x0_1.length c_x0_1]] := HT.pick 1
  refine wc_storeB (cs' := [.slice a1 y1.length c1, .slice none 0 0]) HF HT rfl rfl (fun w => (sc35 w).2) rfl rfl rfl rfl rfl (fun w HT => ⟨nS, ?_⟩)
  refine wc_end ?_
  refine then_n ?_
  refine wp_seq ?_
  refine wc_text ?_
  refine wc_faddr HF nS rfl fl44_1 rfl rfl (fun a HF => ?_)
  refine wc_load HF rfl sc42 ((HT.boxAt 3 rfl).get 1 rfl) rfl rfl (fun a HF => ?_)
  obtain ⟨y2, hx2, h⟩ := obs h
  refine wc_call HF cf57 rfl (w_laws_toKidS fuel hx2 (HT.ro hr_x0_1).any) rfl rfl ?_
  rintro e w ⟨a2, n2, c2, rfl, hE⟩
  have hb := hE.below
  have HT := HT.pure hE
  obtain rfl := (HT.rdAt 0 rfl).neq
  have HT : St w0 (fun _ => False) w [Own 77 (rowT y2) (.slice a2 y2.length c2), Box p3 [.slice a1 y1.length c1, .slice none 0 0], Own 25 (rowT y1) (.slice a1 y1.length c1), Box p2 [.slice none 0 0, .slice none 0 0], Box p1 [.slice a_x0_0 x0_0.length c_x0_0, .slice a_x0_1 x0_1.length c_x0_1]] := HT
  refine ⟨_, rfl, nS, fun a HF => ?_⟩
  refine wc_faddr HF nS rfl fl49_1 rfl rfl (fun a HF => ?_)
  have HT : St w0 (fun _ => False) w [Box p3 [.slice a1 y1.length c1, .slice none 0 0], Own 77 (rowT y2) (.slice a2 y2.length c2), Own 25 (rowT y1) (.slice a1 y1.length c1), Box p2 [.slice none 0 0, .slice none 0 0], Box p1 [.slice a_x0_0 x0_0.length c_x0_0, .slice a_x0_1 x0_1.length c_x0_1]] := HT.pick 1
  refine wc_storeB (cs' := [.slice a1 y1.length c1, .slice a2 y2.length c2]) HF HT rfl rfl (fun w => (sc47 w).2) rfl rfl rfl rfl rfl (fun w HT => ⟨nS, ?_⟩)
  refine wc_end ?_
  refine then_n ?_
  refine wp_seq ?_
  refine wc_text ?_
  refine wc_loadA (vs := [.slice a1 y1.length c1, .slice a2 y2.length c2]) HF rfl ag49 rfl ((HT.boxAt 0 rfl).part 0 2) rfl rfl (fun a HF => ?_)
  have HT : St w0 (fun _ => False) w [Box p2 [.slice none 0 0, .slice none 0 0], Box p3 [.slice a1 y1.length c1, .slice a2 y2.length c2], Own 77 (rowT y2) (.slice a2 y2.length c2), Own 25 (rowT y1) (.slice a1 y1.length c1), Box p1 [.slice a_x0_0 x0_0.length c_x0_0, .slice a_x0_1 x0_1.length c_x0_1]] := HT.pick 3
  refine wc_storeB (cs' := [.slice a1 y1.length c1, .slice a2 y2.length c2]) HF HT rfl rfl (fun w => (ag49 w).2) rfl rfl rfl rfl rfl (fun w HT => ⟨nS, ?_⟩)
  refine wc_end ?_
  refine then_n ?_
  refine wp_ret ?_
  have hj1 := Option.some.inj h
  obtain ⟨hi1, hj2⟩ := Prod.mk.inj hj1
  subst hi1
  subst hj2
  refine bp_ret HF (res_cell (vs := [.slice a1 y1.length c1, .slice a2 y2.length c2]) rfl HF rfl ag49 rfl (HT.boxAt 0 rfl)) ?_
  have HT : St w0 (fun _ => False) w [Own 77 (rowT y2) (.slice a2 y2.length c2), Box p2 [.slice a1 y1.length c1, .slice a2 y2.length c2], Box p3 [.slice a1 y1.length c1, .slice a2 y2.length c2], Own 25 (rowT y1) (.slice a1 y1.length c1), Box p1 [.slice a_x0_0 x0_0.length c_x0_0, .slice a_x0_1 x0_1.length c_x0_1]] := HT.pick 2
  have HT : St w0 (fun _ => False) w [Own 25 (rowT y1) (.slice a1 y1.length c1), Own 77 (rowT y2) (.slice a2 y2.length c2), Box p2 [.slice a1 y1.length c1, .slice a2 y2.length c2], Box p3 [.slice a1 y1.length c1, .slice a2 y2.length c2], Box p1 [.slice a_x0_0 x0_0.length c_x0_0, .slice a_x0_1 x0_1.length c_x0_1]] := HT.pick 3
  have HT : St w0 (fun _ => False) w [Own 25 (rowT y1) (.slice a1 y1.length c1), Own 77 (rowT y2) (.slice a2 y2.length c2)] := HT.take 2
  exact ⟨a1, y1.length, c1, a2, y2.length, c2, rfl, HT⟩

def m_spec_HasFork_L0 (fuel : Nat) (x0 : List I4) : Nat → Int → Option (Lp Unit Bool)
  | 0, _ => none
  | k1 + 1, z1 =>
    if z1 < (x0.length : Int) then
      (at? x0 z1).bind fun e1 =>
      if e1.a = 11 then
        some (.ret true)
      else
        if in64 (z1 + 1) then
          m_spec_HasFork_L0 fuel x0 k1 (z1 + 1)
        else none
    else
      some (.brk ())

def m_spec_HasFork (fuel : Nat) (x0 : List I4) : Option Bool :=
  (m_spec_HasFork_L0 fuel x0 fuel 0).bind <| contL <| un1 fun _ =>
  some false

set_option maxRecDepth 100000 in
set_option maxHeartbeats 4000000 in
theorem w_spec_HasFork (fuel : Nat) {x0 : List I4} {a_x0 : Option Addr} {n_x0 c_x0 : Nat} {r0 : Bool} {w0 : World} (h : m_spec_HasFork fuel x0 = some r0) (hr_x0 : RdT (fun b => ¬ False) w0 (rowT x0) (.slice a_x0 n_x0 c_x0)) :
    Calls Try.prog 64 #[.slice a_x0 n_x0 c_x0] w0 fun e w => e = .returned (.bool r0) ∧ St w0 (fun _ => False) w [] := by
  obtain rfl := hr_x0.neq
  have HT : St w0 (fun _ => False) w0 [] := St.init0
  rw [m_spec_HasFork] at h
  refine calls_fr (n := 16) [.slice a_x0 x0.length c_x0] Try.func64 rfl rfl rfl (fun a HF => ?_)
  have HT : St w0 (fun _ => False) w0 [] := HT
  refine wp_seq ?_
  refine wc_text ?_
  refine wc_assign HF nS rfl rfl rfl (fun a HF => ?_)
  refine wc_end ?_
  refine then_n ?_
  obtain ⟨q1, hx1, h⟩ := obs h
  refine wp_cut (fun a w => q1 = .brk () ∧ Fr a 16 [] ∧ St w0 (fun _ => False) w []) ?_ ?_
  · have hk1 := h
    have h := hx1
    refine wp_seq ?_
    refine wc_text ?_
    refine wc_assign HF nS rfl rfl rfl (fun a HF => ?_)
    refine wc_end ?_
    refine then_n ?_
    refine wp_block ?_
    refine wp_loopN (fun k1 a w => ∃ z1, m_spec_HasFork_L0 fuel x0 k1 z1 = some q1 ∧ Fr a 16 [(0, .slice a_x0 x0.length c_x0), (3, .int .i64 z1)] ∧ St w0 (fun _ => False) w []) fuel ⟨0, h, (HF.keep (HF.keep HF.nil rfl) rfl), HT⟩ ?_
    rintro k1 a w ⟨z1, h, HF, HT⟩
    cases k1 with
    | zero => cases h
    | succ k1 =>
      rw [m_spec_HasFork_L0] at h
      refine ?_
      refine wp_seq ?_
      refine wp_seq ?_
      refine wc_text ?_
      refine wc_move HF nS rfl rfl rfl (fun a HF => ?_)
      refine wc_move HF nS rfl rfl rfl (fun a HF => ?_)
      refine wc_lenR HF nS Try.underlying35 rfl rfl rfl (fun a HF => ?_)
      refine wc_bin HF nS rfl rfl b_lt rfl rfl (fun a HF => ?_)
      refine wc_end ?_
      refine then_n ?_
      by_cases hb1 : z1 < (x0.length : Int)
      · have h := (if_pos hb1).symm.trans h
        refine wp_if (b' := true) HF rfl (decide_eq_true hb1) ?_
        refine wp_skip ?_
        refine then_n ?_
        refine wp_seq ?_
        refine wp_block ?_
        refine wp_seq ?_
        refine wc_text ?_
        refine wc_move HF nS rfl rfl rfl (fun a HF => ?_)
        refine wc_move HF nS rfl rfl rfl (fun a HF => ?_)
        obtain ⟨e1, hx2, h⟩ := obs h
        obtain ⟨b1, o1, ha1⟩ := (HT.ro hr_x0).any.addr hx2
        refine wc_ixaddr HF nS el35 rfl ha1 ((HT.ro hr_x0).any).neq rfl hx2 rfl rfl (fun a HF => ?_)
        refine wc_faddr HF nS rfl fl25_0 rfl rfl (fun a HF => ?_)
        have hc1 := (HT.ro hr_x0).any.flatAt ha1 hx2
        refine wc_load HF rfl sc3 (hc1.get 0 rfl) rfl rfl (fun a HF => ?_)
        refine wc_bin HF nS rfl rfl b_eq rfl rfl (fun a HF => ?_)
        refine wc_end ?_
        refine then_n ?_
        by_cases hb2 : e1.a = 11
        · have h := (if_pos hb2).symm.trans h
          refine wp_if (b' := true) HF rfl (decide_eq_true hb2) ?_
          refine wp_seq ?_
          refine wc_text ?_
          refine wc_assign HF nS rfl rfl rfl (fun a HF => ?_)
          refine wc_end ?_
          refine then_n ?_
          refine wp_ret ?_
          obtain rfl := Option.some.inj h
          have h := retL hk1
          obtain rfl := Option.some.inj h
          refine blk_r (then_r (then_r (blk_r (then_r (?_)))))
          refine bp_ret HF (res_one rfl HF rfl) ?_
          exact ⟨rfl, HT⟩
        · have h := (if_neg hb2).symm.trans h
          refine wp_if (b' := false) HF rfl (decide_eq_false hb2) ?_
          refine wp_skip ?_
          refine blk_n ?_
          refine then_n ?_
          refine wc_text ?_
          refine wc_move HF nS rfl rfl rfl (fun a HF => ?_)
          obtain ⟨hg1, h⟩ := grd h
          refine wc_bin HF nS rfl rfl (b_add hg1) rfl rfl (fun a HF => ?_)
          refine wc_assign HF nS rfl rfl rfl (fun a HF => ?_)
          refine wc_end ?_
          exact then_n ⟨k1, Nat.lt_succ_self k1, z1 + 1, h, (HF.keep (HF.keep HF.nil rfl) rfl), HT⟩
      · have h := (if_neg hb1).symm.trans h
        refine wp_if (b' := false) HF rfl (decide_eq_false hb1) ?_
        refine wp_exit ?_
        refine then_x (then_x (?_))
        refine blk_x ?_
        exact then_n ⟨(Option.some.inj h).symm, HF.nil, HT⟩
  · rintro a w ⟨rfl, HF, HT⟩
    have h := brkL1u h
    refine ?_
    refine wp_seq ?_
    refine wc_text ?_
    refine wc_assign HF nS rfl rfl rfl (fun a HF => ?_)
    refine wc_end ?_
    refine then_n ?_
    refine wp_ret ?_
    obtain rfl := Option.some.inj h
    refine bp_ret HF (res_one rfl HF rfl) ?_
    exact ⟨rfl, HT⟩

def m_spec_Touches (fuel : Nat) (x0_0 : Int) (x0_1 : Int) (x0_2 : Int) (x0_3 : Int) : Option Int :=
  (m_spec_OpOk fuel x0_0 x0_1 x0_2 x0_3).bind fun y1 =>
  if y1 = true then
    (
      (
        if x0_0 = 5 then
          some (decide (x0_0 = 5))
        else
          some (decide (x0_0 = 6))).bind fun z1 =>
      if z1 = true then
        some (.ret 1)
      else
        (
          if x0_0 = 12 then
            some (decide (x0_0 = 12))
          else
            if x0_0 = 13 then
              some (decide (x0_0 = 13))
            else
              if x0_0 = 14 then
                some (decide (x0_0 = 14))
              else
                if x0_0 = 15 then
                  some (decide (x0_0 = 15))
                else
                  some (decide (x0_0 = 16))).bind fun z2 =>
        if z2 = true then
          some (.ret 2)
        else
          some (.brk ())).bind <| contL <| un1 fun _ =>
    some 0
  else
    some 0

set_option maxRecDepth 100000 in
set_option maxHeartbeats 4000000 in
theorem w_spec_Touches (fuel : Nat) {x0_0 : Int} {x0_1 : Int} {x0_2 : Int} {x0_3 : Int} {r0 : Int} {w0 : World} (h : m_spec_Touches fuel x0_0 x0_1 x0_2 x0_3 = some r0) :
    Calls Try.prog 91 #[.agg #[.int .i64 x0_0, .int .i64 x0_1, .int .i64 x0_2, .int .i64 x0_3]] w0 fun e w => e = .returned (.int .i64 r0) ∧ St w0 (fun _ => False) w [] := by
  have HT : St w0 (fun _ => False) w0 [] := St.init0
  rw [m_spec_Touches] at h
  refine calls_fr (n := 17) [.agg #[.int .i64 x0_0, .int .i64 x0_1, .int .i64 x0_2, .int .i64 x0_3]] Try.func91 rfl rfl rfl (fun a HF => ?_)
  have HT : St w0 (fun _ => False) w0 [] := HT
  refine wp_seq ?_
  refine wc_text ?_
  refine wc_box (cs := [.int .i64 x0_0, .int .i64 x0_1, .int .i64 x0_2, .int .i64 x0_3]) HF HT rfl rfl rfl rfl (fun p1 w HT hb => ⟨nS, fun a HF => ?_⟩)
  refine wc_assign HF nS rfl rfl rfl (fun a HF => ?_)
  refine wc_end ?_
  refine then_n ?_
  refine wp_seq ?_
  refine wp_seq ?_
  refine wc_text ?_
  refine wc_loadA (vs := [.int .i64 x0_0, .int .i64 x0_1, .int .i64 x0_2, .int .i64 x0_3]) HF rfl ag25 rfl ((HT.boxAt 0 rfl).part 0 4) rfl rfl (fun a HF => ?_)
  obtain ⟨y1, hx1, h⟩ := obs h
  refine wc_call HF cf40 rfl (w_spec_OpOk fuel hx1) rfl rfl ?_
  rintro e w ⟨rfl, hE⟩
  have hb := hE.below
  have HT := HT.pure hE
  have HT : St w0 (fun _ => False) w [Box p1 [.int .i64 x0_0, .int .i64 x0_1, .int .i64 x0_2, .int .i64 x0_3]] := HT
  refine ⟨_, rfl, nS, fun a HF => ?_⟩
  refine wc_not HF nS rfl rfl rfl (fun a HF => ?_)
  refine wc_end ?_
  refine then_n ?_
  by_cases hb1 : y1 = true
  · have h := (if_pos hb1).symm.trans h
    refine wp_if (b' := false) HF rfl (notT hb1) ?_
    refine wp_skip ?_
    refine then_n ?_
    obtain ⟨q1, hx2, h⟩ := obs h
    refine wp_cut (fun a w => q1 = .brk () ∧ Fr a 17 [] ∧ St w0 (fun _ => False) w []) ?_ ?_
    · have hk1 := h
      have h := hx2
      refine wp_seq ?_
      refine wc_text ?_
      refine wc_faddr HF nS rfl fl25_0 rfl rfl (fun a HF => ?_)
      refine wc_load HF rfl sc3 ((HT.boxAt 0 rfl).get 0 rfl) rfl rfl (fun a HF => ?_)
      refine wc_end ?_
      refine then_n ?_
      refine wp_block ?_
      obtain ⟨z1, hx3, h⟩ := obs h
      refine wp_cut (fun a w => Fr a 17 [(7, .int .i64 x0_0), (8, .bool z1)] ∧ St w0 (fun _ => False) w []) ?_ ?_
      · have hk2 := h
        have h := hx3
        refine wp_seq ?_
        refine wc_text ?_
        refine wc_bin HF nS rfl rfl b_eq rfl rfl (fun a HF => ?_)
        refine wc_assign HF nS rfl rfl rfl (fun a HF => ?_)
        refine wc_end ?_
        refine then_n ?_
        by_cases hb2 : x0_0 = 5
        · have h := (if_pos hb2).symm.trans h
          refine wp_if (b' := true) HF rfl (decide_eq_true hb2) ?_
          refine wp_skip ?_
          have HT : St w0 (fun _ => False) w [] := HT.take 0
          obtain rfl := Option.some.inj h
          exact then_n ⟨(HF.keep (HF.keep HF.nil rfl) rfl), HT⟩
        · have h := (if_neg hb2).symm.trans h
          refine wp_if (b' := false) HF rfl (decide_eq_false hb2) ?_
          refine wc_text ?_
          refine wc_bin HF nS rfl rfl b_eq rfl rfl (fun a HF => ?_)
          refine wc_assign HF nS rfl rfl rfl (fun a HF => ?_)
          refine wc_end ?_
          have HT : St w0 (fun _ => False) w [] := HT.take 0
          obtain rfl := Option.some.inj h
          exact then_n ⟨(HF.keep (HF.keep HF.nil rfl) rfl), HT⟩
      · rintro a w ⟨HF, HT⟩
        refine ?_
        by_cases hb3 : z1 = true
        · have h := (if_pos hb3).symm.trans h
          refine wp_if (b' := true) HF rfl hb3 ?_
          refine wp_seq ?_
          refine wc_text ?_
          refine wc_assign HF nS rfl rfl rfl (fun a HF => ?_)
          refine wc_end ?_
          refine then_n ?_
          refine wp_ret ?_
          obtain rfl := Option.some.inj h
          have h := retL hk1
          obtain rfl := Option.some.inj h
          refine blk_r (then_r (?_))
          refine bp_ret HF (res_one rfl HF rfl) ?_
          exact ⟨rfl, HT⟩
        · have h := (if_neg hb3).symm.trans h
          refine wp_if (b' := false) HF rfl (Bool.eq_false_iff.2 hb3) ?_
          obtain ⟨z2, hx4, h⟩ := obs h
          refine wp_cut (fun a w => Fr a 17 [(11, .bool z2)] ∧ St w0 (fun _ => False) w []) ?_ ?_
          · have hk2 := h
            have h := hx4
            refine wp_seq ?_
            refine wc_text ?_
            refine wc_bin HF nS rfl rfl b_eq rfl rfl (fun a HF => ?_)
            refine wc_assign HF nS rfl rfl rfl (fun a HF => ?_)
            refine wc_end ?_
            refine then_n ?_
            by_cases hb4 : x0_0 = 12
            · have h := (if_pos hb4).symm.trans h
              refine wp_if (b' := true) HF rfl (decide_eq_true hb4) ?_
              refine wp_skip ?_
              obtain rfl := Option.some.inj h
              exact then_n ⟨(HF.keep HF.nil rfl), HT⟩
            · have h := (if_neg hb4).symm.trans h
              refine wp_if (b' := false) HF rfl (decide_eq_false hb4) ?_
              refine wp_seq ?_
              refine wc_text ?_
              refine wc_bin HF nS rfl rfl b_eq rfl rfl (fun a HF => ?_)
              refine wc_assign HF nS rfl rfl rfl (fun a HF => ?_)
              refine wc_end ?_
              refine then_n ?_
              by_cases hb5 : x0_0 = 13
              · have h := (if_pos hb5).symm.trans h
                refine wp_if (b' := true) HF rfl (decide_eq_true hb5) ?_
                refine wp_skip ?_
                obtain rfl := Option.some.inj h
                exact then_n ⟨(HF.keep HF.nil rfl), HT⟩
              · have h := (if_neg hb5).symm.trans h
                refine wp_if (b' := false) HF rfl (decide_eq_false hb5) ?_
                refine wp_seq ?_
                refine wc_text ?_
                refine wc_bin HF nS rfl rfl b_eq rfl rfl (fun a HF => ?_)
                refine wc_assign HF nS rfl rfl rfl (fun a HF => ?_)
                refine wc_end ?_
                refine then_n ?_
                by_cases hb6 : x0_0 = 14
                · have h := (if_pos hb6).symm.trans h
                  refine wp_if (b' := true) HF rfl (decide_eq_true hb6) ?_
                  refine wp_skip ?_
                  obtain rfl := Option.some.inj h
                  exact then_n ⟨(HF.keep HF.nil rfl), HT⟩
                · have h := (if_neg hb6).symm.trans h
                  refine wp_if (b' := false) HF rfl (decide_eq_false hb6) ?_
                  refine wp_seq ?_
                  refine wc_text ?_
                  refine wc_bin HF nS rfl rfl b_eq rfl rfl (fun a HF => ?_)
                  refine wc_assign HF nS rfl rfl rfl (fun a HF => ?_)
                  refine wc_end ?_
                  refine then_n ?_
                  by_cases hb7 : x0_0 = 15
                  · have h := (if_pos hb7).symm.trans h
                    refine wp_if (b' := true) HF rfl (decide_eq_true hb7) ?_
                    refine wp_skip ?_
                    obtain rfl := Option.some.inj h
                    exact then_n ⟨(HF.keep HF.nil rfl), HT⟩
                  · have h := (if_neg hb7).symm.trans h
                    refine wp_if (b' := false) HF rfl (decide_eq_false hb7) ?_
                    refine wc_text ?_
                    refine wc_bin HF nS rfl rfl b_eq rfl rfl (fun a HF => ?_)
                    refine wc_assign HF nS rfl rfl rfl (fun a HF => ?_)
                    refine wc_end ?_
                    obtain rfl := Option.some.inj h
                    exact then_n ⟨(HF.keep HF.nil rfl), HT⟩
          · rintro a w ⟨HF, HT⟩
            refine ?_
            by_cases hb8 : z2 = true
            · have h := (if_pos hb8).symm.trans h
              refine wp_if (b' := true) HF rfl hb8 ?_
              refine wp_seq ?_
              refine wc_text ?_
              refine wc_assign HF nS rfl rfl rfl (fun a HF => ?_)
              refine wc_end ?_
              refine then_n ?_
              refine wp_ret ?_
              obtain rfl := Option.some.inj h
              have h := retL hk1
              obtain rfl := Option.some.inj h
              refine blk_r (then_r (?_))
              refine bp_ret HF (res_one rfl HF rfl) ?_
              exact ⟨rfl, HT⟩
            · have h := (if_neg hb8).symm.trans h
              refine wp_if (b' := false) HF rfl (Bool.eq_false_iff.2 hb8) ?_
              refine wp_skip ?_
              refine blk_n ?_
              exact then_n ⟨(Option.some.inj h).symm, HF.nil, HT⟩
    · rintro a w ⟨rfl, HF, HT⟩
      have h := brkL1u h
      refine ?_
      refine wp_seq ?_
      refine wc_text ?_
      refine wc_assign HF nS rfl rfl rfl (fun a HF => ?_)
      refine wc_end ?_
      refine then_n ?_
      refine wp_ret ?_
      obtain rfl := Option.some.inj h
      refine bp_ret HF (res_one rfl HF rfl) ?_
      exact ⟨rfl, HT⟩
  · have h := (if_neg hb1).symm.trans h
    refine wp_if (b' := true) HF rfl (notF (Bool.eq_false_iff.2 hb1)) ?_
    refine wp_seq ?_
    refine wc_text ?_
    refine wc_assign HF nS rfl rfl rfl (fun a HF => ?_)
    refine wc_end ?_
    refine then_n ?_
    refine wp_ret ?_
    obtain rfl := Option.some.inj h
    refine then_r (?_)
    refine bp_ret HF (res_one rfl HF rfl) ?_
    have HT : St w0 (fun _ => False) w [] := HT.take 0
    exact ⟨rfl, HT⟩

def m_spec_KidOk_L0 (fuel : Nat) (x0 : List I4) : Nat → Int → Option (Lp Unit Bool)
  | 0, _ => none
  | k1 + 1, z1 =>
    if z1 < (x0.length : Int) then
      (at? x0 z1).bind fun e1 =>
      (m_spec_Touches fuel e1.a e1.b e1.c e1.d).bind fun y3 =>
      if y3 = 2 then
        some (.ret false)
      else
        if in64 (z1 + 1) then
          m_spec_KidOk_L0 fuel x0 k1 (z1 + 1)
        else none
    else
      some (.brk ())

def m_spec_KidOk (fuel : Nat) (x0 : List I4) : Option Bool :=
  (m_spec_CodeOk fuel x0).bind fun y1 =>
  if y1 = true then
    (m_spec_HasFork fuel x0).bind fun y2 =>
    if y2 = true then
      some false
    else
      (m_spec_KidOk_L0 fuel x0 fuel 0).bind <| contL <| un1 fun _ =>
      some true
  else
    some false

set_option maxRecDepth 100000 in
set_option maxHeartbeats 4000000 in
theorem w_spec_KidOk (fuel : Nat) {x0 : List I4} {a_x0 : Option Addr} {n_x0 c_x0 : Nat} {r0 : Bool} {w0 : World} (h : m_spec_KidOk fuel x0 = some r0) (hr_x0 : RdT (fun b => ¬ False) w0 (rowT x0) (.slice a_x0 n_x0 c_x0)) :
    Calls Try.prog 65 #[.slice a_x0 n_x0 c_x0] w0 fun e w => e = .returned (.bool r0) ∧ St w0 (fun _ => False) w [] := by
  obtain rfl := hr_x0.neq
  have HT : St w0 (fun _ => False) w0 [] := St.init0
  rw [m_spec_KidOk] at h
  refine calls_fr (n := 23) [.slice a_x0 x0.length c_x0] Try.func65 rfl rfl rfl (fun a HF => ?_)
  have HT : St w0 (fun _ => False) w0 [] := HT
  refine wp_seq ?_
  refine wc_text ?_
  refine wc_assign HF nS rfl rfl rfl (fun a HF => ?_)
  refine wc_end ?_
  refine then_n ?_
  refine wp_seq ?_
  refine wp_seq ?_
  refine wc_text ?_
  refine wc_move HF nS rfl rfl rfl (fun a HF => ?_)
  obtain ⟨y1, hx1, h⟩ := obs h
  refine wc_call HF cf52 rfl (w_spec_CodeOk fuel hx1 (HT.ro hr_x0).any) rfl rfl ?_
  rintro e w ⟨rfl, hE⟩
  have hb := hE.below
  have HT := HT.pure hE
  have HT : St w0 (fun _ => False) w [] := HT
  refine ⟨_, rfl, nS, fun a HF => ?_⟩
  refine wc_not HF nS rfl rfl rfl (fun a HF => ?_)
  refine wc_move HF nS rfl rfl rfl (fun a HF => ?_)
  by_cases hb1 : y1 = true
  · have h := (if_pos hb1).symm.trans h
    refine wc_move HF nS rfl (HF.wy rfl rfl rfl rfl (notT hb1)) rfl (fun a HF => ?_)
    obtain ⟨y2, hx2, h⟩ := obs h
    refine wc_call HF cf64 rfl (w_spec_HasFork fuel hx2 (HT.ro hr_x0).any) (HF.wy rfl rfl rfl rfl (notT hb1)) rfl ?_
    rintro e w ⟨rfl, hE⟩
    have hb := hE.below
    have HT := HT.pure hE
    have HT : St w0 (fun _ => False) w [] := HT
    refine ⟨_, rfl, nS, fun a HF => ?_⟩
    refine wc_pick (b := false) HF nS rfl (notT hb1) rfl rfl rfl (fun a HF => ?_)
    refine wc_end ?_
    refine then_n ?_
    by_cases hb2 : y2 = true
    · have h := (if_pos hb2).symm.trans h
      refine wp_if (b' := true) HF rfl hb2 ?_
      refine wp_seq ?_
      refine wc_text ?_
      refine wc_assign HF nS rfl rfl rfl (fun a HF => ?_)
      refine wc_end ?_
      refine then_n ?_
      refine wp_ret ?_
      obtain rfl := Option.some.inj h
      refine then_r (?_)
      refine bp_ret HF (res_one rfl HF rfl) ?_
      exact ⟨rfl, HT⟩
    · have h := (if_neg hb2).symm.trans h
      refine wp_if (b' := false) HF rfl (Bool.eq_false_iff.2 hb2) ?_
      refine wp_skip ?_
      refine then_n ?_
      obtain ⟨q1, hx3, h⟩ := obs h
      refine wp_cut (fun a w => q1 = .brk () ∧ Fr a 23 [] ∧ St w0 (fun _ => False) w []) ?_ ?_
      · have hk1 := h
        have h := hx3
        refine wp_seq ?_
        refine wc_text ?_
        refine wc_assign HF nS rfl rfl rfl (fun a HF => ?_)
        refine wc_end ?_
        refine then_n ?_
        refine wp_block ?_
        refine wp_loopN (fun k1 a w => ∃ z1, m_spec_KidOk_L0 fuel x0 k1 z1 = some q1 ∧ Fr a 23 [(0, .slice a_x0 x0.length c_x0), (3, .int .i64 z1)] ∧ St w0 (fun _ => False) w []) fuel ⟨0, h, (HF.keep (HF.keep HF.nil rfl) rfl), HT⟩ ?_
        rintro k1 a w ⟨z1, h, HF, HT⟩
        cases k1 with
        | zero => cases h
        | succ k1 =>
          rw [m_spec_KidOk_L0] at h
          refine ?_
          refine wp_seq ?_
          refine wp_seq ?_
          refine wc_text ?_
          refine wc_move HF nS rfl rfl rfl (fun a HF => ?_)
          refine wc_move HF nS rfl rfl rfl (fun a HF => ?_)
          refine wc_lenR HF nS Try.underlying35 rfl rfl rfl (fun a HF => ?_)
          refine wc_bin HF nS rfl rfl b_lt rfl rfl (fun a HF => ?_)
          refine wc_end ?_
          refine then_n ?_
          by_cases hb3 : z1 < (x0.length : Int)
          · have h := (if_pos hb3).symm.trans h
            refine wp_if (b' := true) HF rfl (decide_eq_true hb3) ?_
            refine wp_skip ?_
            refine then_n ?_
            refine wp_seq ?_
            refine wp_block ?_
            refine wp_seq ?_
            refine wc_text ?_
            refine wc_move HF nS rfl rfl rfl (fun a HF => ?_)
            refine wc_move HF nS rfl rfl rfl (fun a HF => ?_)
            obtain ⟨e1, hx4, h⟩ := obs h
            obtain ⟨b1, o1, ha1⟩ := (HT.ro hr_x0).any.addr hx4
            refine wc_ixaddr HF nS el35 rfl ha1 ((HT.ro hr_x0).any).neq rfl hx4 rfl rfl (fun a HF => ?_)
            have hc1 := (HT.ro hr_x0).any.flatAt ha1 hx4
            refine wc_loadA (vs := [.int .i64 e1.a, .int .i64 e1.b, .int .i64 e1.c, .int .i64 e1.d]) HF rfl ag25 rfl (hc1.part 0 4) rfl rfl (fun a HF => ?_)
            obtain ⟨y3, hx5, h⟩ := obs h
            refine wc_call HF cf91 rfl (w_spec_Touches fuel hx5) rfl rfl ?_
            rintro e w ⟨rfl, hE⟩
            have hb := hE.below
            have HT := HT.pure hE
            have HT : St w0 (fun _ => False) w [] := HT
            refine ⟨_, rfl, nS, fun a HF => ?_⟩
            refine wc_bin HF nS rfl rfl b_eq rfl rfl (fun a HF => ?_)
            refine wc_end ?_
            refine then_n ?_
            by_cases hb4 : y3 = 2
            · have h := (if_pos hb4).symm.trans h
              refine wp_if (b' := true) HF rfl (decide_eq_true hb4) ?_
              refine wp_seq ?_
              refine wc_text ?_
              refine wc_assign HF nS rfl rfl rfl (fun a HF => ?_)
              refine wc_end ?_
              refine then_n ?_
              refine wp_ret ?_
              obtain rfl := Option.some.inj h
              have h := retL hk1
              obtain rfl := Option.some.inj h
              refine blk_r (then_r (then_r (blk_r (then_r (?_)))))
              refine bp_ret HF (res_one rfl HF rfl) ?_
              exact ⟨rfl, HT⟩
            · have h := (if_neg hb4).symm.trans h
              refine wp_if (b' := false) HF rfl (decide_eq_false hb4) ?_
              refine wp_skip ?_
              refine blk_n ?_
              refine then_n ?_
              refine wc_text ?_
              refine wc_move HF nS rfl rfl rfl (fun a HF => ?_)
              obtain ⟨hg1, h⟩ := grd h
              refine wc_bin HF nS rfl rfl (b_add hg1) rfl rfl (fun a HF => ?_)
              refine wc_assign HF nS rfl rfl rfl (fun a HF => ?_)
              refine wc_end ?_
              exact then_n ⟨k1, Nat.lt_succ_self k1, z1 + 1, h, (HF.keep (HF.keep HF.nil rfl) rfl), HT⟩
          · have h := (if_neg hb3).symm.trans h
            refine wp_if (b' := false) HF rfl (decide_eq_false hb3) ?_
            refine wp_exit ?_
            refine then_x (then_x (?_))
            refine blk_x ?_
            exact then_n ⟨(Option.some.inj h).symm, HF.nil, HT⟩
      · rintro a w ⟨rfl, HF, HT⟩
        have h := brkL1u h
        refine ?_
        refine wp_seq ?_
        refine wc_text ?_
        refine wc_assign HF nS rfl rfl rfl (fun a HF => ?_)
        refine wc_end ?_
        refine then_n ?_
        refine wp_ret ?_
        obtain rfl := Option.some.inj h
        refine bp_ret HF (res_one rfl HF rfl) ?_
        exact ⟨rfl, HT⟩
  · have h := (if_neg hb1).symm.trans h
    refine wc_skip HF nS (HF.wn rfl rfl rfl rfl (notF (Bool.eq_false_iff.2 hb1))) rfl (fun a HF => ?_)
    refine wc_skip HF nS (HF.wn rfl rfl rfl rfl (notF (Bool.eq_false_iff.2 hb1))) rfl (fun a HF => ?_)
    refine wc_pick (b := true) HF nS rfl (notF (Bool.eq_false_iff.2 hb1)) rfl rfl rfl (fun a HF => ?_)
    refine wc_end ?_
    refine then_n ?_
    refine wp_if (b' := true) HF rfl rfl ?_
    refine wp_seq ?_
    refine wc_text ?_
    refine wc_assign HF nS rfl rfl rfl (fun a HF => ?_)
    refine wc_end ?_
    refine then_n ?_
    refine wp_ret ?_
    obtain rfl := Option.some.inj h
    refine then_r (?_)
    refine bp_ret HF (res_one rfl HF rfl) ?_
    exact ⟨rfl, HT⟩

def m_spec_ProgOk_L0 (fuel : Nat) (x0_1 : List KidD) : Nat → Int → Option (Lp Unit Bool)
  | 0, _ => none
  | k1 + 1, z1 =>
    if z1 < (x0_1.length : Int) then
      (at? x0_1 z1).bind fun e1 =>
      (m_spec_KidOk fuel e1.code).bind fun y3 =>
      if y3 = true then
        if in64 (z1 + 1) then
          m_spec_ProgOk_L0 fuel x0_1 k1 (z1 + 1)
        else none
      else
        some (.ret false)
    else
      some (.brk ())

def m_spec_ProgOk (fuel : Nat) (x0_0 : List I4) (x0_1 : List KidD) : Option Bool :=
  (m_spec_CodeOk fuel x0_0).bind fun y1 =>
  if y1 = true then
    if 3 < (x0_1.length : Int) then
      some false
    else
      (m_spec_HasFork fuel x0_0).bind fun y2 =>
      if (y2 == (decide (0 < (x0_1.length : Int)))) = true then
        (m_spec_ProgOk_L0 fuel x0_1 fuel 0).bind <| contL <| un1 fun _ =>
        some true
      else
        some false
  else
    some false

set_option maxRecDepth 100000 in
set_option maxHeartbeats 4000000 in
theorem w_spec_ProgOk (fuel : Nat) {x0_0 : List I4} {x0_1 : List KidD} {a_x0_0 : Option Addr} {n_x0_0 c_x0_0 : Nat} {a_x0_1 : Option Addr} {n_x0_1 c_x0_1 : Nat} {r0 : Bool} {w0 : World} (h : m_spec_ProgOk fuel x0_0 x0_1 = some r0) (hr_x0_0 : RdT (fun b => ¬ False) w0 (rowT x0_0) (.slice a_x0_0 n_x0_0 c_x0_0)) (hr_x0_1 : RdT (fun b => ¬ False) w0 (rowT x0_1) (.slice a_x0_1 n_x0_1 c_x0_1)) :
    Calls Try.prog 36 #[.agg #[.slice a_x0_0 n_x0_0 c_x0_0, .slice a_x0_1 n_x0_1 c_x0_1]] w0 fun e w => e = .returned (.bool r0) ∧ St w0 (fun _ => False) w [] := by
  obtain rfl := hr_x0_0.neq
  obtain rfl := hr_x0_1.neq
  have HT : St w0 (fun _ => False) w0 [] := St.init0
  rw [m_spec_ProgOk] at h
  refine calls_fr (n := 39) [.agg #[.slice a_x0_0 x0_0.length c_x0_0, .slice a_x0_1 x0_1.length c_x0_1]] Try.func36 rfl rfl rfl (fun a HF => ?_)
  have HT : St w0 (fun _ => False) w0 [] := HT
  refine wp_seq ?_
  refine wc_text ?_
  refine wc_box (cs := [.slice a_x0_0 x0_0.length c_x0_0, .slice a_x0_1 x0_1.length c_x0_1]) HF HT rfl rfl rfl rfl (fun p1 w HT hb => ⟨nS, fun a HF => ?_⟩)
  refine wc_assign HF nS rfl rfl rfl (fun a HF => ?_)
  refine wc_end ?_
  refine then_n ?_
  refine wp_seq ?_
  refine wp_seq ?_
  refine wp_region_can [(0, true), (1, true), (2, false), (3, true), (4, true), (5, true), (6, true), (7, true), (8, true), (9, true), (10, true), (11, true), (12, true), (14, false), (15, false), (16, false), (17, false), (13, false), (18, true), (19, true)] (fun w' => w'.cell? ⟨p1, 1, none⟩ = some (.slice a_x0_1 x0_1.length c_x0_1) ∧ True) (by kernel_rfl) (by kernel_rfl) ?_
  have HT : St w0 (fun _ => False) w.drew [Box p1 [.slice a_x0_0 x0_0.length c_x0_0, .slice a_x0_1 x0_1.length c_x0_1]] := HT.drew
  refine wc_faddr HF nS rfl fl49_0 rfl rfl (fun a HF => ?_)
  refine wc_load HF rfl sc35 ((HT.boxAt 0 rfl).get 0 rfl) rfl rfl (fun a HF => ?_)
  obtain ⟨y1, hx1, h⟩ := obs h
  refine wc_call HF cf52 rfl (w_spec_CodeOk fuel hx1 (HT.ro hr_x0_0).any) rfl rfl ?_
  rintro e w ⟨rfl, hE⟩
  have hb := hE.below
  have HT := HT.pure hE
  have HT : St w0 (fun _ => False) w [Box p1 [.slice a_x0_0 x0_0.length c_x0_0, .slice a_x0_1 x0_1.length c_x0_1]] := HT
  refine ⟨_, rfl, (fun _ => ⟨(HT.boxAt 0 rfl).get 1 rfl, trivial⟩), fun a HF => ?_⟩
  refine wc_not HF nS rfl rfl rfl (fun a HF => ?_)
  refine wc_move HF nS rfl rfl rfl (fun a HF => ?_)
  by_cases hb1 : y1 = true
  · have h := (if_pos hb1).symm.trans h
    refine wc_faddr HF nS rfl fl49_1 (HF.wy rfl rfl rfl rfl (notT hb1)) rfl (fun a HF => ?_)
    refine wc_load HF rfl sc47 ((HT.boxAt 0 rfl).get 1 rfl) (HF.wy rfl rfl rfl rfl (notT hb1)) rfl (fun a HF => ?_)
    refine wc_lenR HF nS Try.underlying47 rfl (HF.wy rfl rfl rfl rfl (notT hb1)) rfl (fun a HF => ?_)
    refine wc_bin HF nS rfl rfl b_gt (HF.wy rfl rfl rfl rfl (notT hb1)) rfl (fun a HF => ?_)
    refine wc_pick (b := false) HF nS rfl (notT hb1) rfl rfl rfl (fun a HF => ?_)
    refine wc_move HF nS rfl rfl rfl (fun a HF => ?_)
    by_cases hb2 : 3 < (x0_1.length : Int)
    · have h := (if_pos hb2).symm.trans h
      refine wc_skip HF nS (HF.wn rfl rfl rfl rfl (decide_eq_true hb2)) rfl (fun a HF => ?_)
      refine wc_skip HF nS (HF.wn rfl rfl rfl rfl (decide_eq_true hb2)) rfl (fun a HF => ?_)
      refine wc_skip HF (fun _ => ⟨(HT.boxAt 0 rfl).get 1 rfl, trivial⟩) (HF.wn rfl rfl rfl rfl (decide_eq_true hb2)) rfl (fun a HF => ?_)
      refine wc_skip HF (fun _ => ⟨(HT.boxAt 0 rfl).get 1 rfl, trivial⟩) (HF.wn rfl rfl rfl rfl (decide_eq_true hb2)) rfl (fun a HF => ?_)
      refine wc_skip HF (fun _ => ⟨(HT.boxAt 0 rfl).get 1 rfl, trivial⟩) (HF.wn rfl rfl rfl rfl (decide_eq_true hb2)) rfl (fun a HF => ?_)
      refine wc_skip HF (fun _ => ⟨(HT.boxAt 0 rfl).get 1 rfl, trivial⟩) (HF.wn rfl rfl rfl rfl (decide_eq_true hb2)) rfl (fun a HF => ?_)
      refine wc_skip HF (fun _ => ⟨(HT.boxAt 0 rfl).get 1 rfl, trivial⟩) (HF.wn rfl rfl rfl rfl (decide_eq_true hb2)) rfl (fun a HF => ?_)
      refine wc_skip HF nS (HF.wn rfl rfl rfl rfl (decide_eq_true hb2)) rfl (fun a HF => ?_)
      refine wc_pick (b := true) HF nS rfl (decide_eq_true hb2) rfl rfl rfl (fun a HF => ?_)
      refine wc_endN ?_
      refine then_n ?_
      refine wp_if (b' := true) HF rfl rfl ?_
      refine wp_seq ?_
      refine wc_text ?_
      refine wc_assign HF nS rfl rfl rfl (fun a HF => ?_)
      refine wc_end ?_
      refine then_n ?_
      refine wp_ret ?_
      obtain rfl := Option.some.inj h
      refine then_r (?_)
      refine bp_ret HF (res_one rfl HF rfl) ?_
      have HT : St w0 (fun _ => False) w [] := HT.take 0
      exact ⟨rfl, HT⟩
    · have h := (if_neg hb2).symm.trans h
      refine wc_faddr HF nS rfl fl49_0 (HF.wy rfl rfl rfl rfl (decide_eq_false hb2)) rfl (fun a HF => ?_)
      refine wc_load HF rfl sc35 ((HT.boxAt 0 rfl).get 0 rfl) (HF.wy rfl rfl rfl rfl (decide_eq_false hb2)) rfl (fun a HF => ?_)
      refine wc_faddr HF (fun _ => ⟨(HT.boxAt 0 rfl).get 1 rfl, trivial⟩) rfl fl49_1 (HF.wy rfl rfl rfl rfl (decide_eq_false hb2)) rfl (fun a HF => ?_)
      refine wc_loadS HF ⟨(HT.boxAt 0 rfl).get 1 rfl, trivial⟩ rfl sc47 (fun w hS => hS.1) (HF.wy rfl rfl rfl rfl (decide_eq_false hb2)) rfl (fun a HF => ?_)
      refine wc_lenR HF (fun _ => ⟨(HT.boxAt 0 rfl).get 1 rfl, trivial⟩) Try.underlying47 rfl (HF.wy rfl rfl rfl rfl (decide_eq_false hb2)) rfl (fun a HF => ?_)
      refine wc_bin HF (fun _ => ⟨(HT.boxAt 0 rfl).get 1 rfl, trivial⟩) rfl rfl b_gt (HF.wy rfl rfl rfl rfl (decide_eq_false hb2)) rfl (fun a HF => ?_)
      obtain ⟨y2, hx2, h⟩ := obs h
      refine wc_call HF cf64 rfl (w_spec_HasFork fuel hx2 (HT.ro hr_x0_0).any) (HF.wy rfl rfl rfl rfl (decide_eq_false hb2)) rfl ?_
      rintro e w ⟨rfl, hE⟩
      have hb := hE.below
      have HT := HT.pure hE
      have HT : St w0 (fun _ => False) w [Box p1 [.slice a_x0_0 x0_0.length c_x0_0, .slice a_x0_1 x0_1.length c_x0_1]] := HT
      refine ⟨_, rfl, (fun _ => ⟨(HT.boxAt 0 rfl).get 1 rfl, trivial⟩), fun a HF => ?_⟩
      refine wc_bin HF nS rfl rfl (b_bne Try.underlying4) (HF.wy rfl rfl rfl rfl (decide_eq_false hb2)) rfl (fun a HF => ?_)
      refine wc_pick (b := false) HF nS rfl (decide_eq_false hb2) rfl rfl rfl (fun a HF => ?_)
      refine wc_endN ?_
      refine then_n ?_
      by_cases hb3 : (y2 == (decide (0 < (x0_1.length : Int)))) = true
      · have h := (if_pos hb3).symm.trans h
        refine wp_if (b' := false) HF rfl (notT hb3) ?_
        refine wp_skip ?_
        refine then_n ?_
        obtain ⟨q1, hx3, h⟩ := obs h
        refine wp_cut (fun a w => q1 = .brk () ∧ Fr a 39 [] ∧ St w0 (fun _ => False) w []) ?_ ?_
        · have hk1 := h
          have h := hx3
          refine wp_seq ?_
          refine wc_text ?_
          refine wc_assign HF nS rfl rfl rfl (fun a HF => ?_)
          refine wc_end ?_
          refine then_n ?_
          refine wp_block ?_
          refine wp_loopN (fun k1 a w => ∃ z1, m_spec_ProgOk_L0 fuel x0_1 k1 z1 = some q1 ∧ Fr a 39 [(1, .pointer (some ⟨p1, 0, none⟩)), (3, .int .i64 z1)] ∧ St w0 (fun _ => False) w [Box p1 [.slice a_x0_0 x0_0.length c_x0_0, .slice a_x0_1 x0_1.length c_x0_1]]) fuel ⟨0, h, (HF.keep (HF.keep HF.nil rfl) rfl), HT⟩ ?_
          rintro k1 a w ⟨z1, h, HF, HT⟩
          cases k1 with
          | zero => cases h
          | succ k1 =>
            rw [m_spec_ProgOk_L0] at h
            refine ?_
            refine wp_seq ?_
            refine wp_seq ?_
            refine wc_text ?_
            refine wc_move HF nS rfl rfl rfl (fun a HF => ?_)
            refine wc_faddr HF nS rfl fl49_1 rfl rfl (fun a HF => ?_)
            refine wc_load HF rfl sc47 ((HT.boxAt 0 rfl).get 1 rfl) rfl rfl (fun a HF => ?_)
            refine wc_lenR HF nS Try.underlying47 rfl rfl rfl (fun a HF => ?_)
            refine wc_bin HF nS rfl rfl b_lt rfl rfl (fun a HF => ?_)
            refine wc_end ?_
            refine then_n ?_
            by_cases hb4 : z1 < (x0_1.length : Int)
            · have h := (if_pos hb4).symm.trans h
              refine wp_if (b' := true) HF rfl (decide_eq_true hb4) ?_
              refine wp_skip ?_
              refine then_n ?_
              refine wp_seq ?_
              refine wp_block ?_
              refine wp_seq ?_
              refine wc_text ?_
              refine wc_faddr HF nS rfl fl49_1 rfl rfl (fun a HF => ?_)
              refine wc_load HF rfl sc47 ((HT.boxAt 0 rfl).get 1 rfl) rfl rfl (fun a HF => ?_)
              refine wc_move HF nS rfl rfl rfl (fun a HF => ?_)
              obtain ⟨e1, hx4, h⟩ := obs h
              obtain ⟨b1, o1, ha1⟩ := (HT.ro hr_x0_1).any.addr hx4
              refine wc_ixaddr HF nS el47 rfl ha1 ((HT.ro hr_x0_1).any).neq rfl hx4 rfl rfl (fun a HF => ?_)
              refine wc_faddr HF nS rfl fl77_0 rfl rfl (fun a HF => ?_)
              obtain ⟨_, hP1, hc1, hr1⟩ := hr_x0_1.elemAt ha1 hx4
              obtain ⟨a1, c1, rfl, hr2⟩ := cells_Kid hr1
              have hc2 := HT.roLd hP1 hc1
              refine wc_load HF rfl sc35 (hc2.get 0 rfl) rfl rfl (fun a HF => ?_)
              obtain ⟨y3, hx5, h⟩ := obs h
              refine wc_call HF cf65 rfl (w_spec_KidOk fuel hx5 (HT.ro hr2).any) rfl rfl ?_
              rintro e w ⟨rfl, hE⟩
              have hb := hE.below
              have HT := HT.pure hE
              have HT : St w0 (fun _ => False) w [Box p1 [.slice a_x0_0 x0_0.length c_x0_0, .slice a_x0_1 x0_1.length c_x0_1]] := HT
              refine ⟨_, rfl, nS, fun a HF => ?_⟩
              refine wc_not HF nS rfl rfl rfl (fun a HF => ?_)
              refine wc_end ?_
              refine then_n ?_
              by_cases hb5 : y3 = true
              · have h := (if_pos hb5).symm.trans h
                refine wp_if (b' := false) HF rfl (notT hb5) ?_
                refine wp_skip ?_
                refine blk_n ?_
                refine then_n ?_
                refine wc_text ?_
                refine wc_move HF nS rfl rfl rfl (fun a HF => ?_)
                obtain ⟨hg1, h⟩ := grd h
                refine wc_bin HF nS rfl rfl (b_add hg1) rfl rfl (fun a HF => ?_)
                refine wc_assign HF nS rfl rfl rfl (fun a HF => ?_)
                refine wc_end ?_
                exact then_n ⟨k1, Nat.lt_succ_self k1, z1 + 1, h, (HF.keep (HF.keep HF.nil rfl) rfl), HT⟩
              · have h := (if_neg hb5).symm.trans h
                refine wp_if (b' := true) HF rfl (notF (Bool.eq_false_iff.2 hb5)) ?_
                refine wp_seq ?_
                refine wc_text ?_
                refine wc_assign HF nS rfl rfl rfl (fun a HF => ?_)
                refine wc_end ?_
                refine then_n ?_
                refine wp_ret ?_
                obtain rfl := Option.some.inj h
                have h := retL hk1
                obtain rfl := Option.some.inj h
                refine blk_r (then_r (then_r (blk_r (then_r (?_)))))
                refine bp_ret HF (res_one rfl HF rfl) ?_
                have HT : St w0 (fun _ => False) w [] := HT.take 0
                exact ⟨rfl, HT⟩
            · have h := (if_neg hb4).symm.trans h
              refine wp_if (b' := false) HF rfl (decide_eq_false hb4) ?_
              refine wp_exit ?_
              refine then_x (then_x (?_))
              refine blk_x ?_
              have HT : St w0 (fun _ => False) w [] := HT.take 0
              exact then_n ⟨(Option.some.inj h).symm, HF.nil, HT⟩
        · rintro a w ⟨rfl, HF, HT⟩
          have h := brkL1u h
          refine ?_
          refine wp_seq ?_
          refine wc_text ?_
          refine wc_assign HF nS rfl rfl rfl (fun a HF => ?_)
          refine wc_end ?_
          refine then_n ?_
          refine wp_ret ?_
          obtain rfl := Option.some.inj h
          refine bp_ret HF (res_one rfl HF rfl) ?_
          exact ⟨rfl, HT⟩
      · have h := (if_neg hb3).symm.trans h
        refine wp_if (b' := true) HF rfl (notF (Bool.eq_false_iff.2 hb3)) ?_
        refine wp_seq ?_
        refine wc_text ?_
        refine wc_assign HF nS rfl rfl rfl (fun a HF => ?_)
        refine wc_end ?_
        refine then_n ?_
        refine wp_ret ?_
        obtain rfl := Option.some.inj h
        refine then_r (?_)
        refine bp_ret HF (res_one rfl HF rfl) ?_
        have HT : St w0 (fun _ => False) w [] := HT.take 0
        exact ⟨rfl, HT⟩
  · have h := (if_neg hb1).symm.trans h
    refine wc_skip HF nS (HF.wn rfl rfl rfl rfl (notF (Bool.eq_false_iff.2 hb1))) rfl (fun a HF => ?_)
    refine wc_skip HF nS (HF.wn rfl rfl rfl rfl (notF (Bool.eq_false_iff.2 hb1))) rfl (fun a HF => ?_)
    refine wc_skip HF nS (HF.wn rfl rfl rfl rfl (notF (Bool.eq_false_iff.2 hb1))) rfl (fun a HF => ?_)
    refine wc_skip HF nS (HF.wn rfl rfl rfl rfl (notF (Bool.eq_false_iff.2 hb1))) rfl (fun a HF => ?_)
    refine wc_pick (b := true) HF nS rfl (notF (Bool.eq_false_iff.2 hb1)) rfl rfl rfl (fun a HF => ?_)
    refine wc_move HF nS rfl rfl rfl (fun a HF => ?_)
    refine wc_skip HF nS (HF.wn rfl rfl rfl rfl rfl) rfl (fun a HF => ?_)
    refine wc_skip HF nS (HF.wn rfl rfl rfl rfl rfl) rfl (fun a HF => ?_)
    refine wc_skip HF (fun _ => ⟨(HT.boxAt 0 rfl).get 1 rfl, trivial⟩) (HF.wn rfl rfl rfl rfl rfl) rfl (fun a HF => ?_)
    refine wc_skip HF (fun _ => ⟨(HT.boxAt 0 rfl).get 1 rfl, trivial⟩) (HF.wn rfl rfl rfl rfl rfl) rfl (fun a HF => ?_)
    refine wc_skip HF (fun _ => ⟨(HT.boxAt 0 rfl).get 1 rfl, trivial⟩) (HF.wn rfl rfl rfl rfl rfl) rfl (fun a HF => ?_)
    refine wc_skip HF (fun _ => ⟨(HT.boxAt 0 rfl).get 1 rfl, trivial⟩) (HF.wn rfl rfl rfl rfl rfl) rfl (fun a HF => ?_)
    refine wc_skip HF (fun _ => ⟨(HT.boxAt 0 rfl).get 1 rfl, trivial⟩) (HF.wn rfl rfl rfl rfl rfl) rfl (fun a HF => ?_)
    refine wc_skip HF nS (HF.wn rfl rfl rfl rfl rfl) rfl (fun a HF => ?_)
    refine wc_pick (b := true) HF nS rfl rfl rfl rfl rfl (fun a HF => ?_)
    refine wc_endN ?_
    refine then_n ?_
    refine wp_if (b' := true) HF rfl rfl ?_
    refine wp_seq ?_
    refine wc_text ?_
    refine wc_assign HF nS rfl rfl rfl (fun a HF => ?_)
    refine wc_end ?_
    refine then_n ?_
    refine wp_ret ?_
    obtain rfl := Option.some.inj h
    refine then_r (?_)
    refine bp_ret HF (res_one rfl HF rfl) ?_
    have HT : St w0 (fun _ => False) w [] := HT.take 0
    exact ⟨rfl, HT⟩

def m_spec_ShowProg_L0 (fuel : Nat) (x0_1 : List KidD) : Nat → Str → Int → Option Str
  | 0, _, _ => none
  | k1 + 1, z2, z3 =>
    if z3 < (x0_1.length : Int) then
      if ((z2.length + ([107, 105, 100, 10]).length : Nat) : Int) ≤ 9223372036854775807 then
        (at? x0_1 z3).bind fun e1 =>
        (m_spec_ShowCode fuel e1.code).bind fun y3 =>
        if (((z2 ++ ([107, 105, 100, 10])).length + y3.length : Nat) : Int) ≤ 9223372036854775807 then
          if in64 (z3 + 1) then
            m_spec_ShowProg_L0 fuel x0_1 k1 ((z2 ++ ([107, 105, 100, 10])) ++ y3) (z3 + 1)
          else none
        else none
      else none
    else
      some z2

def m_spec_ShowProg (fuel : Nat) (x0_0 : List I4) (x0_1 : List KidD) : Option Str :=
  (m_spec_ProgOk fuel x0_0 x0_1).bind fun y1 =>
  if y1 = true then
    (m_spec_ShowCode fuel x0_0).bind fun y2 =>
    (m_spec_ShowProg_L0 fuel x0_1 fuel y2 0).bind fun z1 =>
    some z1
  else
    some []

set_option maxRecDepth 100000 in
set_option maxHeartbeats 4000000 in
theorem w_spec_ShowProg (fuel : Nat) {x0_0 : List I4} {x0_1 : List KidD} {a_x0_0 : Option Addr} {n_x0_0 c_x0_0 : Nat} {a_x0_1 : Option Addr} {n_x0_1 c_x0_1 : Nat} {r0 : Str} {w0 : World} (h : m_spec_ShowProg fuel x0_0 x0_1 = some r0) (hr_x0_0 : RdT (fun b => ¬ False) w0 (rowT x0_0) (.slice a_x0_0 n_x0_0 c_x0_0)) (hr_x0_1 : RdT (fun b => ¬ False) w0 (rowT x0_1) (.slice a_x0_1 n_x0_1 c_x0_1)) :
    Calls Try.prog 26 #[.agg #[.slice a_x0_0 n_x0_0 c_x0_0, .slice a_x0_1 n_x0_1 c_x0_1]] w0 fun e w => e = .returned (sv r0) ∧ St w0 (fun _ => False) w [] := by
  obtain rfl := hr_x0_0.neq
  obtain rfl := hr_x0_1.neq
  have HT : St w0 (fun _ => False) w0 [] := St.init0
  rw [m_spec_ShowProg] at h
  refine calls_fr (n := 29) [.agg #[.slice a_x0_0 x0_0.length c_x0_0, .slice a_x0_1 x0_1.length c_x0_1]] Try.func26 rfl rfl rfl (fun a HF => ?_)
  have HT : St w0 (fun _ => False) w0 [] := HT
  refine wp_seq ?_
  refine wc_text ?_
  refine wc_box (cs := [.slice a_x0_0 x0_0.length c_x0_0, .slice a_x0_1 x0_1.length c_x0_1]) HF HT rfl rfl rfl rfl (fun p1 w HT hb => ⟨nS, fun a HF => ?_⟩)
  refine wc_assign HF nS rfl rfl rfl (fun a HF => ?_)
  refine wc_end ?_
  refine then_n ?_
  refine wp_seq ?_
  refine wp_seq ?_
  refine wc_text ?_
  refine wc_loadA (vs := [.slice a_x0_0 x0_0.length c_x0_0, .slice a_x0_1 x0_1.length c_x0_1]) HF rfl ag49 rfl ((HT.boxAt 0 rfl).part 0 2) rfl rfl (fun a HF => ?_)
  obtain ⟨y1, hx1, h⟩ := obs h
  refine wc_call HF cf36 rfl (w_spec_ProgOk fuel hx1 (HT.ro hr_x0_0).any (HT.ro hr_x0_1).any) rfl rfl ?_
  rintro e w ⟨rfl, hE⟩
  have hb := hE.below
  have HT := HT.pure hE
  have HT : St w0 (fun _ => False) w [Box p1 [.slice a_x0_0 x0_0.length c_x0_0, .slice a_x0_1 x0_1.length c_x0_1]] := HT
  refine ⟨_, rfl, nS, fun a HF => ?_⟩
  refine wc_not HF nS rfl rfl rfl (fun a HF => ?_)
  refine wc_end ?_
  refine then_n ?_
  by_cases hb1 : y1 = true
  · have h := (if_pos hb1).symm.trans h
    refine wp_if (b' := false) HF rfl (notT hb1) ?_
    refine wp_skip ?_
    refine then_n ?_
    refine wp_seq ?_
    refine wc_text ?_
    refine wc_faddr HF nS rfl fl49_0 rfl rfl (fun a HF => ?_)
    refine wc_load HF rfl sc35 ((HT.boxAt 0 rfl).get 0 rfl) rfl rfl (fun a HF => ?_)
    obtain ⟨y2, hx2, h⟩ := obs h
    refine wc_call HF cf17 rfl (w_spec_ShowCode fuel hx2 (HT.ro hr_x0_0).any) rfl rfl ?_
    rintro e w ⟨rfl, hE⟩
    have hb := hE.below
    have HT := HT.pure hE
    have HT : St w0 (fun _ => False) w [Box p1 [.slice a_x0_0 x0_0.length c_x0_0, .slice a_x0_1 x0_1.length c_x0_1]] := HT
    refine ⟨_, rfl, nS, fun a HF => ?_⟩
    refine wc_assign HF nS rfl rfl rfl (fun a HF => ?_)
    refine wc_end ?_
    refine then_n ?_
    obtain ⟨z1, hx3, h⟩ := obs h
    refine wp_cut (fun a w => Fr a 29 [(3, sv z1)] ∧ St w0 (fun _ => False) w []) ?_ ?_
    · have hk1 := h
      have h := hx3
      refine wp_seq ?_
      refine wc_text ?_
      refine wc_assign HF nS rfl rfl rfl (fun a HF => ?_)
      refine wc_end ?_
      refine then_n ?_
      refine wp_block ?_
      refine wp_loopN (fun k1 a w => ∃ z2 z3, m_spec_ShowProg_L0 fuel x0_1 k1 z2 z3 = some z1 ∧ Fr a 29 [(1, .pointer (some ⟨p1, 0, none⟩)), (3, sv z2), (4, .int .i64 z3)] ∧ St w0 (fun _ => False) w [Box p1 [.slice a_x0_0 x0_0.length c_x0_0, .slice a_x0_1 x0_1.length c_x0_1]]) fuel ⟨y2, 0, h, (HF.keep (HF.keep (HF.keep HF.nil rfl) rfl) rfl), HT⟩ ?_
      rintro k1 a w ⟨z2, z3, h, HF, HT⟩
      cases k1 with
      | zero => cases h
      | succ k1 =>
        rw [m_spec_ShowProg_L0] at h
        refine ?_
        refine wp_seq ?_
        refine wp_seq ?_
        refine wc_text ?_
        refine wc_move HF nS rfl rfl rfl (fun a HF => ?_)
        refine wc_faddr HF nS rfl fl49_1 rfl rfl (fun a HF => ?_)
        refine wc_load HF rfl sc47 ((HT.boxAt 0 rfl).get 1 rfl) rfl rfl (fun a HF => ?_)
        refine wc_lenR HF nS Try.underlying47 rfl rfl rfl (fun a HF => ?_)
        refine wc_bin HF nS rfl rfl b_lt rfl rfl (fun a HF => ?_)
        refine wc_end ?_
        refine then_n ?_
        by_cases hb2 : z3 < (x0_1.length : Int)
        · have h := (if_pos hb2).symm.trans h
          refine wp_if (b' := true) HF rfl (decide_eq_true hb2) ?_
          refine wp_skip ?_
          refine then_n ?_
          refine wp_seq ?_
          refine wp_block ?_
          refine wc_text ?_
          refine wc_move HF nS rfl rfl rfl (fun a HF => ?_)
          obtain ⟨hg1, h⟩ := grd h
          refine wc_bin HF nS rfl rfl (b_cat hg1) rfl rfl (fun a HF => ?_)
          refine wc_faddr HF nS rfl fl49_1 rfl rfl (fun a HF => ?_)
          refine wc_load HF rfl sc47 ((HT.boxAt 0 rfl).get 1 rfl) rfl rfl (fun a HF => ?_)
          refine wc_move HF nS rfl rfl rfl (fun a HF => ?_)
          obtain ⟨e1, hx4, h⟩ := obs h
          obtain ⟨b1, o1, ha1⟩ := (HT.ro hr_x0_1).any.addr hx4
          refine wc_ixaddr HF nS el47 rfl ha1 ((HT.ro hr_x0_1).any).neq rfl hx4 rfl rfl (fun a HF => ?_)
          refine wc_faddr HF nS rfl fl77_0 rfl rfl (fun a HF => ?_)
          obtain ⟨_, hP1, hc1, hr1⟩ := hr_x0_1.elemAt ha1 hx4
          obtain ⟨a1, c1, rfl, hr2⟩ := cells_Kid hr1
          have hc2 := HT.roLd hP1 hc1
          refine wc_load HF rfl sc35 (hc2.get 0 rfl) rfl rfl (fun a HF => ?_)
          obtain ⟨y3, hx5, h⟩ := obs h
          refine wc_call HF cf17 rfl (w_spec_ShowCode fuel hx5 (HT.ro hr2).any) rfl rfl ?_
          rintro e w ⟨rfl, hE⟩
          have hb := hE.below
          have HT := HT.pure hE
          have HT : St w0 (fun _ => False) w [Box p1 [.slice a_x0_0 x0_0.length c_x0_0, .slice a_x0_1 x0_1.length c_x0_1]] := HT
          refine ⟨_, rfl, nS, fun a HF => ?_⟩
          obtain ⟨hg2, h⟩ := grd h
          refine wc_bin HF nS rfl rfl (b_cat hg2) rfl rfl (fun a HF => ?_)
          refine wc_assign HF nS rfl rfl rfl (fun a HF => ?_)
          refine wc_end ?_
          refine blk_n ?_
          refine then_n ?_
          refine wc_text ?_
          refine wc_move HF nS rfl rfl rfl (fun a HF => ?_)
          obtain ⟨hg3, h⟩ := grd h
          refine wc_bin HF nS rfl rfl (b_add hg3) rfl rfl (fun a HF => ?_)
          refine wc_assign HF nS rfl rfl rfl (fun a HF => ?_)
          refine wc_end ?_
          exact then_n ⟨k1, Nat.lt_succ_self k1, (z2 ++ ([107, 105, 100, 10])) ++ y3, z3 + 1, h, (HF.keep (HF.keep (HF.keep HF.nil rfl) rfl) rfl), HT⟩
        · have h := (if_neg hb2).symm.trans h
          refine wp_if (b' := false) HF rfl (decide_eq_false hb2) ?_
          refine wp_exit ?_
          refine then_x (then_x (?_))
          refine blk_x ?_
          have HT : St w0 (fun _ => False) w [] := HT.take 0
          obtain rfl := Option.some.inj h
          exact then_n ⟨(HF.keep HF.nil rfl), HT⟩
    · rintro a w ⟨HF, HT⟩
      refine ?_
      refine wp_seq ?_
      refine wc_text ?_
      refine wc_move HF nS rfl rfl rfl (fun a HF => ?_)
      refine wc_assign HF nS rfl rfl rfl (fun a HF => ?_)
      refine wc_end ?_
      refine then_n ?_
      refine wp_ret ?_
      obtain rfl := Option.some.inj h
      refine bp_ret HF (res_one rfl HF rfl) ?_
      exact ⟨rfl, HT⟩
  · have h := (if_neg hb1).symm.trans h
    refine wp_if (b' := true) HF rfl (notF (Bool.eq_false_iff.2 hb1)) ?_
    refine wp_seq ?_
    refine wc_text ?_
    refine wc_assign HF nS rfl rfl rfl (fun a HF => ?_)
    refine wc_end ?_
    refine then_n ?_
    refine wp_ret ?_
    obtain rfl := Option.some.inj h
    refine then_r (?_)
    refine bp_ret HF (res_one rfl HF rfl) ?_
    have HT : St w0 (fun _ => False) w [] := HT.take 0
    exact ⟨rfl, HT⟩

def m_laws_FnExactShowProg (fuel : Nat) (x0_0 : List I4) (x0_1 : List KidD) : Option Bool :=
  (m_laws_szProg fuel x0_0 x0_1 1048576).bind fun y1 =>
  if y1 < 0 then
    some true
  else
    bind2 (m_laws_toProg fuel x0_0 x0_1) fun y2 y3 =>
    (m_spec_ShowProg fuel y2 y3).bind fun y4 =>
    bind2 (m_laws_toProg fuel x0_0 x0_1) fun y5 y6 =>
    (m_impl_ShowProg fuel y5 y6).bind fun y7 =>
    if y7 = y4 then
      bind2 (m_laws_toProg fuel x0_0 x0_1) fun y8 y9 =>
      (m_laws_eqProg fuel y5 y6 y8 y9).bind fun y10 =>
      if y10 = true then
        some true
      else
        some false
    else
      some false

set_option maxRecDepth 100000 in
set_option maxHeartbeats 4000000 in
theorem w_laws_FnExactShowProg (fuel : Nat) {x0_0 : List I4} {x0_1 : List KidD} {a_x0_0 : Option Addr} {n_x0_0 c_x0_0 : Nat} {a_x0_1 : Option Addr} {n_x0_1 c_x0_1 : Nat} {r0 : Bool} {w0 : World} (h : m_laws_FnExactShowProg fuel x0_0 x0_1 = some r0) (hr_x0_0 : RdT (fun b => ¬ False) w0 (rowT x0_0) (.slice a_x0_0 n_x0_0 c_x0_0)) (hr_x0_1 : RdT (fun b => ¬ False) w0 (rowT x0_1) (.slice a_x0_1 n_x0_1 c_x0_1)) :
    Calls Try.prog 7 #[.agg #[.slice a_x0_0 n_x0_0 c_x0_0, .slice a_x0_1 n_x0_1 c_x0_1]] w0 fun e w => e = .returned (.bool r0) ∧ St w0 (fun _ => False) w [] := by
  obtain rfl := hr_x0_0.neq
  obtain rfl := hr_x0_1.neq
  have HT : St w0 (fun _ => False) w0 [] := St.init0
  rw [m_laws_FnExactShowProg] at h
  refine calls_fr (n := 27) [.agg #[.slice a_x0_0 x0_0.length c_x0_0, .slice a_x0_1 x0_1.length c_x0_1]] Try.func7 rfl rfl rfl (fun a HF => ?_)
  have HT : St w0 (fun _ => False) w0 [] := HT
  refine wp_seq ?_
  refine wc_text ?_
  refine wc_box (cs := [.slice a_x0_0 x0_0.length c_x0_0, .slice a_x0_1 x0_1.length c_x0_1]) HF HT rfl rfl rfl rfl (fun p1 w HT hb => ⟨nS, fun a HF => ?_⟩)
  refine wc_assign HF nS rfl rfl rfl (fun a HF => ?_)
  refine wc_end ?_
  refine then_n ?_
  refine wp_seq ?_
  refine wc_text ?_
  refine wc_assign HF nS rfl rfl rfl (fun a HF => ?_)
  refine wc_end ?_
  refine then_n ?_
  refine wp_seq ?_
  refine wc_text ?_
  refine wc_loadA (vs := [.slice a_x0_0 x0_0.length c_x0_0, .slice a_x0_1 x0_1.length c_x0_1]) HF rfl ag44 rfl ((HT.boxAt 0 rfl).part 0 2) rfl rfl (fun a HF => ?_)
  refine wc_move HF nS rfl rfl rfl (fun a HF => ?_)
  obtain ⟨y1, hx1, h⟩ := obs h
  refine wc_call HF cf25 rfl (w_laws_szProg fuel hx1 (HT.ro hr_x0_0).any (HT.ro hr_x0_1).any) rfl rfl ?_
  rintro e w ⟨rfl, hE⟩
  have hb := hE.below
  have HT := HT.pure hE
  have HT : St w0 (fun _ => False) w [Box p1 [.slice a_x0_0 x0_0.length c_x0_0, .slice a_x0_1 x0_1.length c_x0_1]] := HT
  refine ⟨_, rfl, nS, fun a HF => ?_⟩
  refine wc_assign HF nS rfl rfl rfl (fun a HF => ?_)
  refine wc_end ?_
  refine then_n ?_
  refine wp_seq ?_
  refine wp_seq ?_
  refine wc_text ?_
  refine wc_move HF nS rfl rfl rfl (fun a HF => ?_)
  refine wc_bin HF nS rfl rfl b_lt rfl rfl (fun a HF => ?_)
  refine wc_end ?_
  refine then_n ?_
  by_cases hb1 : y1 < 0
  · have h := (if_pos hb1).symm.trans h
    refine wp_if (b' := true) HF rfl (decide_eq_true hb1) ?_
    refine wp_seq ?_
    refine wc_text ?_
    refine wc_assign HF nS rfl rfl rfl (fun a HF => ?_)
    refine wc_end ?_
    refine then_n ?_
    refine wp_ret ?_
    obtain rfl := Option.some.inj h
    refine then_r (?_)
    refine bp_ret HF (res_one rfl HF rfl) ?_
    have HT : St w0 (fun _ => False) w [] := HT.take 0
    exact ⟨rfl, HT⟩
  · have h := (if_neg hb1).symm.trans h
    refine wp_if (b' := false) HF rfl (decide_eq_false hb1) ?_
    refine wp_skip ?_
    refine then_n ?_
    refine wp_seq ?_
    refine wc_text ?_
    refine wc_loadA (vs := [.slice a_x0_0 x0_0.length c_x0_0, .slice a_x0_1 x0_1.length c_x0_1]) HF rfl ag44 rfl ((HT.boxAt 0 rfl).part 0 2) rfl rfl (fun a HF => ?_)
    obtain ⟨y2, y3, hx2, h⟩ := obs2 h
    refine wc_call HF cf27 rfl (w_laws_toProg fuel hx2 (HT.ro hr_x0_0).any (HT.ro hr_x0_1).any) rfl rfl ?_
    rintro e w ⟨a1, n1, c1, a2, n2, c2, rfl, hE⟩
    have hb := hE.below
    have HT := HT.pure hE
    obtain rfl := (HT.rdAt 0 rfl).neq
    obtain rfl := (HT.rdAt 1 rfl).neq
    have HT : St w0 (fun _ => False) w [Own 25 (rowT y2) (.slice a1 y2.length c1), Own 77 (rowT y3) (.slice a2 y3.length c2), Box p1 [.slice a_x0_0 x0_0.length c_x0_0, .slice a_x0_1 x0_1.length c_x0_1]] := HT
    refine ⟨_, rfl, nS, fun a HF => ?_⟩
    obtain ⟨y4, hx3, h⟩ := obs h
    refine wc_call HF cf26 rfl (w_spec_ShowProg fuel hx3 (HT.rdAt 0 rfl) (HT.rdAt 1 rfl)) rfl rfl ?_
    rintro e w ⟨rfl, hE⟩
    have hb := hE.below
    have HT := HT.pure hE
    have HT : St w0 (fun _ => False) w [Own 25 (rowT y2) (.slice a1 y2.length c1), Own 77 (rowT y3) (.slice a2 y3.length c2), Box p1 [.slice a_x0_0 x0_0.length c_x0_0, .slice a_x0_1 x0_1.length c_x0_1]] := HT
    refine ⟨_, rfl, nS, fun a HF => ?_⟩
    refine wc_assign HF nS rfl rfl rfl (fun a HF => ?_)
    refine wc_end ?_
    refine then_n ?_
    refine wp_seq ?_
    refine wc_text ?_
    refine wc_loadA (vs := [.slice a_x0_0 x0_0.length c_x0_0, .slice a_x0_1 x0_1.length c_x0_1]) HF rfl ag44 rfl ((HT.boxAt 2 rfl).part 0 2) rfl rfl (fun a HF => ?_)
    obtain ⟨y5, y6, hx4, h⟩ := obs2 h
    refine wc_call HF cf27 rfl (w_laws_toProg fuel hx4 (HT.ro hr_x0_0).any (HT.ro hr_x0_1).any) rfl rfl ?_
    rintro e w ⟨a3, n3, c3, a4, n4, c4, rfl, hE⟩
    have hb := hE.below
    have HT := HT.pure hE
    obtain rfl := (HT.rdAt 0 rfl).neq
    obtain rfl := (HT.rdAt 1 rfl).neq
    have HT : St w0 (fun _ => False) w [Own 25 (rowT y5) (.slice a3 y5.length c3), Own 77 (rowT y6) (.slice a4 y6.length c4), Own 25 (rowT y2) (.slice a1 y2.length c1), Own 77 (rowT y3) (.slice a2 y3.length c2), Box p1 [.slice a_x0_0 x0_0.length c_x0_0, .slice a_x0_1 x0_1.length c_x0_1]] := HT
    refine ⟨_, rfl, nS, fun a HF => ?_⟩
    refine wc_alloc (cs := [.slice none 0 0, .slice none 0 0]) HF HT zr49 rfl rfl rfl (fun p2 w HT hb => ⟨nS, fun a HF => ?_⟩)
    refine wc_storeB (cs' := [.slice a3 y5.length c3, .slice a4 y6.length c4]) HF HT rfl rfl (fun w => (ag49 w).2) rfl rfl rfl rfl rfl (fun w HT => ⟨nS, ?_⟩)
    refine wc_end ?_
    refine then_n ?_
    refine wp_seq ?_
    refine wc_text ?_
    refine wc_loadA (vs := [.slice a3 y5.length c3, .slice a4 y6.length c4]) HF rfl ag49 rfl ((HT.boxAt 0 rfl).part 0 2) rfl rfl (fun a HF => ?_)
    obtain ⟨y7, hx5, h⟩ := obs h
    refine wc_call HF cf28 rfl (w_impl_ShowProg fuel hx5 (HT.rdAt 1 rfl) (HT.rdAt 2 rfl)) rfl rfl ?_
    rintro e w ⟨rfl, hE⟩
    have hb := hE.below
    have HT := HT.pure hE
    have HT : St w0 (fun _ => False) w [Box p2 [.slice a3 y5.length c3, .slice a4 y6.length c4], Own 25 (rowT y5) (.slice a3 y5.length c3), Own 77 (rowT y6) (.slice a4 y6.length c4), Own 25 (rowT y2) (.slice a1 y2.length c1), Own 77 (rowT y3) (.slice a2 y3.length c2), Box p1 [.slice a_x0_0 x0_0.length c_x0_0, .slice a_x0_1 x0_1.length c_x0_1]] := HT
    refine ⟨_, rfl, nS, fun a HF => ?_⟩
    refine wc_assign HF nS rfl rfl rfl (fun a HF => ?_)
    refine wc_end ?_
    refine then_n ?_
    refine wp_seq ?_
    refine wp_seq ?_
    refine wc_text ?_
    refine wc_move HF nS rfl rfl rfl (fun a HF => ?_)
    refine wc_move HF nS rfl rfl rfl (fun a HF => ?_)
    refine wc_bin HF nS rfl rfl b_sne rfl rfl (fun a HF => ?_)
    refine wc_end ?_
    refine then_n ?_
    by_cases hb2 : y7 = y4
    · have h := (if_pos hb2).symm.trans h
      refine wp_if (b' := false) HF rfl (notT (decide_eq_true hb2)) ?_
      refine wp_skip ?_
      refine then_n ?_
      refine wp_seq ?_
      refine wp_seq ?_
      refine wp_region_can [(0, false), (1, true), (2, false), (3, true), (4, true)] (fun w' => LdC w' p2 0 [.slice a3 y5.length c3, .slice a4 y6.length c4] ∧ True) (by kernel_rfl) (by kernel_rfl) ?_
      have HT : St w0 (fun _ => False) w.drew [Box p2 [.slice a3 y5.length c3, .slice a4 y6.length c4], Own 25 (rowT y5) (.slice a3 y5.length c3), Own 77 (rowT y6) (.slice a4 y6.length c4), Own 25 (rowT y2) (.slice a1 y2.length c1), Own 77 (rowT y3) (.slice a2 y3.length c2), Box p1 [.slice a_x0_0 x0_0.length c_x0_0, .slice a_x0_1 x0_1.length c_x0_1]] := HT.drew
      refine wc_loadAS (vs := [.slice a3 y5.length c3, .slice a4 y6.length c4]) HF ⟨(HT.boxAt 0 rfl).part 0 2, trivial⟩ rfl ag49 rfl (fun w hS => hS.1) rfl rfl (fun a HF => ?_)
      refine wc_loadA (vs := [.slice a_x0_0 x0_0.length c_x0_0, .slice a_x0_1 x0_1.length c_x0_1]) HF rfl ag44 rfl ((HT.boxAt 5 rfl).part 0 2) rfl rfl (fun a HF => ?_)
      obtain ⟨y8, y9, hx6, h⟩ := obs2 h
      refine wc_call HF cf27 rfl (w_laws_toProg fuel hx6 (HT.ro hr_x0_0).any (HT.ro hr_x0_1).any) rfl rfl ?_
      rintro e w ⟨a5, n5, c5, a6, n6, c6, rfl, hE⟩
      have hb := hE.below
      have HT := HT.pure hE
      obtain rfl := (HT.rdAt 0 rfl).neq
      obtain rfl := (HT.rdAt 1 rfl).neq
      have HT : St w0 (fun _ => False) w [Own 25 (rowT y8) (.slice a5 y8.length c5), Own 77 (rowT y9) (.slice a6 y9.length c6), Box p2 [.slice a3 y5.length c3, .slice a4 y6.length c4], Own 25 (rowT y5) (.slice a3 y5.length c3), Own 77 (rowT y6) (.slice a4 y6.length c4), Own 25 (rowT y2) (.slice a1 y2.length c1), Own 77 (rowT y3) (.slice a2 y3.length c2), Box p1 [.slice a_x0_0 x0_0.length c_x0_0, .slice a_x0_1 x0_1.length c_x0_1]] := HT
      refine ⟨_, rfl, (fun _ => ⟨(HT.boxAt 2 rfl).part 0 2, trivial⟩), fun a HF => ?_⟩
      obtain ⟨y10, hx7, h⟩ := obs h
      refine wc_call HF cf29 rfl (w_laws_eqProg fuel hx7 (HT.rdAt 3 rfl) (HT.rdAt 4 rfl) (HT.rdAt 0 rfl) (HT.rdAt 1 rfl)) rfl rfl ?_
      rintro e w ⟨rfl, hE⟩
      have hb := hE.below
      have HT := HT.pure hE
      have HT : St w0 (fun _ => False) w [Own 25 (rowT y8) (.slice a5 y8.length c5), Own 77 (rowT y9) (.slice a6 y9.length c6), Box p2 [.slice a3 y5.length c3, .slice a4 y6.length c4], Own 25 (rowT y5) (.slice a3 y5.length c3), Own 77 (rowT y6) (.slice a4 y6.length c4), Own 25 (rowT y2) (.slice a1 y2.length c1), Own 77 (rowT y3) (.slice a2 y3.length c2), Box p1 [.slice a_x0_0 x0_0.length c_x0_0, .slice a_x0_1 x0_1.length c_x0_1]] := HT
      refine ⟨_, rfl, nS, fun a HF => ?_⟩
      refine wc_not HF nS rfl rfl rfl (fun a HF => ?_)
      refine wc_endN ?_
      refine then_n ?_
      by_cases hb3 : y10 = true
      · have h := (if_pos hb3).symm.trans h
        refine wp_if (b' := false) HF rfl (notT hb3) ?_
        refine wp_skip ?_
        refine then_n ?_
        refine wp_seq ?_
        refine wc_text ?_
        refine wc_assign HF nS rfl rfl rfl (fun a HF => ?_)
        refine wc_end ?_
        refine then_n ?_
        refine wp_ret ?_
        obtain rfl := Option.some.inj h
        refine bp_ret HF (res_one rfl HF rfl) ?_
        have HT : St w0 (fun _ => False) w [] := HT.take 0
        exact ⟨rfl, HT⟩
      · have h := (if_neg hb3).symm.trans h
        refine wp_if (b' := true) HF rfl (notF (Bool.eq_false_iff.2 hb3)) ?_
        refine wp_seq ?_
        refine wc_text ?_
        refine wc_assign HF nS rfl rfl rfl (fun a HF => ?_)
        refine wc_end ?_
        refine then_n ?_
        refine wp_ret ?_
        obtain rfl := Option.some.inj h
        refine then_r (?_)
        refine bp_ret HF (res_one rfl HF rfl) ?_
        have HT : St w0 (fun _ => False) w [] := HT.take 0
        exact ⟨rfl, HT⟩
    · have h := (if_neg hb2).symm.trans h
      refine wp_if (b' := true) HF rfl (notF (decide_eq_false hb2)) ?_
      refine wp_seq ?_
      refine wc_text ?_
      refine wc_assign HF nS rfl rfl rfl (fun a HF => ?_)
      refine wc_end ?_
      refine then_n ?_
      refine wp_ret ?_
      obtain rfl := Option.some.inj h
      refine then_r (?_)
      refine bp_ret HF (res_one rfl HF rfl) ?_
      have HT : St w0 (fun _ => False) w [] := HT.take 0
      exact ⟨rfl, HT⟩
end Go.Proofs.Ytpbfppelmgjfpaa
