/- Walks of functions, by program: spec.l3Any, spec.l3Index, spec.DrawLock, spec.DrawTick, spec.l1In, spec.l3Val, spec.MemOk, spec.l3Cell, spec.l3Copy, spec.Lock, laws.FnMemory. -/
import Derived.Test.YtmhdjnmfioaciaaTy
import Derived.Test.YtmhdjnmfioaciaaX1
namespace Go.Proofs.Ytmhdjnmfioaciaa
open Go Go.RowKit
set_option linter.unusedVariables false
set_option linter.unusedSimpArgs false
def m_spec_l3Any (fuel : Nat) (x0_0 : List UInt8) (x0_1 : Int) (x0_2 : Int) : Option (Int × List I3 × Int × Int) :=
  bind4 (m_spec_l3Mem fuel x0_0 x0_1 x0_2) fun y1 y2 y3 y4 =>
  bind3 (m_spec_l1Below fuel x0_0 y3 y4 8) fun y5 y6 y7 =>
  bind4 (
    bind3 (m_spec_l1Below fuel x0_0 y6 y7 30) fun y8 y9 y10 =>
    if y8 = 0 then
      if 0 ≤ (y5 : Int) ∧ y5 ≤ (y2.length : Int) then
        some (y1, subl y2 0 y5, y9, y10)
      else none
    else
      if y8 = 1 then
        if in64 (y1 + 1) then
          (at? y2 y5).bind fun e1 =>
          some (y1, y2.set y5.toNat (⟨e1.a, y1 + 1, e1.c⟩ : I3), y9, y10)
        else none
      else
        if y8 = 2 then
          (at? y2 y5).bind fun e2 =>
          some (y1, y2.set y5.toNat (⟨65536, e2.b, e2.c⟩ : I3), y9, y10)
        else
          if y8 = 3 then
            bind3 (m_spec_l1Below fuel x0_0 y9 y10 2) fun y11 y12 y13 =>
            if in64 (y11 * 101) then
              if in64 (100 - (y11 * 101)) then
                (at? y2 y5).bind fun e3 =>
                some (y1, y2.set y5.toNat (⟨e3.a, e3.b, 100 - (y11 * 101)⟩ : I3), y12, y13)
              else none
            else none
          else
            if y8 = 4 then
              some (1000001, y2, y9, y10)
            else
              if y8 = 5 then
                (at? y2 y5).bind fun e4 =>
                some (y1, y2.set y5.toNat (⟨e4.a, (-1), e4.c⟩ : I3), y9, y10)
              else
                some (y1, y2, y9, y10)) fun z1 z2 z3 z4 =>
  some (z1, z2, z3, z4)

set_option maxRecDepth 100000 in
set_option maxHeartbeats 4000000 in
theorem w_spec_l3Any (fuel : Nat) {x0_0 : List UInt8} {x0_1 : Int} {x0_2 : Int} {a_x0_0 : Option Addr} {n_x0_0 c_x0_0 : Nat} {p_0 : Nat} {r0_0 : Int} {r0_1 : List I3} {x0_1' : Int} {x0_2' : Int} {w0 : World} {F : Foot} (h : m_spec_l3Any fuel x0_0 x0_1 x0_2 = some (r0_0, r0_1, x0_1', x0_2')) (hA : StF w0 F [Box p_0 [.slice a_x0_0 n_x0_0 c_x0_0, .int .i64 x0_1, .int .i64 x0_2]]) (hr_x0_0 : RdT (fun b => ¬ F b) w0 (rowT x0_0) (.slice a_x0_0 n_x0_0 c_x0_0)) :
    Calls Try.prog 63 #[.pointer (some ⟨p_0, 0, none⟩)] w0 fun e w => ∃ a_r0_1 n_r0_1 c_r0_1, e = .returned (.agg #[.int .i64 r0_0, .slice a_r0_1 n_r0_1 c_r0_1]) ∧ St w0 F w [Own 61 (rowT r0_1) (.slice a_r0_1 n_r0_1 c_r0_1), Box p_0 [.slice a_x0_0 n_x0_0 c_x0_0, .int .i64 x0_1', .int .i64 x0_2']] := by
  have HT0 := St.init hA
  obtain rfl := hr_x0_0.neq
  have HT : St w0 F w0 [Box p_0 [.slice a_x0_0 x0_0.length c_x0_0, .int .i64 x0_1, .int .i64 x0_2]] := St.init hA
  rw [m_spec_l3Any] at h
  refine calls_fr (n := 57) [.pointer (some ⟨p_0, 0, none⟩)] Try.func63 rfl rfl rfl (fun a HF => ?_)
  have HT : St w0 F w0 [Box p_0 [.slice a_x0_0 x0_0.length c_x0_0, .int .i64 x0_1, .int .i64 x0_2]] := HT
  refine wp_seq ?_
  refine wc_text ?_
  refine wc_alloc (cs := [.int .i64 0, .slice none 0 0]) HF HT zr29 rfl rfl rfl (fun p1 w HT hb => ⟨nS, fun a HF => ?_⟩)
  refine wc_end ?_
  refine then_n ?_
  refine wp_seq ?_
  refine wc_text ?_
  refine wc_move HF nS rfl rfl rfl (fun a HF => ?_)
  obtain ⟨y1, y2, y3, y4, hx1, h⟩ := obs4 h
  have HT : St w0 F w [Box p_0 [.slice a_x0_0 x0_0.length c_x0_0, .int .i64 x0_1, .int .i64 x0_2], Box p1 [.int .i64 0, .slice none 0 0]] := HT.pick 1
  obtain ⟨F1, hAF1, hFF1, hbackF1, hroF1, hownF1⟩ := St.handR (A := [Box p_0 [.slice a_x0_0 x0_0.length c_x0_0, .int .i64 x0_1, .int .i64 x0_2]]) HT
  refine wc_call HF cf68 rfl (w_spec_l3Mem fuel hx1 hAF1 (hroF1 hr_x0_0)) rfl rfl ?_
  rintro e w ⟨a1, n1, c1, rfl, hE⟩
  have HT := hbackF1 _ _ hE
  obtain rfl := (HT.rdAt 0 rfl).neq
  have HT : St w0 F w [Own 61 (rowT y2) (.slice a1 y2.length c1), Box p_0 [.slice a_x0_0 x0_0.length c_x0_0, .int .i64 y3, .int .i64 y4], Box p1 [.int .i64 0, .slice none 0 0]] := HT
  refine ⟨_, rfl, nS, fun a HF => ?_⟩
  refine wc_alloc (cs := [.int .i64 0, .slice none 0 0]) HF HT zr29 rfl rfl rfl (fun p2 w HT hb => ⟨nS, fun a HF => ?_⟩)
  refine wc_storeB (cs' := [.int .i64 y1, .slice a1 y2.length c1]) HF HT rfl rfl (fun w => (ag29 w).2) rfl rfl rfl rfl rfl (fun w HT => ⟨nS, ?_⟩)
  refine wc_end ?_
  refine then_n ?_
  refine wp_seq ?_
  refine wc_text ?_
  refine wc_move HF nS rfl rfl rfl (fun a HF => ?_)
  obtain ⟨y5, y6, y7, hx2, h⟩ := obs3 h
  have HT : St w0 F w [Box p_0 [.slice a_x0_0 x0_0.length c_x0_0, .int .i64 y3, .int .i64 y4], Box p2 [.int .i64 y1, .slice a1 y2.length c1], Own 61 (rowT y2) (.slice a1 y2.length c1), Box p1 [.int .i64 0, .slice none 0 0]] := HT.pick 2
  obtain ⟨F2, hAF2, hFF2, hbackF2, hroF2, hownF2⟩ := St.handR (A := [Box p_0 [.slice a_x0_0 x0_0.length c_x0_0, .int .i64 y3, .int .i64 y4]]) HT
  refine wc_call HF cf69 rfl (w_spec_l1Below fuel hx2 hAF2 (hroF2 hr_x0_0)) rfl rfl ?_
  rintro e w ⟨rfl, hE⟩
  have HT := hbackF2 _ _ hE
  have HT : St w0 F w [Box p_0 [.slice a_x0_0 x0_0.length c_x0_0, .int .i64 y6, .int .i64 y7], Box p2 [.int .i64 y1, .slice a1 y2.length c1], Own 61 (rowT y2) (.slice a1 y2.length c1), Box p1 [.int .i64 0, .slice none 0 0]] := HT
  refine ⟨_, rfl, nS, fun a HF => ?_⟩
  refine wc_assign HF nS rfl rfl rfl (fun a HF => ?_)
  refine wc_end ?_
  refine then_n ?_
  obtain ⟨z1, z2, z3, z4, hx3, h⟩ := obs4 h
  refine wp_cut (fun a w => ∃ a2 n2 c2, Fr a 57 [(2, .pointer (some ⟨p1, 0, none⟩)), (3, .pointer (some ⟨p2, 0, none⟩))] ∧ St w0 F w [Box p1 [.int .i64 0, .slice none 0 0], Own 61 (rowT z2) (.slice a2 n2 c2), Box p2 [.int .i64 z1, .slice a2 n2 c2], Box p_0 [.slice a_x0_0 x0_0.length c_x0_0, .int .i64 z3, .int .i64 z4]]) ?_ ?_
  · have hk1 := h
    have h := hx3
    refine wp_seq ?_
    refine wc_text ?_
    refine wc_move HF nS rfl rfl rfl (fun a HF => ?_)
    obtain ⟨y8, y9, y10, hx4, h⟩ := obs3 h
    obtain ⟨F3, hAF3, hFF3, hbackF3, hroF3, hownF3⟩ := St.handR (A := [Box p_0 [.slice a_x0_0 x0_0.length c_x0_0, .int .i64 y6, .int .i64 y7]]) HT
    refine wc_call HF cf69 rfl (w_spec_l1Below fuel hx4 hAF3 (hroF3 hr_x0_0)) rfl rfl ?_
    rintro e w ⟨rfl, hE⟩
    have HT := hbackF3 _ _ hE
    have HT : St w0 F w [Box p_0 [.slice a_x0_0 x0_0.length c_x0_0, .int .i64 y9, .int .i64 y10], Box p2 [.int .i64 y1, .slice a1 y2.length c1], Own 61 (rowT y2) (.slice a1 y2.length c1), Box p1 [.int .i64 0, .slice none 0 0]] := HT
    refine ⟨_, rfl, nS, fun a HF => ?_⟩
    refine wc_end ?_
    refine then_n ?_
    refine wp_block ?_
    refine wp_seq ?_
    refine wc_text ?_
    refine wc_bin HF nS rfl rfl b_eq rfl rfl (fun a HF => ?_)
    refine wc_assign HF nS rfl rfl rfl (fun a HF => ?_)
    refine wc_end ?_
    refine then_n ?_
    by_cases hb1 : y8 = 0
    · have h := (if_pos hb1).symm.trans h
      refine wp_if (b' := true) HF rfl (decide_eq_true hb1) ?_
      refine wc_text ?_
      refine wc_faddr HF nS rfl fl29_1 rfl rfl (fun a HF => ?_)
      refine wc_load HF rfl sc27 ((HT.boxAt 1 rfl).get 1 rfl) rfl rfl (fun a HF => ?_)
      refine wc_move HF nS rfl rfl rfl (fun a HF => ?_)
      have HT : St w0 F w [Own 61 (rowT y2) (.slice a1 y2.length c1), Box p_0 [.slice a_x0_0 x0_0.length c_x0_0, .int .i64 y9, .int .i64 y10], Box p2 [.int .i64 y1, .slice a1 y2.length c1], Box p1 [.int .i64 0, .slice none 0 0]] := HT.pick 2
      obtain ⟨hg1, h⟩ := grd h
      obtain ⟨HT, hcut⟩ := St.cutO HT hg1
      refine wc_slrH HF nS el27 rfl rfl hcut rfl rfl (fun a HF => ?_)
      refine wc_faddr HF nS rfl fl29_1 rfl rfl (fun a HF => ?_)
      have HT : St w0 F w [Box p2 [.int .i64 y1, .slice a1 y2.length c1], Own 61 (rowT (subl y2 0 y5)) (.slice a1 ((subl y2 0 y5).length) c1), Box p_0 [.slice a_x0_0 x0_0.length c_x0_0, .int .i64 y9, .int .i64 y10], Box p1 [.int .i64 0, .slice none 0 0]] := HT.pick 2
      refine wc_storeB (cs' := [.int .i64 y1, .slice a1 ((subl y2 0 y5).length) c1]) HF HT rfl rfl (fun w => (sc27 w).2) rfl rfl rfl rfl rfl (fun w HT => ⟨nS, ?_⟩)
      refine wc_end ?_
      refine blk_n ?_
      have HT : St w0 F w [Box p_0 [.slice a_x0_0 x0_0.length c_x0_0, .int .i64 y9, .int .i64 y10], Box p2 [.int .i64 y1, .slice a1 ((subl y2 0 y5).length) c1], Own 61 (rowT (subl y2 0 y5)) (.slice a1 ((subl y2 0 y5).length) c1), Box p1 [.int .i64 0, .slice none 0 0]] := HT.pick 2
      have HT : St w0 F w [Box p2 [.int .i64 y1, .slice a1 ((subl y2 0 y5).length) c1], Box p_0 [.slice a_x0_0 x0_0.length c_x0_0, .int .i64 y9, .int .i64 y10], Own 61 (rowT (subl y2 0 y5)) (.slice a1 ((subl y2 0 y5).length) c1), Box p1 [.int .i64 0, .slice none 0 0]] := HT.pick 1
      have HT : St w0 F w [Own 61 (rowT (subl y2 0 y5)) (.slice a1 ((subl y2 0 y5).length) c1), Box p2 [.int .i64 y1, .slice a1 ((subl y2 0 y5).length) c1], Box p_0 [.slice a_x0_0 x0_0.length c_x0_0, .int .i64 y9, .int .i64 y10], Box p1 [.int .i64 0, .slice none 0 0]] := HT.pick 2
      have HT : St w0 F w [Box p1 [.int .i64 0, .slice none 0 0], Own 61 (rowT (subl y2 0 y5)) (.slice a1 ((subl y2 0 y5).length) c1), Box p2 [.int .i64 y1, .slice a1 ((subl y2 0 y5).length) c1], Box p_0 [.slice a_x0_0 x0_0.length c_x0_0, .int .i64 y9, .int .i64 y10]] := HT.pick 3
      have hj1 := Option.some.inj h
      obtain ⟨hi1, hj2⟩ := Prod.mk.inj hj1
      subst hi1
      obtain ⟨hi2, hj3⟩ := Prod.mk.inj hj2
      subst hi2
      obtain ⟨hi3, hj4⟩ := Prod.mk.inj hj3
      subst hi3
      subst hj4
      exact then_n ⟨a1, (subl y2 0 y5).length, c1, (HF.keep (HF.keep HF.nil rfl) rfl), HT⟩
    · have h := (if_neg hb1).symm.trans h
      refine wp_if (b' := false) HF rfl (decide_eq_false hb1) ?_
      refine wp_seq ?_
      refine wc_text ?_
      refine wc_bin HF nS rfl rfl b_eq rfl rfl (fun a HF => ?_)
      refine wc_assign HF nS rfl rfl rfl (fun a HF => ?_)
      refine wc_end ?_
      refine then_n ?_
      by_cases hb2 : y8 = 1
      · have h := (if_pos hb2).symm.trans h
        refine wp_if (b' := true) HF rfl (decide_eq_true hb2) ?_
        refine wc_text ?_
        refine wc_faddr HF nS rfl fl29_1 rfl rfl (fun a HF => ?_)
        refine wc_load HF rfl sc27 ((HT.boxAt 1 rfl).get 1 rfl) rfl rfl (fun a HF => ?_)
        refine wc_move HF nS rfl rfl rfl (fun a HF => ?_)
        refine wc_faddr HF nS rfl fl29_0 rfl rfl (fun a HF => ?_)
        refine wc_load HF rfl sc3 ((HT.boxAt 1 rfl).get 0 rfl) rfl rfl (fun a HF => ?_)
        obtain ⟨hg2, h⟩ := grd h
        refine wc_bin HF nS rfl rfl (b_add hg2) rfl rfl (fun a HF => ?_)
        obtain ⟨e1, hx5, h⟩ := obs h
        obtain ⟨b1, o1, ha1⟩ := (HT.rdAt 2 rfl).addr hx5
        refine wc_ixaddr HF nS el27 rfl ha1 ((HT.rdAt 2 rfl)).neq rfl hx5 rfl rfl (fun a HF => ?_)
        refine wc_faddr HF nS rfl fl61_1 rfl rfl (fun a HF => ?_)
        have HT : St w0 F w [Own 61 (rowT y2) (.slice a1 y2.length c1), Box p_0 [.slice a_x0_0 x0_0.length c_x0_0, .int .i64 y9, .int .i64 y10], Box p2 [.int .i64 y1, .slice a1 y2.length c1], Box p1 [.int .i64 0, .slice none 0 0]] := HT.pick 2
        refine wc_storeR (i := y5) (j := 1) (x' := (⟨e1.a, y1 + 1, e1.c⟩ : I3)) HF HT ha1 rfl rfl (fun w => (sc3 w).2) rfl rfl hx5 rfl rfl rfl rfl (fun w HT => ⟨nS, ?_⟩)
        refine wc_end ?_
        refine blk_n ?_
        have HT : St w0 F w [Box p_0 [.slice a_x0_0 x0_0.length c_x0_0, .int .i64 y9, .int .i64 y10], Own 61 (rowT (y2.set y5.toNat (⟨e1.a, y1 + 1, e1.c⟩ : I3))) (.slice a1 y2.length c1), Box p2 [.int .i64 y1, .slice a1 y2.length c1], Box p1 [.int .i64 0, .slice none 0 0]] := HT.pick 1
        have HT : St w0 F w [Box p2 [.int .i64 y1, .slice a1 y2.length c1], Box p_0 [.slice a_x0_0 x0_0.length c_x0_0, .int .i64 y9, .int .i64 y10], Own 61 (rowT (y2.set y5.toNat (⟨e1.a, y1 + 1, e1.c⟩ : I3))) (.slice a1 y2.length c1), Box p1 [.int .i64 0, .slice none 0 0]] := HT.pick 2
        have HT : St w0 F w [Own 61 (rowT (y2.set y5.toNat (⟨e1.a, y1 + 1, e1.c⟩ : I3))) (.slice a1 y2.length c1), Box p2 [.int .i64 y1, .slice a1 y2.length c1], Box p_0 [.slice a_x0_0 x0_0.length c_x0_0, .int .i64 y9, .int .i64 y10], Box p1 [.int .i64 0, .slice none 0 0]] := HT.pick 2
        have HT : St w0 F w [Box p1 [.int .i64 0, .slice none 0 0], Own 61 (rowT (y2.set y5.toNat (⟨e1.a, y1 + 1, e1.c⟩ : I3))) (.slice a1 y2.length c1), Box p2 [.int .i64 y1, .slice a1 y2.length c1], Box p_0 [.slice a_x0_0 x0_0.length c_x0_0, .int .i64 y9, .int .i64 y10]] := HT.pick 3
        have hj5 := Option.some.inj h
        obtain ⟨hi5, hj6⟩ := Prod.mk.inj hj5
        subst hi5
        obtain ⟨hi6, hj7⟩ := Prod.mk.inj hj6
        subst hi6
        obtain ⟨hi7, hj8⟩ := Prod.mk.inj hj7
        subst hi7
        subst hj8
        exact then_n ⟨a1, y2.length, c1, (HF.keep (HF.keep HF.nil rfl) rfl), HT⟩
      · have h := (if_neg hb2).symm.trans h
        refine wp_if (b' := false) HF rfl (decide_eq_false hb2) ?_
        refine wp_seq ?_
        refine wc_text ?_
        refine wc_bin HF nS rfl rfl b_eq rfl rfl (fun a HF => ?_)
        refine wc_assign HF nS rfl rfl rfl (fun a HF => ?_)
        refine wc_end ?_
        refine then_n ?_
        by_cases hb3 : y8 = 2
        · have h := (if_pos hb3).symm.trans h
          refine wp_if (b' := true) HF rfl (decide_eq_true hb3) ?_
          refine wc_text ?_
          refine wc_faddr HF nS rfl fl29_1 rfl rfl (fun a HF => ?_)
          refine wc_load HF rfl sc27 ((HT.boxAt 1 rfl).get 1 rfl) rfl rfl (fun a HF => ?_)
          refine wc_move HF nS rfl rfl rfl (fun a HF => ?_)
          obtain ⟨e2, hx6, h⟩ := obs h
          obtain ⟨b2, o2, ha2⟩ := (HT.rdAt 2 rfl).addr hx6
          refine wc_ixaddr HF nS el27 rfl ha2 ((HT.rdAt 2 rfl)).neq rfl hx6 rfl rfl (fun a HF => ?_)
          refine wc_faddr HF nS rfl fl61_0 rfl rfl (fun a HF => ?_)
          have HT : St w0 F w [Own 61 (rowT y2) (.slice a1 y2.length c1), Box p_0 [.slice a_x0_0 x0_0.length c_x0_0, .int .i64 y9, .int .i64 y10], Box p2 [.int .i64 y1, .slice a1 y2.length c1], Box p1 [.int .i64 0, .slice none 0 0]] := HT.pick 2
          refine wc_storeR (i := y5) (j := 0) (x' := (⟨65536, e2.b, e2.c⟩ : I3)) HF HT ha2 rfl rfl (fun w => (sc3 w).2) rfl rfl hx6 rfl rfl rfl rfl (fun w HT => ⟨nS, ?_⟩)
          refine wc_end ?_
          refine blk_n ?_
          have HT : St w0 F w [Box p_0 [.slice a_x0_0 x0_0.length c_x0_0, .int .i64 y9, .int .i64 y10], Own 61 (rowT (y2.set y5.toNat (⟨65536, e2.b, e2.c⟩ : I3))) (.slice a1 y2.length c1), Box p2 [.int .i64 y1, .slice a1 y2.length c1], Box p1 [.int .i64 0, .slice none 0 0]] := HT.pick 1
          have HT : St w0 F w [Box p2 [.int .i64 y1, .slice a1 y2.length c1], Box p_0 [.slice a_x0_0 x0_0.length c_x0_0, .int .i64 y9, .int .i64 y10], Own 61 (rowT (y2.set y5.toNat (⟨65536, e2.b, e2.c⟩ : I3))) (.slice a1 y2.length c1), Box p1 [.int .i64 0, .slice none 0 0]] := HT.pick 2
          have HT : St w0 F w [Own 61 (rowT (y2.set y5.toNat (⟨65536, e2.b, e2.c⟩ : I3))) (.slice a1 y2.length c1), Box p2 [.int .i64 y1, .slice a1 y2.length c1], Box p_0 [.slice a_x0_0 x0_0.length c_x0_0, .int .i64 y9, .int .i64 y10], Box p1 [.int .i64 0, .slice none 0 0]] := HT.pick 2
          have HT : St w0 F w [Box p1 [.int .i64 0, .slice none 0 0], Own 61 (rowT (y2.set y5.toNat (⟨65536, e2.b, e2.c⟩ : I3))) (.slice a1 y2.length c1), Box p2 [.int .i64 y1, .slice a1 y2.length c1], Box p_0 [.slice a_x0_0 x0_0.length c_x0_0, .int .i64 y9, .int .i64 y10]] := HT.pick 3
          have hj9 := Option.some.inj h
          obtain ⟨hi9, hj10⟩ := Prod.mk.inj hj9
          subst hi9
          obtain ⟨hi10, hj11⟩ := Prod.mk.inj hj10
          subst hi10
          obtain ⟨hi11, hj12⟩ := Prod.mk.inj hj11
          subst hi11
          subst hj12
          exact then_n ⟨a1, y2.length, c1, (HF.keep (HF.keep HF.nil rfl) rfl), HT⟩
        · have h := (if_neg hb3).symm.trans h
          refine wp_if (b' := false) HF rfl (decide_eq_false hb3) ?_
          refine wp_seq ?_
          refine wc_text ?_
          refine wc_bin HF nS rfl rfl b_eq rfl rfl (fun a HF => ?_)
          refine wc_assign HF nS rfl rfl rfl (fun a HF => ?_)
          refine wc_end ?_
          refine then_n ?_
          by_cases hb4 : y8 = 3
          · have h := (if_pos hb4).symm.trans h
            refine wp_if (b' := true) HF rfl (decide_eq_true hb4) ?_
            refine wp_region_can [(0, false), (1, false), (2, false), (3, true), (4, false), (5, true), (6, true), (7, true), (8, true), (9, true)] (fun w' => w'.cell? ⟨p2, 1, none⟩ = some (.slice a1 y2.length c1) ∧ True) (by kernel_rfl) (by kernel_rfl) ?_
            have HT : St w0 F w.drew [Box p_0 [.slice a_x0_0 x0_0.length c_x0_0, .int .i64 y9, .int .i64 y10], Box p2 [.int .i64 y1, .slice a1 y2.length c1], Own 61 (rowT y2) (.slice a1 y2.length c1), Box p1 [.int .i64 0, .slice none 0 0]] := HT.drew
            refine wc_faddr HF (fun _ => ⟨(HT.boxAt 1 rfl).get 1 rfl, trivial⟩) rfl fl29_1 rfl rfl (fun a HF => ?_)
            refine wc_loadS HF ⟨(HT.boxAt 1 rfl).get 1 rfl, trivial⟩ rfl sc27 (fun w hS => hS.1) rfl rfl (fun a HF => ?_)
            refine wc_move HF (fun _ => ⟨(HT.boxAt 1 rfl).get 1 rfl, trivial⟩) rfl rfl rfl (fun a HF => ?_)
            refine wc_move HF nS rfl rfl rfl (fun a HF => ?_)
            obtain ⟨y11, y12, y13, hx7, h⟩ := obs3 h
            obtain ⟨F4, hAF4, hFF4, hbackF4, hroF4, hownF4⟩ := St.handR (A := [Box p_0 [.slice a_x0_0 x0_0.length c_x0_0, .int .i64 y9, .int .i64 y10]]) HT
            refine wc_call HF cf69 rfl (w_spec_l1Below fuel hx7 hAF4 (hroF4 hr_x0_0)) rfl rfl ?_
            rintro e w ⟨rfl, hE⟩
            have HT := hbackF4 _ _ hE
            have HT : St w0 F w [Box p_0 [.slice a_x0_0 x0_0.length c_x0_0, .int .i64 y12, .int .i64 y13], Box p2 [.int .i64 y1, .slice a1 y2.length c1], Own 61 (rowT y2) (.slice a1 y2.length c1), Box p1 [.int .i64 0, .slice none 0 0]] := HT
            refine ⟨_, rfl, (fun _ => ⟨(HT.boxAt 1 rfl).get 1 rfl, trivial⟩), fun a HF => ?_⟩
            obtain ⟨hg3, h⟩ := grd h
            refine wc_bin HF nS rfl rfl (b_mul hg3) rfl rfl (fun a HF => ?_)
            obtain ⟨hg4, h⟩ := grd h
            refine wc_bin HF nS rfl rfl (b_sub hg4) rfl rfl (fun a HF => ?_)
            obtain ⟨e3, hx8, h⟩ := obs h
            obtain ⟨b3, o3, ha3⟩ := (HT.rdAt 2 rfl).addr hx8
            refine wc_ixaddr HF nS el27 rfl ha3 ((HT.rdAt 2 rfl)).neq rfl hx8 rfl rfl (fun a HF => ?_)
            refine wc_faddr HF nS rfl fl61_2 rfl rfl (fun a HF => ?_)
            have HT : St w0 F w [Own 61 (rowT y2) (.slice a1 y2.length c1), Box p_0 [.slice a_x0_0 x0_0.length c_x0_0, .int .i64 y12, .int .i64 y13], Box p2 [.int .i64 y1, .slice a1 y2.length c1], Box p1 [.int .i64 0, .slice none 0 0]] := HT.pick 2
            refine wc_storeR (i := y5) (j := 2) (x' := (⟨e3.a, e3.b, 100 - (y11 * 101)⟩ : I3)) HF HT ha3 rfl rfl (fun w => (sc3 w).2) rfl rfl hx8 rfl rfl rfl rfl (fun w HT => ⟨nS, ?_⟩)
            refine wc_endN ?_
            refine blk_n ?_
            have HT : St w0 F w [Box p_0 [.slice a_x0_0 x0_0.length c_x0_0, .int .i64 y12, .int .i64 y13], Own 61 (rowT (y2.set y5.toNat (⟨e3.a, e3.b, 100 - (y11 * 101)⟩ : I3))) (.slice a1 y2.length c1), Box p2 [.int .i64 y1, .slice a1 y2.length c1], Box p1 [.int .i64 0, .slice none 0 0]] := HT.pick 1
            have HT : St w0 F w [Box p2 [.int .i64 y1, .slice a1 y2.length c1], Box p_0 [.slice a_x0_0 x0_0.length c_x0_0, .int .i64 y12, .int .i64 y13], Own 61 (rowT (y2.set y5.toNat (⟨e3.a, e3.b, 100 - (y11 * 101)⟩ : I3))) (.slice a1 y2.length c1), Box p1 [.int .i64 0, .slice none 0 0]] := HT.pick 2
            have HT : St w0 F w [Own 61 (rowT (y2.set y5.toNat (⟨e3.a, e3.b, 100 - (y11 * 101)⟩ : I3))) (.slice a1 y2.length c1), Box p2 [.int .i64 y1, .slice a1 y2.length c1], Box p_0 [.slice a_x0_0 x0_0.length c_x0_0, .int .i64 y12, .int .i64 y13], Box p1 [.int .i64 0, .slice none 0 0]] := HT.pick 2
            have HT : St w0 F w [Box p1 [.int .i64 0, .slice none 0 0], Own 61 (rowT (y2.set y5.toNat (⟨e3.a, e3.b, 100 - (y11 * 101)⟩ : I3))) (.slice a1 y2.length c1), Box p2 [.int .i64 y1, .slice a1 y2.length c1], Box p_0 [.slice a_x0_0 x0_0.length c_x0_0, .int .i64 y12, .int .i64 y13]] := HT.pick 3
            have hj13 := Option.some.inj h
            obtain ⟨hi13, hj14⟩ := Prod.mk.inj hj13
            subst hi13
            obtain ⟨hi14, hj15⟩ := Prod.mk.inj hj14
            subst hi14
            obtain ⟨hi15, hj16⟩ := Prod.mk.inj hj15
            subst hi15
            subst hj16
            exact then_n ⟨a1, y2.length, c1, (HF.keep (HF.keep HF.nil rfl) rfl), HT⟩
          · have h := (if_neg hb4).symm.trans h
            refine wp_if (b' := false) HF rfl (decide_eq_false hb4) ?_
            refine wp_seq ?_
            refine wc_text ?_
            refine wc_bin HF nS rfl rfl b_eq rfl rfl (fun a HF => ?_)
            refine wc_assign HF nS rfl rfl rfl (fun a HF => ?_)
            refine wc_end ?_
            refine then_n ?_
            by_cases hb5 : y8 = 4
            · have h := (if_pos hb5).symm.trans h
              refine wp_if (b' := true) HF rfl (decide_eq_true hb5) ?_
              refine wc_text ?_
              refine wc_faddr HF nS rfl fl29_0 rfl rfl (fun a HF => ?_)
              have HT : St w0 F w [Box p2 [.int .i64 y1, .slice a1 y2.length c1], Box p_0 [.slice a_x0_0 x0_0.length c_x0_0, .int .i64 y9, .int .i64 y10], Own 61 (rowT y2) (.slice a1 y2.length c1), Box p1 [.int .i64 0, .slice none 0 0]] := HT.pick 1
              refine wc_storeB (cs' := [.int .i64 1000001, .slice a1 y2.length c1]) HF HT rfl rfl (fun w => (sc3 w).2) rfl rfl rfl rfl rfl (fun w HT => ⟨nS, ?_⟩)
              refine wc_end ?_
              refine blk_n ?_
              have HT : St w0 F w [Box p_0 [.slice a_x0_0 x0_0.length c_x0_0, .int .i64 y9, .int .i64 y10], Box p2 [.int .i64 1000001, .slice a1 y2.length c1], Own 61 (rowT y2) (.slice a1 y2.length c1), Box p1 [.int .i64 0, .slice none 0 0]] := HT.pick 1
              have HT : St w0 F w [Box p2 [.int .i64 1000001, .slice a1 y2.length c1], Box p_0 [.slice a_x0_0 x0_0.length c_x0_0, .int .i64 y9, .int .i64 y10], Own 61 (rowT y2) (.slice a1 y2.length c1), Box p1 [.int .i64 0, .slice none 0 0]] := HT.pick 1
              have HT : St w0 F w [Own 61 (rowT y2) (.slice a1 y2.length c1), Box p2 [.int .i64 1000001, .slice a1 y2.length c1], Box p_0 [.slice a_x0_0 x0_0.length c_x0_0, .int .i64 y9, .int .i64 y10], Box p1 [.int .i64 0, .slice none 0 0]] := HT.pick 2
              have HT : St w0 F w [Box p1 [.int .i64 0, .slice none 0 0], Own 61 (rowT y2) (.slice a1 y2.length c1), Box p2 [.int .i64 1000001, .slice a1 y2.length c1], Box p_0 [.slice a_x0_0 x0_0.length c_x0_0, .int .i64 y9, .int .i64 y10]] := HT.pick 3
              have hj17 := Option.some.inj h
              obtain ⟨hi17, hj18⟩ := Prod.mk.inj hj17
              subst hi17
              obtain ⟨hi18, hj19⟩ := Prod.mk.inj hj18
              subst hi18
              obtain ⟨hi19, hj20⟩ := Prod.mk.inj hj19
              subst hi19
              subst hj20
              exact then_n ⟨a1, y2.length, c1, (HF.keep (HF.keep HF.nil rfl) rfl), HT⟩
            · have h := (if_neg hb5).symm.trans h
              refine wp_if (b' := false) HF rfl (decide_eq_false hb5) ?_
              refine wp_seq ?_
              refine wc_text ?_
              refine wc_bin HF nS rfl rfl b_eq rfl rfl (fun a HF => ?_)
              refine wc_assign HF nS rfl rfl rfl (fun a HF => ?_)
              refine wc_end ?_
              refine then_n ?_
              by_cases hb6 : y8 = 5
              · have h := (if_pos hb6).symm.trans h
                refine wp_if (b' := true) HF rfl (decide_eq_true hb6) ?_
                refine wc_text ?_
                refine wc_faddr HF nS rfl fl29_1 rfl rfl (fun a HF => ?_)
                refine wc_load HF rfl sc27 ((HT.boxAt 1 rfl).get 1 rfl) rfl rfl (fun a HF => ?_)
                refine wc_move HF nS rfl rfl rfl (fun a HF => ?_)
                obtain ⟨e4, hx9, h⟩ := obs h
                obtain ⟨b4, o4, ha4⟩ := (HT.rdAt 2 rfl).addr hx9
                refine wc_ixaddr HF nS el27 rfl ha4 ((HT.rdAt 2 rfl)).neq rfl hx9 rfl rfl (fun a HF => ?_)
                refine wc_faddr HF nS rfl fl61_1 rfl rfl (fun a HF => ?_)
                have HT : St w0 F w [Own 61 (rowT y2) (.slice a1 y2.length c1), Box p_0 [.slice a_x0_0 x0_0.length c_x0_0, .int .i64 y9, .int .i64 y10], Box p2 [.int .i64 y1, .slice a1 y2.length c1], Box p1 [.int .i64 0, .slice none 0 0]] := HT.pick 2
                refine wc_storeR (i := y5) (j := 1) (x' := (⟨e4.a, (-1), e4.c⟩ : I3)) HF HT ha4 rfl rfl (fun w => (sc3 w).2) rfl rfl hx9 rfl rfl rfl rfl (fun w HT => ⟨nS, ?_⟩)
                refine wc_end ?_
                refine blk_n ?_
                have HT : St w0 F w [Box p_0 [.slice a_x0_0 x0_0.length c_x0_0, .int .i64 y9, .int .i64 y10], Own 61 (rowT (y2.set y5.toNat (⟨e4.a, (-1), e4.c⟩ : I3))) (.slice a1 y2.length c1), Box p2 [.int .i64 y1, .slice a1 y2.length c1], Box p1 [.int .i64 0, .slice none 0 0]] := HT.pick 1
                have HT : St w0 F w [Box p2 [.int .i64 y1, .slice a1 y2.length c1], Box p_0 [.slice a_x0_0 x0_0.length c_x0_0, .int .i64 y9, .int .i64 y10], Own 61 (rowT (y2.set y5.toNat (⟨e4.a, (-1), e4.c⟩ : I3))) (.slice a1 y2.length c1), Box p1 [.int .i64 0, .slice none 0 0]] := HT.pick 2
                have HT : St w0 F w [Own 61 (rowT (y2.set y5.toNat (⟨e4.a, (-1), e4.c⟩ : I3))) (.slice a1 y2.length c1), Box p2 [.int .i64 y1, .slice a1 y2.length c1], Box p_0 [.slice a_x0_0 x0_0.length c_x0_0, .int .i64 y9, .int .i64 y10], Box p1 [.int .i64 0, .slice none 0 0]] := HT.pick 2
                have HT : St w0 F w [Box p1 [.int .i64 0, .slice none 0 0], Own 61 (rowT (y2.set y5.toNat (⟨e4.a, (-1), e4.c⟩ : I3))) (.slice a1 y2.length c1), Box p2 [.int .i64 y1, .slice a1 y2.length c1], Box p_0 [.slice a_x0_0 x0_0.length c_x0_0, .int .i64 y9, .int .i64 y10]] := HT.pick 3
                have hj21 := Option.some.inj h
                obtain ⟨hi21, hj22⟩ := Prod.mk.inj hj21
                subst hi21
                obtain ⟨hi22, hj23⟩ := Prod.mk.inj hj22
                subst hi22
                obtain ⟨hi23, hj24⟩ := Prod.mk.inj hj23
                subst hi23
                subst hj24
                exact then_n ⟨a1, y2.length, c1, (HF.keep (HF.keep HF.nil rfl) rfl), HT⟩
              · have h := (if_neg hb6).symm.trans h
                refine wp_if (b' := false) HF rfl (decide_eq_false hb6) ?_
                refine wp_skip ?_
                refine blk_n ?_
                have HT : St w0 F w [Box p2 [.int .i64 y1, .slice a1 y2.length c1], Box p_0 [.slice a_x0_0 x0_0.length c_x0_0, .int .i64 y9, .int .i64 y10], Own 61 (rowT y2) (.slice a1 y2.length c1), Box p1 [.int .i64 0, .slice none 0 0]] := HT.pick 1
                have HT : St w0 F w [Own 61 (rowT y2) (.slice a1 y2.length c1), Box p2 [.int .i64 y1, .slice a1 y2.length c1], Box p_0 [.slice a_x0_0 x0_0.length c_x0_0, .int .i64 y9, .int .i64 y10], Box p1 [.int .i64 0, .slice none 0 0]] := HT.pick 2
                have HT : St w0 F w [Box p1 [.int .i64 0, .slice none 0 0], Own 61 (rowT y2) (.slice a1 y2.length c1), Box p2 [.int .i64 y1, .slice a1 y2.length c1], Box p_0 [.slice a_x0_0 x0_0.length c_x0_0, .int .i64 y9, .int .i64 y10]] := HT.pick 3
                have hj25 := Option.some.inj h
                obtain ⟨hi25, hj26⟩ := Prod.mk.inj hj25
                subst hi25
                obtain ⟨hi26, hj27⟩ := Prod.mk.inj hj26
                subst hi26
                obtain ⟨hi27, hj28⟩ := Prod.mk.inj hj27
                subst hi27
                subst hj28
                exact then_n ⟨a1, y2.length, c1, (HF.keep (HF.keep HF.nil rfl) rfl), HT⟩
  · rintro a w ⟨a2, n2, c2, HF, HT⟩
    obtain rfl := (HT.rdAt 1 rfl).neq
    refine ?_
    refine wp_seq ?_
    refine wc_text ?_
    refine wc_loadA (vs := [.int .i64 z1, .slice a2 z2.length c2]) HF rfl ag29 rfl ((HT.boxAt 2 rfl).part 0 2) rfl rfl (fun a HF => ?_)
    refine wc_storeB (cs' := [.int .i64 z1, .slice a2 z2.length c2]) HF HT rfl rfl (fun w => (ag29 w).2) rfl rfl rfl rfl rfl (fun w HT => ⟨nS, ?_⟩)
    refine wc_end ?_
    refine then_n ?_
    refine wp_ret ?_
    have hj29 := Option.some.inj h
    obtain ⟨hi29, hj30⟩ := Prod.mk.inj hj29
    subst hi29
    obtain ⟨hi30, hj31⟩ := Prod.mk.inj hj30
    subst hi30
    obtain ⟨hi31, hj32⟩ := Prod.mk.inj hj31
    subst hi31
    subst hj32
    refine bp_ret HF (res_cell (vs := [.int .i64 z1, .slice a2 z2.length c2]) rfl HF rfl ag29 rfl (HT.boxAt 0 rfl)) ?_
    have HT : St w0 F w [Box p_0 [.slice a_x0_0 x0_0.length c_x0_0, .int .i64 z3, .int .i64 z4], Box p1 [.int .i64 z1, .slice a2 z2.length c2], Own 61 (rowT z2) (.slice a2 z2.length c2), Box p2 [.int .i64 z1, .slice a2 z2.length c2]] := HT.pick 3
    have HT : St w0 F w [Own 61 (rowT z2) (.slice a2 z2.length c2), Box p_0 [.slice a_x0_0 x0_0.length c_x0_0, .int .i64 z3, .int .i64 z4], Box p1 [.int .i64 z1, .slice a2 z2.length c2], Box p2 [.int .i64 z1, .slice a2 z2.length c2]] := HT.pick 2
    have HT : St w0 F w [Own 61 (rowT z2) (.slice a2 z2.length c2), Box p_0 [.slice a_x0_0 x0_0.length c_x0_0, .int .i64 z3, .int .i64 z4]] := HT.take 2
    exact ⟨a2, z2.length, c2, rfl, HT⟩

def m_spec_l3Index (fuel : Nat) (x0_0 : List UInt8) (x0_1 : Int) (x0_2 : Int) : Option (Int × Int × Int) :=
  bind3 (m_spec_l1Once fuel x0_0 x0_1 x0_2 15) fun y1 y2 y3 =>
  if y1 = true then
    bind3 (m_spec_l1PickInt fuel x0_0 y2 y3 ([(-1), 8, 9223372036854775807] : List Int)) fun y4 y5 y6 =>
    some (y4, y5, y6)
  else
    bind3 (m_spec_l1Below fuel x0_0 y2 y3 8) fun y7 y8 y9 =>
    some (y7, y8, y9)

set_option maxRecDepth 100000 in
set_option maxHeartbeats 4000000 in
theorem w_spec_l3Index (fuel : Nat) {x0_0 : List UInt8} {x0_1 : Int} {x0_2 : Int} {a_x0_0 : Option Addr} {n_x0_0 c_x0_0 : Nat} {p_0 : Nat} {r0 : Int} {x0_1' : Int} {x0_2' : Int} {w0 : World} {F : Foot} (h : m_spec_l3Index fuel x0_0 x0_1 x0_2 = some (r0, x0_1', x0_2')) (hA : StF w0 F [Box p_0 [.slice a_x0_0 n_x0_0 c_x0_0, .int .i64 x0_1, .int .i64 x0_2]]) (hr_x0_0 : RdT (fun b => ¬ F b) w0 (rowT x0_0) (.slice a_x0_0 n_x0_0 c_x0_0)) :
    Calls Try.prog 64 #[.pointer (some ⟨p_0, 0, none⟩)] w0 fun e w => e = .returned (.int .i64 r0) ∧ St w0 F w [Box p_0 [.slice a_x0_0 n_x0_0 c_x0_0, .int .i64 x0_1', .int .i64 x0_2']] := by
  have HT0 := St.init hA
  obtain rfl := hr_x0_0.neq
  have HT : St w0 F w0 [Box p_0 [.slice a_x0_0 x0_0.length c_x0_0, .int .i64 x0_1, .int .i64 x0_2]] := St.init hA
  rw [m_spec_l3Index] at h
  refine calls_fr (n := 10) [.pointer (some ⟨p_0, 0, none⟩)] Try.func64 rfl rfl rfl (fun a HF => ?_)
  have HT : St w0 F w0 [Box p_0 [.slice a_x0_0 x0_0.length c_x0_0, .int .i64 x0_1, .int .i64 x0_2]] := HT
  refine wp_seq ?_
  refine wc_text ?_
  refine wc_assign HF nS rfl rfl rfl (fun a HF => ?_)
  refine wc_end ?_
  refine then_n ?_
  refine wp_seq ?_
  refine wp_seq ?_
  refine wc_text ?_
  refine wc_move HF nS rfl rfl rfl (fun a HF => ?_)
  obtain ⟨y1, y2, y3, hx1, h⟩ := obs3 h
  obtain ⟨F1, hAF1, hFF1, hbackF1, hroF1, hownF1⟩ := St.handR (A := [Box p_0 [.slice a_x0_0 x0_0.length c_x0_0, .int .i64 x0_1, .int .i64 x0_2]]) HT
  refine wc_call HF cf70 rfl (w_spec_l1Once fuel hx1 hAF1 (hroF1 hr_x0_0)) rfl rfl ?_
  rintro e w ⟨rfl, hE⟩
  have HT := hbackF1 _ _ hE
  have HT : St w0 F w [Box p_0 [.slice a_x0_0 x0_0.length c_x0_0, .int .i64 y2, .int .i64 y3]] := HT
  refine ⟨_, rfl, nS, fun a HF => ?_⟩
  refine wc_end ?_
  refine then_n ?_
  by_cases hb1 : y1 = true
  · have h := (if_pos hb1).symm.trans h
    refine wp_if (b' := true) HF rfl hb1 ?_
    refine wp_seq ?_
    refine wc_text ?_
    refine wc_move HF nS rfl rfl rfl (fun a HF => ?_)
    refine wc_bslice (l := ([(-1), 8, 9223372036854775807] : List Int)) (cs := [.int .i64 (-1), .int .i64 8, .int .i64 9223372036854775807]) (A := []) HF HT bs38_3 rfl rfl (gives_flat rfl) rfl (by decide) rfl rfl (fun p1 w HT hb => ⟨nS, fun a HF => ?_⟩)
    obtain ⟨y4, y5, y6, hx2, h⟩ := obs3 h
    have HT : St w0 F w [Box p_0 [.slice a_x0_0 x0_0.length c_x0_0, .int .i64 y2, .int .i64 y3], Own 3 (rowT ([(-1), 8, 9223372036854775807] : List Int)) (.slice (some ⟨p1, 0, none⟩) 3 3)] := HT.pick 1
    obtain ⟨F2, hAF2, hFF2, hbackF2, hroF2, hownF2⟩ := St.handR (A := [Box p_0 [.slice a_x0_0 x0_0.length c_x0_0, .int .i64 y2, .int .i64 y3]]) HT
    refine wc_call HF cf65 rfl (w_spec_l1PickInt fuel hx2 hAF2 (hroF2 hr_x0_0) (hownF2 _ _ _ (List.mem_of_getElem? (i := 0) rfl))) rfl rfl ?_
    rintro e w ⟨rfl, hE⟩
    have HT := hbackF2 _ _ hE
    have HT : St w0 F w [Box p_0 [.slice a_x0_0 x0_0.length c_x0_0, .int .i64 y5, .int .i64 y6], Own 3 (rowT ([(-1), 8, 9223372036854775807] : List Int)) (.slice (some ⟨p1, 0, none⟩) 3 3)] := HT
    refine ⟨_, rfl, nS, fun a HF => ?_⟩
    refine wc_assign HF nS rfl rfl rfl (fun a HF => ?_)
    refine wc_end ?_
    refine then_n ?_
    refine wp_ret ?_
    have hj1 := Option.some.inj h
    obtain ⟨hi1, hj2⟩ := Prod.mk.inj hj1
    subst hi1
    obtain ⟨hi2, hj3⟩ := Prod.mk.inj hj2
    subst hi2
    subst hj3
    refine then_r (?_)
    refine bp_ret HF (res_one rfl HF rfl) ?_
    have HT : St w0 F w [Box p_0 [.slice a_x0_0 x0_0.length c_x0_0, .int .i64 y5, .int .i64 y6]] := HT.take 1
    exact ⟨rfl, HT⟩
  · have h := (if_neg hb1).symm.trans h
    refine wp_if (b' := false) HF rfl (Bool.eq_false_iff.2 hb1) ?_
    refine wp_skip ?_
    refine then_n ?_
    refine wp_seq ?_
    refine wc_text ?_
    refine wc_move HF nS rfl rfl rfl (fun a HF => ?_)
    obtain ⟨y7, y8, y9, hx3, h⟩ := obs3 h
    obtain ⟨F3, hAF3, hFF3, hbackF3, hroF3, hownF3⟩ := St.handR (A := [Box p_0 [.slice a_x0_0 x0_0.length c_x0_0, .int .i64 y2, .int .i64 y3]]) HT
    refine wc_call HF cf69 rfl (w_spec_l1Below fuel hx3 hAF3 (hroF3 hr_x0_0)) rfl rfl ?_
    rintro e w ⟨rfl, hE⟩
    have HT := hbackF3 _ _ hE
    have HT : St w0 F w [Box p_0 [.slice a_x0_0 x0_0.length c_x0_0, .int .i64 y8, .int .i64 y9]] := HT
    refine ⟨_, rfl, nS, fun a HF => ?_⟩
    refine wc_assign HF nS rfl rfl rfl (fun a HF => ?_)
    refine wc_end ?_
    refine then_n ?_
    refine wp_ret ?_
    have hj4 := Option.some.inj h
    obtain ⟨hi4, hj5⟩ := Prod.mk.inj hj4
    subst hi4
    obtain ⟨hi5, hj6⟩ := Prod.mk.inj hj5
    subst hi5
    subst hj6
    refine bp_ret HF (res_one rfl HF rfl) ?_
    exact ⟨rfl, HT⟩

def m_spec_DrawLock (fuel : Nat) (x0 : List UInt8) : Option (Int × List I3 × Int × Int) :=
  bind2 (m_spec_l1New fuel x0) fun y1 y2 =>
  bind4 (m_spec_l3Any fuel x0 y1 y2) fun y3 y4 y5 y6 =>
  bind3 (m_spec_l3Index fuel x0 y5 y6) fun y7 y8 y9 =>
  bind3 (m_spec_l1PickInt fuel x0 y8 y9 ([1, 2, 3, 4, 5, 99, 100, 0] : List Int)) fun y10 y11 y12 =>
  some (y3, y4, y7, y10)

set_option maxRecDepth 100000 in
set_option maxHeartbeats 4000000 in
theorem w_spec_DrawLock (fuel : Nat) {x0 : List UInt8} {a_x0 : Option Addr} {n_x0 c_x0 : Nat} {r0_0 : Int} {r0_1 : List I3} {r1 : Int} {r2 : Int} {w0 : World} (h : m_spec_DrawLock fuel x0 = some (r0_0, r0_1, r1, r2)) (hr_x0 : RdT (fun b => ¬ False) w0 (rowT x0) (.slice a_x0 n_x0 c_x0)) :
    Calls Try.prog 41 #[.slice a_x0 n_x0 c_x0] w0 fun e w => ∃ a_r0_1 n_r0_1 c_r0_1, e = .returned (.tuple #[.agg #[.int .i64 r0_0, .slice a_r0_1 n_r0_1 c_r0_1], .int .i64 r1, .int .i64 r2]) ∧ St w0 (fun _ => False) w [Own 61 (rowT r0_1) (.slice a_r0_1 n_r0_1 c_r0_1)] := by
  obtain rfl := hr_x0.neq
  have HT : St w0 (fun _ => False) w0 [] := St.init0
  rw [m_spec_DrawLock] at h
  refine calls_fr (n := 19) [.slice a_x0 x0.length c_x0] Try.func41 rfl rfl rfl (fun a HF => ?_)
  have HT : St w0 (fun _ => False) w0 [] := HT
  refine wp_seq ?_
  refine wc_text ?_
  refine wc_alloc (cs := [.int .i64 0, .slice none 0 0]) HF HT zr29 rfl rfl rfl (fun p1 w HT hb => ⟨nS, fun a HF => ?_⟩)
  refine wc_assign HF nS rfl rfl rfl (fun a HF => ?_)
  refine wc_assign HF nS rfl rfl rfl (fun a HF => ?_)
  refine wc_end ?_
  refine then_n ?_
  refine wp_seq ?_
  refine wc_text ?_
  refine wc_move HF nS rfl rfl rfl (fun a HF => ?_)
  obtain ⟨y1, y2, hx1, h⟩ := obs2 h
  refine wc_call HF cf62 rfl (w_spec_l1New fuel hx1 (HT.ro hr_x0).any) rfl rfl ?_
  rintro e w ⟨p2, rfl, hE⟩
  have hb := hE.below
  have HT := HT.pure hE
  have HT : St w0 (fun _ => False) w [Box p2 [.slice a_x0 x0.length c_x0, .int .i64 y1, .int .i64 y2], Box p1 [.int .i64 0, .slice none 0 0]] := HT
  refine ⟨_, rfl, nS, fun a HF => ?_⟩
  refine wc_assign HF nS rfl rfl rfl (fun a HF => ?_)
  refine wc_end ?_
  refine then_n ?_
  refine wp_seq ?_
  refine wc_text ?_
  refine wc_move HF nS rfl rfl rfl (fun a HF => ?_)
  obtain ⟨y3, y4, y5, y6, hx2, h⟩ := obs4 h
  obtain ⟨F1, hAF1, hFF1, hbackF1, hroF1, hownF1⟩ := St.handR (A := [Box p2 [.slice a_x0 x0.length c_x0, .int .i64 y1, .int .i64 y2]]) HT
  refine wc_call HF cf63 rfl (w_spec_l3Any fuel hx2 hAF1 (hroF1 hr_x0)) rfl rfl ?_
  rintro e w ⟨a1, n1, c1, rfl, hE⟩
  have HT := hbackF1 _ _ hE
  obtain rfl := (HT.rdAt 0 rfl).neq
  have HT : St w0 (fun _ => False) w [Own 61 (rowT y4) (.slice a1 y4.length c1), Box p2 [.slice a_x0 x0.length c_x0, .int .i64 y5, .int .i64 y6], Box p1 [.int .i64 0, .slice none 0 0]] := HT
  refine ⟨_, rfl, nS, fun a HF => ?_⟩
  refine wc_alloc (cs := [.int .i64 0, .slice none 0 0]) HF HT zr29 rfl rfl rfl (fun p3 w HT hb => ⟨nS, fun a HF => ?_⟩)
  refine wc_storeB (cs' := [.int .i64 y3, .slice a1 y4.length c1]) HF HT rfl rfl (fun w => (ag29 w).2) rfl rfl rfl rfl rfl (fun w HT => ⟨nS, ?_⟩)
  refine wc_end ?_
  refine then_n ?_
  refine wp_seq ?_
  refine wc_text ?_
  refine wc_move HF nS rfl rfl rfl (fun a HF => ?_)
  obtain ⟨y7, y8, y9, hx3, h⟩ := obs3 h
  have HT : St w0 (fun _ => False) w [Box p2 [.slice a_x0 x0.length c_x0, .int .i64 y5, .int .i64 y6], Box p3 [.int .i64 y3, .slice a1 y4.length c1], Own 61 (rowT y4) (.slice a1 y4.length c1), Box p1 [.int .i64 0, .slice none 0 0]] := HT.pick 2
  obtain ⟨F2, hAF2, hFF2, hbackF2, hroF2, hownF2⟩ := St.handR (A := [Box p2 [.slice a_x0 x0.length c_x0, .int .i64 y5, .int .i64 y6]]) HT
  refine wc_call HF cf64 rfl (w_spec_l3Index fuel hx3 hAF2 (hroF2 hr_x0)) rfl rfl ?_
  rintro e w ⟨rfl, hE⟩
  have HT := hbackF2 _ _ hE
  have HT : St w0 (fun _ => False) w [Box p2 [.slice a_x0 x0.length c_x0, .int .i64 y8, .int .i64 y9], Box p3 [.int .i64 y3, .slice a1 y4.length c1], Own 61 (rowT y4) (.slice a1 y4.length c1), Box p1 [.int .i64 0, .slice none 0 0]] := HT
  refine ⟨_, rfl, nS, fun a HF => ?_⟩
  refine wc_assign HF nS rfl rfl rfl (fun a HF => ?_)
  refine wc_end ?_
  refine then_n ?_
  refine wp_seq ?_
  refine wp_region_can [(0, false), (1, false), (2, false), (3, false), (4, false), (5, false), (6, true), (7, true)] (fun w' => LdC w' p3 0 [.int .i64 y3, .slice a1 y4.length c1] ∧ True) (by kernel_rfl) (by kernel_rfl) ?_
  have HT : St w0 (fun _ => False) w.drew [Box p2 [.slice a_x0 x0.length c_x0, .int .i64 y8, .int .i64 y9], Box p3 [.int .i64 y3, .slice a1 y4.length c1], Own 61 (rowT y4) (.slice a1 y4.length c1), Box p1 [.int .i64 0, .slice none 0 0]] := HT.drew
  refine wc_loadAS (vs := [.int .i64 y3, .slice a1 y4.length c1]) HF ⟨(HT.boxAt 1 rfl).part 0 2, trivial⟩ rfl ag29 rfl (fun w hS => hS.1) rfl rfl (fun a HF => ?_)
  refine wc_move HF (fun _ => ⟨(HT.boxAt 1 rfl).part 0 2, trivial⟩) rfl rfl rfl (fun a HF => ?_)
  refine wc_move HF (fun _ => ⟨(HT.boxAt 1 rfl).part 0 2, trivial⟩) rfl rfl rfl (fun a HF => ?_)
  refine wc_bslice (l := ([1, 2, 3, 4, 5, 99, 100, 0] : List Int)) (cs := [.int .i64 1, .int .i64 2, .int .i64 3, .int .i64 4, .int .i64 5, .int .i64 99, .int .i64 100, .int .i64 0]) (A := []) HF HT bs38_8 rfl rfl (gives_flat rfl) rfl (by decide) rfl rfl (fun p4 w HT hb => ⟨(fun _ => ⟨(HT.boxAt 2 rfl).part 0 2, trivial⟩), fun a HF => ?_⟩)
  obtain ⟨y10, y11, y12, hx4, h⟩ := obs3 h
  have HT : St w0 (fun _ => False) w [Box p2 [.slice a_x0 x0.length c_x0, .int .i64 y8, .int .i64 y9], Own 3 (rowT ([1, 2, 3, 4, 5, 99, 100, 0] : List Int)) (.slice (some ⟨p4, 0, none⟩) 8 8), Box p3 [.int .i64 y3, .slice a1 y4.length c1], Own 61 (rowT y4) (.slice a1 y4.length c1), Box p1 [.int .i64 0, .slice none 0 0]] := HT.pick 1
  obtain ⟨F3, hAF3, hFF3, hbackF3, hroF3, hownF3⟩ := St.handR (A := [Box p2 [.slice a_x0 x0.length c_x0, .int .i64 y8, .int .i64 y9]]) HT
  refine wc_call HF cf65 rfl (w_spec_l1PickInt fuel hx4 hAF3 (hroF3 hr_x0) (hownF3 _ _ _ (List.mem_of_getElem? (i := 0) rfl))) rfl rfl ?_
  rintro e w ⟨rfl, hE⟩
  have HT := hbackF3 _ _ hE
  have HT : St w0 (fun _ => False) w [Box p2 [.slice a_x0 x0.length c_x0, .int .i64 y11, .int .i64 y12], Own 3 (rowT ([1, 2, 3, 4, 5, 99, 100, 0] : List Int)) (.slice (some ⟨p4, 0, none⟩) 8 8), Box p3 [.int .i64 y3, .slice a1 y4.length c1], Own 61 (rowT y4) (.slice a1 y4.length c1), Box p1 [.int .i64 0, .slice none 0 0]] := HT
  refine ⟨_, rfl, (fun _ => ⟨(HT.boxAt 2 rfl).part 0 2, trivial⟩), fun a HF => ?_⟩
  have HT : St w0 (fun _ => False) w [Box p1 [.int .i64 0, .slice none 0 0], Box p2 [.slice a_x0 x0.length c_x0, .int .i64 y11, .int .i64 y12], Own 3 (rowT ([1, 2, 3, 4, 5, 99, 100, 0] : List Int)) (.slice (some ⟨p4, 0, none⟩) 8 8), Box p3 [.int .i64 y3, .slice a1 y4.length c1], Own 61 (rowT y4) (.slice a1 y4.length c1)] := HT.pick 4
  refine wc_storeB (cs' := [.int .i64 y3, .slice a1 y4.length c1]) HF HT rfl rfl (fun w => (ag29 w).2) rfl rfl rfl rfl rfl (fun w HT => ⟨(fun _ => ⟨(HT.boxAt 3 rfl).part 0 2, trivial⟩), ?_⟩)
  refine wc_assign HF nS rfl rfl rfl (fun a HF => ?_)
  refine wc_assign HF nS rfl rfl rfl (fun a HF => ?_)
  refine wc_endN ?_
  refine then_n ?_
  refine wp_ret ?_
  have hj1 := Option.some.inj h
  obtain ⟨hi1, hj2⟩ := Prod.mk.inj hj1
  subst hi1
  obtain ⟨hi2, hj3⟩ := Prod.mk.inj hj2
  subst hi2
  obtain ⟨hi3, hj4⟩ := Prod.mk.inj hj3
  subst hi3
  subst hj4
  refine bp_ret HF (res_ctt (vs := [.int .i64 y3, .slice a1 y4.length c1]) rfl HF rfl ag29 rfl (HT.boxAt 0 rfl) rfl rfl) ?_
  have HT : St w0 (fun _ => False) w [Own 61 (rowT y4) (.slice a1 y4.length c1), Box p1 [.int .i64 y3, .slice a1 y4.length c1], Box p2 [.slice a_x0 x0.length c_x0, .int .i64 y11, .int .i64 y12], Own 3 (rowT ([1, 2, 3, 4, 5, 99, 100, 0] : List Int)) (.slice (some ⟨p4, 0, none⟩) 8 8), Box p3 [.int .i64 y3, .slice a1 y4.length c1]] := HT.pick 4
  have HT : St w0 (fun _ => False) w [Own 61 (rowT y4) (.slice a1 y4.length c1)] := HT.take 1
  exact ⟨a1, y4.length, c1, rfl, HT⟩

def m_spec_DrawTick (fuel : Nat) (x0 : List UInt8) : Option (Int × List I3) :=
  bind2 (m_spec_l1New fuel x0) fun y1 y2 =>
  bind4 (m_spec_l3Any fuel x0 y1 y2) fun y3 y4 y5 y6 =>
  some (y3, y4)

set_option maxRecDepth 100000 in
set_option maxHeartbeats 4000000 in
theorem w_spec_DrawTick (fuel : Nat) {x0 : List UInt8} {a_x0 : Option Addr} {n_x0 c_x0 : Nat} {r0_0 : Int} {r0_1 : List I3} {w0 : World} (h : m_spec_DrawTick fuel x0 = some (r0_0, r0_1)) (hr_x0 : RdT (fun b => ¬ False) w0 (rowT x0) (.slice a_x0 n_x0 c_x0)) :
    Calls Try.prog 43 #[.slice a_x0 n_x0 c_x0] w0 fun e w => ∃ a_r0_1 n_r0_1 c_r0_1, e = .returned (.agg #[.int .i64 r0_0, .slice a_r0_1 n_r0_1 c_r0_1]) ∧ St w0 (fun _ => False) w [Own 61 (rowT r0_1) (.slice a_r0_1 n_r0_1 c_r0_1)] := by
  obtain rfl := hr_x0.neq
  have HT : St w0 (fun _ => False) w0 [] := St.init0
  rw [m_spec_DrawTick] at h
  refine calls_fr (n := 8) [.slice a_x0 x0.length c_x0] Try.func43 rfl rfl rfl (fun a HF => ?_)
  have HT : St w0 (fun _ => False) w0 [] := HT
  refine wp_seq ?_
  refine wc_text ?_
  refine wc_alloc (cs := [.int .i64 0, .slice none 0 0]) HF HT zr29 rfl rfl rfl (fun p1 w HT hb => ⟨nS, fun a HF => ?_⟩)
  refine wc_end ?_
  refine then_n ?_
  refine wp_seq ?_
  refine wc_text ?_
  refine wc_move HF nS rfl rfl rfl (fun a HF => ?_)
  obtain ⟨y1, y2, hx1, h⟩ := obs2 h
  refine wc_call HF cf62 rfl (w_spec_l1New fuel hx1 (HT.ro hr_x0).any) rfl rfl ?_
  rintro e w ⟨p2, rfl, hE⟩
  have hb := hE.below
  have HT := HT.pure hE
  have HT : St w0 (fun _ => False) w [Box p2 [.slice a_x0 x0.length c_x0, .int .i64 y1, .int .i64 y2], Box p1 [.int .i64 0, .slice none 0 0]] := HT
  refine ⟨_, rfl, nS, fun a HF => ?_⟩
  refine wc_assign HF nS rfl rfl rfl (fun a HF => ?_)
  refine wc_end ?_
  refine then_n ?_
  refine wp_seq ?_
  refine wc_text ?_
  refine wc_move HF nS rfl rfl rfl (fun a HF => ?_)
  obtain ⟨y3, y4, y5, y6, hx2, h⟩ := obs4 h
  obtain ⟨F1, hAF1, hFF1, hbackF1, hroF1, hownF1⟩ := St.handR (A := [Box p2 [.slice a_x0 x0.length c_x0, .int .i64 y1, .int .i64 y2]]) HT
  refine wc_call HF cf63 rfl (w_spec_l3Any fuel hx2 hAF1 (hroF1 hr_x0)) rfl rfl ?_
  rintro e w ⟨a1, n1, c1, rfl, hE⟩
  have HT := hbackF1 _ _ hE
  obtain rfl := (HT.rdAt 0 rfl).neq
  have HT : St w0 (fun _ => False) w [Own 61 (rowT y4) (.slice a1 y4.length c1), Box p2 [.slice a_x0 x0.length c_x0, .int .i64 y5, .int .i64 y6], Box p1 [.int .i64 0, .slice none 0 0]] := HT
  refine ⟨_, rfl, nS, fun a HF => ?_⟩
  have HT : St w0 (fun _ => False) w [Box p1 [.int .i64 0, .slice none 0 0], Own 61 (rowT y4) (.slice a1 y4.length c1), Box p2 [.slice a_x0 x0.length c_x0, .int .i64 y5, .int .i64 y6]] := HT.pick 2
  refine wc_storeB (cs' := [.int .i64 y3, .slice a1 y4.length c1]) HF HT rfl rfl (fun w => (ag29 w).2) rfl rfl rfl rfl rfl (fun w HT => ⟨nS, ?_⟩)
  refine wc_end ?_
  refine then_n ?_
  refine wp_ret ?_
  have hj1 := Option.some.inj h
  obtain ⟨hi1, hj2⟩ := Prod.mk.inj hj1
  subst hi1
  subst hj2
  refine bp_ret HF (res_cell (vs := [.int .i64 y3, .slice a1 y4.length c1]) rfl HF rfl ag29 rfl (HT.boxAt 0 rfl)) ?_
  have HT : St w0 (fun _ => False) w [Own 61 (rowT y4) (.slice a1 y4.length c1), Box p1 [.int .i64 y3, .slice a1 y4.length c1], Box p2 [.slice a_x0 x0.length c_x0, .int .i64 y5, .int .i64 y6]] := HT.pick 1
  have HT : St w0 (fun _ => False) w [Own 61 (rowT y4) (.slice a1 y4.length c1)] := HT.take 1
  exact ⟨a1, y4.length, c1, rfl, HT⟩

def m_spec_l1In (fuel : Nat) (x0 : Int) (x1 : Int) (x2 : Int) : Option Bool :=
  if x1 ≤ x0 then
    some (decide (x0 ≤ x2))
  else
    some false

set_option maxRecDepth 100000 in
set_option maxHeartbeats 4000000 in
theorem w_spec_l1In (fuel : Nat) {x0 : Int} {x1 : Int} {x2 : Int} {r0 : Bool} {w0 : World} (h : m_spec_l1In fuel x0 x1 x2 = some r0) :
    Calls Try.prog 46 #[.int .i64 x0, .int .i64 x1, .int .i64 x2] w0 fun e w => e = .returned (.bool r0) ∧ St w0 (fun _ => False) w [] := by
  have HT : St w0 (fun _ => False) w0 [] := St.init0
  rw [m_spec_l1In] at h
  refine calls_fr (n := 15) [.int .i64 x0, .int .i64 x1, .int .i64 x2] Try.func46 rfl rfl rfl (fun a HF => ?_)
  have HT : St w0 (fun _ => False) w0 [] := HT
  refine wp_seq ?_
  refine wc_text ?_
  refine wc_assign HF nS rfl rfl rfl (fun a HF => ?_)
  refine wc_end ?_
  refine then_n ?_
  refine wp_seq ?_
  refine wc_text ?_
  refine wc_move HF nS rfl rfl rfl (fun a HF => ?_)
  refine wc_move HF nS rfl rfl rfl (fun a HF => ?_)
  refine wc_bin HF nS rfl rfl b_ge rfl rfl (fun a HF => ?_)
  refine wc_move HF nS rfl rfl rfl (fun a HF => ?_)
  by_cases hb1 : x1 ≤ x0
  · have h := (if_pos hb1).symm.trans h
    refine wc_move HF nS rfl (HF.wy rfl rfl rfl rfl (decide_eq_true hb1)) rfl (fun a HF => ?_)
    refine wc_move HF nS rfl (HF.wy rfl rfl rfl rfl (decide_eq_true hb1)) rfl (fun a HF => ?_)
    refine wc_bin HF nS rfl rfl b_le (HF.wy rfl rfl rfl rfl (decide_eq_true hb1)) rfl (fun a HF => ?_)
    refine wc_pick (b := true) HF nS rfl (decide_eq_true hb1) rfl rfl rfl (fun a HF => ?_)
    refine wc_assign HF nS rfl rfl rfl (fun a HF => ?_)
    refine wc_end ?_
    refine then_n ?_
    refine wp_ret ?_
    obtain rfl := Option.some.inj h
    refine bp_ret HF (res_one rfl HF rfl) ?_
    exact ⟨rfl, HT⟩
  · have h := (if_neg hb1).symm.trans h
    refine wc_skip HF nS (HF.wn rfl rfl rfl rfl (decide_eq_false hb1)) rfl (fun a HF => ?_)
    refine wc_skip HF nS (HF.wn rfl rfl rfl rfl (decide_eq_false hb1)) rfl (fun a HF => ?_)
    refine wc_skip HF nS (HF.wn rfl rfl rfl rfl (decide_eq_false hb1)) rfl (fun a HF => ?_)
    refine wc_pick (b := false) HF nS rfl (decide_eq_false hb1) rfl rfl rfl (fun a HF => ?_)
    refine wc_assign HF nS rfl rfl rfl (fun a HF => ?_)
    refine wc_end ?_
    refine then_n ?_
    refine wp_ret ?_
    obtain rfl := Option.some.inj h
    refine bp_ret HF (res_one rfl HF rfl) ?_
    exact ⟨rfl, HT⟩

def m_spec_l3Val (fuel : Nat) (x0 : Int) : Option Bool :=
  (m_spec_l1In fuel x0 0 65535).bind fun y1 =>
  some y1

set_option maxRecDepth 100000 in
set_option maxHeartbeats 4000000 in
theorem w_spec_l3Val (fuel : Nat) {x0 : Int} {r0 : Bool} {w0 : World} (h : m_spec_l3Val fuel x0 = some r0) :
    Calls Try.prog 47 #[.int .i64 x0] w0 fun e w => e = .returned (.bool r0) ∧ St w0 (fun _ => False) w [] := by
  have HT : St w0 (fun _ => False) w0 [] := St.init0
  rw [m_spec_l3Val] at h
  refine calls_fr (n := 5) [.int .i64 x0] Try.func47 rfl rfl rfl (fun a HF => ?_)
  have HT : St w0 (fun _ => False) w0 [] := HT
  refine wp_seq ?_
  refine wc_text ?_
  refine wc_assign HF nS rfl rfl rfl (fun a HF => ?_)
  refine wc_end ?_
  refine then_n ?_
  refine wp_seq ?_
  refine wc_text ?_
  refine wc_move HF nS rfl rfl rfl (fun a HF => ?_)
  obtain ⟨y1, hx1, h⟩ := obs h
  refine wc_call HF cf46 rfl (w_spec_l1In fuel hx1) rfl rfl ?_
  rintro e w ⟨rfl, hE⟩
  have hb := hE.below
  have HT := HT.pure hE
  have HT : St w0 (fun _ => False) w [] := HT
  refine ⟨_, rfl, nS, fun a HF => ?_⟩
  refine wc_assign HF nS rfl rfl rfl (fun a HF => ?_)
  refine wc_end ?_
  refine then_n ?_
  refine wp_ret ?_
  obtain rfl := Option.some.inj h
  refine bp_ret HF (res_one rfl HF rfl) ?_
  exact ⟨rfl, HT⟩

def m_spec_MemOk_L0 (fuel : Nat) (x0_0 : Int) (x0_1 : List I3) : Nat → Int → Option (Lp Unit Bool)
  | 0, _ => none
  | k1 + 1, z1 =>
    if z1 < (x0_1.length : Int) then
      (at? x0_1 z1).bind fun e1 =>
      (m_spec_l3Val fuel e1.a).bind fun y2 =>
      if y2 = true then
        (m_spec_l1In fuel e1.b 0 x0_0).bind fun y3 =>
        if y3 = true then
          (m_spec_l1In fuel e1.c 0 99).bind fun y4 =>
          if y4 = true then
            if in64 (z1 + 1) then
              m_spec_MemOk_L0 fuel x0_0 x0_1 k1 (z1 + 1)
            else none
          else
            some (.ret false)
        else
          some (.ret false)
      else
        some (.ret false)
    else
      some (.brk ())

def m_spec_MemOk (fuel : Nat) (x0_0 : Int) (x0_1 : List I3) : Option Bool :=
  if (x0_1.length : Int) = 8 then
    (m_spec_l1In fuel x0_0 0 1000000).bind fun y1 =>
    if y1 = true then
      (m_spec_MemOk_L0 fuel x0_0 x0_1 fuel 0).bind <| contL <| un1 fun _ =>
      some true
    else
      some false
  else
    some false

set_option maxRecDepth 100000 in
set_option maxHeartbeats 4000000 in
theorem w_spec_MemOk (fuel : Nat) {x0_0 : Int} {x0_1 : List I3} {a_x0_1 : Option Addr} {n_x0_1 c_x0_1 : Nat} {r0 : Bool} {w0 : World} (h : m_spec_MemOk fuel x0_0 x0_1 = some r0) (hr_x0_1 : RdT (fun b => ¬ False) w0 (rowT x0_1) (.slice a_x0_1 n_x0_1 c_x0_1)) :
    Calls Try.prog 14 #[.agg #[.int .i64 x0_0, .slice a_x0_1 n_x0_1 c_x0_1]] w0 fun e w => e = .returned (.bool r0) ∧ St w0 (fun _ => False) w [] := by
  obtain rfl := hr_x0_1.neq
  have HT : St w0 (fun _ => False) w0 [] := St.init0
  rw [m_spec_MemOk] at h
  refine calls_fr (n := 45) [.agg #[.int .i64 x0_0, .slice a_x0_1 x0_1.length c_x0_1]] Try.func14 rfl rfl rfl (fun a HF => ?_)
  have HT : St w0 (fun _ => False) w0 [] := HT
  refine wp_seq ?_
  refine wc_text ?_
  refine wc_box (cs := [.int .i64 x0_0, .slice a_x0_1 x0_1.length c_x0_1]) HF HT rfl rfl rfl rfl (fun p1 w HT hb => ⟨nS, fun a HF => ?_⟩)
  refine wc_assign HF nS rfl rfl rfl (fun a HF => ?_)
  refine wc_end ?_
  refine then_n ?_
  refine wp_seq ?_
  refine wp_seq ?_
  refine wc_text ?_
  refine wc_faddr HF nS rfl fl29_1 rfl rfl (fun a HF => ?_)
  refine wc_load HF rfl sc27 ((HT.boxAt 0 rfl).get 1 rfl) rfl rfl (fun a HF => ?_)
  refine wc_lenR HF nS Try.underlying27 rfl rfl rfl (fun a HF => ?_)
  refine wc_bin HF nS rfl rfl b_ne rfl rfl (fun a HF => ?_)
  refine wc_move HF nS rfl rfl rfl (fun a HF => ?_)
  by_cases hb1 : (x0_1.length : Int) = 8
  · have h := (if_pos hb1).symm.trans h
    refine wc_faddr HF nS rfl fl29_0 (HF.wy rfl rfl rfl rfl (notT (decide_eq_true hb1))) rfl (fun a HF => ?_)
    refine wc_load HF rfl sc3 ((HT.boxAt 0 rfl).get 0 rfl) (HF.wy rfl rfl rfl rfl (notT (decide_eq_true hb1))) rfl (fun a HF => ?_)
    obtain ⟨y1, hx1, h⟩ := obs h
    refine wc_call HF cf46 rfl (w_spec_l1In fuel hx1) (HF.wy rfl rfl rfl rfl (notT (decide_eq_true hb1))) rfl ?_
    rintro e w ⟨rfl, hE⟩
    have hb := hE.below
    have HT := HT.pure hE
    have HT : St w0 (fun _ => False) w [Box p1 [.int .i64 x0_0, .slice a_x0_1 x0_1.length c_x0_1]] := HT
    refine ⟨_, rfl, nS, fun a HF => ?_⟩
    refine wc_not HF nS rfl (HF.wy rfl rfl rfl rfl (notT (decide_eq_true hb1))) rfl (fun a HF => ?_)
    refine wc_pick (b := false) HF nS rfl (notT (decide_eq_true hb1)) rfl rfl rfl (fun a HF => ?_)
    refine wc_end ?_
    refine then_n ?_
    by_cases hb2 : y1 = true
    · have h := (if_pos hb2).symm.trans h
      refine wp_if (b' := false) HF rfl (notT hb2) ?_
      refine wp_skip ?_
      refine then_n ?_
      obtain ⟨q1, hx2, h⟩ := obs h
      refine wp_cut (fun a w => q1 = .brk () ∧ Fr a 45 [] ∧ St w0 (fun _ => False) w []) ?_ ?_
      · have hk1 := h
        have h := hx2
        refine wp_seq ?_
        refine wc_text ?_
        refine wc_assign HF nS rfl rfl rfl (fun a HF => ?_)
        refine wc_end ?_
        refine then_n ?_
        refine wp_block ?_
        refine wp_loopN (fun k1 a w => ∃ z1, m_spec_MemOk_L0 fuel x0_0 x0_1 k1 z1 = some q1 ∧ Fr a 45 [(1, .pointer (some ⟨p1, 0, none⟩)), (3, .int .i64 z1)] ∧ St w0 (fun _ => False) w [Box p1 [.int .i64 x0_0, .slice a_x0_1 x0_1.length c_x0_1]]) fuel ⟨0, h, (HF.keep (HF.keep HF.nil rfl) rfl), HT⟩ ?_
        rintro k1 a w ⟨z1, h, HF, HT⟩
        cases k1 with
        | zero => cases h
        | succ k1 =>
          rw [m_spec_MemOk_L0] at h
          refine ?_
          refine wp_seq ?_
          refine wp_seq ?_
          refine wc_text ?_
          refine wc_move HF nS rfl rfl rfl (fun a HF => ?_)
          refine wc_faddr HF nS rfl fl29_1 rfl rfl (fun a HF => ?_)
          refine wc_load HF rfl sc27 ((HT.boxAt 0 rfl).get 1 rfl) rfl rfl (fun a HF => ?_)
          refine wc_lenR HF nS Try.underlying27 rfl rfl rfl (fun a HF => ?_)
          refine wc_bin HF nS rfl rfl b_lt rfl rfl (fun a HF => ?_)
          refine wc_end ?_
          refine then_n ?_
          by_cases hb3 : z1 < (x0_1.length : Int)
          · have h := (if_pos hb3).symm.trans h
            refine wp_if (b' := true) HF rfl (decide_eq_true hb3) ?_
            refine wp_skip ?_
            refine then_n ?_
            refine wp_seq ?_
            refine wp_block ?_
            refine wp_seq ?_
            refine wc_text ?_
            refine wc_faddr HF nS rfl fl29_1 rfl rfl (fun a HF => ?_)
            refine wc_load HF rfl sc27 ((HT.boxAt 0 rfl).get 1 rfl) rfl rfl (fun a HF => ?_)
            refine wc_move HF nS rfl rfl rfl (fun a HF => ?_)
            obtain ⟨e1, hx3, h⟩ := obs h
            obtain ⟨b1, o1, ha1⟩ := (HT.ro hr_x0_1).any.addr hx3
            refine wc_ixaddr HF nS el27 rfl ha1 ((HT.ro hr_x0_1).any).neq rfl hx3 rfl rfl (fun a HF => ?_)
            have hc1 := (HT.ro hr_x0_1).any.flatAt ha1 hx3
            refine wc_loadA (vs := [.int .i64 e1.a, .int .i64 e1.b, .int .i64 e1.c]) HF rfl ag61 rfl (hc1.part 0 3) rfl rfl (fun a HF => ?_)
            refine wc_alloc (cs := [.int .i64 0, .int .i64 0, .int .i64 0]) HF HT zr61 rfl rfl rfl (fun p2 w HT hb => ⟨nS, fun a HF => ?_⟩)
            refine wc_storeB (cs' := [.int .i64 e1.a, .int .i64 e1.b, .int .i64 e1.c]) HF HT rfl rfl (fun w => (ag61 w).2) rfl rfl rfl rfl rfl (fun w HT => ⟨nS, ?_⟩)
            refine wc_end ?_
            refine then_n ?_
            refine wp_seq ?_
            refine wc_text ?_
            refine wc_faddr HF nS rfl fl61_0 rfl rfl (fun a HF => ?_)
            refine wc_load HF rfl sc3 ((HT.boxAt 0 rfl).get 0 rfl) rfl rfl (fun a HF => ?_)
            obtain ⟨y2, hx4, h⟩ := obs h
            refine wc_call HF cf47 rfl (w_spec_l3Val fuel hx4) rfl rfl ?_
            rintro e w ⟨rfl, hE⟩
            have hb := hE.below
            have HT := HT.pure hE
            have HT : St w0 (fun _ => False) w [Box p2 [.int .i64 e1.a, .int .i64 e1.b, .int .i64 e1.c], Box p1 [.int .i64 x0_0, .slice a_x0_1 x0_1.length c_x0_1]] := HT
            refine ⟨_, rfl, nS, fun a HF => ?_⟩
            refine wc_not HF nS rfl rfl rfl (fun a HF => ?_)
            refine wc_move HF nS rfl rfl rfl (fun a HF => ?_)
            by_cases hb4 : y2 = true
            · have h := (if_pos hb4).symm.trans h
              refine wc_faddr HF nS rfl fl61_1 (HF.wy rfl rfl rfl rfl (notT hb4)) rfl (fun a HF => ?_)
              refine wc_load HF rfl sc3 ((HT.boxAt 0 rfl).get 1 rfl) (HF.wy rfl rfl rfl rfl (notT hb4)) rfl (fun a HF => ?_)
              refine wc_faddr HF nS rfl fl29_0 (HF.wy rfl rfl rfl rfl (notT hb4)) rfl (fun a HF => ?_)
              refine wc_load HF rfl sc3 ((HT.boxAt 1 rfl).get 0 rfl) (HF.wy rfl rfl rfl rfl (notT hb4)) rfl (fun a HF => ?_)
              obtain ⟨y3, hx5, h⟩ := obs h
              refine wc_call HF cf46 rfl (w_spec_l1In fuel hx5) (HF.wy rfl rfl rfl rfl (notT hb4)) rfl ?_
              rintro e w ⟨rfl, hE⟩
              have hb := hE.below
              have HT := HT.pure hE
              have HT : St w0 (fun _ => False) w [Box p2 [.int .i64 e1.a, .int .i64 e1.b, .int .i64 e1.c], Box p1 [.int .i64 x0_0, .slice a_x0_1 x0_1.length c_x0_1]] := HT
              refine ⟨_, rfl, nS, fun a HF => ?_⟩
              refine wc_not HF nS rfl (HF.wy rfl rfl rfl rfl (notT hb4)) rfl (fun a HF => ?_)
              refine wc_pick (b := false) HF nS rfl (notT hb4) rfl rfl rfl (fun a HF => ?_)
              refine wc_move HF nS rfl rfl rfl (fun a HF => ?_)
              by_cases hb5 : y3 = true
              · have h := (if_pos hb5).symm.trans h
                refine wc_faddr HF nS rfl fl61_2 (HF.wy rfl rfl rfl rfl (notT hb5)) rfl (fun a HF => ?_)
                refine wc_load HF rfl sc3 ((HT.boxAt 0 rfl).get 2 rfl) (HF.wy rfl rfl rfl rfl (notT hb5)) rfl (fun a HF => ?_)
                obtain ⟨y4, hx6, h⟩ := obs h
                refine wc_call HF cf46 rfl (w_spec_l1In fuel hx6) (HF.wy rfl rfl rfl rfl (notT hb5)) rfl ?_
                rintro e w ⟨rfl, hE⟩
                have hb := hE.below
                have HT := HT.pure hE
                have HT : St w0 (fun _ => False) w [Box p2 [.int .i64 e1.a, .int .i64 e1.b, .int .i64 e1.c], Box p1 [.int .i64 x0_0, .slice a_x0_1 x0_1.length c_x0_1]] := HT
                refine ⟨_, rfl, nS, fun a HF => ?_⟩
                refine wc_not HF nS rfl (HF.wy rfl rfl rfl rfl (notT hb5)) rfl (fun a HF => ?_)
                refine wc_pick (b := false) HF nS rfl (notT hb5) rfl rfl rfl (fun a HF => ?_)
                refine wc_end ?_
                refine then_n ?_
                by_cases hb6 : y4 = true
                · have h := (if_pos hb6).symm.trans h
                  refine wp_if (b' := false) HF rfl (notT hb6) ?_
                  refine wp_skip ?_
                  refine blk_n ?_
                  refine then_n ?_
                  refine wc_text ?_
                  refine wc_move HF nS rfl rfl rfl (fun a HF => ?_)
                  obtain ⟨hg1, h⟩ := grd h
                  refine wc_bin HF nS rfl rfl (b_add hg1) rfl rfl (fun a HF => ?_)
                  refine wc_assign HF nS rfl rfl rfl (fun a HF => ?_)
                  refine wc_end ?_
                  have HT : St w0 (fun _ => False) w [Box p1 [.int .i64 x0_0, .slice a_x0_1 x0_1.length c_x0_1], Box p2 [.int .i64 e1.a, .int .i64 e1.b, .int .i64 e1.c]] := HT.pick 1
                  have HT : St w0 (fun _ => False) w [Box p1 [.int .i64 x0_0, .slice a_x0_1 x0_1.length c_x0_1]] := HT.take 1
                  exact then_n ⟨k1, Nat.lt_succ_self k1, z1 + 1, h, (HF.keep (HF.keep HF.nil rfl) rfl), HT⟩
                · have h := (if_neg hb6).symm.trans h
                  refine wp_if (b' := true) HF rfl (notF (Bool.eq_false_iff.2 hb6)) ?_
                  refine wp_seq ?_
                  refine wc_text ?_
                  refine wc_assign HF nS rfl rfl rfl (fun a HF => ?_)
                  refine wc_end ?_
                  refine then_n ?_
                  refine wp_ret ?_
                  obtain rfl := Option.some.inj h
                  have h := retL hk1
                  obtain rfl := Option.some.inj h
                  refine blk_r (then_r (then_r (blk_r (then_r (?_)))))
                  refine bp_ret HF (res_one rfl HF rfl) ?_
                  have HT : St w0 (fun _ => False) w [] := HT.take 0
                  exact ⟨rfl, HT⟩
              · have h := (if_neg hb5).symm.trans h
                refine wc_skip HF nS (HF.wn rfl rfl rfl rfl (notF (Bool.eq_false_iff.2 hb5))) rfl (fun a HF => ?_)
                refine wc_skip HF nS (HF.wn rfl rfl rfl rfl (notF (Bool.eq_false_iff.2 hb5))) rfl (fun a HF => ?_)
                refine wc_skip HF nS (HF.wn rfl rfl rfl rfl (notF (Bool.eq_false_iff.2 hb5))) rfl (fun a HF => ?_)
                refine wc_skip HF nS (HF.wn rfl rfl rfl rfl (notF (Bool.eq_false_iff.2 hb5))) rfl (fun a HF => ?_)
                refine wc_pick (b := true) HF nS rfl (notF (Bool.eq_false_iff.2 hb5)) rfl rfl rfl (fun a HF => ?_)
                refine wc_end ?_
                refine then_n ?_
                refine wp_if (b' := true) HF rfl rfl ?_
                refine wp_seq ?_
                refine wc_text ?_
                refine wc_assign HF nS rfl rfl rfl (fun a HF => ?_)
                refine wc_end ?_
                refine then_n ?_
                refine wp_ret ?_
                obtain rfl := Option.some.inj h
                have h := retL hk1
                obtain rfl := Option.some.inj h
                refine blk_r (then_r (then_r (blk_r (then_r (?_)))))
                refine bp_ret HF (res_one rfl HF rfl) ?_
                have HT : St w0 (fun _ => False) w [] := HT.take 0
                exact ⟨rfl, HT⟩
            · have h := (if_neg hb4).symm.trans h
              refine wc_skip HF nS (HF.wn rfl rfl rfl rfl (notF (Bool.eq_false_iff.2 hb4))) rfl (fun a HF => ?_)
              refine wc_skip HF nS (HF.wn rfl rfl rfl rfl (notF (Bool.eq_false_iff.2 hb4))) rfl (fun a HF => ?_)
              refine wc_skip HF nS (HF.wn rfl rfl rfl rfl (notF (Bool.eq_false_iff.2 hb4))) rfl (fun a HF => ?_)
              refine wc_skip HF nS (HF.wn rfl rfl rfl rfl (notF (Bool.eq_false_iff.2 hb4))) rfl (fun a HF => ?_)
              refine wc_skip HF nS (HF.wn rfl rfl rfl rfl (notF (Bool.eq_false_iff.2 hb4))) rfl (fun a HF => ?_)
              refine wc_skip HF nS (HF.wn rfl rfl rfl rfl (notF (Bool.eq_false_iff.2 hb4))) rfl (fun a HF => ?_)
              refine wc_pick (b := true) HF nS rfl (notF (Bool.eq_false_iff.2 hb4)) rfl rfl rfl (fun a HF => ?_)
              refine wc_move HF nS rfl rfl rfl (fun a HF => ?_)
              refine wc_skip HF nS (HF.wn rfl rfl rfl rfl rfl) rfl (fun a HF => ?_)
              refine wc_skip HF nS (HF.wn rfl rfl rfl rfl rfl) rfl (fun a HF => ?_)
              refine wc_skip HF nS (HF.wn rfl rfl rfl rfl rfl) rfl (fun a HF => ?_)
              refine wc_skip HF nS (HF.wn rfl rfl rfl rfl rfl) rfl (fun a HF => ?_)
              refine wc_pick (b := true) HF nS rfl rfl rfl rfl rfl (fun a HF => ?_)
              refine wc_end ?_
              refine then_n ?_
              refine wp_if (b' := true) HF rfl rfl ?_
              refine wp_seq ?_
              refine wc_text ?_
              refine wc_assign HF nS rfl rfl rfl (fun a HF => ?_)
              refine wc_end ?_
              refine then_n ?_
              refine wp_ret ?_
              obtain rfl := Option.some.inj h
              have h := retL hk1
              obtain rfl := Option.some.inj h
              refine blk_r (then_r (then_r (blk_r (then_r (?_)))))
              refine bp_ret HF (res_one rfl HF rfl) ?_
              have HT : St w0 (fun _ => False) w [] := HT.take 0
              exact ⟨rfl, HT⟩
          · have h := (if_neg hb3).symm.trans h
            refine wp_if (b' := false) HF rfl (decide_eq_false hb3) ?_
            refine wp_exit ?_
            refine then_x (then_x (?_))
            refine blk_x ?_
            have HT : St w0 (fun _ => False) w [] := HT.take 0
            exact then_n ⟨(Option.some.inj h).symm, HF.nil, HT⟩
      · rintro a w ⟨rfl, HF, HT⟩
        have h := brkL1u h
        refine ?_
        refine wp_seq ?_
        refine wc_text ?_
        refine wc_assign HF nS rfl rfl rfl (fun a HF => ?_)
        refine wc_end ?_
        refine then_n ?_
        refine wp_ret ?_
        obtain rfl := Option.some.inj h
        refine bp_ret HF (res_one rfl HF rfl) ?_
        exact ⟨rfl, HT⟩
    · have h := (if_neg hb2).symm.trans h
      refine wp_if (b' := true) HF rfl (notF (Bool.eq_false_iff.2 hb2)) ?_
      refine wp_seq ?_
      refine wc_text ?_
      refine wc_assign HF nS rfl rfl rfl (fun a HF => ?_)
      refine wc_end ?_
      refine then_n ?_
      refine wp_ret ?_
      obtain rfl := Option.some.inj h
      refine then_r (?_)
      refine bp_ret HF (res_one rfl HF rfl) ?_
      have HT : St w0 (fun _ => False) w [] := HT.take 0
      exact ⟨rfl, HT⟩
  · have h := (if_neg hb1).symm.trans h
    refine wc_skip HF nS (HF.wn rfl rfl rfl rfl (notF (decide_eq_false hb1))) rfl (fun a HF => ?_)
    refine wc_skip HF nS (HF.wn rfl rfl rfl rfl (notF (decide_eq_false hb1))) rfl (fun a HF => ?_)
    refine wc_skip HF nS (HF.wn rfl rfl rfl rfl (notF (decide_eq_false hb1))) rfl (fun a HF => ?_)
    refine wc_skip HF nS (HF.wn rfl rfl rfl rfl (notF (decide_eq_false hb1))) rfl (fun a HF => ?_)
    refine wc_pick (b := true) HF nS rfl (notF (decide_eq_false hb1)) rfl rfl rfl (fun a HF => ?_)
    refine wc_end ?_
    refine then_n ?_
    refine wp_if (b' := true) HF rfl rfl ?_
    refine wp_seq ?_
    refine wc_text ?_
    refine wc_assign HF nS rfl rfl rfl (fun a HF => ?_)
    refine wc_end ?_
    refine then_n ?_
    refine wp_ret ?_
    obtain rfl := Option.some.inj h
    refine then_r (?_)
    refine bp_ret HF (res_one rfl HF rfl) ?_
    have HT : St w0 (fun _ => False) w [] := HT.take 0
    exact ⟨rfl, HT⟩

def m_spec_l3Cell (fuel : Nat) (x0 : Int) : Option Bool :=
  (m_spec_l1In fuel x0 0 7).bind fun y1 =>
  some y1

set_option maxRecDepth 100000 in
set_option maxHeartbeats 4000000 in
theorem w_spec_l3Cell (fuel : Nat) {x0 : Int} {r0 : Bool} {w0 : World} (h : m_spec_l3Cell fuel x0 = some r0) :
    Calls Try.prog 52 #[.int .i64 x0] w0 fun e w => e = .returned (.bool r0) ∧ St w0 (fun _ => False) w [] := by
  have HT : St w0 (fun _ => False) w0 [] := St.init0
  rw [m_spec_l3Cell] at h
  refine calls_fr (n := 5) [.int .i64 x0] Try.func52 rfl rfl rfl (fun a HF => ?_)
  have HT : St w0 (fun _ => False) w0 [] := HT
  refine wp_seq ?_
  refine wc_text ?_
  refine wc_assign HF nS rfl rfl rfl (fun a HF => ?_)
  refine wc_end ?_
  refine then_n ?_
  refine wp_seq ?_
  refine wc_text ?_
  refine wc_move HF nS rfl rfl rfl (fun a HF => ?_)
  obtain ⟨y1, hx1, h⟩ := obs h
  refine wc_call HF cf46 rfl (w_spec_l1In fuel hx1) rfl rfl ?_
  rintro e w ⟨rfl, hE⟩
  have hb := hE.below
  have HT := HT.pure hE
  have HT : St w0 (fun _ => False) w [] := HT
  refine ⟨_, rfl, nS, fun a HF => ?_⟩
  refine wc_assign HF nS rfl rfl rfl (fun a HF => ?_)
  refine wc_end ?_
  refine then_n ?_
  refine wp_ret ?_
  obtain rfl := Option.some.inj h
  refine bp_ret HF (res_one rfl HF rfl) ?_
  exact ⟨rfl, HT⟩

def m_spec_l3Copy (fuel : Nat) (x0_0 : Int) (x0_1 : List I3) : Option (Int × List I3) :=
  if ([] : List I3).length + x0_1.length ≤ 17179869184 then
    some (x0_0, ([] : List I3) ++ x0_1)
  else none

set_option maxRecDepth 100000 in
set_option maxHeartbeats 4000000 in
theorem w_spec_l3Copy (fuel : Nat) {x0_0 : Int} {x0_1 : List I3} {a_x0_1 : Option Addr} {n_x0_1 c_x0_1 : Nat} {r0_0 : Int} {r0_1 : List I3} {w0 : World} (h : m_spec_l3Copy fuel x0_0 x0_1 = some (r0_0, r0_1)) (hr_x0_1 : RdT (fun b => ¬ False) w0 (rowT x0_1) (.slice a_x0_1 n_x0_1 c_x0_1)) :
    Calls Try.prog 58 #[.agg #[.int .i64 x0_0, .slice a_x0_1 n_x0_1 c_x0_1]] w0 fun e w => ∃ a_r0_1 n_r0_1 c_r0_1, e = .returned (.agg #[.int .i64 r0_0, .slice a_r0_1 n_r0_1 c_r0_1]) ∧ St w0 (fun _ => False) w [Own 61 (rowT r0_1) (.slice a_r0_1 n_r0_1 c_r0_1)] := by
  obtain rfl := hr_x0_1.neq
  have HT : St w0 (fun _ => False) w0 [] := St.init0
  rw [m_spec_l3Copy] at h
  refine calls_fr (n := 10) [.agg #[.int .i64 x0_0, .slice a_x0_1 x0_1.length c_x0_1]] Try.func58 rfl rfl rfl (fun a HF => ?_)
  have HT : St w0 (fun _ => False) w0 [] := HT
  refine wp_seq ?_
  refine wc_text ?_
  refine wc_box (cs := [.int .i64 x0_0, .slice a_x0_1 x0_1.length c_x0_1]) HF HT rfl rfl rfl rfl (fun p1 w HT hb => ⟨nS, fun a HF => ?_⟩)
  refine wc_alloc (cs := [.int .i64 0, .slice none 0 0]) HF HT zr29 rfl rfl rfl (fun p2 w HT hb => ⟨nS, fun a HF => ?_⟩)
  refine wc_end ?_
  refine then_n ?_
  refine wp_seq ?_
  refine wp_region_can [(0, false), (1, false), (3, false), (4, false), (2, false), (5, false), (6, true), (7, true)] (fun w' => w'.cell? ⟨p1, 0, none⟩ = some (.int .i64 x0_0) ∧ w'.cell? ⟨p1, 1, none⟩ = some (.slice a_x0_1 x0_1.length c_x0_1) ∧ True) (by kernel_rfl) (by kernel_rfl) ?_
  have HT : St w0 (fun _ => False) w.drew [Box p2 [.int .i64 0, .slice none 0 0], Box p1 [.int .i64 x0_0, .slice a_x0_1 x0_1.length c_x0_1]] := HT.drew
  refine wc_faddr HF (fun _ => ⟨(HT.boxAt 1 rfl).get 0 rfl, (HT.boxAt 1 rfl).get 1 rfl, trivial⟩) rfl fl29_0 rfl rfl (fun a HF => ?_)
  refine wc_loadS HF ⟨(HT.boxAt 1 rfl).get 0 rfl, (HT.boxAt 1 rfl).get 1 rfl, trivial⟩ rfl sc3 (fun w hS => hS.1) rfl rfl (fun a HF => ?_)
  refine wc_faddr HF (fun _ => ⟨(HT.boxAt 1 rfl).get 0 rfl, (HT.boxAt 1 rfl).get 1 rfl, trivial⟩) rfl fl29_1 rfl rfl (fun a HF => ?_)
  refine wc_loadS HF ⟨(HT.boxAt 1 rfl).get 0 rfl, (HT.boxAt 1 rfl).get 1 rfl, trivial⟩ rfl sc27 (fun w hS => hS.2.1) rfl rfl (fun a HF => ?_)
  refine wc_bslice (l := ([] : List I3)) (cs := []) (A := []) HF HT bs27_0 rfl rfl (gives_flat rfl) rfl (by decide) rfl rfl (fun p3 w HT hb => ⟨(fun _ => ⟨(HT.boxAt 2 rfl).get 0 rfl, (HT.boxAt 2 rfl).get 1 rfl, trivial⟩), fun a HF => ?_⟩)
  obtain ⟨hg1, h⟩ := grd h
  refine wc_appendR HF HT (HT.ro hr_x0_1).any el27 rfl rfl hg1 rfl rfl rfl (fun a1 c1 w HT => ⟨(fun _ => ⟨(HT.boxAt 2 rfl).get 0 rfl, (HT.boxAt 2 rfl).get 1 rfl, trivial⟩), fun a HF => ?_⟩)
  refine wc_build (cs := #[.int .i64 x0_0, .slice a1 ((([] : List I3) ++ x0_1).length) c1]) HF nS bd29 rfl rfl rfl rfl (fun a HF => ?_)
  have HT : St w0 (fun _ => False) w [Box p2 [.int .i64 0, .slice none 0 0], Own 61 (rowT (([] : List I3) ++ x0_1)) (.slice a1 ((([] : List I3) ++ x0_1).length) c1), Box p1 [.int .i64 x0_0, .slice a_x0_1 x0_1.length c_x0_1]] := HT.pick 1
  refine wc_storeB (cs' := [.int .i64 x0_0, .slice a1 ((([] : List I3) ++ x0_1).length) c1]) HF HT rfl rfl (fun w => (ag29 w).2) rfl rfl rfl rfl rfl (fun w HT => ⟨nS, ?_⟩)
  refine wc_endN ?_
  refine then_n ?_
  refine wp_ret ?_
  have hj1 := Option.some.inj h
  obtain ⟨hi1, hj2⟩ := Prod.mk.inj hj1
  subst hi1
  subst hj2
  refine bp_ret HF (res_cell (vs := [.int .i64 x0_0, .slice a1 ((([] : List I3) ++ x0_1).length) c1]) rfl HF rfl ag29 rfl (HT.boxAt 0 rfl)) ?_
  have HT : St w0 (fun _ => False) w [Own 61 (rowT (([] : List I3) ++ x0_1)) (.slice a1 ((([] : List I3) ++ x0_1).length) c1), Box p2 [.int .i64 x0_0, .slice a1 ((([] : List I3) ++ x0_1).length) c1], Box p1 [.int .i64 x0_0, .slice a_x0_1 x0_1.length c_x0_1]] := HT.pick 1
  have HT : St w0 (fun _ => False) w [Own 61 (rowT (([] : List I3) ++ x0_1)) (.slice a1 ((([] : List I3) ++ x0_1).length) c1)] := HT.take 1
  exact ⟨a1, (([] : List I3) ++ x0_1).length, c1, rfl, HT⟩

def m_spec_Lock (fuel : Nat) (x0_0 : Int) (x0_1 : List I3) (x1 : Int) (x2 : Int) : Option (Int × List I3 × Bool) :=
  bind2 (m_spec_l3Copy fuel x0_0 x0_1) fun y1 y2 =>
  (m_spec_MemOk fuel x0_0 x0_1).bind fun y3 =>
  if y3 = true then
    (m_spec_l3Cell fuel x1).bind fun y4 =>
    if y4 = true then
      (m_spec_l1In fuel x2 1 99).bind fun y5 =>
      if y5 = true then
        (at? x0_1 x1).bind fun e1 =>
        if e1.c = 0 then
          (at? y2 x1).bind fun e2 =>
          some (y1, y2.set x1.toNat (⟨e2.a, e2.b, x2⟩ : I3), true)
        else
          some (y1, y2, false)
      else
        some (y1, y2, false)
    else
      some (y1, y2, false)
  else
    some (y1, y2, false)

set_option maxRecDepth 100000 in
set_option maxHeartbeats 4000000 in
theorem w_spec_Lock (fuel : Nat) {x0_0 : Int} {x0_1 : List I3} {x1 : Int} {x2 : Int} {a_x0_1 : Option Addr} {n_x0_1 c_x0_1 : Nat} {r0_0 : Int} {r0_1 : List I3} {r1 : Bool} {w0 : World} (h : m_spec_Lock fuel x0_0 x0_1 x1 x2 = some (r0_0, r0_1, r1)) (hr_x0_1 : RdT (fun b => ¬ False) w0 (rowT x0_1) (.slice a_x0_1 n_x0_1 c_x0_1)) :
    Calls Try.prog 34 #[.agg #[.int .i64 x0_0, .slice a_x0_1 n_x0_1 c_x0_1], .int .i64 x1, .int .i64 x2] w0 fun e w => ∃ a_r0_1 n_r0_1 c_r0_1, e = .returned (.tuple #[.agg #[.int .i64 r0_0, .slice a_r0_1 n_r0_1 c_r0_1], .bool r1]) ∧ St w0 (fun _ => False) w [Own 61 (rowT r0_1) (.slice a_r0_1 n_r0_1 c_r0_1)] := by
  obtain rfl := hr_x0_1.neq
  have HT : St w0 (fun _ => False) w0 [] := St.init0
  rw [m_spec_Lock] at h
  refine calls_fr (n := 41) [.agg #[.int .i64 x0_0, .slice a_x0_1 x0_1.length c_x0_1], .int .i64 x1, .int .i64 x2] Try.func34 rfl rfl rfl (fun a HF => ?_)
  have HT : St w0 (fun _ => False) w0 [] := HT
  refine wp_seq ?_
  refine wc_text ?_
  refine wc_box (cs := [.int .i64 x0_0, .slice a_x0_1 x0_1.length c_x0_1]) HF HT rfl rfl rfl rfl (fun p1 w HT hb => ⟨nS, fun a HF => ?_⟩)
  refine wc_alloc (cs := [.int .i64 0, .slice none 0 0]) HF HT zr29 rfl rfl rfl (fun p2 w HT hb => ⟨nS, fun a HF => ?_⟩)
  refine wc_assign HF nS rfl rfl rfl (fun a HF => ?_)
  refine wc_end ?_
  refine then_n ?_
  refine wp_seq ?_
  refine wc_text ?_
  refine wc_loadA (vs := [.int .i64 x0_0, .slice a_x0_1 x0_1.length c_x0_1]) HF rfl ag29 rfl ((HT.boxAt 1 rfl).part 0 2) rfl rfl (fun a HF => ?_)
  obtain ⟨y1, y2, hx1, h⟩ := obs2 h
  refine wc_call HF cf58 rfl (w_spec_l3Copy fuel hx1 (HT.ro hr_x0_1).any) rfl rfl ?_
  rintro e w ⟨a1, n1, c1, rfl, hE⟩
  have hb := hE.below
  have HT := HT.pure hE
  obtain rfl := (HT.rdAt 0 rfl).neq
  have HT : St w0 (fun _ => False) w [Own 61 (rowT y2) (.slice a1 y2.length c1), Box p2 [.int .i64 0, .slice none 0 0], Box p1 [.int .i64 x0_0, .slice a_x0_1 x0_1.length c_x0_1]] := HT
  refine ⟨_, rfl, nS, fun a HF => ?_⟩
  refine wc_alloc (cs := [.int .i64 0, .slice none 0 0]) HF HT zr29 rfl rfl rfl (fun p3 w HT hb => ⟨nS, fun a HF => ?_⟩)
  refine wc_storeB (cs' := [.int .i64 y1, .slice a1 y2.length c1]) HF HT rfl rfl (fun w => (ag29 w).2) rfl rfl rfl rfl rfl (fun w HT => ⟨nS, ?_⟩)
  refine wc_end ?_
  refine then_n ?_
  refine wp_seq ?_
  refine wp_seq ?_
  refine wc_text ?_
  refine wc_loadA (vs := [.int .i64 x0_0, .slice a_x0_1 x0_1.length c_x0_1]) HF rfl ag29 rfl ((HT.boxAt 3 rfl).part 0 2) rfl rfl (fun a HF => ?_)
  obtain ⟨y3, hx2, h⟩ := obs h
  refine wc_call HF cf14 rfl (w_spec_MemOk fuel hx2 (HT.ro hr_x0_1).any) rfl rfl ?_
  rintro e w ⟨rfl, hE⟩
  have hb := hE.below
  have HT := HT.pure hE
  have HT : St w0 (fun _ => False) w [Box p3 [.int .i64 y1, .slice a1 y2.length c1], Own 61 (rowT y2) (.slice a1 y2.length c1), Box p2 [.int .i64 0, .slice none 0 0], Box p1 [.int .i64 x0_0, .slice a_x0_1 x0_1.length c_x0_1]] := HT
  refine ⟨_, rfl, nS, fun a HF => ?_⟩
  refine wc_not HF nS rfl rfl rfl (fun a HF => ?_)
  refine wc_move HF nS rfl rfl rfl (fun a HF => ?_)
  by_cases hb1 : y3 = true
  · have h := (if_pos hb1).symm.trans h
    refine wc_move HF nS rfl (HF.wy rfl rfl rfl rfl (notT hb1)) rfl (fun a HF => ?_)
    obtain ⟨y4, hx3, h⟩ := obs h
    refine wc_call HF cf52 rfl (w_spec_l3Cell fuel hx3) (HF.wy rfl rfl rfl rfl (notT hb1)) rfl ?_
    rintro e w ⟨rfl, hE⟩
    have hb := hE.below
    have HT := HT.pure hE
    have HT : St w0 (fun _ => False) w [Box p3 [.int .i64 y1, .slice a1 y2.length c1], Own 61 (rowT y2) (.slice a1 y2.length c1), Box p2 [.int .i64 0, .slice none 0 0], Box p1 [.int .i64 x0_0, .slice a_x0_1 x0_1.length c_x0_1]] := HT
    refine ⟨_, rfl, nS, fun a HF => ?_⟩
    refine wc_not HF nS rfl (HF.wy rfl rfl rfl rfl (notT hb1)) rfl (fun a HF => ?_)
    refine wc_pick (b := false) HF nS rfl (notT hb1) rfl rfl rfl (fun a HF => ?_)
    refine wc_move HF nS rfl rfl rfl (fun a HF => ?_)
    by_cases hb2 : y4 = true
    · have h := (if_pos hb2).symm.trans h
      refine wc_move HF nS rfl (HF.wy rfl rfl rfl rfl (notT hb2)) rfl (fun a HF => ?_)
      obtain ⟨y5, hx4, h⟩ := obs h
      refine wc_call HF cf46 rfl (w_spec_l1In fuel hx4) (HF.wy rfl rfl rfl rfl (notT hb2)) rfl ?_
      rintro e w ⟨rfl, hE⟩
      have hb := hE.below
      have HT := HT.pure hE
      have HT : St w0 (fun _ => False) w [Box p3 [.int .i64 y1, .slice a1 y2.length c1], Own 61 (rowT y2) (.slice a1 y2.length c1), Box p2 [.int .i64 0, .slice none 0 0], Box p1 [.int .i64 x0_0, .slice a_x0_1 x0_1.length c_x0_1]] := HT
      refine ⟨_, rfl, nS, fun a HF => ?_⟩
      refine wc_not HF nS rfl (HF.wy rfl rfl rfl rfl (notT hb2)) rfl (fun a HF => ?_)
      refine wc_pick (b := false) HF nS rfl (notT hb2) rfl rfl rfl (fun a HF => ?_)
      refine wc_move HF nS rfl rfl rfl (fun a HF => ?_)
      by_cases hb3 : y5 = true
      · have h := (if_pos hb3).symm.trans h
        refine wc_faddr HF nS rfl fl29_1 (HF.wy rfl rfl rfl rfl (notT hb3)) rfl (fun a HF => ?_)
        refine wc_load HF rfl sc27 ((HT.boxAt 3 rfl).get 1 rfl) (HF.wy rfl rfl rfl rfl (notT hb3)) rfl (fun a HF => ?_)
        refine wc_move HF nS rfl (HF.wy rfl rfl rfl rfl (notT hb3)) rfl (fun a HF => ?_)
        obtain ⟨e1, hx5, h⟩ := obs h
        obtain ⟨b1, o1, ha1⟩ := (HT.ro hr_x0_1).any.addr hx5
        refine wc_ixaddr HF nS el27 rfl ha1 ((HT.ro hr_x0_1).any).neq rfl hx5 (HF.wy rfl rfl rfl rfl (notT hb3)) rfl (fun a HF => ?_)
        refine wc_faddr HF nS rfl fl61_2 (HF.wy rfl rfl rfl rfl (notT hb3)) rfl (fun a HF => ?_)
        have hc1 := (HT.ro hr_x0_1).any.flatAt ha1 hx5
        refine wc_load HF rfl sc3 (hc1.get 2 rfl) (HF.wy rfl rfl rfl rfl (notT hb3)) rfl (fun a HF => ?_)
        refine wc_bin HF nS rfl rfl b_ne (HF.wy rfl rfl rfl rfl (notT hb3)) rfl (fun a HF => ?_)
        refine wc_pick (b := false) HF nS rfl (notT hb3) rfl rfl rfl (fun a HF => ?_)
        refine wc_end ?_
        refine then_n ?_
        by_cases hb4 : e1.c = 0
        · have h := (if_pos hb4).symm.trans h
          refine wp_if (b' := false) HF rfl (notT (decide_eq_true hb4)) ?_
          refine wp_skip ?_
          refine then_n ?_
          refine wp_seq ?_
          refine wc_text ?_
          refine wc_faddr HF nS rfl fl29_1 rfl rfl (fun a HF => ?_)
          refine wc_load HF rfl sc27 ((HT.boxAt 0 rfl).get 1 rfl) rfl rfl (fun a HF => ?_)
          refine wc_move HF nS rfl rfl rfl (fun a HF => ?_)
          refine wc_move HF nS rfl rfl rfl (fun a HF => ?_)
          obtain ⟨e2, hx6, h⟩ := obs h
          obtain ⟨b2, o2, ha2⟩ := (HT.rdAt 1 rfl).addr hx6
          refine wc_ixaddr HF nS el27 rfl ha2 ((HT.rdAt 1 rfl)).neq rfl hx6 rfl rfl (fun a HF => ?_)
          refine wc_faddr HF nS rfl fl61_2 rfl rfl (fun a HF => ?_)
          have HT : St w0 (fun _ => False) w [Own 61 (rowT y2) (.slice a1 y2.length c1), Box p3 [.int .i64 y1, .slice a1 y2.length c1], Box p2 [.int .i64 0, .slice none 0 0], Box p1 [.int .i64 x0_0, .slice a_x0_1 x0_1.length c_x0_1]] := HT.pick 1
          refine wc_storeR (i := x1) (j := 2) (x' := (⟨e2.a, e2.b, x2⟩ : I3)) HF HT ha2 rfl rfl (fun w => (sc3 w).2) rfl rfl hx6 rfl rfl rfl rfl (fun w HT => ⟨nS, ?_⟩)
          refine wc_end ?_
          refine then_n ?_
          refine wp_seq ?_
          refine wc_text ?_
          refine wc_loadA (vs := [.int .i64 y1, .slice a1 y2.length c1]) HF rfl ag29 rfl ((HT.boxAt 1 rfl).part 0 2) rfl rfl (fun a HF => ?_)
          have HT : St w0 (fun _ => False) w [Box p2 [.int .i64 0, .slice none 0 0], Own 61 (rowT (y2.set x1.toNat (⟨e2.a, e2.b, x2⟩ : I3))) (.slice a1 y2.length c1), Box p3 [.int .i64 y1, .slice a1 y2.length c1], Box p1 [.int .i64 x0_0, .slice a_x0_1 x0_1.length c_x0_1]] := HT.pick 2
          refine wc_storeB (cs' := [.int .i64 y1, .slice a1 y2.length c1]) HF HT rfl rfl (fun w => (ag29 w).2) rfl rfl rfl rfl rfl (fun w HT => ⟨nS, ?_⟩)
          refine wc_assign HF nS rfl rfl rfl (fun a HF => ?_)
          refine wc_end ?_
          refine then_n ?_
          refine wp_ret ?_
          have hj1 := Option.some.inj h
          obtain ⟨hi1, hj2⟩ := Prod.mk.inj hj1
          subst hi1
          obtain ⟨hi2, hj3⟩ := Prod.mk.inj hj2
          subst hi2
          subst hj3
          refine bp_ret HF (res_cell_tmp (vs := [.int .i64 y1, .slice a1 y2.length c1]) rfl HF rfl ag29 rfl (HT.boxAt 0 rfl) rfl) ?_
          have HT : St w0 (fun _ => False) w [Own 61 (rowT (y2.set x1.toNat (⟨e2.a, e2.b, x2⟩ : I3))) (.slice a1 y2.length c1), Box p2 [.int .i64 y1, .slice a1 y2.length c1], Box p3 [.int .i64 y1, .slice a1 y2.length c1], Box p1 [.int .i64 x0_0, .slice a_x0_1 x0_1.length c_x0_1]] := HT.pick 1
          have HT : St w0 (fun _ => False) w [Own 61 (rowT (y2.set x1.toNat (⟨e2.a, e2.b, x2⟩ : I3))) (.slice a1 y2.length c1)] := HT.take 1
          exact ⟨a1, y2.length, c1, rfl, HT⟩
        · have h := (if_neg hb4).symm.trans h
          refine wp_if (b' := true) HF rfl (notF (decide_eq_false hb4)) ?_
          refine wp_seq ?_
          refine wc_text ?_
          refine wc_loadA (vs := [.int .i64 y1, .slice a1 y2.length c1]) HF rfl ag29 rfl ((HT.boxAt 0 rfl).part 0 2) rfl rfl (fun a HF => ?_)
          have HT : St w0 (fun _ => False) w [Box p2 [.int .i64 0, .slice none 0 0], Box p3 [.int .i64 y1, .slice a1 y2.length c1], Own 61 (rowT y2) (.slice a1 y2.length c1), Box p1 [.int .i64 x0_0, .slice a_x0_1 x0_1.length c_x0_1]] := HT.pick 2
          refine wc_storeB (cs' := [.int .i64 y1, .slice a1 y2.length c1]) HF HT rfl rfl (fun w => (ag29 w).2) rfl rfl rfl rfl rfl (fun w HT => ⟨nS, ?_⟩)
          refine wc_assign HF nS rfl rfl rfl (fun a HF => ?_)
          refine wc_end ?_
          refine then_n ?_
          refine wp_ret ?_
          have hj4 := Option.some.inj h
          obtain ⟨hi4, hj5⟩ := Prod.mk.inj hj4
          subst hi4
          obtain ⟨hi5, hj6⟩ := Prod.mk.inj hj5
          subst hi5
          subst hj6
          refine then_r (?_)
          refine bp_ret HF (res_cell_tmp (vs := [.int .i64 y1, .slice a1 y2.length c1]) rfl HF rfl ag29 rfl (HT.boxAt 0 rfl) rfl) ?_
          have HT : St w0 (fun _ => False) w [Own 61 (rowT y2) (.slice a1 y2.length c1), Box p2 [.int .i64 y1, .slice a1 y2.length c1], Box p3 [.int .i64 y1, .slice a1 y2.length c1], Box p1 [.int .i64 x0_0, .slice a_x0_1 x0_1.length c_x0_1]] := HT.pick 2
          have HT : St w0 (fun _ => False) w [Own 61 (rowT y2) (.slice a1 y2.length c1)] := HT.take 1
          exact ⟨a1, y2.length, c1, rfl, HT⟩
      · have h := (if_neg hb3).symm.trans h
        refine wc_skip HF nS (HF.wn rfl rfl rfl rfl (notF (Bool.eq_false_iff.2 hb3))) rfl (fun a HF => ?_)
        refine wc_skip HF nS (HF.wn rfl rfl rfl rfl (notF (Bool.eq_false_iff.2 hb3))) rfl (fun a HF => ?_)
        refine wc_skip HF nS (HF.wn rfl rfl rfl rfl (notF (Bool.eq_false_iff.2 hb3))) rfl (fun a HF => ?_)
        refine wc_skip HF nS (HF.wn rfl rfl rfl rfl (notF (Bool.eq_false_iff.2 hb3))) rfl (fun a HF => ?_)
        refine wc_skip HF nS (HF.wn rfl rfl rfl rfl (notF (Bool.eq_false_iff.2 hb3))) rfl (fun a HF => ?_)
        refine wc_skip HF nS (HF.wn rfl rfl rfl rfl (notF (Bool.eq_false_iff.2 hb3))) rfl (fun a HF => ?_)
        refine wc_skip HF nS (HF.wn rfl rfl rfl rfl (notF (Bool.eq_false_iff.2 hb3))) rfl (fun a HF => ?_)
        refine wc_pick (b := true) HF nS rfl (notF (Bool.eq_false_iff.2 hb3)) rfl rfl rfl (fun a HF => ?_)
        refine wc_end ?_
        refine then_n ?_
        refine wp_if (b' := true) HF rfl rfl ?_
        refine wp_seq ?_
        refine wc_text ?_
        refine wc_loadA (vs := [.int .i64 y1, .slice a1 y2.length c1]) HF rfl ag29 rfl ((HT.boxAt 0 rfl).part 0 2) rfl rfl (fun a HF => ?_)
        have HT : St w0 (fun _ => False) w [Box p2 [.int .i64 0, .slice none 0 0], Box p3 [.int .i64 y1, .slice a1 y2.length c1], Own 61 (rowT y2) (.slice a1 y2.length c1), Box p1 [.int .i64 x0_0, .slice a_x0_1 x0_1.length c_x0_1]] := HT.pick 2
        refine wc_storeB (cs' := [.int .i64 y1, .slice a1 y2.length c1]) HF HT rfl rfl (fun w => (ag29 w).2) rfl rfl rfl rfl rfl (fun w HT => ⟨nS, ?_⟩)
        refine wc_assign HF nS rfl rfl rfl (fun a HF => ?_)
        refine wc_end ?_
        refine then_n ?_
        refine wp_ret ?_
        have hj7 := Option.some.inj h
        obtain ⟨hi7, hj8⟩ := Prod.mk.inj hj7
        subst hi7
        obtain ⟨hi8, hj9⟩ := Prod.mk.inj hj8
        subst hi8
        subst hj9
        refine then_r (?_)
        refine bp_ret HF (res_cell_tmp (vs := [.int .i64 y1, .slice a1 y2.length c1]) rfl HF rfl ag29 rfl (HT.boxAt 0 rfl) rfl) ?_
        have HT : St w0 (fun _ => False) w [Own 61 (rowT y2) (.slice a1 y2.length c1), Box p2 [.int .i64 y1, .slice a1 y2.length c1], Box p3 [.int .i64 y1, .slice a1 y2.length c1], Box p1 [.int .i64 x0_0, .slice a_x0_1 x0_1.length c_x0_1]] := HT.pick 2
        have HT : St w0 (fun _ => False) w [Own 61 (rowT y2) (.slice a1 y2.length c1)] := HT.take 1
        exact ⟨a1, y2.length, c1, rfl, HT⟩
    · have h := (if_neg hb2).symm.trans h
      refine wc_skip HF nS (HF.wn rfl rfl rfl rfl (notF (Bool.eq_false_iff.2 hb2))) rfl (fun a HF => ?_)
      refine wc_skip HF nS (HF.wn rfl rfl rfl rfl (notF (Bool.eq_false_iff.2 hb2))) rfl (fun a HF => ?_)
      refine wc_skip HF nS (HF.wn rfl rfl rfl rfl (notF (Bool.eq_false_iff.2 hb2))) rfl (fun a HF => ?_)
      refine wc_pick (b := true) HF nS rfl (notF (Bool.eq_false_iff.2 hb2)) rfl rfl rfl (fun a HF => ?_)
      refine wc_move HF nS rfl rfl rfl (fun a HF => ?_)
      refine wc_skip HF nS (HF.wn rfl rfl rfl rfl rfl) rfl (fun a HF => ?_)
      refine wc_skip HF nS (HF.wn rfl rfl rfl rfl rfl) rfl (fun a HF => ?_)
      refine wc_skip HF nS (HF.wn rfl rfl rfl rfl rfl) rfl (fun a HF => ?_)
      refine wc_skip HF nS (HF.wn rfl rfl rfl rfl rfl) rfl (fun a HF => ?_)
      refine wc_skip HF nS (HF.wn rfl rfl rfl rfl rfl) rfl (fun a HF => ?_)
      refine wc_skip HF nS (HF.wn rfl rfl rfl rfl rfl) rfl (fun a HF => ?_)
      refine wc_skip HF nS (HF.wn rfl rfl rfl rfl rfl) rfl (fun a HF => ?_)
      refine wc_pick (b := true) HF nS rfl rfl rfl rfl rfl (fun a HF => ?_)
      refine wc_end ?_
      refine then_n ?_
      refine wp_if (b' := true) HF rfl rfl ?_
      refine wp_seq ?_
      refine wc_text ?_
      refine wc_loadA (vs := [.int .i64 y1, .slice a1 y2.length c1]) HF rfl ag29 rfl ((HT.boxAt 0 rfl).part 0 2) rfl rfl (fun a HF => ?_)
      have HT : St w0 (fun _ => False) w [Box p2 [.int .i64 0, .slice none 0 0], Box p3 [.int .i64 y1, .slice a1 y2.length c1], Own 61 (rowT y2) (.slice a1 y2.length c1), Box p1 [.int .i64 x0_0, .slice a_x0_1 x0_1.length c_x0_1]] := HT.pick 2
      refine wc_storeB (cs' := [.int .i64 y1, .slice a1 y2.length c1]) HF HT rfl rfl (fun w => (ag29 w).2) rfl rfl rfl rfl rfl (fun w HT => ⟨nS, ?_⟩)
      refine wc_assign HF nS rfl rfl rfl (fun a HF => ?_)
      refine wc_end ?_
      refine then_n ?_
      refine wp_ret ?_
      have hj10 := Option.some.inj h
      obtain ⟨hi10, hj11⟩ := Prod.mk.inj hj10
      subst hi10
      obtain ⟨hi11, hj12⟩ := Prod.mk.inj hj11
      subst hi11
      subst hj12
      refine then_r (?_)
      refine bp_ret HF (res_cell_tmp (vs := [.int .i64 y1, .slice a1 y2.length c1]) rfl HF rfl ag29 rfl (HT.boxAt 0 rfl) rfl) ?_
      have HT : St w0 (fun _ => False) w [Own 61 (rowT y2) (.slice a1 y2.length c1), Box p2 [.int .i64 y1, .slice a1 y2.length c1], Box p3 [.int .i64 y1, .slice a1 y2.length c1], Box p1 [.int .i64 x0_0, .slice a_x0_1 x0_1.length c_x0_1]] := HT.pick 2
      have HT : St w0 (fun _ => False) w [Own 61 (rowT y2) (.slice a1 y2.length c1)] := HT.take 1
      exact ⟨a1, y2.length, c1, rfl, HT⟩
  · have h := (if_neg hb1).symm.trans h
    refine wc_skip HF nS (HF.wn rfl rfl rfl rfl (notF (Bool.eq_false_iff.2 hb1))) rfl (fun a HF => ?_)
    refine wc_skip HF nS (HF.wn rfl rfl rfl rfl (notF (Bool.eq_false_iff.2 hb1))) rfl (fun a HF => ?_)
    refine wc_skip HF nS (HF.wn rfl rfl rfl rfl (notF (Bool.eq_false_iff.2 hb1))) rfl (fun a HF => ?_)
    refine wc_pick (b := true) HF nS rfl (notF (Bool.eq_false_iff.2 hb1)) rfl rfl rfl (fun a HF => ?_)
    refine wc_move HF nS rfl rfl rfl (fun a HF => ?_)
    refine wc_skip HF nS (HF.wn rfl rfl rfl rfl rfl) rfl (fun a HF => ?_)
    refine wc_skip HF nS (HF.wn rfl rfl rfl rfl rfl) rfl (fun a HF => ?_)
    refine wc_skip HF nS (HF.wn rfl rfl rfl rfl rfl) rfl (fun a HF => ?_)
    refine wc_pick (b := true) HF nS rfl rfl rfl rfl rfl (fun a HF => ?_)
    refine wc_move HF nS rfl rfl rfl (fun a HF => ?_)
    refine wc_skip HF nS (HF.wn rfl rfl rfl rfl rfl) rfl (fun a HF => ?_)
    refine wc_skip HF nS (HF.wn rfl rfl rfl rfl rfl) rfl (fun a HF => ?_)
    refine wc_skip HF nS (HF.wn rfl rfl rfl rfl rfl) rfl (fun a HF => ?_)
    refine wc_skip HF nS (HF.wn rfl rfl rfl rfl rfl) rfl (fun a HF => ?_)
    refine wc_skip HF nS (HF.wn rfl rfl rfl rfl rfl) rfl (fun a HF => ?_)
    refine wc_skip HF nS (HF.wn rfl rfl rfl rfl rfl) rfl (fun a HF => ?_)
    refine wc_skip HF nS (HF.wn rfl rfl rfl rfl rfl) rfl (fun a HF => ?_)
    refine wc_pick (b := true) HF nS rfl rfl rfl rfl rfl (fun a HF => ?_)
    refine wc_end ?_
    refine then_n ?_
    refine wp_if (b' := true) HF rfl rfl ?_
    refine wp_seq ?_
    refine wc_text ?_
    refine wc_loadA (vs := [.int .i64 y1, .slice a1 y2.length c1]) HF rfl ag29 rfl ((HT.boxAt 0 rfl).part 0 2) rfl rfl (fun a HF => ?_)
    have HT : St w0 (fun _ => False) w [Box p2 [.int .i64 0, .slice none 0 0], Box p3 [.int .i64 y1, .slice a1 y2.length c1], Own 61 (rowT y2) (.slice a1 y2.length c1), Box p1 [.int .i64 x0_0, .slice a_x0_1 x0_1.length c_x0_1]] := HT.pick 2
    refine wc_storeB (cs' := [.int .i64 y1, .slice a1 y2.length c1]) HF HT rfl rfl (fun w => (ag29 w).2) rfl rfl rfl rfl rfl (fun w HT => ⟨nS, ?_⟩)
    refine wc_assign HF nS rfl rfl rfl (fun a HF => ?_)
    refine wc_end ?_
    refine then_n ?_
    refine wp_ret ?_
    have hj13 := Option.some.inj h
    obtain ⟨hi13, hj14⟩ := Prod.mk.inj hj13
    subst hi13
    obtain ⟨hi14, hj15⟩ := Prod.mk.inj hj14
    subst hi14
    subst hj15
    refine then_r (?_)
    refine bp_ret HF (res_cell_tmp (vs := [.int .i64 y1, .slice a1 y2.length c1]) rfl HF rfl ag29 rfl (HT.boxAt 0 rfl) rfl) ?_
    have HT : St w0 (fun _ => False) w [Own 61 (rowT y2) (.slice a1 y2.length c1), Box p2 [.int .i64 y1, .slice a1 y2.length c1], Box p3 [.int .i64 y1, .slice a1 y2.length c1], Box p1 [.int .i64 x0_0, .slice a_x0_1 x0_1.length c_x0_1]] := HT.pick 2
    have HT : St w0 (fun _ => False) w [Own 61 (rowT y2) (.slice a1 y2.length c1)] := HT.take 1
    exact ⟨a1, y2.length, c1, rfl, HT⟩

def m_laws_FnMemory (fuel : Nat) (x0 : List UInt8) : Option Bool :=
  (m_laws_big fuel x0).bind fun y1 =>
  if y1 = true then
    some true
  else
    bind4 (m_spec_DrawLock fuel x0) fun y2 y3 y4 y5 =>
    bind3 (m_impl_Lock fuel y2 y3 y4 y5) fun y6 y7 y8 =>
    bind3 (m_spec_Lock fuel y2 y3 y4 y5) fun y9 y10 y11 =>
    if (y8 == y11) = true then
      if y8 = true then
        (m_spec_MemOk fuel y6 y7).bind fun y12 =>
        if y12 = true then
          (
            bind3 (m_impl_Lock fuel y6 y7 y4 y5) fun y13 y14 y15 =>
            bind3 (m_impl_Store fuel y6 y7 y4 y5 77) fun y16 y17 y18 =>
            bind3 (m_impl_Unlock fuel y16 y17 y4 y5 y16) fun y19 y20 y21 =>
            if (99 : Int) ≠ 0 then
              if in64 ((y5.tmod 99) + 1) then
                bind3 (m_impl_Store fuel y6 y7 y4 ((y5.tmod 99) + 1) 5) fun y22 y23 y24 =>
                bind2 (m_impl_LoadVal fuel y19 y20 y4) fun y25 y26 =>
                bind3 (m_impl_LoadLock fuel y19 y20 y4) fun y27 y28 y29 =>
                if y15 = true then
                  some (.ret false)
                else
                  if y18 = true then
                    if y21 = true then
                      if y24 = true then
                        some (.ret false)
                      else
                        if y25 = 77 then
                          if y27 = y2 then
                            if y28 = 0 then
                              (m_spec_MemOk fuel y19 y20).bind fun y30 =>
                              if y30 = true then
                                some (.brk ())
                              else
                                some (.ret false)
                            else
                              some (.ret false)
                          else
                            some (.ret false)
                        else
                          some (.ret false)
                    else
                      some (.ret false)
                  else
                    some (.ret false)
              else none
            else none).bind <| contL <| un1 fun _ =>
          bind2 (m_spec_DrawTick fuel x0) fun y31 y32 =>
          bind3 (m_impl_Tick fuel y31 y32) fun y33 y34 y35 =>
          if y35 = 0 then
            (m_laws_sameMem fuel y33 y34 y31 y32).bind fun y36 =>
            if y36 = true then
              some true
            else
              if in64 (y31 + 1) then
                if y35 = (y31 + 1) then
                  if y33 = y35 then
                    (m_spec_MemOk fuel y33 y34).bind fun y37 =>
                    if y37 = true then
                      (m_impl_Values fuel y33 y34).bind fun y38 =>
                      (m_impl_Values fuel y31 y32).bind fun y39 =>
                      (m_laws_sameInts fuel y38 y39).bind fun y40 =>
                      some y40
                    else
                      some false
                  else
                    some false
                else
                  some false
              else none
          else
            if in64 (y31 + 1) then
              if y35 = (y31 + 1) then
                if y33 = y35 then
                  (m_spec_MemOk fuel y33 y34).bind fun y41 =>
                  if y41 = true then
                    (m_impl_Values fuel y33 y34).bind fun y42 =>
                    (m_impl_Values fuel y31 y32).bind fun y43 =>
                    (m_laws_sameInts fuel y42 y43).bind fun y44 =>
                    some y44
                  else
                    some false
                else
                  some false
              else
                some false
            else none
        else
          some false
      else
        (m_laws_sameMem fuel y6 y7 y2 y3).bind fun y45 =>
        if y45 = true then
          (some ()).bind fun _ =>
          bind2 (m_spec_DrawTick fuel x0) fun y46 y47 =>
          bind3 (m_impl_Tick fuel y46 y47) fun y48 y49 y50 =>
          if y50 = 0 then
            (m_laws_sameMem fuel y48 y49 y46 y47).bind fun y51 =>
            if y51 = true then
              some true
            else
              if in64 (y46 + 1) then
                if y50 = (y46 + 1) then
                  if y48 = y50 then
                    (m_spec_MemOk fuel y48 y49).bind fun y52 =>
                    if y52 = true then
                      (m_impl_Values fuel y48 y49).bind fun y53 =>
                      (m_impl_Values fuel y46 y47).bind fun y54 =>
                      (m_laws_sameInts fuel y53 y54).bind fun y55 =>
                      some y55
                    else
                      some false
                  else
                    some false
                else
                  some false
              else none
          else
            if in64 (y46 + 1) then
              if y50 = (y46 + 1) then
                if y48 = y50 then
                  (m_spec_MemOk fuel y48 y49).bind fun y56 =>
                  if y56 = true then
                    (m_impl_Values fuel y48 y49).bind fun y57 =>
                    (m_impl_Values fuel y46 y47).bind fun y58 =>
                    (m_laws_sameInts fuel y57 y58).bind fun y59 =>
                    some y59
                  else
                    some false
                else
                  some false
              else
                some false
            else none
        else
          some false
    else
      some false

set_option maxRecDepth 100000 in
set_option maxHeartbeats 4000000 in
theorem w_laws_FnMemory (fuel : Nat) {x0 : List UInt8} {a_x0 : Option Addr} {n_x0 c_x0 : Nat} {r0 : Bool} {w0 : World} (h : m_laws_FnMemory fuel x0 = some r0) (hr_x0 : RdT (fun b => ¬ False) w0 (rowT x0) (.slice a_x0 n_x0 c_x0)) :
    Calls Try.prog 12 #[.slice a_x0 n_x0 c_x0] w0 fun e w => e = .returned (.bool r0) ∧ St w0 (fun _ => False) w [] := by
  obtain rfl := hr_x0.neq
  have HT : St w0 (fun _ => False) w0 [] := St.init0
  rw [m_laws_FnMemory] at h
  refine calls_fr (n := 184) [.slice a_x0 x0.length c_x0] Try.func12 rfl rfl rfl (fun a HF => ?_)
  have HT : St w0 (fun _ => False) w0 [] := HT
  refine wp_seq ?_
  refine wc_text ?_
  refine wc_assign HF nS rfl rfl rfl (fun a HF => ?_)
  refine wc_end ?_
  refine then_n ?_
  refine wp_seq ?_
  refine wp_seq ?_
  refine wc_text ?_
  refine wc_move HF nS rfl rfl rfl (fun a HF => ?_)
  obtain ⟨y1, hx1, h⟩ := obs h
  refine wc_call HF cf40 rfl (w_laws_big fuel hx1 (HT.ro hr_x0).any) rfl rfl ?_
  rintro e w ⟨rfl, hE⟩
  have hb := hE.below
  have HT := HT.pure hE
  have HT : St w0 (fun _ => False) w [] := HT
  refine ⟨_, rfl, nS, fun a HF => ?_⟩
  refine wc_end ?_
  refine then_n ?_
  by_cases hb1 : y1 = true
  · have h := (if_pos hb1).symm.trans h
    refine wp_if (b' := true) HF rfl hb1 ?_
    refine wp_seq ?_
    refine wc_text ?_
    refine wc_assign HF nS rfl rfl rfl (fun a HF => ?_)
    refine wc_end ?_
    refine then_n ?_
    refine wp_ret ?_
    obtain rfl := Option.some.inj h
    refine then_r (?_)
    refine bp_ret HF (res_one rfl HF rfl) ?_
    exact ⟨rfl, HT⟩
  · have h := (if_neg hb1).symm.trans h
    refine wp_if (b' := false) HF rfl (Bool.eq_false_iff.2 hb1) ?_
    refine wp_skip ?_
    refine then_n ?_
    refine wp_seq ?_
    refine wc_text ?_
    refine wc_move HF nS rfl rfl rfl (fun a HF => ?_)
    obtain ⟨y2, y3, y4, y5, hx2, h⟩ := obs4 h
    refine wc_call HF cf41 rfl (w_spec_DrawLock fuel hx2 (HT.ro hr_x0).any) rfl rfl ?_
    rintro e w ⟨a1, n1, c1, rfl, hE⟩
    have hb := hE.below
    have HT := HT.pure hE
    obtain rfl := (HT.rdAt 0 rfl).neq
    have HT : St w0 (fun _ => False) w [Own 61 (rowT y3) (.slice a1 y3.length c1)] := HT
    refine ⟨_, rfl, nS, fun a HF => ?_⟩
    refine wc_move HF nS rfl rfl rfl (fun a HF => ?_)
    refine wc_extract (v := .agg #[.int .i64 y2, .slice a1 y3.length c1]) HF nS rfl rfl rfl rfl (fun a HF => ?_)
    refine wc_extract (v := .int .i64 y4) HF nS rfl rfl rfl rfl (fun a HF => ?_)
    refine wc_extract (v := .int .i64 y5) HF nS rfl rfl rfl rfl (fun a HF => ?_)
    refine wc_alloc (cs := [.int .i64 0, .slice none 0 0]) HF HT zr29 rfl rfl rfl (fun p1 w HT hb => ⟨nS, fun a HF => ?_⟩)
    refine wc_storeB (cs' := [.int .i64 y2, .slice a1 y3.length c1]) HF HT rfl rfl (fun w => (ag29 w).2) rfl rfl rfl rfl rfl (fun w HT => ⟨nS, ?_⟩)
    refine wc_assign HF nS rfl rfl rfl (fun a HF => ?_)
    refine wc_assign HF nS rfl rfl rfl (fun a HF => ?_)
    refine wc_end ?_
    refine then_n ?_
    refine wp_seq ?_
    refine wc_text ?_
    refine wc_loadA (vs := [.int .i64 y2, .slice a1 y3.length c1]) HF rfl ag29 rfl ((HT.boxAt 0 rfl).part 0 2) rfl rfl (fun a HF => ?_)
    refine wc_move HF nS rfl rfl rfl (fun a HF => ?_)
    refine wc_move HF nS rfl rfl rfl (fun a HF => ?_)
    obtain ⟨y6, y7, y8, hx3, h⟩ := obs3 h
    refine wc_call HF cf35 rfl (w_impl_Lock fuel hx3 (HT.rdAt 1 rfl)) rfl rfl ?_
    rintro e w ⟨a2, n2, c2, rfl, hE⟩
    have hb := hE.below
    have HT := HT.pure hE
    obtain rfl := (HT.rdAt 0 rfl).neq
    have HT : St w0 (fun _ => False) w [Own 61 (rowT y7) (.slice a2 y7.length c2), Box p1 [.int .i64 y2, .slice a1 y3.length c1], Own 61 (rowT y3) (.slice a1 y3.length c1)] := HT
    refine ⟨_, rfl, nS, fun a HF => ?_⟩
    refine wc_move HF nS rfl rfl rfl (fun a HF => ?_)
    refine wc_extract (v := .agg #[.int .i64 y6, .slice a2 y7.length c2]) HF nS rfl rfl rfl rfl (fun a HF => ?_)
    refine wc_extract (v := .bool y8) HF nS rfl rfl rfl rfl (fun a HF => ?_)
    refine wc_alloc (cs := [.int .i64 0, .slice none 0 0]) HF HT zr29 rfl rfl rfl (fun p2 w HT hb => ⟨nS, fun a HF => ?_⟩)
    refine wc_storeB (cs' := [.int .i64 y6, .slice a2 y7.length c2]) HF HT rfl rfl (fun w => (ag29 w).2) rfl rfl rfl rfl rfl (fun w HT => ⟨nS, ?_⟩)
    refine wc_assign HF nS rfl rfl rfl (fun a HF => ?_)
    refine wc_end ?_
    refine then_n ?_
    refine wp_seq ?_
    refine wc_text ?_
    refine wc_loadA (vs := [.int .i64 y2, .slice a1 y3.length c1]) HF rfl ag29 rfl ((HT.boxAt 2 rfl).part 0 2) rfl rfl (fun a HF => ?_)
    refine wc_move HF nS rfl rfl rfl (fun a HF => ?_)
    refine wc_move HF nS rfl rfl rfl (fun a HF => ?_)
    obtain ⟨y9, y10, y11, hx4, h⟩ := obs3 h
    refine wc_call HF cf34 rfl (w_spec_Lock fuel hx4 (HT.rdAt 3 rfl)) rfl rfl ?_
    rintro e w ⟨a3, n3, c3, rfl, hE⟩
    have hb := hE.below
    have HT := HT.pure hE
    obtain rfl := (HT.rdAt 0 rfl).neq
    have HT : St w0 (fun _ => False) w [Own 61 (rowT y10) (.slice a3 y10.length c3), Box p2 [.int .i64 y6, .slice a2 y7.length c2], Own 61 (rowT y7) (.slice a2 y7.length c2), Box p1 [.int .i64 y2, .slice a1 y3.length c1], Own 61 (rowT y3) (.slice a1 y3.length c1)] := HT
    refine ⟨_, rfl, nS, fun a HF => ?_⟩
    refine wc_move HF nS rfl rfl rfl (fun a HF => ?_)
    refine wc_extract (v := .agg #[.int .i64 y9, .slice a3 y10.length c3]) HF nS rfl rfl rfl rfl (fun a HF => ?_)
    refine wc_extract (v := .bool y11) HF nS rfl rfl rfl rfl (fun a HF => ?_)
    refine wc_alloc (cs := [.int .i64 0, .slice none 0 0]) HF HT zr29 rfl rfl rfl (fun p3 w HT hb => ⟨nS, fun a HF => ?_⟩)
    refine wc_storeB (cs' := [.int .i64 y9, .slice a3 y10.length c3]) HF HT rfl rfl (fun w => (ag29 w).2) rfl rfl rfl rfl rfl (fun w HT => ⟨nS, ?_⟩)
    refine wc_assign HF nS rfl rfl rfl (fun a HF => ?_)
    refine wc_end ?_
    refine then_n ?_
    refine wp_seq ?_
    refine wp_seq ?_
    refine wc_text ?_
    refine wc_move HF nS rfl rfl rfl (fun a HF => ?_)
    refine wc_move HF nS rfl rfl rfl (fun a HF => ?_)
    refine wc_bin HF nS rfl rfl (b_bne Try.underlying4) rfl rfl (fun a HF => ?_)
    refine wc_move HF nS rfl rfl rfl (fun a HF => ?_)
    by_cases hb2 : (y8 == y11) = true
    · have h := (if_pos hb2).symm.trans h
      refine wc_move HF nS rfl (HF.wy rfl rfl rfl rfl (notT hb2)) rfl (fun a HF => ?_)
      refine wc_not HF nS rfl (HF.wy rfl rfl rfl rfl (notT hb2)) rfl (fun a HF => ?_)
      refine wc_move HF nS rfl (HF.wy rfl rfl rfl rfl (notT hb2)) rfl (fun a HF => ?_)
      by_cases hb3 : y8 = true
      · have h := (if_pos hb3).symm.trans h
        refine wc_skip HF nS (HF.wn rfl rfl rfl rfl (notT hb3)) rfl (fun a HF => ?_)
        refine wc_skip HF nS (HF.wn rfl rfl rfl rfl (notT hb3)) rfl (fun a HF => ?_)
        refine wc_skip HF nS (HF.wn rfl rfl rfl rfl (notT hb3)) rfl (fun a HF => ?_)
        refine wc_skip HF nS (HF.wn rfl rfl rfl rfl (notT hb3)) rfl (fun a HF => ?_)
        refine wc_pick (b := false) HF nS rfl (notT hb3) rfl (HF.wy rfl rfl rfl rfl (notT hb2)) rfl (fun a HF => ?_)
        refine wc_pick (b := false) HF nS rfl (notT hb2) rfl rfl rfl (fun a HF => ?_)
        refine wc_move HF nS rfl rfl rfl (fun a HF => ?_)
        refine wc_move HF nS rfl (HF.wy rfl rfl rfl rfl rfl) rfl (fun a HF => ?_)
        refine wc_move HF nS rfl (HF.wy rfl rfl rfl rfl rfl) rfl (fun a HF => ?_)
        refine wc_loadA (vs := [.int .i64 y6, .slice a2 y7.length c2]) HF rfl ag29 rfl ((HT.boxAt 2 rfl).part 0 2) (HF.wy rfl rfl rfl rfl hb3) rfl (fun a HF => ?_)
        obtain ⟨y12, hx5, h⟩ := obs h
        refine wc_call HF cf14 rfl (w_spec_MemOk fuel hx5 (HT.rdAt 3 rfl)) (HF.wy rfl rfl rfl rfl hb3) rfl ?_
        rintro e w ⟨rfl, hE⟩
        have hb := hE.below
        have HT := HT.pure hE
        have HT : St w0 (fun _ => False) w [Box p3 [.int .i64 y9, .slice a3 y10.length c3], Own 61 (rowT y10) (.slice a3 y10.length c3), Box p2 [.int .i64 y6, .slice a2 y7.length c2], Own 61 (rowT y7) (.slice a2 y7.length c2), Box p1 [.int .i64 y2, .slice a1 y3.length c1], Own 61 (rowT y3) (.slice a1 y3.length c1)] := HT
        refine ⟨_, rfl, nS, fun a HF => ?_⟩
        refine wc_not HF nS rfl (HF.wy rfl rfl rfl rfl hb3) rfl (fun a HF => ?_)
        refine wc_pick (b := true) HF nS rfl hb3 rfl (HF.wy rfl rfl rfl rfl rfl) rfl (fun a HF => ?_)
        refine wc_pick (b := false) HF nS rfl rfl rfl rfl rfl (fun a HF => ?_)
        refine wc_end ?_
        refine then_n ?_
        by_cases hb4 : y12 = true
        · have h := (if_pos hb4).symm.trans h
          refine wp_if (b' := false) HF rfl (notT hb4) ?_
          refine wp_skip ?_
          refine then_n ?_
          obtain ⟨q1, hx6, h⟩ := obs h
          refine wp_cut (fun a w => q1 = .brk () ∧ Fr a 184 [(0, .slice a_x0 x0.length c_x0)] ∧ St w0 (fun _ => False) w []) ?_ ?_
          · have hk1 := h
            have h := hx6
            refine wp_seq ?_
            refine wc_text ?_
            refine wc_move HF nS rfl rfl rfl (fun a HF => ?_)
            refine wc_end ?_
            refine then_n ?_
            refine wp_if (b' := true) HF rfl hb3 ?_
            refine wp_seq ?_
            refine wc_text ?_
            refine wc_loadA (vs := [.int .i64 y6, .slice a2 y7.length c2]) HF rfl ag29 rfl ((HT.boxAt 2 rfl).part 0 2) rfl rfl (fun a HF => ?_)
            refine wc_move HF nS rfl rfl rfl (fun a HF => ?_)
            refine wc_move HF nS rfl rfl rfl (fun a HF => ?_)
            obtain ⟨y13, y14, y15, hx7, h⟩ := obs3 h
            refine wc_call HF cf35 rfl (w_impl_Lock fuel hx7 (HT.rdAt 3 rfl)) rfl rfl ?_
            rintro e w ⟨a4, n4, c4, rfl, hE⟩
            have hb := hE.below
            have HT := HT.pure hE
            obtain rfl := (HT.rdAt 0 rfl).neq
            have HT : St w0 (fun _ => False) w [Own 61 (rowT y14) (.slice a4 y14.length c4), Box p3 [.int .i64 y9, .slice a3 y10.length c3], Own 61 (rowT y10) (.slice a3 y10.length c3), Box p2 [.int .i64 y6, .slice a2 y7.length c2], Own 61 (rowT y7) (.slice a2 y7.length c2), Box p1 [.int .i64 y2, .slice a1 y3.length c1], Own 61 (rowT y3) (.slice a1 y3.length c1)] := HT
            refine ⟨_, rfl, nS, fun a HF => ?_⟩
            refine wc_move HF nS rfl rfl rfl (fun a HF => ?_)
            refine wc_extract (v := .agg #[.int .i64 y13, .slice a4 y14.length c4]) HF nS rfl rfl rfl rfl (fun a HF => ?_)
            refine wc_extract (v := .bool y15) HF nS rfl rfl rfl rfl (fun a HF => ?_)
            refine wc_alloc (cs := [.int .i64 0, .slice none 0 0]) HF HT zr29 rfl rfl rfl (fun p4 w HT hb => ⟨nS, fun a HF => ?_⟩)
            refine wc_storeB (cs' := [.int .i64 y13, .slice a4 y14.length c4]) HF HT rfl rfl (fun w => (ag29 w).2) rfl rfl rfl rfl rfl (fun w HT => ⟨nS, ?_⟩)
            refine wc_assign HF nS rfl rfl rfl (fun a HF => ?_)
            refine wc_end ?_
            refine then_n ?_
            refine wp_seq ?_
            refine wc_text ?_
            refine wc_loadA (vs := [.int .i64 y6, .slice a2 y7.length c2]) HF rfl ag29 rfl ((HT.boxAt 4 rfl).part 0 2) rfl rfl (fun a HF => ?_)
            refine wc_move HF nS rfl rfl rfl (fun a HF => ?_)
            refine wc_move HF nS rfl rfl rfl (fun a HF => ?_)
            obtain ⟨y16, y17, y18, hx8, h⟩ := obs3 h
            refine wc_call HF cf37 rfl (w_impl_Store fuel hx8 (HT.rdAt 5 rfl)) rfl rfl ?_
            rintro e w ⟨a5, n5, c5, rfl, hE⟩
            have hb := hE.below
            have HT := HT.pure hE
            obtain rfl := (HT.rdAt 0 rfl).neq
            have HT : St w0 (fun _ => False) w [Own 61 (rowT y17) (.slice a5 y17.length c5), Box p4 [.int .i64 y13, .slice a4 y14.length c4], Own 61 (rowT y14) (.slice a4 y14.length c4), Box p3 [.int .i64 y9, .slice a3 y10.length c3], Own 61 (rowT y10) (.slice a3 y10.length c3), Box p2 [.int .i64 y6, .slice a2 y7.length c2], Own 61 (rowT y7) (.slice a2 y7.length c2), Box p1 [.int .i64 y2, .slice a1 y3.length c1], Own 61 (rowT y3) (.slice a1 y3.length c1)] := HT
            refine ⟨_, rfl, nS, fun a HF => ?_⟩
            refine wc_move HF nS rfl rfl rfl (fun a HF => ?_)
            refine wc_extract (v := .agg #[.int .i64 y16, .slice a5 y17.length c5]) HF nS rfl rfl rfl rfl (fun a HF => ?_)
            refine wc_extract (v := .bool y18) HF nS rfl rfl rfl rfl (fun a HF => ?_)
            refine wc_alloc (cs := [.int .i64 0, .slice none 0 0]) HF HT zr29 rfl rfl rfl (fun p5 w HT hb => ⟨nS, fun a HF => ?_⟩)
            refine wc_storeB (cs' := [.int .i64 y16, .slice a5 y17.length c5]) HF HT rfl rfl (fun w => (ag29 w).2) rfl rfl rfl rfl rfl (fun w HT => ⟨nS, ?_⟩)
            refine wc_assign HF nS rfl rfl rfl (fun a HF => ?_)
            refine wc_end ?_
            refine then_n ?_
            refine wp_seq ?_
            refine wc_text ?_
            refine wc_loadA (vs := [.int .i64 y16, .slice a5 y17.length c5]) HF rfl ag29 rfl ((HT.boxAt 0 rfl).part 0 2) rfl rfl (fun a HF => ?_)
            refine wc_move HF nS rfl rfl rfl (fun a HF => ?_)
            refine wc_move HF nS rfl rfl rfl (fun a HF => ?_)
            refine wc_faddr HF nS rfl fl29_0 rfl rfl (fun a HF => ?_)
            refine wc_load HF rfl sc3 ((HT.boxAt 0 rfl).get 0 rfl) rfl rfl (fun a HF => ?_)
            obtain ⟨y19, y20, y21, hx9, h⟩ := obs3 h
            refine wc_call HF cf39 rfl (w_impl_Unlock fuel hx9 (HT.rdAt 1 rfl)) rfl rfl ?_
            rintro e w ⟨a6, n6, c6, rfl, hE⟩
            have hb := hE.below
            have HT := HT.pure hE
            obtain rfl := (HT.rdAt 0 rfl).neq
            have HT : St w0 (fun _ => False) w [Own 61 (rowT y20) (.slice a6 y20.length c6), Box p5 [.int .i64 y16, .slice a5 y17.length c5], Own 61 (rowT y17) (.slice a5 y17.length c5), Box p4 [.int .i64 y13, .slice a4 y14.length c4], Own 61 (rowT y14) (.slice a4 y14.length c4), Box p3 [.int .i64 y9, .slice a3 y10.length c3], Own 61 (rowT y10) (.slice a3 y10.length c3), Box p2 [.int .i64 y6, .slice a2 y7.length c2], Own 61 (rowT y7) (.slice a2 y7.length c2), Box p1 [.int .i64 y2, .slice a1 y3.length c1], Own 61 (rowT y3) (.slice a1 y3.length c1)] := HT
            refine ⟨_, rfl, nS, fun a HF => ?_⟩
            refine wc_move HF nS rfl rfl rfl (fun a HF => ?_)
            refine wc_extract (v := .agg #[.int .i64 y19, .slice a6 y20.length c6]) HF nS rfl rfl rfl rfl (fun a HF => ?_)
            refine wc_extract (v := .bool y21) HF nS rfl rfl rfl rfl (fun a HF => ?_)
            refine wc_alloc (cs := [.int .i64 0, .slice none 0 0]) HF HT zr29 rfl rfl rfl (fun p6 w HT hb => ⟨nS, fun a HF => ?_⟩)
            refine wc_storeB (cs' := [.int .i64 y19, .slice a6 y20.length c6]) HF HT rfl rfl (fun w => (ag29 w).2) rfl rfl rfl rfl rfl (fun w HT => ⟨nS, ?_⟩)
            refine wc_assign HF nS rfl rfl rfl (fun a HF => ?_)
            refine wc_end ?_
            refine then_n ?_
            refine wp_seq ?_
            refine wc_text ?_
            refine wc_loadA (vs := [.int .i64 y6, .slice a2 y7.length c2]) HF rfl ag29 rfl ((HT.boxAt 8 rfl).part 0 2) rfl rfl (fun a HF => ?_)
            refine wc_move HF nS rfl rfl rfl (fun a HF => ?_)
            refine wc_move HF nS rfl rfl rfl (fun a HF => ?_)
            obtain ⟨hg1, h⟩ := grd h
            refine wc_bin HF nS rfl rfl (b_rem hg1) rfl rfl (fun a HF => ?_)
            obtain ⟨hg2, h⟩ := grd h
            refine wc_bin HF nS rfl rfl (b_add hg2) rfl rfl (fun a HF => ?_)
            obtain ⟨y22, y23, y24, hx10, h⟩ := obs3 h
            refine wc_call HF cf37 rfl (w_impl_Store fuel hx10 (HT.rdAt 9 rfl)) rfl rfl ?_
            rintro e w ⟨a7, n7, c7, rfl, hE⟩
            have hb := hE.below
            have HT := HT.pure hE
            obtain rfl := (HT.rdAt 0 rfl).neq
            have HT : St w0 (fun _ => False) w [Own 61 (rowT y23) (.slice a7 y23.length c7), Box p6 [.int .i64 y19, .slice a6 y20.length c6], Own 61 (rowT y20) (.slice a6 y20.length c6), Box p5 [.int .i64 y16, .slice a5 y17.length c5], Own 61 (rowT y17) (.slice a5 y17.length c5), Box p4 [.int .i64 y13, .slice a4 y14.length c4], Own 61 (rowT y14) (.slice a4 y14.length c4), Box p3 [.int .i64 y9, .slice a3 y10.length c3], Own 61 (rowT y10) (.slice a3 y10.length c3), Box p2 [.int .i64 y6, .slice a2 y7.length c2], Own 61 (rowT y7) (.slice a2 y7.length c2), Box p1 [.int .i64 y2, .slice a1 y3.length c1], Own 61 (rowT y3) (.slice a1 y3.length c1)] := HT
            refine ⟨_, rfl, nS, fun a HF => ?_⟩
            refine wc_move HF nS rfl rfl rfl (fun a HF => ?_)
            refine wc_extract (v := .agg #[.int .i64 y22, .slice a7 y23.length c7]) HF nS rfl rfl rfl rfl (fun a HF => ?_)
            refine wc_extract (v := .bool y24) HF nS rfl rfl rfl rfl (fun a HF => ?_)
            refine wc_alloc (cs := [.int .i64 0, .slice none 0 0]) HF HT zr29 rfl rfl rfl (fun p7 w HT hb => ⟨nS, fun a HF => ?_⟩)
            refine wc_storeB (cs' := [.int .i64 y22, .slice a7 y23.length c7]) HF HT rfl rfl (fun w => (ag29 w).2) rfl rfl rfl rfl rfl (fun w HT => ⟨nS, ?_⟩)
            refine wc_assign HF nS rfl rfl rfl (fun a HF => ?_)
            refine wc_end ?_
            refine then_n ?_
            refine wp_seq ?_
            refine wc_text ?_
            refine wc_loadA (vs := [.int .i64 y19, .slice a6 y20.length c6]) HF rfl ag29 rfl ((HT.boxAt 2 rfl).part 0 2) rfl rfl (fun a HF => ?_)
            refine wc_move HF nS rfl rfl rfl (fun a HF => ?_)
            obtain ⟨y25, y26, hx11, h⟩ := obs2 h
            refine wc_call HF cf21 rfl (w_impl_LoadVal fuel hx11 (HT.rdAt 3 rfl)) rfl rfl ?_
            rintro e w ⟨rfl, hE⟩
            have hb := hE.below
            have HT := HT.pure hE
            have HT : St w0 (fun _ => False) w [Box p7 [.int .i64 y22, .slice a7 y23.length c7], Own 61 (rowT y23) (.slice a7 y23.length c7), Box p6 [.int .i64 y19, .slice a6 y20.length c6], Own 61 (rowT y20) (.slice a6 y20.length c6), Box p5 [.int .i64 y16, .slice a5 y17.length c5], Own 61 (rowT y17) (.slice a5 y17.length c5), Box p4 [.int .i64 y13, .slice a4 y14.length c4], Own 61 (rowT y14) (.slice a4 y14.length c4), Box p3 [.int .i64 y9, .slice a3 y10.length c3], Own 61 (rowT y10) (.slice a3 y10.length c3), Box p2 [.int .i64 y6, .slice a2 y7.length c2], Own 61 (rowT y7) (.slice a2 y7.length c2), Box p1 [.int .i64 y2, .slice a1 y3.length c1], Own 61 (rowT y3) (.slice a1 y3.length c1)] := HT
            refine ⟨_, rfl, nS, fun a HF => ?_⟩
            refine wc_move HF nS rfl rfl rfl (fun a HF => ?_)
            refine wc_extract (v := .int .i64 y25) HF nS rfl rfl rfl rfl (fun a HF => ?_)
            refine wc_extract (v := .bool y26) HF nS rfl rfl rfl rfl (fun a HF => ?_)
            refine wc_assign HF nS rfl rfl rfl (fun a HF => ?_)
            refine wc_assign HF nS rfl rfl rfl (fun a HF => ?_)
            refine wc_end ?_
            refine then_n ?_
            refine wp_seq ?_
            refine wc_text ?_
            refine wc_loadA (vs := [.int .i64 y19, .slice a6 y20.length c6]) HF rfl ag29 rfl ((HT.boxAt 2 rfl).part 0 2) rfl rfl (fun a HF => ?_)
            refine wc_move HF nS rfl rfl rfl (fun a HF => ?_)
            obtain ⟨y27, y28, y29, hx12, h⟩ := obs3 h
            refine wc_call HF cf19 rfl (w_impl_LoadLock fuel hx12 (HT.rdAt 3 rfl)) rfl rfl ?_
            rintro e w ⟨rfl, hE⟩
            have hb := hE.below
            have HT := HT.pure hE
            have HT : St w0 (fun _ => False) w [Box p7 [.int .i64 y22, .slice a7 y23.length c7], Own 61 (rowT y23) (.slice a7 y23.length c7), Box p6 [.int .i64 y19, .slice a6 y20.length c6], Own 61 (rowT y20) (.slice a6 y20.length c6), Box p5 [.int .i64 y16, .slice a5 y17.length c5], Own 61 (rowT y17) (.slice a5 y17.length c5), Box p4 [.int .i64 y13, .slice a4 y14.length c4], Own 61 (rowT y14) (.slice a4 y14.length c4), Box p3 [.int .i64 y9, .slice a3 y10.length c3], Own 61 (rowT y10) (.slice a3 y10.length c3), Box p2 [.int .i64 y6, .slice a2 y7.length c2], Own 61 (rowT y7) (.slice a2 y7.length c2), Box p1 [.int .i64 y2, .slice a1 y3.length c1], Own 61 (rowT y3) (.slice a1 y3.length c1)] := HT
            refine ⟨_, rfl, nS, fun a HF => ?_⟩
            refine wc_move HF nS rfl rfl rfl (fun a HF => ?_)
            refine wc_extract (v := .int .i64 y27) HF nS rfl rfl rfl rfl (fun a HF => ?_)
            refine wc_extract (v := .int .i64 y28) HF nS rfl rfl rfl rfl (fun a HF => ?_)
            refine wc_extract (v := .bool y29) HF nS rfl rfl rfl rfl (fun a HF => ?_)
            refine wc_assign HF nS rfl rfl rfl (fun a HF => ?_)
            refine wc_assign HF nS rfl rfl rfl (fun a HF => ?_)
            refine wc_assign HF nS rfl rfl rfl (fun a HF => ?_)
            refine wc_end ?_
            refine then_n ?_
            refine wp_seq ?_
            refine wc_text ?_
            refine wc_move HF nS rfl rfl rfl (fun a HF => ?_)
            refine wc_move HF nS rfl rfl rfl (fun a HF => ?_)
            by_cases hb5 : y15 = true
            · have h := (if_pos hb5).symm.trans h
              refine wc_skip HF nS (HF.wn rfl rfl rfl rfl hb5) rfl (fun a HF => ?_)
              refine wc_skip HF nS (HF.wn rfl rfl rfl rfl hb5) rfl (fun a HF => ?_)
              refine wc_pick (b := true) HF nS rfl hb5 rfl rfl rfl (fun a HF => ?_)
              refine wc_move HF nS rfl rfl rfl (fun a HF => ?_)
              refine wc_skip HF nS (HF.wn rfl rfl rfl rfl rfl) rfl (fun a HF => ?_)
              refine wc_skip HF nS (HF.wn rfl rfl rfl rfl rfl) rfl (fun a HF => ?_)
              refine wc_pick (b := true) HF nS rfl rfl rfl rfl rfl (fun a HF => ?_)
              refine wc_move HF nS rfl rfl rfl (fun a HF => ?_)
              refine wc_skip HF nS (HF.wn rfl rfl rfl rfl rfl) rfl (fun a HF => ?_)
              refine wc_pick (b := true) HF nS rfl rfl rfl rfl rfl (fun a HF => ?_)
              refine wc_move HF nS rfl rfl rfl (fun a HF => ?_)
              refine wc_skip HF nS (HF.wn rfl rfl rfl rfl rfl) rfl (fun a HF => ?_)
              refine wc_skip HF nS (HF.wn rfl rfl rfl rfl rfl) rfl (fun a HF => ?_)
              refine wc_pick (b := true) HF nS rfl rfl rfl rfl rfl (fun a HF => ?_)
              refine wc_move HF nS rfl rfl rfl (fun a HF => ?_)
              refine wc_skip HF nS (HF.wn rfl rfl rfl rfl rfl) rfl (fun a HF => ?_)
              refine wc_skip HF nS (HF.wn rfl rfl rfl rfl rfl) rfl (fun a HF => ?_)
              refine wc_skip HF nS (HF.wn rfl rfl rfl rfl rfl) rfl (fun a HF => ?_)
              refine wc_skip HF nS (HF.wn rfl rfl rfl rfl rfl) rfl (fun a HF => ?_)
              refine wc_pick (b := true) HF nS rfl rfl rfl rfl rfl (fun a HF => ?_)
              refine wc_move HF nS rfl rfl rfl (fun a HF => ?_)
              refine wc_skip HF nS (HF.wn rfl rfl rfl rfl rfl) rfl (fun a HF => ?_)
              refine wc_skip HF nS (HF.wn rfl rfl rfl rfl rfl) rfl (fun a HF => ?_)
              refine wc_pick (b := true) HF nS rfl rfl rfl rfl rfl (fun a HF => ?_)
              refine wc_move HF nS rfl rfl rfl (fun a HF => ?_)
              refine wc_skip HF nS (HF.wn rfl rfl rfl rfl rfl) rfl (fun a HF => ?_)
              refine wc_skip HF nS (HF.wn rfl rfl rfl rfl rfl) rfl (fun a HF => ?_)
              refine wc_skip HF nS (HF.wn rfl rfl rfl rfl rfl) rfl (fun a HF => ?_)
              refine wc_pick (b := true) HF nS rfl rfl rfl rfl rfl (fun a HF => ?_)
              refine wc_end ?_
              refine then_n ?_
              refine wp_if (b' := true) HF rfl rfl ?_
              refine wp_seq ?_
              refine wc_text ?_
              refine wc_assign HF nS rfl rfl rfl (fun a HF => ?_)
              refine wc_end ?_
              refine then_n ?_
              refine wp_ret ?_
              obtain rfl := Option.some.inj h
              have h := retL hk1
              obtain rfl := Option.some.inj h
              refine then_r (?_)
              refine bp_ret HF (res_one rfl HF rfl) ?_
              have HT : St w0 (fun _ => False) w [] := HT.take 0
              exact ⟨rfl, HT⟩
            · have h := (if_neg hb5).symm.trans h
              refine wc_move HF nS rfl (HF.wy rfl rfl rfl rfl (Bool.eq_false_iff.2 hb5)) rfl (fun a HF => ?_)
              refine wc_not HF nS rfl (HF.wy rfl rfl rfl rfl (Bool.eq_false_iff.2 hb5)) rfl (fun a HF => ?_)
              refine wc_pick (b := false) HF nS rfl (Bool.eq_false_iff.2 hb5) rfl rfl rfl (fun a HF => ?_)
              refine wc_move HF nS rfl rfl rfl (fun a HF => ?_)
              by_cases hb6 : y18 = true
              · have h := (if_pos hb6).symm.trans h
                refine wc_move HF nS rfl (HF.wy rfl rfl rfl rfl (notT hb6)) rfl (fun a HF => ?_)
                refine wc_not HF nS rfl (HF.wy rfl rfl rfl rfl (notT hb6)) rfl (fun a HF => ?_)
                refine wc_pick (b := false) HF nS rfl (notT hb6) rfl rfl rfl (fun a HF => ?_)
                refine wc_move HF nS rfl rfl rfl (fun a HF => ?_)
                by_cases hb7 : y21 = true
                · have h := (if_pos hb7).symm.trans h
                  refine wc_move HF nS rfl (HF.wy rfl rfl rfl rfl (notT hb7)) rfl (fun a HF => ?_)
                  refine wc_pick (b := false) HF nS rfl (notT hb7) rfl rfl rfl (fun a HF => ?_)
                  refine wc_move HF nS rfl rfl rfl (fun a HF => ?_)
                  by_cases hb8 : y24 = true
                  · have h := (if_pos hb8).symm.trans h
                    refine wc_skip HF nS (HF.wn rfl rfl rfl rfl hb8) rfl (fun a HF => ?_)
                    refine wc_skip HF nS (HF.wn rfl rfl rfl rfl hb8) rfl (fun a HF => ?_)
                    refine wc_pick (b := true) HF nS rfl hb8 rfl rfl rfl (fun a HF => ?_)
                    refine wc_move HF nS rfl rfl rfl (fun a HF => ?_)
                    refine wc_skip HF nS (HF.wn rfl rfl rfl rfl rfl) rfl (fun a HF => ?_)
                    refine wc_skip HF nS (HF.wn rfl rfl rfl rfl rfl) rfl (fun a HF => ?_)
                    refine wc_skip HF nS (HF.wn rfl rfl rfl rfl rfl) rfl (fun a HF => ?_)
                    refine wc_skip HF nS (HF.wn rfl rfl rfl rfl rfl) rfl (fun a HF => ?_)
                    refine wc_pick (b := true) HF nS rfl rfl rfl rfl rfl (fun a HF => ?_)
                    refine wc_move HF nS rfl rfl rfl (fun a HF => ?_)
                    refine wc_skip HF nS (HF.wn rfl rfl rfl rfl rfl) rfl (fun a HF => ?_)
                    refine wc_skip HF nS (HF.wn rfl rfl rfl rfl rfl) rfl (fun a HF => ?_)
                    refine wc_pick (b := true) HF nS rfl rfl rfl rfl rfl (fun a HF => ?_)
                    refine wc_move HF nS rfl rfl rfl (fun a HF => ?_)
                    refine wc_skip HF nS (HF.wn rfl rfl rfl rfl rfl) rfl (fun a HF => ?_)
                    refine wc_skip HF nS (HF.wn rfl rfl rfl rfl rfl) rfl (fun a HF => ?_)
                    refine wc_skip HF nS (HF.wn rfl rfl rfl rfl rfl) rfl (fun a HF => ?_)
                    refine wc_pick (b := true) HF nS rfl rfl rfl rfl rfl (fun a HF => ?_)
                    refine wc_end ?_
                    refine then_n ?_
                    refine wp_if (b' := true) HF rfl rfl ?_
                    refine wp_seq ?_
                    refine wc_text ?_
                    refine wc_assign HF nS rfl rfl rfl (fun a HF => ?_)
                    refine wc_end ?_
                    refine then_n ?_
                    refine wp_ret ?_
                    obtain rfl := Option.some.inj h
                    have h := retL hk1
                    obtain rfl := Option.some.inj h
                    refine then_r (?_)
                    refine bp_ret HF (res_one rfl HF rfl) ?_
                    have HT : St w0 (fun _ => False) w [] := HT.take 0
                    exact ⟨rfl, HT⟩
                  · have h := (if_neg hb8).symm.trans h
                    refine wc_move HF nS rfl (HF.wy rfl rfl rfl rfl (Bool.eq_false_iff.2 hb8)) rfl (fun a HF => ?_)
                    refine wc_bin HF nS rfl rfl b_ne (HF.wy rfl rfl rfl rfl (Bool.eq_false_iff.2 hb8)) rfl (fun a HF => ?_)
                    refine wc_pick (b := false) HF nS rfl (Bool.eq_false_iff.2 hb8) rfl rfl rfl (fun a HF => ?_)
                    refine wc_move HF nS rfl rfl rfl (fun a HF => ?_)
                    by_cases hb9 : y25 = 77
                    · have h := (if_pos hb9).symm.trans h
                      refine wc_move HF nS rfl (HF.wy rfl rfl rfl rfl (notT (decide_eq_true hb9))) rfl (fun a HF => ?_)
                      refine wc_faddr HF nS rfl fl29_0 (HF.wy rfl rfl rfl rfl (notT (decide_eq_true hb9))) rfl (fun a HF => ?_)
                      refine wc_load HF rfl sc3 ((HT.boxAt 12 rfl).get 0 rfl) (HF.wy rfl rfl rfl rfl (notT (decide_eq_true hb9))) rfl (fun a HF => ?_)
                      refine wc_bin HF nS rfl rfl b_ne (HF.wy rfl rfl rfl rfl (notT (decide_eq_true hb9))) rfl (fun a HF => ?_)
                      refine wc_pick (b := false) HF nS rfl (notT (decide_eq_true hb9)) rfl rfl rfl (fun a HF => ?_)
                      refine wc_move HF nS rfl rfl rfl (fun a HF => ?_)
                      by_cases hb10 : y27 = y2
                      · have h := (if_pos hb10).symm.trans h
                        refine wc_move HF nS rfl (HF.wy rfl rfl rfl rfl (notT (decide_eq_true hb10))) rfl (fun a HF => ?_)
                        refine wc_bin HF nS rfl rfl b_ne (HF.wy rfl rfl rfl rfl (notT (decide_eq_true hb10))) rfl (fun a HF => ?_)
                        refine wc_pick (b := false) HF nS rfl (notT (decide_eq_true hb10)) rfl rfl rfl (fun a HF => ?_)
                        refine wc_move HF nS rfl rfl rfl (fun a HF => ?_)
                        by_cases hb11 : y28 = 0
                        · have h := (if_pos hb11).symm.trans h
                          refine wc_loadA (vs := [.int .i64 y19, .slice a6 y20.length c6]) HF rfl ag29 rfl ((HT.boxAt 2 rfl).part 0 2) (HF.wy rfl rfl rfl rfl (notT (decide_eq_true hb11))) rfl (fun a HF => ?_)
                          obtain ⟨y30, hx13, h⟩ := obs h
                          refine wc_call HF cf14 rfl (w_spec_MemOk fuel hx13 (HT.rdAt 3 rfl)) (HF.wy rfl rfl rfl rfl (notT (decide_eq_true hb11))) rfl ?_
                          rintro e w ⟨rfl, hE⟩
                          have hb := hE.below
                          have HT := HT.pure hE
                          have HT : St w0 (fun _ => False) w [Box p7 [.int .i64 y22, .slice a7 y23.length c7], Own 61 (rowT y23) (.slice a7 y23.length c7), Box p6 [.int .i64 y19, .slice a6 y20.length c6], Own 61 (rowT y20) (.slice a6 y20.length c6), Box p5 [.int .i64 y16, .slice a5 y17.length c5], Own 61 (rowT y17) (.slice a5 y17.length c5), Box p4 [.int .i64 y13, .slice a4 y14.length c4], Own 61 (rowT y14) (.slice a4 y14.length c4), Box p3 [.int .i64 y9, .slice a3 y10.length c3], Own 61 (rowT y10) (.slice a3 y10.length c3), Box p2 [.int .i64 y6, .slice a2 y7.length c2], Own 61 (rowT y7) (.slice a2 y7.length c2), Box p1 [.int .i64 y2, .slice a1 y3.length c1], Own 61 (rowT y3) (.slice a1 y3.length c1)] := HT
                          refine ⟨_, rfl, nS, fun a HF => ?_⟩
                          refine wc_not HF nS rfl (HF.wy rfl rfl rfl rfl (notT (decide_eq_true hb11))) rfl (fun a HF => ?_)
                          refine wc_pick (b := false) HF nS rfl (notT (decide_eq_true hb11)) rfl rfl rfl (fun a HF => ?_)
                          refine wc_end ?_
                          refine then_n ?_
                          by_cases hb12 : y30 = true
                          · have h := (if_pos hb12).symm.trans h
                            refine wp_if (b' := false) HF rfl (notT hb12) ?_
                            refine wp_skip ?_
                            have HT : St w0 (fun _ => False) w [] := HT.take 0
                            exact then_n ⟨(Option.some.inj h).symm, (HF.keep HF.nil rfl), HT⟩
                          · have h := (if_neg hb12).symm.trans h
                            refine wp_if (b' := true) HF rfl (notF (Bool.eq_false_iff.2 hb12)) ?_
                            refine wp_seq ?_
                            refine wc_text ?_
                            refine wc_assign HF nS rfl rfl rfl (fun a HF => ?_)
                            refine wc_end ?_
                            refine then_n ?_
                            refine wp_ret ?_
                            obtain rfl := Option.some.inj h
                            have h := retL hk1
                            obtain rfl := Option.some.inj h
                            refine then_r (?_)
                            refine bp_ret HF (res_one rfl HF rfl) ?_
                            have HT : St w0 (fun _ => False) w [] := HT.take 0
                            exact ⟨rfl, HT⟩
                        · have h := (if_neg hb11).symm.trans h
                          refine wc_skip HF nS (HF.wn rfl rfl rfl rfl (notF (decide_eq_false hb11))) rfl (fun a HF => ?_)
                          refine wc_skip HF nS (HF.wn rfl rfl rfl rfl (notF (decide_eq_false hb11))) rfl (fun a HF => ?_)
                          refine wc_skip HF nS (HF.wn rfl rfl rfl rfl (notF (decide_eq_false hb11))) rfl (fun a HF => ?_)
                          refine wc_pick (b := true) HF nS rfl (notF (decide_eq_false hb11)) rfl rfl rfl (fun a HF => ?_)
                          refine wc_end ?_
                          refine then_n ?_
                          refine wp_if (b' := true) HF rfl rfl ?_
                          refine wp_seq ?_
                          refine wc_text ?_
                          refine wc_assign HF nS rfl rfl rfl (fun a HF => ?_)
                          refine wc_end ?_
                          refine then_n ?_
                          refine wp_ret ?_
                          obtain rfl := Option.some.inj h
                          have h := retL hk1
                          obtain rfl := Option.some.inj h
                          refine then_r (?_)
                          refine bp_ret HF (res_one rfl HF rfl) ?_
                          have HT : St w0 (fun _ => False) w [] := HT.take 0
                          exact ⟨rfl, HT⟩
                      · have h := (if_neg hb10).symm.trans h
                        refine wc_skip HF nS (HF.wn rfl rfl rfl rfl (notF (decide_eq_false hb10))) rfl (fun a HF => ?_)
                        refine wc_skip HF nS (HF.wn rfl rfl rfl rfl (notF (decide_eq_false hb10))) rfl (fun a HF => ?_)
                        refine wc_pick (b := true) HF nS rfl (notF (decide_eq_false hb10)) rfl rfl rfl (fun a HF => ?_)
                        refine wc_move HF nS rfl rfl rfl (fun a HF => ?_)
                        refine wc_skip HF nS (HF.wn rfl rfl rfl rfl rfl) rfl (fun a HF => ?_)
                        refine wc_skip HF nS (HF.wn rfl rfl rfl rfl rfl) rfl (fun a HF => ?_)
                        refine wc_skip HF nS (HF.wn rfl rfl rfl rfl rfl) rfl (fun a HF => ?_)
                        refine wc_pick (b := true) HF nS rfl rfl rfl rfl rfl (fun a HF => ?_)
                        refine wc_end ?_
                        refine then_n ?_
                        refine wp_if (b' := true) HF rfl rfl ?_
                        refine wp_seq ?_
                        refine wc_text ?_
                        refine wc_assign HF nS rfl rfl rfl (fun a HF => ?_)
                        refine wc_end ?_
                        refine then_n ?_
                        refine wp_ret ?_
                        obtain rfl := Option.some.inj h
                        have h := retL hk1
                        obtain rfl := Option.some.inj h
                        refine then_r (?_)
                        refine bp_ret HF (res_one rfl HF rfl) ?_
                        have HT : St w0 (fun _ => False) w [] := HT.take 0
                        exact ⟨rfl, HT⟩
                    · have h := (if_neg hb9).symm.trans h
                      refine wc_skip HF nS (HF.wn rfl rfl rfl rfl (notF (decide_eq_false hb9))) rfl (fun a HF => ?_)
                      refine wc_skip HF nS (HF.wn rfl rfl rfl rfl (notF (decide_eq_false hb9))) rfl (fun a HF => ?_)
                      refine wc_skip HF nS (HF.wn rfl rfl rfl rfl (notF (decide_eq_false hb9))) rfl (fun a HF => ?_)
                      refine wc_skip HF nS (HF.wn rfl rfl rfl rfl (notF (decide_eq_false hb9))) rfl (fun a HF => ?_)
                      refine wc_pick (b := true) HF nS rfl (notF (decide_eq_false hb9)) rfl rfl rfl (fun a HF => ?_)
                      refine wc_move HF nS rfl rfl rfl (fun a HF => ?_)
                      refine wc_skip HF nS (HF.wn rfl rfl rfl rfl rfl) rfl (fun a HF => ?_)
                      refine wc_skip HF nS (HF.wn rfl rfl rfl rfl rfl) rfl (fun a HF => ?_)
                      refine wc_pick (b := true) HF nS rfl rfl rfl rfl rfl (fun a HF => ?_)
                      refine wc_move HF nS rfl rfl rfl (fun a HF => ?_)
                      refine wc_skip HF nS (HF.wn rfl rfl rfl rfl rfl) rfl (fun a HF => ?_)
                      refine wc_skip HF nS (HF.wn rfl rfl rfl rfl rfl) rfl (fun a HF => ?_)
                      refine wc_skip HF nS (HF.wn rfl rfl rfl rfl rfl) rfl (fun a HF => ?_)
                      refine wc_pick (b := true) HF nS rfl rfl rfl rfl rfl (fun a HF => ?_)
                      refine wc_end ?_
                      refine then_n ?_
                      refine wp_if (b' := true) HF rfl rfl ?_
                      refine wp_seq ?_
                      refine wc_text ?_
                      refine wc_assign HF nS rfl rfl rfl (fun a HF => ?_)
                      refine wc_end ?_
                      refine then_n ?_
                      refine wp_ret ?_
                      obtain rfl := Option.some.inj h
                      have h := retL hk1
                      obtain rfl := Option.some.inj h
                      refine then_r (?_)
                      refine bp_ret HF (res_one rfl HF rfl) ?_
                      have HT : St w0 (fun _ => False) w [] := HT.take 0
                      exact ⟨rfl, HT⟩
                · have h := (if_neg hb7).symm.trans h
                  refine wc_skip HF nS (HF.wn rfl rfl rfl rfl (notF (Bool.eq_false_iff.2 hb7))) rfl (fun a HF => ?_)
                  refine wc_pick (b := true) HF nS rfl (notF (Bool.eq_false_iff.2 hb7)) rfl rfl rfl (fun a HF => ?_)
                  refine wc_move HF nS rfl rfl rfl (fun a HF => ?_)
                  refine wc_skip HF nS (HF.wn rfl rfl rfl rfl rfl) rfl (fun a HF => ?_)
                  refine wc_skip HF nS (HF.wn rfl rfl rfl rfl rfl) rfl (fun a HF => ?_)
                  refine wc_pick (b := true) HF nS rfl rfl rfl rfl rfl (fun a HF => ?_)
                  refine wc_move HF nS rfl rfl rfl (fun a HF => ?_)
                  refine wc_skip HF nS (HF.wn rfl rfl rfl rfl rfl) rfl (fun a HF => ?_)
                  refine wc_skip HF nS (HF.wn rfl rfl rfl rfl rfl) rfl (fun a HF => ?_)
                  refine wc_skip HF nS (HF.wn rfl rfl rfl rfl rfl) rfl (fun a HF => ?_)
                  refine wc_skip HF nS (HF.wn rfl rfl rfl rfl rfl) rfl (fun a HF => ?_)
                  refine wc_pick (b := true) HF nS rfl rfl rfl rfl rfl (fun a HF => ?_)
                  refine wc_move HF nS rfl rfl rfl (fun a HF => ?_)
                  refine wc_skip HF nS (HF.wn rfl rfl rfl rfl rfl) rfl (fun a HF => ?_)
                  refine wc_skip HF nS (HF.wn rfl rfl rfl rfl rfl) rfl (fun a HF => ?_)
                  refine wc_pick (b := true) HF nS rfl rfl rfl rfl rfl (fun a HF => ?_)
                  refine wc_move HF nS rfl rfl rfl (fun a HF => ?_)
                  refine wc_skip HF nS (HF.wn rfl rfl rfl rfl rfl) rfl (fun a HF => ?_)
                  refine wc_skip HF nS (HF.wn rfl rfl rfl rfl rfl) rfl (fun a HF => ?_)
                  refine wc_skip HF nS (HF.wn rfl rfl rfl rfl rfl) rfl (fun a HF => ?_)
                  refine wc_pick (b := true) HF nS rfl rfl rfl rfl rfl (fun a HF => ?_)
                  refine wc_end ?_
                  refine then_n ?_
                  refine wp_if (b' := true) HF rfl rfl ?_
                  refine wp_seq ?_
                  refine wc_text ?_
                  refine wc_assign HF nS rfl rfl rfl (fun a HF => ?_)
                  refine wc_end ?_
                  refine then_n ?_
                  refine wp_ret ?_
                  obtain rfl := Option.some.inj h
                  have h := retL hk1
                  obtain rfl := Option.some.inj h
                  refine then_r (?_)
                  refine bp_ret HF (res_one rfl HF rfl) ?_
                  have HT : St w0 (fun _ => False) w [] := HT.take 0
                  exact ⟨rfl, HT⟩
              · have h := (if_neg hb6).symm.trans h
                refine wc_skip HF nS (HF.wn rfl rfl rfl rfl (notF (Bool.eq_false_iff.2 hb6))) rfl (fun a HF => ?_)
                refine wc_skip HF nS (HF.wn rfl rfl rfl rfl (notF (Bool.eq_false_iff.2 hb6))) rfl (fun a HF => ?_)
                refine wc_pick (b := true) HF nS rfl (notF (Bool.eq_false_iff.2 hb6)) rfl rfl rfl (fun a HF => ?_)
                refine wc_move HF nS rfl rfl rfl (fun a HF => ?_)
                refine wc_skip HF nS (HF.wn rfl rfl rfl rfl rfl) rfl (fun a HF => ?_)
                refine wc_pick (b := true) HF nS rfl rfl rfl rfl rfl (fun a HF => ?_)
                refine wc_move HF nS rfl rfl rfl (fun a HF => ?_)
                refine wc_skip HF nS (HF.wn rfl rfl rfl rfl rfl) rfl (fun a HF => ?_)
                refine wc_skip HF nS (HF.wn rfl rfl rfl rfl rfl) rfl (fun a HF => ?_)
                refine wc_pick (b := true) HF nS rfl rfl rfl rfl rfl (fun a HF => ?_)
                refine wc_move HF nS rfl rfl rfl (fun a HF => ?_)
                refine wc_skip HF nS (HF.wn rfl rfl rfl rfl rfl) rfl (fun a HF => ?_)
                refine wc_skip HF nS (HF.wn rfl rfl rfl rfl rfl) rfl (fun a HF => ?_)
                refine wc_skip HF nS (HF.wn rfl rfl rfl rfl rfl) rfl (fun a HF => ?_)
                refine wc_skip HF nS (HF.wn rfl rfl rfl rfl rfl) rfl (fun a HF => ?_)
                refine wc_pick (b := true) HF nS rfl rfl rfl rfl rfl (fun a HF => ?_)
                refine wc_move HF nS rfl rfl rfl (fun a HF => ?_)
                refine wc_skip HF nS (HF.wn rfl rfl rfl rfl rfl) rfl (fun a HF => ?_)
                refine wc_skip HF nS (HF.wn rfl rfl rfl rfl rfl) rfl (fun a HF => ?_)
                refine wc_pick (b := true) HF nS rfl rfl rfl rfl rfl (fun a HF => ?_)
                refine wc_move HF nS rfl rfl rfl (fun a HF => ?_)
                refine wc_skip HF nS (HF.wn rfl rfl rfl rfl rfl) rfl (fun a HF => ?_)
                refine wc_skip HF nS (HF.wn rfl rfl rfl rfl rfl) rfl (fun a HF => ?_)
                refine wc_skip HF nS (HF.wn rfl rfl rfl rfl rfl) rfl (fun a HF => ?_)
                refine wc_pick (b := true) HF nS rfl rfl rfl rfl rfl (fun a HF => ?_)
                refine wc_end ?_
                refine then_n ?_
                refine wp_if (b' := true) HF rfl rfl ?_
                refine wp_seq ?_
                refine wc_text ?_
                refine wc_assign HF nS rfl rfl rfl (fun a HF => ?_)
                refine wc_end ?_
                refine then_n ?_
                refine wp_ret ?_
                obtain rfl := Option.some.inj h
                have h := retL hk1
                obtain rfl := Option.some.inj h
                refine then_r (?_)
                refine bp_ret HF (res_one rfl HF rfl) ?_
                have HT : St w0 (fun _ => False) w [] := HT.take 0
                exact ⟨rfl, HT⟩
          · rintro a w ⟨rfl, HF, HT⟩
            have h := brkL1u h
            refine ?_
            refine wp_seq ?_
            refine wc_text ?_
            refine wc_move HF nS rfl rfl rfl (fun a HF => ?_)
            obtain ⟨y31, y32, hx14, h⟩ := obs2 h
            refine wc_call HF cf43 rfl (w_spec_DrawTick fuel hx14 (HT.ro hr_x0).any) rfl rfl ?_
            rintro e w ⟨a8, n8, c8, rfl, hE⟩
            have hb := hE.below
            have HT := HT.pure hE
            obtain rfl := (HT.rdAt 0 rfl).neq
            have HT : St w0 (fun _ => False) w [Own 61 (rowT y32) (.slice a8 y32.length c8)] := HT
            refine ⟨_, rfl, nS, fun a HF => ?_⟩
            refine wc_alloc (cs := [.int .i64 0, .slice none 0 0]) HF HT zr29 rfl rfl rfl (fun p8 w HT hb => ⟨nS, fun a HF => ?_⟩)
            refine wc_storeB (cs' := [.int .i64 y31, .slice a8 y32.length c8]) HF HT rfl rfl (fun w => (ag29 w).2) rfl rfl rfl rfl rfl (fun w HT => ⟨nS, ?_⟩)
            refine wc_end ?_
            refine then_n ?_
            refine wp_seq ?_
            refine wc_text ?_
            refine wc_loadA (vs := [.int .i64 y31, .slice a8 y32.length c8]) HF rfl ag29 rfl ((HT.boxAt 0 rfl).part 0 2) rfl rfl (fun a HF => ?_)
            obtain ⟨y33, y34, y35, hx15, h⟩ := obs3 h
            refine wc_call HF cf30 rfl (w_impl_Tick fuel hx15 (HT.rdAt 1 rfl)) rfl rfl ?_
            rintro e w ⟨a9, n9, c9, rfl, hE⟩
            have hb := hE.below
            have HT := HT.pure hE
            obtain rfl := (HT.rdAt 0 rfl).neq
            have HT : St w0 (fun _ => False) w [Own 61 (rowT y34) (.slice a9 y34.length c9), Box p8 [.int .i64 y31, .slice a8 y32.length c8], Own 61 (rowT y32) (.slice a8 y32.length c8)] := HT
            refine ⟨_, rfl, nS, fun a HF => ?_⟩
            refine wc_move HF nS rfl rfl rfl (fun a HF => ?_)
            refine wc_extract (v := .agg #[.int .i64 y33, .slice a9 y34.length c9]) HF nS rfl rfl rfl rfl (fun a HF => ?_)
            refine wc_extract (v := .int .i64 y35) HF nS rfl rfl rfl rfl (fun a HF => ?_)
            refine wc_alloc (cs := [.int .i64 0, .slice none 0 0]) HF HT zr29 rfl rfl rfl (fun p9 w HT hb => ⟨nS, fun a HF => ?_⟩)
            refine wc_storeB (cs' := [.int .i64 y33, .slice a9 y34.length c9]) HF HT rfl rfl (fun w => (ag29 w).2) rfl rfl rfl rfl rfl (fun w HT => ⟨nS, ?_⟩)
            refine wc_assign HF nS rfl rfl rfl (fun a HF => ?_)
            refine wc_end ?_
            refine then_n ?_
            refine wp_seq ?_
            refine wp_region_can [(0, true), (1, true), (2, true), (3, true), (4, true), (5, false), (6, true), (7, true), (8, true), (9, true), (10, true), (11, true), (12, true), (13, true), (14, true), (15, true), (16, true), (17, true), (18, true), (19, true), (20, true), (21, false), (22, true), (23, true), (24, true), (26, false), (25, false), (27, true), (28, true), (29, true), (30, true), (31, true)] (fun w' => LdC w' p8 0 [.int .i64 y31, .slice a8 y32.length c8] ∧ True) (by kernel_rfl) (by kernel_rfl) ?_
            have HT : St w0 (fun _ => False) w.drew [Box p9 [.int .i64 y33, .slice a9 y34.length c9], Own 61 (rowT y34) (.slice a9 y34.length c9), Box p8 [.int .i64 y31, .slice a8 y32.length c8], Own 61 (rowT y32) (.slice a8 y32.length c8)] := HT.drew
            refine wc_move HF nS rfl rfl rfl (fun a HF => ?_)
            refine wc_bin HF nS rfl rfl b_eq rfl rfl (fun a HF => ?_)
            refine wc_move HF nS rfl rfl rfl (fun a HF => ?_)
            by_cases hb13 : y35 = 0
            · have h := (if_pos hb13).symm.trans h
              refine wc_loadA (vs := [.int .i64 y33, .slice a9 y34.length c9]) HF rfl ag29 rfl ((HT.boxAt 0 rfl).part 0 2) (HF.wy rfl rfl rfl rfl (decide_eq_true hb13)) rfl (fun a HF => ?_)
              refine wc_loadA (vs := [.int .i64 y31, .slice a8 y32.length c8]) HF rfl ag29 rfl ((HT.boxAt 2 rfl).part 0 2) (HF.wy rfl rfl rfl rfl (decide_eq_true hb13)) rfl (fun a HF => ?_)
              obtain ⟨y36, hx16, h⟩ := obs h
              refine wc_call HF cf42 rfl (w_laws_sameMem fuel hx16 (HT.rdAt 1 rfl) (HT.rdAt 3 rfl)) (HF.wy rfl rfl rfl rfl (decide_eq_true hb13)) rfl ?_
              rintro e w ⟨rfl, hE⟩
              have hb := hE.below
              have HT := HT.pure hE
              have HT : St w0 (fun _ => False) w [Box p9 [.int .i64 y33, .slice a9 y34.length c9], Own 61 (rowT y34) (.slice a9 y34.length c9), Box p8 [.int .i64 y31, .slice a8 y32.length c8], Own 61 (rowT y32) (.slice a8 y32.length c8)] := HT
              refine ⟨_, rfl, (fun _ => ⟨(HT.boxAt 2 rfl).part 0 2, trivial⟩), fun a HF => ?_⟩
              refine wc_pick (b := true) HF nS rfl (decide_eq_true hb13) rfl rfl rfl (fun a HF => ?_)
              refine wc_move HF nS rfl rfl rfl (fun a HF => ?_)
              by_cases hb14 : y36 = true
              · have h := (if_pos hb14).symm.trans h
                refine wc_skip HF nS (HF.wn rfl rfl rfl rfl hb14) rfl (fun a HF => ?_)
                refine wc_skip HF nS (HF.wn rfl rfl rfl rfl hb14) rfl (fun a HF => ?_)
                refine wc_skip HF nS (HF.wn rfl rfl rfl rfl hb14) rfl (fun a HF => ?_)
                refine wc_skip HF nS (HF.wn rfl rfl rfl rfl hb14) rfl (fun a HF => ?_)
                refine wc_skip HF nS (HF.wn rfl rfl rfl rfl hb14) rfl (fun a HF => ?_)
                refine wc_skip HF nS (HF.wn rfl rfl rfl rfl hb14) rfl (fun a HF => ?_)
                refine wc_skip HF nS (HF.unwanted rfl rfl rfl rfl) rfl (fun a HF => ?_)
                refine wc_skip HF nS (HF.unwanted rfl rfl rfl rfl) rfl (fun a HF => ?_)
                refine wc_skip HF nS (HF.unwanted rfl rfl rfl rfl) rfl (fun a HF => ?_)
                refine wc_skip HF nS (HF.unwanted rfl rfl rfl rfl) rfl (fun a HF => ?_)
                refine wc_skip HF nS (HF.wn rfl rfl rfl rfl hb14) rfl (fun a HF => ?_)
                refine wc_skip HF nS (HF.wn rfl rfl rfl rfl hb14) rfl (fun a HF => ?_)
                refine wc_skip HF nS (HF.unwanted rfl rfl rfl rfl) rfl (fun a HF => ?_)
                refine wc_skip HF (fun _ => ⟨(HT.boxAt 2 rfl).part 0 2, trivial⟩) (HF.unwanted rfl rfl rfl rfl) rfl (fun a HF => ?_)
                refine wc_skip HF nS (HF.wn rfl rfl rfl rfl hb14) rfl (fun a HF => ?_)
                refine wc_skip HF nS (HF.wn rfl rfl rfl rfl hb14) rfl (fun a HF => ?_)
                refine wc_skip HF nS (HF.unwanted rfl rfl rfl rfl) rfl (fun a HF => ?_)
                refine wc_skip HF (fun _ => ⟨(HT.boxAt 2 rfl).part 0 2, trivial⟩) (HF.unwanted rfl rfl rfl rfl) rfl (fun a HF => ?_)
                refine wc_skip HF (fun _ => ⟨(HT.boxAt 2 rfl).part 0 2, trivial⟩) (HF.unwanted rfl rfl rfl rfl) rfl (fun a HF => ?_)
                refine wc_skip HF nS (HF.unwanted rfl rfl rfl rfl) rfl (fun a HF => ?_)
                refine wc_skip HF nS (HF.unwanted rfl rfl rfl rfl) rfl (fun a HF => ?_)
                refine wc_skip HF nS (HF.wn rfl rfl rfl rfl hb14) rfl (fun a HF => ?_)
                refine wc_pick (b := true) HF nS rfl hb14 rfl rfl rfl (fun a HF => ?_)
                refine wc_assign HF nS rfl rfl rfl (fun a HF => ?_)
                refine wc_endN ?_
                refine then_n ?_
                refine wp_ret ?_
                obtain rfl := Option.some.inj h
                refine bp_ret HF (res_one rfl HF rfl) ?_
                have HT : St w0 (fun _ => False) w [] := HT.take 0
                exact ⟨rfl, HT⟩
              · have h := (if_neg hb14).symm.trans h
                refine wc_move HF nS rfl (HF.wy rfl rfl rfl rfl (Bool.eq_false_iff.2 hb14)) rfl (fun a HF => ?_)
                refine wc_faddr HF nS rfl fl29_0 (HF.wy rfl rfl rfl rfl (Bool.eq_false_iff.2 hb14)) rfl (fun a HF => ?_)
                refine wc_load HF rfl sc3 ((HT.boxAt 2 rfl).get 0 rfl) (HF.wy rfl rfl rfl rfl (Bool.eq_false_iff.2 hb14)) rfl (fun a HF => ?_)
                obtain ⟨hg3, h⟩ := grd h
                refine wc_bin HF nS rfl rfl (b_add hg3) (HF.wy rfl rfl rfl rfl (Bool.eq_false_iff.2 hb14)) rfl (fun a HF => ?_)
                refine wc_bin HF nS rfl rfl b_eq (HF.wy rfl rfl rfl rfl (Bool.eq_false_iff.2 hb14)) rfl (fun a HF => ?_)
                refine wc_move HF nS rfl (HF.wy rfl rfl rfl rfl (Bool.eq_false_iff.2 hb14)) rfl (fun a HF => ?_)
                by_cases hb15 : y35 = (y31 + 1)
                · have h := (if_pos hb15).symm.trans h
                  refine wc_faddr HF nS rfl fl29_0 (HF.wy rfl rfl rfl rfl (decide_eq_true hb15)) rfl (fun a HF => ?_)
                  refine wc_load HF rfl sc3 ((HT.boxAt 0 rfl).get 0 rfl) (HF.wy rfl rfl rfl rfl (decide_eq_true hb15)) rfl (fun a HF => ?_)
                  refine wc_move HF nS rfl (HF.wy rfl rfl rfl rfl (decide_eq_true hb15)) rfl (fun a HF => ?_)
                  refine wc_bin HF nS rfl rfl b_eq (HF.wy rfl rfl rfl rfl (decide_eq_true hb15)) rfl (fun a HF => ?_)
                  refine wc_pick (b := true) HF nS rfl (decide_eq_true hb15) rfl (HF.wy rfl rfl rfl rfl (Bool.eq_false_iff.2 hb14)) rfl (fun a HF => ?_)
                  refine wc_move HF nS rfl (HF.wy rfl rfl rfl rfl (Bool.eq_false_iff.2 hb14)) rfl (fun a HF => ?_)
                  by_cases hb16 : y33 = y35
                  · have h := (if_pos hb16).symm.trans h
                    refine wc_loadA (vs := [.int .i64 y33, .slice a9 y34.length c9]) HF rfl ag29 rfl ((HT.boxAt 0 rfl).part 0 2) (HF.wy rfl rfl rfl rfl (decide_eq_true hb16)) rfl (fun a HF => ?_)
                    obtain ⟨y37, hx17, h⟩ := obs h
                    refine wc_call HF cf14 rfl (w_spec_MemOk fuel hx17 (HT.rdAt 1 rfl)) (HF.wy rfl rfl rfl rfl (decide_eq_true hb16)) rfl ?_
                    rintro e w ⟨rfl, hE⟩
                    have hb := hE.below
                    have HT := HT.pure hE
                    have HT : St w0 (fun _ => False) w [Box p9 [.int .i64 y33, .slice a9 y34.length c9], Own 61 (rowT y34) (.slice a9 y34.length c9), Box p8 [.int .i64 y31, .slice a8 y32.length c8], Own 61 (rowT y32) (.slice a8 y32.length c8)] := HT
                    refine ⟨_, rfl, (fun _ => ⟨(HT.boxAt 2 rfl).part 0 2, trivial⟩), fun a HF => ?_⟩
                    refine wc_pick (b := true) HF nS rfl (decide_eq_true hb16) rfl (HF.wy rfl rfl rfl rfl (Bool.eq_false_iff.2 hb14)) rfl (fun a HF => ?_)
                    refine wc_move HF nS rfl (HF.wy rfl rfl rfl rfl (Bool.eq_false_iff.2 hb14)) rfl (fun a HF => ?_)
                    by_cases hb17 : y37 = true
                    · have h := (if_pos hb17).symm.trans h
                      refine wc_loadA (vs := [.int .i64 y33, .slice a9 y34.length c9]) HF rfl ag29 rfl ((HT.boxAt 0 rfl).part 0 2) (HF.wy rfl rfl rfl rfl hb17) rfl (fun a HF => ?_)
                      refine wc_loadAS (vs := [.int .i64 y31, .slice a8 y32.length c8]) HF ⟨(HT.boxAt 2 rfl).part 0 2, trivial⟩ rfl ag29 rfl (fun w hS => hS.1) (HF.wy rfl rfl rfl rfl hb17) rfl (fun a HF => ?_)
                      obtain ⟨y38, hx18, h⟩ := obs h
                      refine wc_call HF cf32 rfl (w_impl_Values fuel hx18 (HT.rdAt 1 rfl)) (HF.wy rfl rfl rfl rfl hb17) rfl ?_
                      rintro e w ⟨a10, n10, c10, rfl, hE⟩
                      have hb := hE.below
                      have HT := HT.pure hE
                      obtain rfl := (HT.rdAt 0 rfl).neq
                      have HT : St w0 (fun _ => False) w [Own 3 (rowT y38) (.slice a10 y38.length c10), Box p9 [.int .i64 y33, .slice a9 y34.length c9], Own 61 (rowT y34) (.slice a9 y34.length c9), Box p8 [.int .i64 y31, .slice a8 y32.length c8], Own 61 (rowT y32) (.slice a8 y32.length c8)] := HT
                      refine ⟨_, rfl, (fun _ => ⟨(HT.boxAt 3 rfl).part 0 2, trivial⟩), fun a HF => ?_⟩
                      obtain ⟨y39, hx19, h⟩ := obs h
                      refine wc_call HF cf32 rfl (w_impl_Values fuel hx19 (HT.rdAt 4 rfl)) (HF.wy rfl rfl rfl rfl hb17) rfl ?_
                      rintro e w ⟨a11, n11, c11, rfl, hE⟩
                      have hb := hE.below
                      have HT := HT.pure hE
                      obtain rfl := (HT.rdAt 0 rfl).neq
                      have HT : St w0 (fun _ => False) w [Own 3 (rowT y39) (.slice a11 y39.length c11), Own 3 (rowT y38) (.slice a10 y38.length c10), Box p9 [.int .i64 y33, .slice a9 y34.length c9], Own 61 (rowT y34) (.slice a9 y34.length c9), Box p8 [.int .i64 y31, .slice a8 y32.length c8], Own 61 (rowT y32) (.slice a8 y32.length c8)] := HT
                      refine ⟨_, rfl, nS, fun a HF => ?_⟩
                      obtain ⟨y40, hx20, h⟩ := obs h
                      refine wc_call HF cf44 rfl (w_laws_sameInts fuel hx20 (HT.rdAt 1 rfl) (HT.rdAt 0 rfl)) (HF.wy rfl rfl rfl rfl hb17) rfl ?_
                      rintro e w ⟨rfl, hE⟩
                      have hb := hE.below
                      have HT := HT.pure hE
                      have HT : St w0 (fun _ => False) w [Own 3 (rowT y39) (.slice a11 y39.length c11), Own 3 (rowT y38) (.slice a10 y38.length c10), Box p9 [.int .i64 y33, .slice a9 y34.length c9], Own 61 (rowT y34) (.slice a9 y34.length c9), Box p8 [.int .i64 y31, .slice a8 y32.length c8], Own 61 (rowT y32) (.slice a8 y32.length c8)] := HT
                      refine ⟨_, rfl, nS, fun a HF => ?_⟩
                      refine wc_pick (b := true) HF nS rfl hb17 rfl (HF.wy rfl rfl rfl rfl (Bool.eq_false_iff.2 hb14)) rfl (fun a HF => ?_)
                      refine wc_pick (b := false) HF nS rfl (Bool.eq_false_iff.2 hb14) rfl rfl rfl (fun a HF => ?_)
                      refine wc_assign HF nS rfl rfl rfl (fun a HF => ?_)
                      refine wc_endN ?_
                      refine then_n ?_
                      refine wp_ret ?_
                      obtain rfl := Option.some.inj h
                      refine bp_ret HF (res_one rfl HF rfl) ?_
                      have HT : St w0 (fun _ => False) w [] := HT.take 0
                      exact ⟨rfl, HT⟩
                    · have h := (if_neg hb17).symm.trans h
                      refine wc_skip HF nS (HF.wn rfl rfl rfl rfl (Bool.eq_false_iff.2 hb17)) rfl (fun a HF => ?_)
                      refine wc_skip HF (fun _ => ⟨(HT.boxAt 2 rfl).part 0 2, trivial⟩) (HF.wn rfl rfl rfl rfl (Bool.eq_false_iff.2 hb17)) rfl (fun a HF => ?_)
                      refine wc_skip HF (fun _ => ⟨(HT.boxAt 2 rfl).part 0 2, trivial⟩) (HF.wn rfl rfl rfl rfl (Bool.eq_false_iff.2 hb17)) rfl (fun a HF => ?_)
                      refine wc_skip HF nS (HF.wn rfl rfl rfl rfl (Bool.eq_false_iff.2 hb17)) rfl (fun a HF => ?_)
                      refine wc_skip HF nS (HF.wn rfl rfl rfl rfl (Bool.eq_false_iff.2 hb17)) rfl (fun a HF => ?_)
                      refine wc_pick (b := false) HF nS rfl (Bool.eq_false_iff.2 hb17) rfl (HF.wy rfl rfl rfl rfl (Bool.eq_false_iff.2 hb14)) rfl (fun a HF => ?_)
                      refine wc_pick (b := false) HF nS rfl (Bool.eq_false_iff.2 hb14) rfl rfl rfl (fun a HF => ?_)
                      refine wc_assign HF nS rfl rfl rfl (fun a HF => ?_)
                      refine wc_endN ?_
                      refine then_n ?_
                      refine wp_ret ?_
                      obtain rfl := Option.some.inj h
                      refine bp_ret HF (res_one rfl HF rfl) ?_
                      have HT : St w0 (fun _ => False) w [] := HT.take 0
                      exact ⟨rfl, HT⟩
                  · have h := (if_neg hb16).symm.trans h
                    refine wc_skip HF nS (HF.wn rfl rfl rfl rfl (decide_eq_false hb16)) rfl (fun a HF => ?_)
                    refine wc_skip HF (fun _ => ⟨(HT.boxAt 2 rfl).part 0 2, trivial⟩) (HF.wn rfl rfl rfl rfl (decide_eq_false hb16)) rfl (fun a HF => ?_)
                    refine wc_pick (b := false) HF nS rfl (decide_eq_false hb16) rfl (HF.wy rfl rfl rfl rfl (Bool.eq_false_iff.2 hb14)) rfl (fun a HF => ?_)
                    refine wc_move HF nS rfl (HF.wy rfl rfl rfl rfl (Bool.eq_false_iff.2 hb14)) rfl (fun a HF => ?_)
                    refine wc_skip HF nS (HF.wn rfl rfl rfl rfl rfl) rfl (fun a HF => ?_)
                    refine wc_skip HF (fun _ => ⟨(HT.boxAt 2 rfl).part 0 2, trivial⟩) (HF.wn rfl rfl rfl rfl rfl) rfl (fun a HF => ?_)
                    refine wc_skip HF (fun _ => ⟨(HT.boxAt 2 rfl).part 0 2, trivial⟩) (HF.wn rfl rfl rfl rfl rfl) rfl (fun a HF => ?_)
                    refine wc_skip HF nS (HF.wn rfl rfl rfl rfl rfl) rfl (fun a HF => ?_)
                    refine wc_skip HF nS (HF.wn rfl rfl rfl rfl rfl) rfl (fun a HF => ?_)
                    refine wc_pick (b := false) HF nS rfl rfl rfl (HF.wy rfl rfl rfl rfl (Bool.eq_false_iff.2 hb14)) rfl (fun a HF => ?_)
                    refine wc_pick (b := false) HF nS rfl (Bool.eq_false_iff.2 hb14) rfl rfl rfl (fun a HF => ?_)
                    refine wc_assign HF nS rfl rfl rfl (fun a HF => ?_)
                    refine wc_endN ?_
                    refine then_n ?_
                    refine wp_ret ?_
                    obtain rfl := Option.some.inj h
                    refine bp_ret HF (res_one rfl HF rfl) ?_
                    have HT : St w0 (fun _ => False) w [] := HT.take 0
                    exact ⟨rfl, HT⟩
                · have h := (if_neg hb15).symm.trans h
                  refine wc_skip HF nS (HF.wn rfl rfl rfl rfl (decide_eq_false hb15)) rfl (fun a HF => ?_)
                  refine wc_skip HF nS (HF.wn rfl rfl rfl rfl (decide_eq_false hb15)) rfl (fun a HF => ?_)
                  refine wc_skip HF nS (HF.wn rfl rfl rfl rfl (decide_eq_false hb15)) rfl (fun a HF => ?_)
                  refine wc_skip HF nS (HF.wn rfl rfl rfl rfl (decide_eq_false hb15)) rfl (fun a HF => ?_)
                  refine wc_pick (b := false) HF nS rfl (decide_eq_false hb15) rfl (HF.wy rfl rfl rfl rfl (Bool.eq_false_iff.2 hb14)) rfl (fun a HF => ?_)
                  refine wc_move HF nS rfl (HF.wy rfl rfl rfl rfl (Bool.eq_false_iff.2 hb14)) rfl (fun a HF => ?_)
                  refine wc_skip HF nS (HF.wn rfl rfl rfl rfl rfl) rfl (fun a HF => ?_)
                  refine wc_skip HF (fun _ => ⟨(HT.boxAt 2 rfl).part 0 2, trivial⟩) (HF.wn rfl rfl rfl rfl rfl) rfl (fun a HF => ?_)
                  refine wc_pick (b := false) HF nS rfl rfl rfl (HF.wy rfl rfl rfl rfl (Bool.eq_false_iff.2 hb14)) rfl (fun a HF => ?_)
                  refine wc_move HF nS rfl (HF.wy rfl rfl rfl rfl (Bool.eq_false_iff.2 hb14)) rfl (fun a HF => ?_)
                  refine wc_skip HF nS (HF.wn rfl rfl rfl rfl rfl) rfl (fun a HF => ?_)
                  refine wc_skip HF (fun _ => ⟨(HT.boxAt 2 rfl).part 0 2, trivial⟩) (HF.wn rfl rfl rfl rfl rfl) rfl (fun a HF => ?_)
                  refine wc_skip HF (fun _ => ⟨(HT.boxAt 2 rfl).part 0 2, trivial⟩) (HF.wn rfl rfl rfl rfl rfl) rfl (fun a HF => ?_)
                  refine wc_skip HF nS (HF.wn rfl rfl rfl rfl rfl) rfl (fun a HF => ?_)
                  refine wc_skip HF nS (HF.wn rfl rfl rfl rfl rfl) rfl (fun a HF => ?_)
                  refine wc_pick (b := false) HF nS rfl rfl rfl (HF.wy rfl rfl rfl rfl (Bool.eq_false_iff.2 hb14)) rfl (fun a HF => ?_)
                  refine wc_pick (b := false) HF nS rfl (Bool.eq_false_iff.2 hb14) rfl rfl rfl (fun a HF => ?_)
                  refine wc_assign HF nS rfl rfl rfl (fun a HF => ?_)
                  refine wc_endN ?_
                  refine then_n ?_
                  refine wp_ret ?_
                  obtain rfl := Option.some.inj h
                  refine bp_ret HF (res_one rfl HF rfl) ?_
                  have HT : St w0 (fun _ => False) w [] := HT.take 0
                  exact ⟨rfl, HT⟩
            · have h := (if_neg hb13).symm.trans h
              refine wc_skip HF nS (HF.wn rfl rfl rfl rfl (decide_eq_false hb13)) rfl (fun a HF => ?_)
              refine wc_skip HF nS (HF.wn rfl rfl rfl rfl (decide_eq_false hb13)) rfl (fun a HF => ?_)
              refine wc_skip HF (fun _ => ⟨(HT.boxAt 2 rfl).part 0 2, trivial⟩) (HF.wn rfl rfl rfl rfl (decide_eq_false hb13)) rfl (fun a HF => ?_)
              refine wc_pick (b := false) HF nS rfl (decide_eq_false hb13) rfl rfl rfl (fun a HF => ?_)
              refine wc_move HF nS rfl rfl rfl (fun a HF => ?_)
              refine wc_move HF nS rfl (HF.wy rfl rfl rfl rfl rfl) rfl (fun a HF => ?_)
              refine wc_faddr HF nS rfl fl29_0 (HF.wy rfl rfl rfl rfl rfl) rfl (fun a HF => ?_)
              refine wc_load HF rfl sc3 ((HT.boxAt 2 rfl).get 0 rfl) (HF.wy rfl rfl rfl rfl rfl) rfl (fun a HF => ?_)
              obtain ⟨hg4, h⟩ := grd h
              refine wc_bin HF nS rfl rfl (b_add hg4) (HF.wy rfl rfl rfl rfl rfl) rfl (fun a HF => ?_)
              refine wc_bin HF nS rfl rfl b_eq (HF.wy rfl rfl rfl rfl rfl) rfl (fun a HF => ?_)
              refine wc_move HF nS rfl (HF.wy rfl rfl rfl rfl rfl) rfl (fun a HF => ?_)
              by_cases hb18 : y35 = (y31 + 1)
              · have h := (if_pos hb18).symm.trans h
                refine wc_faddr HF nS rfl fl29_0 (HF.wy rfl rfl rfl rfl (decide_eq_true hb18)) rfl (fun a HF => ?_)
                refine wc_load HF rfl sc3 ((HT.boxAt 0 rfl).get 0 rfl) (HF.wy rfl rfl rfl rfl (decide_eq_true hb18)) rfl (fun a HF => ?_)
                refine wc_move HF nS rfl (HF.wy rfl rfl rfl rfl (decide_eq_true hb18)) rfl (fun a HF => ?_)
                refine wc_bin HF nS rfl rfl b_eq (HF.wy rfl rfl rfl rfl (decide_eq_true hb18)) rfl (fun a HF => ?_)
                refine wc_pick (b := true) HF nS rfl (decide_eq_true hb18) rfl (HF.wy rfl rfl rfl rfl rfl) rfl (fun a HF => ?_)
                refine wc_move HF nS rfl (HF.wy rfl rfl rfl rfl rfl) rfl (fun a HF => ?_)
                by_cases hb19 : y33 = y35
                · have h := (if_pos hb19).symm.trans h
                  refine wc_loadA (vs := [.int .i64 y33, .slice a9 y34.length c9]) HF rfl ag29 rfl ((HT.boxAt 0 rfl).part 0 2) (HF.wy rfl rfl rfl rfl (decide_eq_true hb19)) rfl (fun a HF => ?_)
                  obtain ⟨y41, hx21, h⟩ := obs h
                  refine wc_call HF cf14 rfl (w_spec_MemOk fuel hx21 (HT.rdAt 1 rfl)) (HF.wy rfl rfl rfl rfl (decide_eq_true hb19)) rfl ?_
                  rintro e w ⟨rfl, hE⟩
                  have hb := hE.below
                  have HT := HT.pure hE
                  have HT : St w0 (fun _ => False) w [Box p9 [.int .i64 y33, .slice a9 y34.length c9], Own 61 (rowT y34) (.slice a9 y34.length c9), Box p8 [.int .i64 y31, .slice a8 y32.length c8], Own 61 (rowT y32) (.slice a8 y32.length c8)] := HT
                  refine ⟨_, rfl, (fun _ => ⟨(HT.boxAt 2 rfl).part 0 2, trivial⟩), fun a HF => ?_⟩
                  refine wc_pick (b := true) HF nS rfl (decide_eq_true hb19) rfl (HF.wy rfl rfl rfl rfl rfl) rfl (fun a HF => ?_)
                  refine wc_move HF nS rfl (HF.wy rfl rfl rfl rfl rfl) rfl (fun a HF => ?_)
                  by_cases hb20 : y41 = true
                  · have h := (if_pos hb20).symm.trans h
                    refine wc_loadA (vs := [.int .i64 y33, .slice a9 y34.length c9]) HF rfl ag29 rfl ((HT.boxAt 0 rfl).part 0 2) (HF.wy rfl rfl rfl rfl hb20) rfl (fun a HF => ?_)
                    refine wc_loadAS (vs := [.int .i64 y31, .slice a8 y32.length c8]) HF ⟨(HT.boxAt 2 rfl).part 0 2, trivial⟩ rfl ag29 rfl (fun w hS => hS.1) (HF.wy rfl rfl rfl rfl hb20) rfl (fun a HF => ?_)
                    obtain ⟨y42, hx22, h⟩ := obs h
                    refine wc_call HF cf32 rfl (w_impl_Values fuel hx22 (HT.rdAt 1 rfl)) (HF.wy rfl rfl rfl rfl hb20) rfl ?_
                    rintro e w ⟨a12, n12, c12, rfl, hE⟩
                    have hb := hE.below
                    have HT := HT.pure hE
                    obtain rfl := (HT.rdAt 0 rfl).neq
                    have HT : St w0 (fun _ => False) w [Own 3 (rowT y42) (.slice a12 y42.length c12), Box p9 [.int .i64 y33, .slice a9 y34.length c9], Own 61 (rowT y34) (.slice a9 y34.length c9), Box p8 [.int .i64 y31, .slice a8 y32.length c8], Own 61 (rowT y32) (.slice a8 y32.length c8)] := HT
                    refine ⟨_, rfl, (fun _ => ⟨(HT.boxAt 3 rfl).part 0 2, trivial⟩), fun a HF => ?_⟩
                    obtain ⟨y43, hx23, h⟩ := obs h
                    refine wc_call HF cf32 rfl (w_impl_Values fuel hx23 (HT.rdAt 4 rfl)) (HF.wy rfl rfl rfl rfl hb20) rfl ?_
                    rintro e w ⟨a13, n13, c13, rfl, hE⟩
                    have hb := hE.below
                    have HT := HT.pure hE
                    obtain rfl := (HT.rdAt 0 rfl).neq
                    have HT : St w0 (fun _ => False) w [Own 3 (rowT y43) (.slice a13 y43.length c13), Own 3 (rowT y42) (.slice a12 y42.length c12), Box p9 [.int .i64 y33, .slice a9 y34.length c9], Own 61 (rowT y34) (.slice a9 y34.length c9), Box p8 [.int .i64 y31, .slice a8 y32.length c8], Own 61 (rowT y32) (.slice a8 y32.length c8)] := HT
                    refine ⟨_, rfl, nS, fun a HF => ?_⟩
                    obtain ⟨y44, hx24, h⟩ := obs h
                    refine wc_call HF cf44 rfl (w_laws_sameInts fuel hx24 (HT.rdAt 1 rfl) (HT.rdAt 0 rfl)) (HF.wy rfl rfl rfl rfl hb20) rfl ?_
                    rintro e w ⟨rfl, hE⟩
                    have hb := hE.below
                    have HT := HT.pure hE
                    have HT : St w0 (fun _ => False) w [Own 3 (rowT y43) (.slice a13 y43.length c13), Own 3 (rowT y42) (.slice a12 y42.length c12), Box p9 [.int .i64 y33, .slice a9 y34.length c9], Own 61 (rowT y34) (.slice a9 y34.length c9), Box p8 [.int .i64 y31, .slice a8 y32.length c8], Own 61 (rowT y32) (.slice a8 y32.length c8)] := HT
                    refine ⟨_, rfl, nS, fun a HF => ?_⟩
                    refine wc_pick (b := true) HF nS rfl hb20 rfl (HF.wy rfl rfl rfl rfl rfl) rfl (fun a HF => ?_)
                    refine wc_pick (b := false) HF nS rfl rfl rfl rfl rfl (fun a HF => ?_)
                    refine wc_assign HF nS rfl rfl rfl (fun a HF => ?_)
                    refine wc_endN ?_
                    refine then_n ?_
                    refine wp_ret ?_
                    obtain rfl := Option.some.inj h
                    refine bp_ret HF (res_one rfl HF rfl) ?_
                    have HT : St w0 (fun _ => False) w [] := HT.take 0
                    exact ⟨rfl, HT⟩
                  · have h := (if_neg hb20).symm.trans h
                    refine wc_skip HF nS (HF.wn rfl rfl rfl rfl (Bool.eq_false_iff.2 hb20)) rfl (fun a HF => ?_)
                    refine wc_skip HF (fun _ => ⟨(HT.boxAt 2 rfl).part 0 2, trivial⟩) (HF.wn rfl rfl rfl rfl (Bool.eq_false_iff.2 hb20)) rfl (fun a HF => ?_)
                    refine wc_skip HF (fun _ => ⟨(HT.boxAt 2 rfl).part 0 2, trivial⟩) (HF.wn rfl rfl rfl rfl (Bool.eq_false_iff.2 hb20)) rfl (fun a HF => ?_)
                    refine wc_skip HF nS (HF.wn rfl rfl rfl rfl (Bool.eq_false_iff.2 hb20)) rfl (fun a HF => ?_)
                    refine wc_skip HF nS (HF.wn rfl rfl rfl rfl (Bool.eq_false_iff.2 hb20)) rfl (fun a HF => ?_)
                    refine wc_pick (b := false) HF nS rfl (Bool.eq_false_iff.2 hb20) rfl (HF.wy rfl rfl rfl rfl rfl) rfl (fun a HF => ?_)
                    refine wc_pick (b := false) HF nS rfl rfl rfl rfl rfl (fun a HF => ?_)
                    refine wc_assign HF nS rfl rfl rfl (fun a HF => ?_)
                    refine wc_endN ?_
                    refine then_n ?_
                    refine wp_ret ?_
                    obtain rfl := Option.some.inj h
                    refine bp_ret HF (res_one rfl HF rfl) ?_
                    have HT : St w0 (fun _ => False) w [] := HT.take 0
                    exact ⟨rfl, HT⟩
                · have h := (if_neg hb19).symm.trans h
                  refine wc_skip HF nS (HF.wn rfl rfl rfl rfl (decide_eq_false hb19)) rfl (fun a HF => ?_)
                  refine wc_skip HF (fun _ => ⟨(HT.boxAt 2 rfl).part 0 2, trivial⟩) (HF.wn rfl rfl rfl rfl (decide_eq_false hb19)) rfl (fun a HF => ?_)
                  refine wc_pick (b := false) HF nS rfl (decide_eq_false hb19) rfl (HF.wy rfl rfl rfl rfl rfl) rfl (fun a HF => ?_)
                  refine wc_move HF nS rfl (HF.wy rfl rfl rfl rfl rfl) rfl (fun a HF => ?_)
                  refine wc_skip HF nS (HF.wn rfl rfl rfl rfl rfl) rfl (fun a HF => ?_)
                  refine wc_skip HF (fun _ => ⟨(HT.boxAt 2 rfl).part 0 2, trivial⟩) (HF.wn rfl rfl rfl rfl rfl) rfl (fun a HF => ?_)
                  refine wc_skip HF (fun _ => ⟨(HT.boxAt 2 rfl).part 0 2, trivial⟩) (HF.wn rfl rfl rfl rfl rfl) rfl (fun a HF => ?_)
                  refine wc_skip HF nS (HF.wn rfl rfl rfl rfl rfl) rfl (fun a HF => ?_)
                  refine wc_skip HF nS (HF.wn rfl rfl rfl rfl rfl) rfl (fun a HF => ?_)
                  refine wc_pick (b := false) HF nS rfl rfl rfl (HF.wy rfl rfl rfl rfl rfl) rfl (fun a HF => ?_)
                  refine wc_pick (b := false) HF nS rfl rfl rfl rfl rfl (fun a HF => ?_)
                  refine wc_assign HF nS rfl rfl rfl (fun a HF => ?_)
                  refine wc_endN ?_
                  refine then_n ?_
                  refine wp_ret ?_
                  obtain rfl := Option.some.inj h
                  refine bp_ret HF (res_one rfl HF rfl) ?_
                  have HT : St w0 (fun _ => False) w.drew [] := HT.take 0
                  exact ⟨rfl, HT⟩
              · have h := (if_neg hb18).symm.trans h
                refine wc_skip HF nS (HF.wn rfl rfl rfl rfl (decide_eq_false hb18)) rfl (fun a HF => ?_)
                refine wc_skip HF nS (HF.wn rfl rfl rfl rfl (decide_eq_false hb18)) rfl (fun a HF => ?_)
                refine wc_skip HF nS (HF.wn rfl rfl rfl rfl (decide_eq_false hb18)) rfl (fun a HF => ?_)
                refine wc_skip HF nS (HF.wn rfl rfl rfl rfl (decide_eq_false hb18)) rfl (fun a HF => ?_)
                refine wc_pick (b := false) HF nS rfl (decide_eq_false hb18) rfl (HF.wy rfl rfl rfl rfl rfl) rfl (fun a HF => ?_)
                refine wc_move HF nS rfl (HF.wy rfl rfl rfl rfl rfl) rfl (fun a HF => ?_)
                refine wc_skip HF nS (HF.wn rfl rfl rfl rfl rfl) rfl (fun a HF => ?_)
                refine wc_skip HF (fun _ => ⟨(HT.boxAt 2 rfl).part 0 2, trivial⟩) (HF.wn rfl rfl rfl rfl rfl) rfl (fun a HF => ?_)
                refine wc_pick (b := false) HF nS rfl rfl rfl (HF.wy rfl rfl rfl rfl rfl) rfl (fun a HF => ?_)
                refine wc_move HF nS rfl (HF.wy rfl rfl rfl rfl rfl) rfl (fun a HF => ?_)
                refine wc_skip HF nS (HF.wn rfl rfl rfl rfl rfl) rfl (fun a HF => ?_)
                refine wc_skip HF (fun _ => ⟨(HT.boxAt 2 rfl).part 0 2, trivial⟩) (HF.wn rfl rfl rfl rfl rfl) rfl (fun a HF => ?_)
                refine wc_skip HF (fun _ => ⟨(HT.boxAt 2 rfl).part 0 2, trivial⟩) (HF.wn rfl rfl rfl rfl rfl) rfl (fun a HF => ?_)
                refine wc_skip HF nS (HF.wn rfl rfl rfl rfl rfl) rfl (fun a HF => ?_)
                refine wc_skip HF nS (HF.wn rfl rfl rfl rfl rfl) rfl (fun a HF => ?_)
                refine wc_pick (b := false) HF nS rfl rfl rfl (HF.wy rfl rfl rfl rfl rfl) rfl (fun a HF => ?_)
                refine wc_pick (b := false) HF nS rfl rfl rfl rfl rfl (fun a HF => ?_)
                refine wc_assign HF nS rfl rfl rfl (fun a HF => ?_)
                refine wc_endN ?_
                refine then_n ?_
                refine wp_ret ?_
                obtain rfl := Option.some.inj h
                refine bp_ret HF (res_one rfl HF rfl) ?_
                have HT : St w0 (fun _ => False) w.drew [] := HT.take 0
                exact ⟨rfl, HT⟩
        · have h := (if_neg hb4).symm.trans h
          refine wp_if (b' := true) HF rfl (notF (Bool.eq_false_iff.2 hb4)) ?_
          refine wp_seq ?_
          refine wc_text ?_
          refine wc_assign HF nS rfl rfl rfl (fun a HF => ?_)
          refine wc_end ?_
          refine then_n ?_
          refine wp_ret ?_
          obtain rfl := Option.some.inj h
          refine then_r (?_)
          refine bp_ret HF (res_one rfl HF rfl) ?_
          have HT : St w0 (fun _ => False) w [] := HT.take 0
          exact ⟨rfl, HT⟩
      · have h := (if_neg hb3).symm.trans h
        refine wc_loadA (vs := [.int .i64 y6, .slice a2 y7.length c2]) HF rfl ag29 rfl ((HT.boxAt 2 rfl).part 0 2) (HF.wy rfl rfl rfl rfl (notF (Bool.eq_false_iff.2 hb3))) rfl (fun a HF => ?_)
        refine wc_loadA (vs := [.int .i64 y2, .slice a1 y3.length c1]) HF rfl ag29 rfl ((HT.boxAt 4 rfl).part 0 2) (HF.wy rfl rfl rfl rfl (notF (Bool.eq_false_iff.2 hb3))) rfl (fun a HF => ?_)
        obtain ⟨y45, hx25, h⟩ := obs h
        refine wc_call HF cf42 rfl (w_laws_sameMem fuel hx25 (HT.rdAt 3 rfl) (HT.rdAt 5 rfl)) (HF.wy rfl rfl rfl rfl (notF (Bool.eq_false_iff.2 hb3))) rfl ?_
        rintro e w ⟨rfl, hE⟩
        have hb := hE.below
        have HT := HT.pure hE
        have HT : St w0 (fun _ => False) w [Box p3 [.int .i64 y9, .slice a3 y10.length c3], Own 61 (rowT y10) (.slice a3 y10.length c3), Box p2 [.int .i64 y6, .slice a2 y7.length c2], Own 61 (rowT y7) (.slice a2 y7.length c2), Box p1 [.int .i64 y2, .slice a1 y3.length c1], Own 61 (rowT y3) (.slice a1 y3.length c1)] := HT
        refine ⟨_, rfl, nS, fun a HF => ?_⟩
        refine wc_not HF nS rfl (HF.wy rfl rfl rfl rfl (notF (Bool.eq_false_iff.2 hb3))) rfl (fun a HF => ?_)
        refine wc_pick (b := true) HF nS rfl (notF (Bool.eq_false_iff.2 hb3)) rfl (HF.wy rfl rfl rfl rfl (notT hb2)) rfl (fun a HF => ?_)
        refine wc_pick (b := false) HF nS rfl (notT hb2) rfl rfl rfl (fun a HF => ?_)
        refine wc_move HF nS rfl rfl rfl (fun a HF => ?_)
        by_cases hb21 : y45 = true
        · have h := (if_pos hb21).symm.trans h
          refine wc_move HF nS rfl (HF.wy rfl rfl rfl rfl (notT hb21)) rfl (fun a HF => ?_)
          refine wc_move HF nS rfl (HF.wy rfl rfl rfl rfl (notT hb21)) rfl (fun a HF => ?_)
          refine wc_skip HF nS (HF.wn rfl rfl rfl rfl (Bool.eq_false_iff.2 hb3)) rfl (fun a HF => ?_)
          refine wc_skip HF nS (HF.wn rfl rfl rfl rfl (Bool.eq_false_iff.2 hb3)) rfl (fun a HF => ?_)
          refine wc_skip HF nS (HF.wn rfl rfl rfl rfl (Bool.eq_false_iff.2 hb3)) rfl (fun a HF => ?_)
          refine wc_pick (b := false) HF nS rfl (Bool.eq_false_iff.2 hb3) rfl (HF.wy rfl rfl rfl rfl (notT hb21)) rfl (fun a HF => ?_)
          refine wc_pick (b := false) HF nS rfl (notT hb21) rfl rfl rfl (fun a HF => ?_)
          refine wc_end ?_
          refine then_n ?_
          refine wp_if (b' := false) HF rfl rfl ?_
          refine wp_skip ?_
          refine then_n ?_
          obtain ⟨_, hx26, h⟩ := obs h
          refine wp_cut (fun a w => Fr a 184 [(0, .slice a_x0 x0.length c_x0)] ∧ St w0 (fun _ => False) w []) ?_ ?_
          · have hk1 := h
            have h := hx26
            refine wp_seq ?_
            refine wc_text ?_
            refine wc_move HF nS rfl rfl rfl (fun a HF => ?_)
            refine wc_end ?_
            refine then_n ?_
            refine wp_if (b' := false) HF rfl (Bool.eq_false_iff.2 hb3) ?_
            refine wp_skip ?_
            have HT : St w0 (fun _ => False) w [] := HT.take 0
            exact then_n ⟨(HF.keep HF.nil rfl), HT⟩
          · rintro a w ⟨HF, HT⟩
            refine ?_
            refine wp_seq ?_
            refine wc_text ?_
            refine wc_move HF nS rfl rfl rfl (fun a HF => ?_)
            obtain ⟨y46, y47, hx27, h⟩ := obs2 h
            refine wc_call HF cf43 rfl (w_spec_DrawTick fuel hx27 (HT.ro hr_x0).any) rfl rfl ?_
            rintro e w ⟨a14, n14, c14, rfl, hE⟩
            have hb := hE.below
            have HT := HT.pure hE
            obtain rfl := (HT.rdAt 0 rfl).neq
            have HT : St w0 (fun _ => False) w [Own 61 (rowT y47) (.slice a14 y47.length c14)] := HT
            refine ⟨_, rfl, nS, fun a HF => ?_⟩
            refine wc_alloc (cs := [.int .i64 0, .slice none 0 0]) HF HT zr29 rfl rfl rfl (fun p10 w HT hb => ⟨nS, fun a HF => ?_⟩)
            refine wc_storeB (cs' := [.int .i64 y46, .slice a14 y47.length c14]) HF HT rfl rfl (fun w => (ag29 w).2) rfl rfl rfl rfl rfl (fun w HT => ⟨nS, ?_⟩)
            refine wc_end ?_
            refine then_n ?_
            refine wp_seq ?_
            refine wc_text ?_
            refine wc_loadA (vs := [.int .i64 y46, .slice a14 y47.length c14]) HF rfl ag29 rfl ((HT.boxAt 0 rfl).part 0 2) rfl rfl (fun a HF => ?_)
            obtain ⟨y48, y49, y50, hx28, h⟩ := obs3 h
            refine wc_call HF cf30 rfl (w_impl_Tick fuel hx28 (HT.rdAt 1 rfl)) rfl rfl ?_
            rintro e w ⟨a15, n15, c15, rfl, hE⟩
            have hb := hE.below
            have HT := HT.pure hE
            obtain rfl := (HT.rdAt 0 rfl).neq
            have HT : St w0 (fun _ => False) w [Own 61 (rowT y49) (.slice a15 y49.length c15), Box p10 [.int .i64 y46, .slice a14 y47.length c14], Own 61 (rowT y47) (.slice a14 y47.length c14)] := HT
            refine ⟨_, rfl, nS, fun a HF => ?_⟩
            refine wc_move HF nS rfl rfl rfl (fun a HF => ?_)
            refine wc_extract (v := .agg #[.int .i64 y48, .slice a15 y49.length c15]) HF nS rfl rfl rfl rfl (fun a HF => ?_)
            refine wc_extract (v := .int .i64 y50) HF nS rfl rfl rfl rfl (fun a HF => ?_)
            refine wc_alloc (cs := [.int .i64 0, .slice none 0 0]) HF HT zr29 rfl rfl rfl (fun p11 w HT hb => ⟨nS, fun a HF => ?_⟩)
            refine wc_storeB (cs' := [.int .i64 y48, .slice a15 y49.length c15]) HF HT rfl rfl (fun w => (ag29 w).2) rfl rfl rfl rfl rfl (fun w HT => ⟨nS, ?_⟩)
            refine wc_assign HF nS rfl rfl rfl (fun a HF => ?_)
            refine wc_end ?_
            refine then_n ?_
            refine wp_seq ?_
            refine wp_region_can [(0, true), (1, true), (2, true), (3, true), (4, true), (5, false), (6, true), (7, true), (8, true), (9, true), (10, true), (11, true), (12, true), (13, true), (14, true), (15, true), (16, true), (17, true), (18, true), (19, true), (20, true), (21, false), (22, true), (23, true), (24, true), (26, false), (25, false), (27, true), (28, true), (29, true), (30, true), (31, true)] (fun w' => LdC w' p10 0 [.int .i64 y46, .slice a14 y47.length c14] ∧ True) (by kernel_rfl) (by kernel_rfl) ?_
            have HT : St w0 (fun _ => False) w.drew [Box p11 [.int .i64 y48, .slice a15 y49.length c15], Own 61 (rowT y49) (.slice a15 y49.length c15), Box p10 [.int .i64 y46, .slice a14 y47.length c14], Own 61 (rowT y47) (.slice a14 y47.length c14)] := HT.drew
            refine wc_move HF nS rfl rfl rfl (fun a HF => ?_)
            refine wc_bin HF nS rfl rfl b_eq rfl rfl (fun a HF => ?_)
            refine wc_move HF nS rfl rfl rfl (fun a HF => ?_)
            by_cases hb22 : y50 = 0
            · have h := (if_pos hb22).symm.trans h
              refine wc_loadA (vs := [.int .i64 y48, .slice a15 y49.length c15]) HF rfl ag29 rfl ((HT.boxAt 0 rfl).part 0 2) (HF.wy rfl rfl rfl rfl (decide_eq_true hb22)) rfl (fun a HF => ?_)
              refine wc_loadA (vs := [.int .i64 y46, .slice a14 y47.length c14]) HF rfl ag29 rfl ((HT.boxAt 2 rfl).part 0 2) (HF.wy rfl rfl rfl rfl (decide_eq_true hb22)) rfl (fun a HF => ?_)
              obtain ⟨y51, hx29, h⟩ := obs h
              refine wc_call HF cf42 rfl (w_laws_sameMem fuel hx29 (HT.rdAt 1 rfl) (HT.rdAt 3 rfl)) (HF.wy rfl rfl rfl rfl (decide_eq_true hb22)) rfl ?_
              rintro e w ⟨rfl, hE⟩
              have hb := hE.below
              have HT := HT.pure hE
              have HT : St w0 (fun _ => False) w [Box p11 [.int .i64 y48, .slice a15 y49.length c15], Own 61 (rowT y49) (.slice a15 y49.length c15), Box p10 [.int .i64 y46, .slice a14 y47.length c14], Own 61 (rowT y47) (.slice a14 y47.length c14)] := HT
              refine ⟨_, rfl, (fun _ => ⟨(HT.boxAt 2 rfl).part 0 2, trivial⟩), fun a HF => ?_⟩
              refine wc_pick (b := true) HF nS rfl (decide_eq_true hb22) rfl rfl rfl (fun a HF => ?_)
              refine wc_move HF nS rfl rfl rfl (fun a HF => ?_)
              by_cases hb23 : y51 = true
              · have h := (if_pos hb23).symm.trans h
                refine wc_skip HF nS (HF.wn rfl rfl rfl rfl hb23) rfl (fun a HF => ?_)
                refine wc_skip HF nS (HF.wn rfl rfl rfl rfl hb23) rfl (fun a HF => ?_)
                refine wc_skip HF nS (HF.wn rfl rfl rfl rfl hb23) rfl (fun a HF => ?_)
                refine wc_skip HF nS (HF.wn rfl rfl rfl rfl hb23) rfl (fun a HF => ?_)
                refine wc_skip HF nS (HF.wn rfl rfl rfl rfl hb23) rfl (fun a HF => ?_)
                refine wc_skip HF nS (HF.wn rfl rfl rfl rfl hb23) rfl (fun a HF => ?_)
                refine wc_skip HF nS (HF.unwanted rfl rfl rfl rfl) rfl (fun a HF => ?_)
                refine wc_skip HF nS (HF.unwanted rfl rfl rfl rfl) rfl (fun a HF => ?_)
                refine wc_skip HF nS (HF.unwanted rfl rfl rfl rfl) rfl (fun a HF => ?_)
                refine wc_skip HF nS (HF.unwanted rfl rfl rfl rfl) rfl (fun a HF => ?_)
                refine wc_skip HF nS (HF.wn rfl rfl rfl rfl hb23) rfl (fun a HF => ?_)
                refine wc_skip HF nS (HF.wn rfl rfl rfl rfl hb23) rfl (fun a HF => ?_)
                refine wc_skip HF nS (HF.unwanted rfl rfl rfl rfl) rfl (fun a HF => ?_)
                refine wc_skip HF (fun _ => ⟨(HT.boxAt 2 rfl).part 0 2, trivial⟩) (HF.unwanted rfl rfl rfl rfl) rfl (fun a HF => ?_)
                refine wc_skip HF nS (HF.wn rfl rfl rfl rfl hb23) rfl (fun a HF => ?_)
                refine wc_skip HF nS (HF.wn rfl rfl rfl rfl hb23) rfl (fun a HF => ?_)
                refine wc_skip HF nS (HF.unwanted rfl rfl rfl rfl) rfl (fun a HF => ?_)
                refine wc_skip HF (fun _ => ⟨(HT.boxAt 2 rfl).part 0 2, trivial⟩) (HF.unwanted rfl rfl rfl rfl) rfl (fun a HF => ?_)
                refine wc_skip HF (fun _ => ⟨(HT.boxAt 2 rfl).part 0 2, trivial⟩) (HF.unwanted rfl rfl rfl rfl) rfl (fun a HF => ?_)
                refine wc_skip HF nS (HF.unwanted rfl rfl rfl rfl) rfl (fun a HF => ?_)
                refine wc_skip HF nS (HF.unwanted rfl rfl rfl rfl) rfl (fun a HF => ?_)
                refine wc_skip HF nS (HF.wn rfl rfl rfl rfl hb23) rfl (fun a HF => ?_)
                refine wc_pick (b := true) HF nS rfl hb23 rfl rfl rfl (fun a HF => ?_)
                refine wc_assign HF nS rfl rfl rfl (fun a HF => ?_)
                refine wc_endN ?_
                refine then_n ?_
                refine wp_ret ?_
                obtain rfl := Option.some.inj h
                refine bp_ret HF (res_one rfl HF rfl) ?_
                have HT : St w0 (fun _ => False) w [] := HT.take 0
                exact ⟨rfl, HT⟩
              · have h := (if_neg hb23).symm.trans h
                refine wc_move HF nS rfl (HF.wy rfl rfl rfl rfl (Bool.eq_false_iff.2 hb23)) rfl (fun a HF => ?_)
                refine wc_faddr HF nS rfl fl29_0 (HF.wy rfl rfl rfl rfl (Bool.eq_false_iff.2 hb23)) rfl (fun a HF => ?_)
                refine wc_load HF rfl sc3 ((HT.boxAt 2 rfl).get 0 rfl) (HF.wy rfl rfl rfl rfl (Bool.eq_false_iff.2 hb23)) rfl (fun a HF => ?_)
                obtain ⟨hg5, h⟩ := grd h
                refine wc_bin HF nS rfl rfl (b_add hg5) (HF.wy rfl rfl rfl rfl (Bool.eq_false_iff.2 hb23)) rfl (fun a HF => ?_)
                refine wc_bin HF nS rfl rfl b_eq (HF.wy rfl rfl rfl rfl (Bool.eq_false_iff.2 hb23)) rfl (fun a HF => ?_)
                refine wc_move HF nS rfl (HF.wy rfl rfl rfl rfl (Bool.eq_false_iff.2 hb23)) rfl (fun a HF => ?_)
                by_cases hb24 : y50 = (y46 + 1)
                · have h := (if_pos hb24).symm.trans h
                  refine wc_faddr HF nS rfl fl29_0 (HF.wy rfl rfl rfl rfl (decide_eq_true hb24)) rfl (fun a HF => ?_)
                  refine wc_load HF rfl sc3 ((HT.boxAt 0 rfl).get 0 rfl) (HF.wy rfl rfl rfl rfl (decide_eq_true hb24)) rfl (fun a HF => ?_)
                  refine wc_move HF nS rfl (HF.wy rfl rfl rfl rfl (decide_eq_true hb24)) rfl (fun a HF => ?_)
                  refine wc_bin HF nS rfl rfl b_eq (HF.wy rfl rfl rfl rfl (decide_eq_true hb24)) rfl (fun a HF => ?_)
                  refine wc_pick (b := true) HF nS rfl (decide_eq_true hb24) rfl (HF.wy rfl rfl rfl rfl (Bool.eq_false_iff.2 hb23)) rfl (fun a HF => ?_)
                  refine wc_move HF nS rfl (HF.wy rfl rfl rfl rfl (Bool.eq_false_iff.2 hb23)) rfl (fun a HF => ?_)
                  by_cases hb25 : y48 = y50
                  · have h := (if_pos hb25).symm.trans h
                    refine wc_loadA (vs := [.int .i64 y48, .slice a15 y49.length c15]) HF rfl ag29 rfl ((HT.boxAt 0 rfl).part 0 2) (HF.wy rfl rfl rfl rfl (decide_eq_true hb25)) rfl (fun a HF => ?_)
                    obtain ⟨y52, hx30, h⟩ := obs h
                    refine wc_call HF cf14 rfl (w_spec_MemOk fuel hx30 (HT.rdAt 1 rfl)) (HF.wy rfl rfl rfl rfl (decide_eq_true hb25)) rfl ?_
                    rintro e w ⟨rfl, hE⟩
                    have hb := hE.below
                    have HT := HT.pure hE
                    have HT : St w0 (fun _ => False) w [Box p11 [.int .i64 y48, .slice a15 y49.length c15], Own 61 (rowT y49) (.slice a15 y49.length c15), Box p10 [.int .i64 y46, .slice a14 y47.length c14], Own 61 (rowT y47) (.slice a14 y47.length c14)] := HT
                    refine ⟨_, rfl, (fun _ => ⟨(HT.boxAt 2 rfl).part 0 2, trivial⟩), fun a HF => ?_⟩
                    refine wc_pick (b := true) HF nS rfl (decide_eq_true hb25) rfl (HF.wy rfl rfl rfl rfl (Bool.eq_false_iff.2 hb23)) rfl (fun a HF => ?_)
                    refine wc_move HF nS rfl (HF.wy rfl rfl rfl rfl (Bool.eq_false_iff.2 hb23)) rfl (fun a HF => ?_)
                    by_cases hb26 : y52 = true
                    · have h := (if_pos hb26).symm.trans h
                      refine wc_loadA (vs := [.int .i64 y48, .slice a15 y49.length c15]) HF rfl ag29 rfl ((HT.boxAt 0 rfl).part 0 2) (HF.wy rfl rfl rfl rfl hb26) rfl (fun a HF => ?_)
                      refine wc_loadAS (vs := [.int .i64 y46, .slice a14 y47.length c14]) HF ⟨(HT.boxAt 2 rfl).part 0 2, trivial⟩ rfl ag29 rfl (fun w hS => hS.1) (HF.wy rfl rfl rfl rfl hb26) rfl (fun a HF => ?_)
                      obtain ⟨y53, hx31, h⟩ := obs h
                      refine wc_call HF cf32 rfl (w_impl_Values fuel hx31 (HT.rdAt 1 rfl)) (HF.wy rfl rfl rfl rfl hb26) rfl ?_
                      rintro e w ⟨a16, n16, c16, rfl, hE⟩
                      have hb := hE.below
                      have HT := HT.pure hE
                      obtain rfl := (HT.rdAt 0 rfl).neq
                      have HT : St w0 (fun _ => False) w [Own 3 (rowT y53) (.slice a16 y53.length c16), Box p11 [.int .i64 y48, .slice a15 y49.length c15], Own 61 (rowT y49) (.slice a15 y49.length c15), Box p10 [.int .i64 y46, .slice a14 y47.length c14], Own 61 (rowT y47) (.slice a14 y47.length c14)] := HT
                      refine ⟨_, rfl, (fun _ => ⟨(HT.boxAt 3 rfl).part 0 2, trivial⟩), fun a HF => ?_⟩
                      obtain ⟨y54, hx32, h⟩ := obs h
                      refine wc_call HF cf32 rfl (w_impl_Values fuel hx32 (HT.rdAt 4 rfl)) (HF.wy rfl rfl rfl rfl hb26) rfl ?_
                      rintro e w ⟨a17, n17, c17, rfl, hE⟩
                      have hb := hE.below
                      have HT := HT.pure hE
                      obtain rfl := (HT.rdAt 0 rfl).neq
                      have HT : St w0 (fun _ => False) w [Own 3 (rowT y54) (.slice a17 y54.length c17), Own 3 (rowT y53) (.slice a16 y53.length c16), Box p11 [.int .i64 y48, .slice a15 y49.length c15], Own 61 (rowT y49) (.slice a15 y49.length c15), Box p10 [.int .i64 y46, .slice a14 y47.length c14], Own 61 (rowT y47) (.slice a14 y47.length c14)] := HT
                      refine ⟨_, rfl, nS, fun a HF => ?_⟩
                      obtain ⟨y55, hx33, h⟩ := obs h
                      refine wc_call HF cf44 rfl (w_laws_sameInts fuel hx33 (HT.rdAt 1 rfl) (HT.rdAt 0 rfl)) (HF.wy rfl rfl rfl rfl hb26) rfl ?_
                      rintro e w ⟨rfl, hE⟩
                      have hb := hE.below
                      have HT := HT.pure hE
                      have HT : St w0 (fun _ => False) w [Own 3 (rowT y54) (.slice a17 y54.length c17), Own 3 (rowT y53) (.slice a16 y53.length c16), Box p11 [.int .i64 y48, .slice a15 y49.length c15], Own 61 (rowT y49) (.slice a15 y49.length c15), Box p10 [.int .i64 y46, .slice a14 y47.length c14], Own 61 (rowT y47) (.slice a14 y47.length c14)] := HT
                      refine ⟨_, rfl, nS, fun a HF => ?_⟩
                      refine wc_pick (b := true) HF nS rfl hb26 rfl (HF.wy rfl rfl rfl rfl (Bool.eq_false_iff.2 hb23)) rfl (fun a HF => ?_)
                      refine wc_pick (b := false) HF nS rfl (Bool.eq_false_iff.2 hb23) rfl rfl rfl (fun a HF => ?_)
                      refine wc_assign HF nS rfl rfl rfl (fun a HF => ?_)
                      refine wc_endN ?_
                      refine then_n ?_
                      refine wp_ret ?_
                      obtain rfl := Option.some.inj h
                      refine bp_ret HF (res_one rfl HF rfl) ?_
                      have HT : St w0 (fun _ => False) w [] := HT.take 0
                      exact ⟨rfl, HT⟩
                    · have h := (if_neg hb26).symm.trans h
                      refine wc_skip HF nS (HF.wn rfl rfl rfl rfl (Bool.eq_false_iff.2 hb26)) rfl (fun a HF => ?_)
                      refine wc_skip HF (fun _ => ⟨(HT.boxAt 2 rfl).part 0 2, trivial⟩) (HF.wn rfl rfl rfl rfl (Bool.eq_false_iff.2 hb26)) rfl (fun a HF => ?_)
                      refine wc_skip HF (fun _ => ⟨(HT.boxAt 2 rfl).part 0 2, trivial⟩) (HF.wn rfl rfl rfl rfl (Bool.eq_false_iff.2 hb26)) rfl (fun a HF => ?_)
                      refine wc_skip HF nS (HF.wn rfl rfl rfl rfl (Bool.eq_false_iff.2 hb26)) rfl (fun a HF => ?_)
                      refine wc_skip HF nS (HF.wn rfl rfl rfl rfl (Bool.eq_false_iff.2 hb26)) rfl (fun a HF => ?_)
                      refine wc_pick (b := false) HF nS rfl (Bool.eq_false_iff.2 hb26) rfl (HF.wy rfl rfl rfl rfl (Bool.eq_false_iff.2 hb23)) rfl (fun a HF => ?_)
                      refine wc_pick (b := false) HF nS rfl (Bool.eq_false_iff.2 hb23) rfl rfl rfl (fun a HF => ?_)
                      refine wc_assign HF nS rfl rfl rfl (fun a HF => ?_)
                      refine wc_endN ?_
                      refine then_n ?_
                      refine wp_ret ?_
                      obtain rfl := Option.some.inj h
                      refine bp_ret HF (res_one rfl HF rfl) ?_
                      have HT : St w0 (fun _ => False) w [] := HT.take 0
                      exact ⟨rfl, HT⟩
                  · have h := (if_neg hb25).symm.trans h
                    refine wc_skip HF nS (HF.wn rfl rfl rfl rfl (decide_eq_false hb25)) rfl (fun a HF => ?_)
                    refine wc_skip HF (fun _ => ⟨(HT.boxAt 2 rfl).part 0 2, trivial⟩) (HF.wn rfl rfl rfl rfl (decide_eq_false hb25)) rfl (fun a HF => ?_)
                    refine wc_pick (b := false) HF nS rfl (decide_eq_false hb25) rfl (HF.wy rfl rfl rfl rfl (Bool.eq_false_iff.2 hb23)) rfl (fun a HF => ?_)
                    refine wc_move HF nS rfl (HF.wy rfl rfl rfl rfl (Bool.eq_false_iff.2 hb23)) rfl (fun a HF => ?_)
                    refine wc_skip HF nS (HF.wn rfl rfl rfl rfl rfl) rfl (fun a HF => ?_)
                    refine wc_skip HF (fun _ => ⟨(HT.boxAt 2 rfl).part 0 2, trivial⟩) (HF.wn rfl rfl rfl rfl rfl) rfl (fun a HF => ?_)
                    refine wc_skip HF (fun _ => ⟨(HT.boxAt 2 rfl).part 0 2, trivial⟩) (HF.wn rfl rfl rfl rfl rfl) rfl (fun a HF => ?_)
                    refine wc_skip HF nS (HF.wn rfl rfl rfl rfl rfl) rfl (fun a HF => ?_)
                    refine wc_skip HF nS (HF.wn rfl rfl rfl rfl rfl) rfl (fun a HF => ?_)
                    refine wc_pick (b := false) HF nS rfl rfl rfl (HF.wy rfl rfl rfl rfl (Bool.eq_false_iff.2 hb23)) rfl (fun a HF => ?_)
                    refine wc_pick (b := false) HF nS rfl (Bool.eq_false_iff.2 hb23) rfl rfl rfl (fun a HF => ?_)
                    refine wc_assign HF nS rfl rfl rfl (fun a HF => ?_)
                    refine wc_endN ?_
                    refine then_n ?_
                    refine wp_ret ?_
                    obtain rfl := Option.some.inj h
                    refine bp_ret HF (res_one rfl HF rfl) ?_
                    have HT : St w0 (fun _ => False) w [] := HT.take 0
                    exact ⟨rfl, HT⟩
                · have h := (if_neg hb24).symm.trans h
                  refine wc_skip HF nS (HF.wn rfl rfl rfl rfl (decide_eq_false hb24)) rfl (fun a HF => ?_)
                  refine wc_skip HF nS (HF.wn rfl rfl rfl rfl (decide_eq_false hb24)) rfl (fun a HF => ?_)
                  refine wc_skip HF nS (HF.wn rfl rfl rfl rfl (decide_eq_false hb24)) rfl (fun a HF => ?_)
                  refine wc_skip HF nS (HF.wn rfl rfl rfl rfl (decide_eq_false hb24)) rfl (fun a HF => ?_)
                  refine wc_pick (b := false) HF nS rfl (decide_eq_false hb24) rfl (HF.wy rfl rfl rfl rfl (Bool.eq_false_iff.2 hb23)) rfl (fun a HF => ?_)
                  refine wc_move HF nS rfl (HF.wy rfl rfl rfl rfl (Bool.eq_false_iff.2 hb23)) rfl (fun a HF => ?_)
                  refine wc_skip HF nS (HF.wn rfl rfl rfl rfl rfl) rfl (fun a HF => ?_)
                  refine wc_skip HF (fun _ => ⟨(HT.boxAt 2 rfl).part 0 2, trivial⟩) (HF.wn rfl rfl rfl rfl rfl) rfl (fun a HF => ?_)
                  refine wc_pick (b := false) HF nS rfl rfl rfl (HF.wy rfl rfl rfl rfl (Bool.eq_false_iff.2 hb23)) rfl (fun a HF => ?_)
                  refine wc_move HF nS rfl (HF.wy rfl rfl rfl rfl (Bool.eq_false_iff.2 hb23)) rfl (fun a HF => ?_)
                  refine wc_skip HF nS (HF.wn rfl rfl rfl rfl rfl) rfl (fun a HF => ?_)
                  refine wc_skip HF (fun _ => ⟨(HT.boxAt 2 rfl).part 0 2, trivial⟩) (HF.wn rfl rfl rfl rfl rfl) rfl (fun a HF => ?_)
                  refine wc_skip HF (fun _ => ⟨(HT.boxAt 2 rfl).part 0 2, trivial⟩) (HF.wn rfl rfl rfl rfl rfl) rfl (fun a HF => ?_)
                  refine wc_skip HF nS (HF.wn rfl rfl rfl rfl rfl) rfl (fun a HF => ?_)
                  refine wc_skip HF nS (HF.wn rfl rfl rfl rfl rfl) rfl (fun a HF => ?_)
                  refine wc_pick (b := false) HF nS rfl rfl rfl (HF.wy rfl rfl rfl rfl (Bool.eq_false_iff.2 hb23)) rfl (fun a HF => ?_)
                  refine wc_pick (b := false) HF nS rfl (Bool.eq_false_iff.2 hb23) rfl rfl rfl (fun a HF => ?_)
                  refine wc_assign HF nS rfl rfl rfl (fun a HF => ?_)
                  refine wc_endN ?_
                  refine then_n ?_
                  refine wp_ret ?_
                  obtain rfl := Option.some.inj h
                  refine bp_ret HF (res_one rfl HF rfl) ?_
                  have HT : St w0 (fun _ => False) w [] := HT.take 0
                  exact ⟨rfl, HT⟩
            · have h := (if_neg hb22).symm.trans h
              refine wc_skip HF nS (HF.wn rfl rfl rfl rfl (decide_eq_false hb22)) rfl (fun a HF => ?_)
              refine wc_skip HF nS (HF.wn rfl rfl rfl rfl (decide_eq_false hb22)) rfl (fun a HF => ?_)
              refine wc_skip HF (fun _ => ⟨(HT.boxAt 2 rfl).part 0 2, trivial⟩) (HF.wn rfl rfl rfl rfl (decide_eq_false hb22)) rfl (fun a HF => ?_)
              refine wc_pick (b := false) HF nS rfl (decide_eq_false hb22) rfl rfl rfl (fun a HF => ?_)
              refine wc_move HF nS rfl rfl rfl (fun a HF => ?_)
              refine wc_move HF nS rfl (HF.wy rfl rfl rfl rfl rfl) rfl (fun a HF => ?_)
              refine wc_faddr HF nS rfl fl29_0 (HF.wy rfl rfl rfl rfl rfl) rfl (fun a HF => ?_)
              refine wc_load HF rfl sc3 ((HT.boxAt 2 rfl).get 0 rfl) (HF.wy rfl rfl rfl rfl rfl) rfl (fun a HF => ?_)
              obtain ⟨hg6, h⟩ := grd h
              refine wc_bin HF nS rfl rfl (b_add hg6) (HF.wy rfl rfl rfl rfl rfl) rfl (fun a HF => ?_)
              refine wc_bin HF nS rfl rfl b_eq (HF.wy rfl rfl rfl rfl rfl) rfl (fun a HF => ?_)
              refine wc_move HF nS rfl (HF.wy rfl rfl rfl rfl rfl) rfl (fun a HF => ?_)
              by_cases hb27 : y50 = (y46 + 1)
              · have h := (if_pos hb27).symm.trans h
                refine wc_faddr HF nS rfl fl29_0 (HF.wy rfl rfl rfl rfl (decide_eq_true hb27)) rfl (fun a HF => ?_)
                refine wc_load HF rfl sc3 ((HT.boxAt 0 rfl).get 0 rfl) (HF.wy rfl rfl rfl rfl (decide_eq_true hb27)) rfl (fun a HF => ?_)
                refine wc_move HF nS rfl (HF.wy rfl rfl rfl rfl (decide_eq_true hb27)) rfl (fun a HF => ?_)
                refine wc_bin HF nS rfl rfl b_eq (HF.wy rfl rfl rfl rfl (decide_eq_true hb27)) rfl (fun a HF => ?_)
                refine wc_pick (b := true) HF nS rfl (decide_eq_true hb27) rfl (HF.wy rfl rfl rfl rfl rfl) rfl (fun a HF => ?_)
                refine wc_move HF nS rfl (HF.wy rfl rfl rfl rfl rfl) rfl (fun a HF => ?_)
                by_cases hb28 : y48 = y50
                · have h := (if_pos hb28).symm.trans h
                  refine wc_loadA (vs := [.int .i64 y48, .slice a15 y49.length c15]) HF rfl ag29 rfl ((HT.boxAt 0 rfl).part 0 2) (HF.wy rfl rfl rfl rfl (decide_eq_true hb28)) rfl (fun a HF => ?_)
                  obtain ⟨y56, hx34, h⟩ := obs h
                  refine wc_call HF cf14 rfl (w_spec_MemOk fuel hx34 (HT.rdAt 1 rfl)) (HF.wy rfl rfl rfl rfl (decide_eq_true hb28)) rfl ?_
                  rintro e w ⟨rfl, hE⟩
                  have hb := hE.below
                  have HT := HT.pure hE
                  have HT : St w0 (fun _ => False) w [Box p11 [.int .i64 y48, .slice a15 y49.length c15], Own 61 (rowT y49) (.slice a15 y49.length c15), Box p10 [.int .i64 y46, .slice a14 y47.length c14], Own 61 (rowT y47) (.slice a14 y47.length c14)] := HT
                  refine ⟨_, rfl, (fun _ => ⟨(HT.boxAt 2 rfl).part 0 2, trivial⟩), fun a HF => ?_⟩
                  refine wc_pick (b := true) HF nS rfl (decide_eq_true hb28) rfl (HF.wy rfl rfl rfl rfl rfl) rfl (fun a HF => ?_)
                  refine wc_move HF nS rfl (HF.wy rfl rfl rfl rfl rfl) rfl (fun a HF => ?_)
                  by_cases hb29 : y56 = true
                  · have h := (if_pos hb29).symm.trans h
                    refine wc_loadA (vs := [.int .i64 y48, .slice a15 y49.length c15]) HF rfl ag29 rfl ((HT.boxAt 0 rfl).part 0 2) (HF.wy rfl rfl rfl rfl hb29) rfl (fun a HF => ?_)
                    refine wc_loadAS (vs := [.int .i64 y46, .slice a14 y47.length c14]) HF ⟨(HT.boxAt 2 rfl).part 0 2, trivial⟩ rfl ag29 rfl (fun w hS => hS.1) (HF.wy rfl rfl rfl rfl hb29) rfl (fun a HF => ?_)
                    obtain ⟨y57, hx35, h⟩ := obs h
                    refine wc_call HF cf32 rfl (w_impl_Values fuel hx35 (HT.rdAt 1 rfl)) (HF.wy rfl rfl rfl rfl hb29) rfl ?_
                    rintro e w ⟨a18, n18, c18, rfl, hE⟩
                    have hb := hE.below
                    have HT := HT.pure hE
                    obtain rfl := (HT.rdAt 0 rfl).neq
                    have HT : St w0 (fun _ => False) w [Own 3 (rowT y57) (.slice a18 y57.length c18), Box p11 [.int .i64 y48, .slice a15 y49.length c15], Own 61 (rowT y49) (.slice a15 y49.length c15), Box p10 [.int .i64 y46, .slice a14 y47.length c14], Own 61 (rowT y47) (.slice a14 y47.length c14)] := HT
                    refine ⟨_, rfl, (fun _ => ⟨(HT.boxAt 3 rfl).part 0 2, trivial⟩), fun a HF => ?_⟩
                    obtain ⟨y58, hx36, h⟩ := obs h
                    refine wc_call HF cf32 rfl (w_impl_Values fuel hx36 (HT.rdAt 4 rfl)) (HF.wy rfl rfl rfl rfl hb29) rfl ?_
                    rintro e w ⟨a19, n19, c19, rfl, hE⟩
                    have hb := hE.below
                    have HT := HT.pure hE
                    obtain rfl := (HT.rdAt 0 rfl).neq
                    have HT : St w0 (fun _ => False) w [Own 3 (rowT y58) (.slice a19 y58.length c19), Own 3 (rowT y57) (.slice a18 y57.length c18), Box p11 [.int .i64 y48, .slice a15 y49.length c15], Own 61 (rowT y49) (.slice a15 y49.length c15), Box p10 [.int .i64 y46, .slice a14 y47.length c14], Own 61 (rowT y47) (.slice a14 y47.length c14)] := HT
                    refine ⟨_, rfl, nS, fun a HF => ?_⟩
                    obtain ⟨y59, hx37, h⟩ := obs h
                    refine wc_call HF cf44 rfl (w_laws_sameInts fuel hx37 (HT.rdAt 1 rfl) (HT.rdAt 0 rfl)) (HF.wy rfl rfl rfl rfl hb29) rfl ?_
                    rintro e w ⟨rfl, hE⟩
                    have hb := hE.below
                    have HT := HT.pure hE
                    have HT : St w0 (fun _ => False) w [Own 3 (rowT y58) (.slice a19 y58.length c19), Own 3 (rowT y57) (.slice a18 y57.length c18), Box p11 [.int .i64 y48, .slice a15 y49.length c15], Own 61 (rowT y49) (.slice a15 y49.length c15), Box p10 [.int .i64 y46, .slice a14 y47.length c14], Own 61 (rowT y47) (.slice a14 y47.length c14)] := HT
                    refine ⟨_, rfl, nS, fun a HF => ?_⟩
                    refine wc_pick (b := true) HF nS rfl hb29 rfl (HF.wy rfl rfl rfl rfl rfl) rfl (fun a HF => ?_)
                    refine wc_pick (b := false) HF nS rfl rfl rfl rfl rfl (fun a HF => ?_)
                    refine wc_assign HF nS rfl rfl rfl (fun a HF => ?_)
                    refine wc_endN ?_
                    refine then_n ?_
                    refine wp_ret ?_
                    obtain rfl := Option.some.inj h
                    refine bp_ret HF (res_one rfl HF rfl) ?_
                    have HT : St w0 (fun _ => False) w [] := HT.take 0
                    exact ⟨rfl, HT⟩
                  · have h := (if_neg hb29).symm.trans h
                    refine wc_skip HF nS (HF.wn rfl rfl rfl rfl (Bool.eq_false_iff.2 hb29)) rfl (fun a HF => ?_)
                    refine wc_skip HF (fun _ => ⟨(HT.boxAt 2 rfl).part 0 2, trivial⟩) (HF.wn rfl rfl rfl rfl (Bool.eq_false_iff.2 hb29)) rfl (fun a HF => ?_)
                    refine wc_skip HF (fun _ => ⟨(HT.boxAt 2 rfl).part 0 2, trivial⟩) (HF.wn rfl rfl rfl rfl (Bool.eq_false_iff.2 hb29)) rfl (fun a HF => ?_)
                    refine wc_skip HF nS (HF.wn rfl rfl rfl rfl (Bool.eq_false_iff.2 hb29)) rfl (fun a HF => ?_)
                    refine wc_skip HF nS (HF.wn rfl rfl rfl rfl (Bool.eq_false_iff.2 hb29)) rfl (fun a HF => ?_)
                    refine wc_pick (b := false) HF nS rfl (Bool.eq_false_iff.2 hb29) rfl (HF.wy rfl rfl rfl rfl rfl) rfl (fun a HF => ?_)
                    refine wc_pick (b := false) HF nS rfl rfl rfl rfl rfl (fun a HF => ?_)
                    refine wc_assign HF nS rfl rfl rfl (fun a HF => ?_)
                    refine wc_endN ?_
                    refine then_n ?_
                    refine wp_ret ?_
                    obtain rfl := Option.some.inj h
                    refine bp_ret HF (res_one rfl HF rfl) ?_
                    have HT : St w0 (fun _ => False) w [] := HT.take 0
                    exact ⟨rfl, HT⟩
                · have h := (if_neg hb28).symm.trans h
                  refine wc_skip HF nS (HF.wn rfl rfl rfl rfl (decide_eq_false hb28)) rfl (fun a HF => ?_)
                  refine wc_skip HF (fun _ => ⟨(HT.boxAt 2 rfl).part 0 2, trivial⟩) (HF.wn rfl rfl rfl rfl (decide_eq_false hb28)) rfl (fun a HF => ?_)
                  refine wc_pick (b := false) HF nS rfl (decide_eq_false hb28) rfl (HF.wy rfl rfl rfl rfl rfl) rfl (fun a HF => ?_)
                  refine wc_move HF nS rfl (HF.wy rfl rfl rfl rfl rfl) rfl (fun a HF => ?_)
                  refine wc_skip HF nS (HF.wn rfl rfl rfl rfl rfl) rfl (fun a HF => ?_)
                  refine wc_skip HF (fun _ => ⟨(HT.boxAt 2 rfl).part 0 2, trivial⟩) (HF.wn rfl rfl rfl rfl rfl) rfl (fun a HF => ?_)
                  refine wc_skip HF (fun _ => ⟨(HT.boxAt 2 rfl).part 0 2, trivial⟩) (HF.wn rfl rfl rfl rfl rfl) rfl (fun a HF => ?_)
                  refine wc_skip HF nS (HF.wn rfl rfl rfl rfl rfl) rfl (fun a HF => ?_)
                  refine wc_skip HF nS (HF.wn rfl rfl rfl rfl rfl) rfl (fun a HF => ?_)
                  refine wc_pick (b := false) HF nS rfl rfl rfl (HF.wy rfl rfl rfl rfl rfl) rfl (fun a HF => ?_)
                  refine wc_pick (b := false) HF nS rfl rfl rfl rfl rfl (fun a HF => ?_)
                  refine wc_assign HF nS rfl rfl rfl (fun a HF => ?_)
                  refine wc_endN ?_
                  refine then_n ?_
                  refine wp_ret ?_
                  obtain rfl := Option.some.inj h
                  refine bp_ret HF (res_one rfl HF rfl) ?_
                  have HT : St w0 (fun _ => False) w.drew [] := HT.take 0
                  exact ⟨rfl, HT⟩
              · have h := (if_neg hb27).symm.trans h
                refine wc_skip HF nS (HF.wn rfl rfl rfl rfl (decide_eq_false hb27)) rfl (fun a HF => ?_)
                refine wc_skip HF nS (HF.wn rfl rfl rfl rfl (decide_eq_false hb27)) rfl (fun a HF => ?_)
                refine wc_skip HF nS (HF.wn rfl rfl rfl rfl (decide_eq_false hb27)) rfl (fun a HF => ?_)
                refine wc_skip HF nS (HF.wn rfl rfl rfl rfl (decide_eq_false hb27)) rfl (fun a HF => ?_)
                refine wc_pick (b := false) HF nS rfl (decide_eq_false hb27) rfl (HF.wy rfl rfl rfl rfl rfl) rfl (fun a HF => ?_)
                refine wc_move HF nS rfl (HF.wy rfl rfl rfl rfl rfl) rfl (fun a HF => ?_)
                refine wc_skip HF nS (HF.wn rfl rfl rfl rfl rfl) rfl (fun a HF => ?_)
                refine wc_skip HF (fun _ => ⟨(HT.boxAt 2 rfl).part 0 2, trivial⟩) (HF.wn rfl rfl rfl rfl rfl) rfl (fun a HF => ?_)
                refine wc_pick (b := false) HF nS rfl rfl rfl (HF.wy rfl rfl rfl rfl rfl) rfl (fun a HF => ?_)
                refine wc_move HF nS rfl (HF.wy rfl rfl rfl rfl rfl) rfl (fun a HF => ?_)
                refine wc_skip HF nS (HF.wn rfl rfl rfl rfl rfl) rfl (fun a HF => ?_)
                refine wc_skip HF (fun _ => ⟨(HT.boxAt 2 rfl).part 0 2, trivial⟩) (HF.wn rfl rfl rfl rfl rfl) rfl (fun a HF => ?_)
                refine wc_skip HF (fun _ => ⟨(HT.boxAt 2 rfl).part 0 2, trivial⟩) (HF.wn rfl rfl rfl rfl rfl) rfl (fun a HF => ?_)
                refine wc_skip HF nS (HF.wn rfl rfl rfl rfl rfl) rfl (fun a HF => ?_)
                refine wc_skip HF nS (HF.wn rfl rfl rfl rfl rfl) rfl (fun a HF => ?_)
                refine wc_pick (b := false) HF nS rfl rfl rfl (HF.wy rfl rfl rfl rfl rfl) rfl (fun a HF => ?_)
                refine wc_pick (b := false) HF nS rfl rfl rfl rfl rfl (fun a HF => ?_)
                refine wc_assign HF nS rfl rfl rfl (fun a HF => ?_)
                refine wc_endN ?_
                refine then_n ?_
                refine wp_ret ?_
                obtain rfl := Option.some.inj h
                refine bp_ret HF (res_one rfl HF rfl) ?_
                have HT : St w0 (fun _ => False) w.drew [] := HT.take 0
                exact ⟨rfl, HT⟩
        · have h := (if_neg hb21).symm.trans h
          refine wc_skip HF nS (HF.wn rfl rfl rfl rfl (notF (Bool.eq_false_iff.2 hb21))) rfl (fun a HF => ?_)
          refine wc_skip HF nS (HF.wn rfl rfl rfl rfl (notF (Bool.eq_false_iff.2 hb21))) rfl (fun a HF => ?_)
          refine wc_skip HF nS (HF.unwanted rfl rfl rfl rfl) rfl (fun a HF => ?_)
          refine wc_skip HF nS (HF.unwanted rfl rfl rfl rfl) rfl (fun a HF => ?_)
          refine wc_skip HF nS (HF.unwanted rfl rfl rfl rfl) rfl (fun a HF => ?_)
          refine wc_skip HF nS (HF.wn rfl rfl rfl rfl (notF (Bool.eq_false_iff.2 hb21))) rfl (fun a HF => ?_)
          refine wc_pick (b := true) HF nS rfl (notF (Bool.eq_false_iff.2 hb21)) rfl rfl rfl (fun a HF => ?_)
          refine wc_end ?_
          refine then_n ?_
          refine wp_if (b' := true) HF rfl rfl ?_
          refine wp_seq ?_
          refine wc_text ?_
          refine wc_assign HF nS rfl rfl rfl (fun a HF => ?_)
          refine wc_end ?_
          refine then_n ?_
          refine wp_ret ?_
          obtain rfl := Option.some.inj h
          refine then_r (?_)
          refine bp_ret HF (res_one rfl HF rfl) ?_
          have HT : St w0 (fun _ => False) w [] := HT.take 0
          exact ⟨rfl, HT⟩
    · have h := (if_neg hb2).symm.trans h
      refine wc_skip HF nS (HF.wn rfl rfl rfl rfl (notF (Bool.eq_false_iff.2 hb2))) rfl (fun a HF => ?_)
      refine wc_skip HF nS (HF.wn rfl rfl rfl rfl (notF (Bool.eq_false_iff.2 hb2))) rfl (fun a HF => ?_)
      refine wc_skip HF nS (HF.wn rfl rfl rfl rfl (notF (Bool.eq_false_iff.2 hb2))) rfl (fun a HF => ?_)
      refine wc_skip HF nS (HF.unwanted rfl rfl rfl rfl) rfl (fun a HF => ?_)
      refine wc_skip HF nS (HF.unwanted rfl rfl rfl rfl) rfl (fun a HF => ?_)
      refine wc_skip HF nS (HF.unwanted rfl rfl rfl rfl) rfl (fun a HF => ?_)
      refine wc_skip HF nS (HF.unwanted rfl rfl rfl rfl) rfl (fun a HF => ?_)
      refine wc_skip HF nS (HF.wn rfl rfl rfl rfl (notF (Bool.eq_false_iff.2 hb2))) rfl (fun a HF => ?_)
      refine wc_pick (b := true) HF nS rfl (notF (Bool.eq_false_iff.2 hb2)) rfl rfl rfl (fun a HF => ?_)
      refine wc_move HF nS rfl rfl rfl (fun a HF => ?_)
      refine wc_skip HF nS (HF.wn rfl rfl rfl rfl rfl) rfl (fun a HF => ?_)
      refine wc_skip HF nS (HF.wn rfl rfl rfl rfl rfl) rfl (fun a HF => ?_)
      refine wc_skip HF nS (HF.unwanted rfl rfl rfl rfl) rfl (fun a HF => ?_)
      refine wc_skip HF nS (HF.unwanted rfl rfl rfl rfl) rfl (fun a HF => ?_)
      refine wc_skip HF nS (HF.unwanted rfl rfl rfl rfl) rfl (fun a HF => ?_)
      refine wc_skip HF nS (HF.wn rfl rfl rfl rfl rfl) rfl (fun a HF => ?_)
      refine wc_pick (b := true) HF nS rfl rfl rfl rfl rfl (fun a HF => ?_)
      refine wc_end ?_
      refine then_n ?_
      refine wp_if (b' := true) HF rfl rfl ?_
      refine wp_seq ?_
      refine wc_text ?_
      refine wc_assign HF nS rfl rfl rfl (fun a HF => ?_)
      refine wc_end ?_
      refine then_n ?_
      refine wp_ret ?_
      obtain rfl := Option.some.inj h
      refine then_r (?_)
      refine bp_ret HF (res_one rfl HF rfl) ?_
      have HT : St w0 (fun _ => False) w [] := HT.take 0
      exact ⟨rfl, HT⟩
end Go.Proofs.Ytmhdjnmfioaciaa
