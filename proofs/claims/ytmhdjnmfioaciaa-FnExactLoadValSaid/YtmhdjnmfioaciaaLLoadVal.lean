/- FnExactLoadVal: for every input the program returns what the reference returns. No condition. -/
import Derived.Test.YtmhdjnmfioaciaaLawBase
import Derived.Test.YtmhdjnmfioaciaaMemArg
import Derived.Test.YtmhdjnmfioaciaaMemIt
import Derived.Test.YtmhdjnmfioaciaaLoad
namespace Go.Proofs.Ytmhdjnmfioaciaa
open Go Go.RowKit
set_option linter.unusedVariables false

set_option maxRecDepth 20000 in
set_option maxHeartbeats 1600000 in
theorem walk_FnExactLoadVal {w : World} {v : Value} (hx : MemArg w v) (i : Int) (hw_i : (Lit.int .i64 i).wf = true) :
    Calls Try.prog 5 #[v, .int .i64 i] w fun e w' => e = .returned (.bool true) ∧ Below w.heap.size w w' := by
  obtain ⟨k, a, n, c, l, rfl, hn, hr_x⟩ := hx
  obtain rfl := hr_x.n3
  have HSZ0 := Lib.hid (fun w' => sz_Mem k a l.length c (1048576) w' (by decide) (by decide) hn)
  by_cases hs : (l.length : Int) ≤ 1048576
  rotate_left
  · have hi : (if (l.length : Int) ≤ 1048576 then 1048576 - (l.length : Int) else -1) = -1 := if_neg hs
    rw [hi] at HSZ0
    clear hi hs
    go_enter Try.func5, Try.ntmps5
    go_wp2_with fail
    refine (HSZ0.out _).mono ?_
    rintro e w1 ⟨rfl, hb1⟩
    go_wp2
    go_ret
    exact ⟨rfl, Below.trans (by repeat (first | with_reducible exact Below.refl _ _ | (with_reducible refine Below.drew ?_) | (with_reducible refine Below.alloc ?_ (by first | omega | (simp; done) | (simp; omega)) _))) (hb1.mono (by simp))⟩
  have hi : (if (l.length : Int) ≤ 1048576 then 1048576 - (l.length : Int) else -1) = 1048576 - l.length := if_pos hs
  rw [hi] at HSZ0
  have hge : ¬ (1048576 - (l.length : Int) < 0) := by omega
  clear hi
  have hsm : l.length ≤ 1048576 := by omega
  clear hn
  obtain ⟨R, hR⟩ : ∃ R, R = loadVal k l i := ⟨_, rfl⟩
  have HSP := fun (a : Option Addr) (n c : Nat) (w : World) h hn => loadVal_spec k a n c l i w h hn
  have HIM := fun (a : Option Addr) (n c : Nat) (w : World) h hn => loadVal_impl k a n c l i w h hn
  simp only [← hR] at HSP HIM
  obtain ⟨r1, r2⟩ := R
  dsimp only at HSP HIM
  clear hR
  have hne_r1 : (r1 != r1) = false := by simp
  have hne_r2 : (r2 != r2) = false := by simp
  have HSP := Lib.hid HSP
  have HIM := Lib.hid HIM
  have HA_i_x := It.rd hr_x
  have i_x_0 := HA_i_x
  clear HA_i_x
  have HB_0 : Hid (Below w.heap.size w w) := Below.refl _ _
  have HZ_0 : Hid (w.heap.size ≤ w.heap.size) := Nat.le_refl _
  go_enter Try.func5, Try.ntmps5
  go_wp2_with fail
  have hb1 : Below w.heap.size w (w.alloc (.cells #[.int .i64 k, .slice a l.length c] 24)) := (by repeat (first | with_reducible exact Below.refl _ _ | (with_reducible refine Below.drew ?_) | (with_reducible refine Below.alloc ?_ (by first | omega | (simp; done) | (simp; omega)) _)))
  have b1q0 : (w.alloc (.cells #[.int .i64 k, .slice a l.length c] 24)).cell? ⟨w.heap.size, 0, none⟩ = some (.int .i64 k) := by simp
  have b1q1 : (w.alloc (.cells #[.int .i64 k, .slice a l.length c] 24)).cell? ⟨w.heap.size, 1, none⟩ = some (.slice a l.length c) := by simp
  have b1z : w.heap.size + 1 ≤ (w.alloc (.cells #[.int .i64 k, .slice a l.length c] 24)).heap.size := by simp
  generalize (w.alloc (.cells #[.int .i64 k, .slice a l.length c] 24)) = w1 at *
  have i_x_1 := i_x_0.below hb1
  have HB_1 := Lib.hid (HB_0.out.trans (hb1.mono HZ_0.out))
  have HZ_1 := Lib.hid (Nat.le_trans HZ_0.out hb1.size)
  have HS_1 := Lib.hid hb1.size
  clear i_x_0 HB_0 HZ_0
  clear hb1
  have b1c0_1 := It.cell b1q0
  have b1e0_1 := b1q0
  clear b1q0
  have b1c1_1 := It.cell b1q1
  have b1e1_1 := b1q1
  clear b1q1
  have b1Z := Lib.hid b1z
  clear b1z
  refine (HSZ0.out _).mono ?_
  rintro e w2 ⟨rfl, hb2⟩
  have i_x_2 := i_x_1.below hb2
  have b1c0_2 := b1c0_1.below hb2
  have b1e0_2 := b1c0_2.fact
  have b1c1_2 := b1c1_1.below hb2
  have b1e1_2 := b1c1_2.fact
  have HB_2 := Lib.hid (HB_1.out.trans (hb2.mono HZ_1.out))
  have HZ_2 := Lib.hid (Nat.le_trans HZ_1.out hb2.size)
  have HS_2 := Lib.hid hb2.size
  clear i_x_1 b1c0_1 b1e0_1 b1c1_1 b1e1_1 HB_1 HZ_1
  clear hb2
  go_wp2_with fail
  refine (to_Mem k l a l.length c _ i_x_2.fact hsm).mono ?_
  rintro e w3 ⟨a2, n3, c4, rfl, i5_3, hb3⟩
  have i_x_3 := i_x_2.below hb3
  have b1c0_3 := b1c0_2.below hb3
  have b1e0_3 := b1c0_3.fact
  have b1c1_3 := b1c1_2.below hb3
  have b1e1_3 := b1c1_3.fact
  have HB_3 := Lib.hid (HB_2.out.trans (hb3.mono HZ_2.out))
  have HZ_3 := Lib.hid (Nat.le_trans HZ_2.out hb3.size)
  have HS_3 := Lib.hid hb3.size
  clear i_x_2 b1c0_2 b1e0_2 b1c1_2 b1e1_2 HB_2 HZ_2
  clear hb3
  go_wp2_with fail
  refine (HSP.out a2 n3 c4 _ (OwnR.rd i5_3.fact) (by have := ((OwnR.rd i5_3.fact)).n3; omega)).mono ?_
  rintro e w4 ⟨rfl, hb4⟩
  have i_x_4 := i_x_3.below hb4
  have i5_4 := i5_3.below hb4
  have b1c0_4 := b1c0_3.below hb4
  have b1e0_4 := b1c0_4.fact
  have b1c1_4 := b1c1_3.below hb4
  have b1e1_4 := b1c1_4.fact
  have HB_4 := Lib.hid (HB_3.out.trans (hb4.mono HZ_3.out))
  have HZ_4 := Lib.hid (Nat.le_trans HZ_3.out hb4.size)
  have HS_4 := Lib.hid hb4.size
  clear i_x_3 i5_3 b1c0_3 b1e0_3 b1c1_3 b1e1_3 HB_3 HZ_3
  clear hb4
  go_wp2_with fail
  refine (to_Mem k l a l.length c _ i_x_4.fact hsm).mono ?_
  rintro e w5 ⟨a6, n7, c8, rfl, i9_5, hb5⟩
  have i_x_5 := i_x_4.below hb5
  have i5_5 := i5_4.below hb5
  have b1c0_5 := b1c0_4.below hb5
  have b1e0_5 := b1c0_5.fact
  have b1c1_5 := b1c1_4.below hb5
  have b1e1_5 := b1c1_5.fact
  have HB_5 := Lib.hid (HB_4.out.trans (hb5.mono HZ_4.out))
  have HZ_5 := Lib.hid (Nat.le_trans HZ_4.out hb5.size)
  have HS_5 := Lib.hid hb5.size
  clear i_x_4 i5_4 b1c0_4 b1e0_4 b1c1_4 b1e1_4 HB_4 HZ_4
  clear hb5
  go_wp2_with fail
  have hb6 : Below w5.heap.size w5 (w5.alloc (.cells #[.int .i64 k, .slice a6 n7 c8] 29)) := (by repeat (first | with_reducible exact Below.refl _ _ | (with_reducible refine Below.drew ?_) | (with_reducible refine Below.alloc ?_ (by first | omega | (simp; done) | (simp; omega)) _)))
  have b10q0 : (w5.alloc (.cells #[.int .i64 k, .slice a6 n7 c8] 29)).cell? ⟨w5.heap.size, 0, none⟩ = some (.int .i64 k) := by simp
  have b10q1 : (w5.alloc (.cells #[.int .i64 k, .slice a6 n7 c8] 29)).cell? ⟨w5.heap.size, 1, none⟩ = some (.slice a6 n7 c8) := by simp
  have b10z : w5.heap.size + 1 ≤ (w5.alloc (.cells #[.int .i64 k, .slice a6 n7 c8] 29)).heap.size := by simp
  generalize (w5.alloc (.cells #[.int .i64 k, .slice a6 n7 c8] 29)) = w6 at *
  have i_x_6 := i_x_5.below hb6
  have i5_6 := i5_5.below hb6
  have i9_6 := i9_5.below hb6
  have b1c0_6 := b1c0_5.below hb6
  have b1e0_6 := b1c0_6.fact
  have b1c1_6 := b1c1_5.below hb6
  have b1e1_6 := b1c1_6.fact
  have HB_6 := Lib.hid (HB_5.out.trans (hb6.mono HZ_5.out))
  have HZ_6 := Lib.hid (Nat.le_trans HZ_5.out hb6.size)
  have HS_6 := Lib.hid hb6.size
  clear i_x_5 i5_5 i9_5 b1c0_5 b1e0_5 b1c1_5 b1e1_5 HB_5 HZ_5
  clear hb6
  have b10c0_6 := It.cell b10q0
  have b10e0_6 := b10q0
  clear b10q0
  have b10c1_6 := It.cell b10q1
  have b10e1_6 := b10q1
  clear b10q1
  have b10Z := Lib.hid b10z
  clear b10z
  refine (HIM.out a6 n7 c8 _ (OwnR.rd i9_6.fact) (by have := ((OwnR.rd i9_6.fact)).n3; omega)).mono ?_
  rintro e w7 ⟨rfl, hb7⟩
  have i_x_7 := i_x_6.below hb7
  have i5_7 := i5_6.below hb7
  have i9_7 := i9_6.below hb7
  have b1c0_7 := b1c0_6.below hb7
  have b1e0_7 := b1c0_7.fact
  have b1c1_7 := b1c1_6.below hb7
  have b1e1_7 := b1c1_7.fact
  have b10c0_7 := b10c0_6.below hb7
  have b10e0_7 := b10c0_7.fact
  have b10c1_7 := b10c1_6.below hb7
  have b10e1_7 := b10c1_7.fact
  have HB_7 := Lib.hid (HB_6.out.trans (hb7.mono HZ_6.out))
  have HZ_7 := Lib.hid (Nat.le_trans HZ_6.out hb7.size)
  have HS_7 := Lib.hid hb7.size
  clear i_x_6 i5_6 i9_6 b1c0_6 b1e0_6 b1c1_6 b1e1_6 b10c0_6 b10e0_6 b10c1_6 b10e1_6 HB_6 HZ_6
  clear hb7
  go_wp2
  refine wp_region_canon [(0, false), (1, true), (2, true), (3, true), (4, true)] (fun w' => w'.cell? ⟨w.heap.size, 0, none⟩ = some (.int .i64 k) ∧ w'.cell? ⟨w.heap.size, 1, none⟩ = some (.slice a l.length c) ∧ w'.cell? ⟨w5.heap.size, 0, none⟩ = some (.int .i64 k) ∧ w'.cell? ⟨w5.heap.size, 1, none⟩ = some (.slice a6 n7 c8) ∧ True) (by kernel_rfl) (by kernel_rfl) ?_
  simp only [List.map_cons, List.map_nil, List.getD_cons_zero, List.getD_cons_succ]
  have hb8 : Below w7.heap.size w7 (World.drew w7) := (by repeat (first | with_reducible exact Below.refl _ _ | (with_reducible refine Below.drew ?_) | (with_reducible refine Below.alloc ?_ (by first | omega | (simp; done) | (simp; omega)) _)))
  generalize (World.drew w7) = w8 at *
  have i_x_8 := i_x_7.below hb8
  have i5_8 := i5_7.below hb8
  have i9_8 := i9_7.below hb8
  have b1c0_8 := b1c0_7.below hb8
  have b1e0_8 := b1c0_8.fact
  have b1c1_8 := b1c1_7.below hb8
  have b1e1_8 := b1c1_8.fact
  have b10c0_8 := b10c0_7.below hb8
  have b10e0_8 := b10c0_8.fact
  have b10c1_8 := b10c1_7.below hb8
  have b10e1_8 := b10c1_8.fact
  have HB_8 := Lib.hid (HB_7.out.trans (hb8.mono HZ_7.out))
  have HZ_8 := Lib.hid (Nat.le_trans HZ_7.out hb8.size)
  have HS_8 := Lib.hid hb8.size
  clear i_x_7 i5_7 i9_7 b1c0_7 b1e0_7 b1c1_7 b1e1_7 b10c0_7 b10e0_7 b10c1_7 b10e1_7 HB_7 HZ_7
  clear hb8
  refine wpC_any (by rfl) ⟨b1e0_8, b1e1_8, b10e0_8, b10e1_8, trivial⟩ (fun K hK => ?_)
  refine Exists.intro (.agg #[.int .i64 k, .slice a6 n7 c8]) ⟨fun w' hS => ?_, ?_⟩
  · simp only [YR]; obtain ⟨hS0, hS1, hS2, hS3, hS4⟩ := hS; go_simp
  go_simp
  refine hK _ ?_
  clear hK K
  (repeat ((first | refine wpC_now (by rfl) (fun K hK => ?_) | refine wpC_any (by rfl) trivial (fun K hK => ?_)); simp only [YR]; go_simp; (try go_bits); refine hK _ ?_; clear hK K))
  refine wpC_step (by rfl) (by rfl) (fun K hK => ?_)
  go_simp
  refine (to_Mem k l a l.length c _ i_x_8.fact hsm).mono ?_
  rintro e w9 ⟨a11, n12, c13, rfl, i14_9, hb9⟩
  have i_x_9 := i_x_8.below hb9
  have i5_9 := i5_8.below hb9
  have i9_9 := i9_8.below hb9
  have b1c0_9 := b1c0_8.below hb9
  have b1e0_9 := b1c0_9.fact
  have b1c1_9 := b1c1_8.below hb9
  have b1e1_9 := b1c1_9.fact
  have b10c0_9 := b10c0_8.below hb9
  have b10e0_9 := b10c0_9.fact
  have b10c1_9 := b10c1_8.below hb9
  have b10e1_9 := b10c1_9.fact
  have HB_9 := Lib.hid (HB_8.out.trans (hb9.mono HZ_8.out))
  have HZ_9 := Lib.hid (Nat.le_trans HZ_8.out hb9.size)
  have HS_9 := Lib.hid hb9.size
  clear i_x_8 i5_8 i9_8 b1c0_8 b1e0_8 b1c1_8 b1e1_8 b10c0_8 b10e0_8 b10c1_8 b10e1_8 HB_8 HZ_8
  clear hb9
  refine hK _ _ ⟨b1e0_9, b1e1_9, b10e0_9, b10e1_9, trivial⟩ ?_
  clear hK K
  refine wpC_step (by rfl) (by rfl) (fun K hK => ?_)
  go_simp
  refine (eq_Mem k l a6 n7 c8 a11 n12 c13 _ (OwnR.rd i9_9.fact) (OwnR.rd i14_9.fact) (by omega)).mono ?_
  rintro e w10 ⟨rfl, hb10⟩
  have i_x_10 := i_x_9.below hb10
  have i5_10 := i5_9.below hb10
  have i9_10 := i9_9.below hb10
  have i14_10 := i14_9.below hb10
  have b1c0_10 := b1c0_9.below hb10
  have b1e0_10 := b1c0_10.fact
  have b1c1_10 := b1c1_9.below hb10
  have b1e1_10 := b1c1_10.fact
  have b10c0_10 := b10c0_9.below hb10
  have b10e0_10 := b10c0_10.fact
  have b10c1_10 := b10c1_9.below hb10
  have b10e1_10 := b10c1_10.fact
  have HB_10 := Lib.hid (HB_9.out.trans (hb10.mono HZ_9.out))
  have HZ_10 := Lib.hid (Nat.le_trans HZ_9.out hb10.size)
  have HS_10 := Lib.hid hb10.size
  clear i_x_9 i5_9 i9_9 i14_9 b1c0_9 b1e0_9 b1c1_9 b1e1_9 b10c0_9 b10e0_9 b10c1_9 b10e1_9 HB_9 HZ_9
  clear hb10
  refine hK _ _ ⟨b1e0_10, b1e1_10, b10e0_10, b10e1_10, trivial⟩ ?_
  clear hK K
  (repeat ((first | refine wpC_now (by rfl) (fun K hK => ?_) | refine wpC_any (by rfl) trivial (fun K hK => ?_)); simp only [YR]; go_simp; (try go_bits); refine hK _ ?_; clear hK K))
  (refine wpC_nil (NoPanic.normal ?_))
  go_wp2
  go_ret
  exact ⟨rfl, HB_10.out⟩

namespace fnExactLoadVal
open Go.ChangeShapes Go.WideShapes Go.ChangeAt Go.RowKit
open Go.ChangeMaps (open_string shut_string)
set_option maxRecDepth 100000 in
theorem lifted (os : Os) (started : os.Started) (H : Type) (enc : TypeId × Value → H) :
    ReturnsInHanded {} Try.checked os 5 .any (Rows.fnExactLoadValSpec.pre6 enc Try.prog Try.f5 Rows.fnExactLoadValRow.domain false) (Rows.fnExactLoadValSpec.post enc Try.prog Try.f5 false true false false) := by
  refine returnsInHanded_of_change (C := Try.checked) law_own started (by kernel_rfl) Try.func5
    (ChangeSpec.witness6 (enc := enc) (C := Try.checked) false ⟨#[], #[.agg #[.int .i64 0, .slice none 0 0], .int .i64 0], []⟩ 8 (by kernel_rfl) (by kernel_rfl) (by kernel_rfl) (by kernel_rfl)) ?_
  intro W base args ds gs before hval0 hW hcnd _
  have hval : ∀ (j : Nat) t v, Try.f5.params[j]? = some t → args[j]? = some v → Value.okWide Try.prog W .any base t v := hval0
  have hW' := hW
  obtain ⟨p, q, hA0, hV, rfl, hfz, hnd⟩ := hW
  have hA : DataW.TrodAll enc Try.prog W 0 (fun _ => true) true Try.f5.params.toList args.toList ds p := hA0
  rw [Try.params5] at hA hval
  obtain ⟨v0, vs0, d0, ds0, p0, q0, hargs, rfl, rfl, h0, r0⟩ := trodAll_cons hA
  obtain ⟨v1, vs1, d1, ds1, p1, q1, rfl, rfl, rfl, h1, r1⟩ := trodAll_cons r0
  obtain ⟨rfl, rfl, rfl⟩ := trodAll_nil r1
  obtain rfl : args = #[v0, v1] := by cases args; simp_all
  obtain ⟨rfl, rfl⟩ := trodVars_none hV
  have lt0 : ∀ x ∈ p0, x.block < W.heap.size := by obtain ⟨m, hm⟩ := h0; exact DataW.trod_lt m _ _ _ hm
  have lt1 : ∀ x ∈ p1, x.block < W.heap.size := by obtain ⟨m, hm⟩ := h1; exact DataW.trod_lt m _ _ _ hm
  have k0 := h0
  have hx0 := open_Mem (hval 0 _ v0 rfl rfl) h0
  have k1 := h1
  obtain ⟨a1, rfl, e1, e1', w1⟩ := open_int Try.underlying3 (hval 1 3 v1 rfl rfl) h1
  clear hA0 hval0
  refine (walk_FnExactLoadVal (w := W) hx0 a1 w1).mono fun e W' ⟨he, bel⟩ => ?_
  subst he
  exact ⟨_, rfl, _, _, _, [], _, [], hW', trodAll_mk1 (shut_bool Try.underlying4 _), (trodAll_cons_mk (Below.trod law_laid (by kernel_rfl) (of_decide_eq_true (by kernel_rfl)) k0 bel lt0) (trodAll_cons_mk (Below.trod law_laid (by kernel_rfl) (of_decide_eq_true (by kernel_rfl)) k1 bel lt1) trodAll_mk0)), rfl, bel.frame _, fun h => by cases h⟩

theorem over : Rows.fnExactLoadValRow.holds Try.pinned (OpenSpec.ofChange Rows.fnExactLoadValSpec) :=
  OpenClaim.holds_of_wide 5 Try.f5 rfl rfl rfl rfl rfl rfl rfl ⟨rfl, rfl, rfl, rfl, rfl⟩ rfl rfl rfl rfl rfl (by kernel_rfl) Try.func5 (by kernel_rfl)
    (of_decide_eq_true (by kernel_rfl)) (by unfold Func.isWrapper; first | (rw [if_pos (by decide +kernel)]; kernel_rfl) | (rw [if_neg (by decide +kernel)]; exact ⟨rfl, rfl⟩))
    (fun os started H enc _ => lifted os started H enc)
end fnExactLoadVal
theorem fnExactLoadVal_proved : Rows.FnExactLoadValSaid := fnExactLoadVal.over

end Go.Proofs.Ytmhdjnmfioaciaa
