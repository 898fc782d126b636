/- FnExactMemOk: for every input the program's MemOk returns what the reference's returns. No condition. -/
import Derived.Test.YtmhdjnmfioaciaaLawBase
import Derived.Test.YtmhdjnmfioaciaaMemArg
import Derived.Test.YtmhdjnmfioaciaaMem
namespace Go.Proofs.Ytmhdjnmfioaciaa
open Go Go.RowKit
set_option linter.unusedVariables false

set_option maxRecDepth 20000 in
set_option maxHeartbeats 1600000 in
theorem walk_FnExactMemOk {v : Value} {w : World} (hx : MemArg w v) :
    Calls Try.prog 3 #[v] w fun e w' => e = .returned (.bool true) ∧ Below w.heap.size w w' := by
  obtain ⟨k, a, n, c, l, rfl, hn, hr⟩ := hx
  have HR := Lib.hid hr
  have HS := Lib.hid (fun w' => szMem_any k a n c 1048576 w' (by decide) (by decide) hn)
  clear hr
  by_cases hs : (n : Int) ≤ 1048576
  · have hi : (if (n : Int) ≤ 1048576 then 1048576 - (n : Int) else -1) = 1048576 - n := if_pos hs
    rw [hi] at HS
    have hge : ¬ (1048576 - (n : Int) < 0) := by omega
    have hn' : n ≤ 1048576 := by omega
    clear hi hn
    go_enter Try.func3, Try.ntmps3
    go_wp2_with fail
    refine (HS.out _).mono ?_
    rintro e w1 ⟨rfl, hb1⟩
    have hs0 : w.heap.size < (w.alloc (.cells #[.int .i64 k, .slice a n c] 24)).heap.size := by simp
    have hA00 : (w.alloc (.cells #[.int .i64 k, .slice a n c] 24)).cell? ⟨w.heap.size, 0, none⟩ = some (.int .i64 k) := by simp
    have hA10 : (w.alloc (.cells #[.int .i64 k, .slice a n c] 24)).cell? ⟨w.heap.size, 1, none⟩ = some (.slice a n c) := by simp
    have hr0 := HR.out.below (show Below w.heap.size w (w.alloc (.cells #[.int .i64 k, .slice a n c] 24)) from (by repeat (first | with_reducible exact Below.refl _ _ | (with_reducible refine Below.drew ?_) | (with_reducible refine Below.alloc ?_ (by first | omega | (simp; done) | (simp; omega)) _))))
    have HB0 : Below w.heap.size w (w.alloc (.cells #[.int .i64 k, .slice a n c] 24)) := (by repeat (first | with_reducible exact Below.refl _ _ | (with_reducible refine Below.drew ?_) | (with_reducible refine Below.alloc ?_ (by first | omega | (simp; done) | (simp; omega)) _)))
    have hA01 := (World.cell?_of_block (hb1.block w.heap.size hs0) (a := ⟨w.heap.size, 0, none⟩)).trans hA00
    have hA11 := (World.cell?_of_block (hb1.block w.heap.size hs0) (a := ⟨w.heap.size, 1, none⟩)).trans hA10
    have hr1 := hr0.below hb1
    have hs1 := Nat.lt_of_lt_of_le hs0 hb1.size
    have HB1 := HB0.trans (hb1.mono (Nat.le_of_lt hs0))
    clear hA00 hA10 hr0 hs0 HB0
    clear hb1 HS
    go_wp2_with fail
    refine (toMem_any k a n c l w1 hr1 hn').mono ?_
    rintro e w2 ⟨g, rfl, ho2, hb2⟩
    have hA02 := (World.cell?_of_block (hb2.block w.heap.size hs1) (a := ⟨w.heap.size, 0, none⟩)).trans hA01
    have hA12 := (World.cell?_of_block (hb2.block w.heap.size hs1) (a := ⟨w.heap.size, 1, none⟩)).trans hA11
    have hr2 := hr1.below hb2
    have hs2 := Nat.lt_of_lt_of_le hs1 hb2.size
    have HB2 := HB1.trans (hb2.mono (Nat.le_of_lt hs1))
    clear hA01 hA11 hr1 hs1 HB1
    clear hb2
    have hm := memOk_spec k (some ⟨g, 0, none⟩) n n l w2 (Rd.of_owns ho2) hn'
    obtain ⟨bb, hbb⟩ : ∃ bb, bb = memOkB k l := ⟨_, rfl⟩
    rw [← hbb] at hm
    have HBB := Lib.hid hbb
    clear hbb
    have HM := Lib.hid hm
    clear ho2 hm
    go_wp2_with fail
    refine HM.out.mono ?_
    rintro e w3 ⟨rfl, hb3⟩
    have hA03 := (World.cell?_of_block (hb3.block w.heap.size hs2) (a := ⟨w.heap.size, 0, none⟩)).trans hA02
    have hA13 := (World.cell?_of_block (hb3.block w.heap.size hs2) (a := ⟨w.heap.size, 1, none⟩)).trans hA12
    have hr3 := hr2.below hb3
    have hs3 := Nat.lt_of_lt_of_le hs2 hb3.size
    have HB3 := HB2.trans (hb3.mono (Nat.le_of_lt hs2))
    clear hA02 hA12 hr2 hs2 HB2
    clear hb3 HM
    go_wp2_with fail
    refine (toMem_any k a n c l w3 hr3 hn').mono ?_
    rintro e w4 ⟨g2, rfl, ho4, hb4⟩
    have hA04 := (World.cell?_of_block (hb4.block w.heap.size hs3) (a := ⟨w.heap.size, 0, none⟩)).trans hA03
    have hA14 := (World.cell?_of_block (hb4.block w.heap.size hs3) (a := ⟨w.heap.size, 1, none⟩)).trans hA13
    have hr4 := hr3.below hb4
    have hs4 := Nat.lt_of_lt_of_le hs3 hb4.size
    have HB4 := HB3.trans (hb4.mono (Nat.le_of_lt hs3))
    clear hA03 hA13 hr3 hs3 HB3
    clear hb4
    go_wp2_with fail
    have hb5 : Below w4.heap.size w4 (w4.alloc (.cells #[.int .i64 k, .slice (some ⟨g2, 0, none⟩) n n] 29)) := (by repeat (first | with_reducible exact Below.refl _ _ | (with_reducible refine Below.drew ?_) | (with_reducible refine Below.alloc ?_ (by first | omega | (simp; done) | (simp; omega)) _)))
    have hX05 : (w4.alloc (.cells #[.int .i64 k, .slice (some ⟨g2, 0, none⟩) n n] 29)).cell? ⟨w4.heap.size, 0, none⟩ = some (.int .i64 k) := by simp
    have hX15 : (w4.alloc (.cells #[.int .i64 k, .slice (some ⟨g2, 0, none⟩) n n] 29)).cell? ⟨w4.heap.size, 1, none⟩ = some (.slice (some ⟨g2, 0, none⟩) n n) := by simp
    have hp5 : w4.heap.size < (w4.alloc (.cells #[.int .i64 k, .slice (some ⟨g2, 0, none⟩) n n] 29)).heap.size := by simp
    have hxr5 := (Rd.of_owns ho4).below hb5
    have hA05 := (World.cell?_of_block (hb5.block w.heap.size hs4) (a := ⟨w.heap.size, 0, none⟩)).trans hA04
    have hA15 := (World.cell?_of_block (hb5.block w.heap.size hs4) (a := ⟨w.heap.size, 1, none⟩)).trans hA14
    have hr5 := hr4.below hb5
    have hs5 := Nat.lt_of_lt_of_le hs4 hb5.size
    have HB5 := HB4.trans (hb5.mono (Nat.le_of_lt hs4))
    clear hA04 hA14 hr4 hs4 HB4
    clear hb5 ho4
    generalize (w4.alloc (.cells #[.int .i64 k, .slice (some ⟨g2, 0, none⟩) n n] 29)) = w5 at *
    generalize w4.heap.size = p at *
    have hm := memOk_impl k (some ⟨g2, 0, none⟩) n n l w5 hxr5 hn'
    rw [← HBB.out] at hm
    refine hm.mono ?_
    clear hm HBB
    rintro e w6 ⟨rfl, hb6⟩
    have hA06 := (World.cell?_of_block (hb6.block w.heap.size hs5) (a := ⟨w.heap.size, 0, none⟩)).trans hA05
    have hA16 := (World.cell?_of_block (hb6.block w.heap.size hs5) (a := ⟨w.heap.size, 1, none⟩)).trans hA15
    have hr6 := hr5.below hb6
    have hs6 := Nat.lt_of_lt_of_le hs5 hb6.size
    have HB6 := HB5.trans (hb6.mono (Nat.le_of_lt hs5))
    clear hA05 hA15 hr5 hs5 HB5
    have hX06 := (World.cell?_of_block (hb6.block p hp5) (a := ⟨p, 0, none⟩)).trans hX05
    have hX16 := (World.cell?_of_block (hb6.block p hp5) (a := ⟨p, 1, none⟩)).trans hX15
    have hxr6 := hxr5.below hb6
    have hp6 := Nat.lt_of_lt_of_le hp5 hb6.size
    clear hX05 hX15 hxr5 hp5
    clear hb6
    have hbbf : (bb != bb) = false := by simp
    go_wp2
    refine wp_region_canon [(0, false), (1, true), (2, true), (3, true), (4, true)] (fun w' => w'.cell? ⟨p, 0, none⟩ = some (.int .i64 k) ∧ w'.cell? ⟨p, 1, none⟩ = some (.slice (some ⟨g2, 0, none⟩) n n)) (by kernel_rfl) (by kernel_rfl) ?_
    simp only [List.map_cons, List.map_nil, List.getD_cons_zero, List.getD_cons_succ]
    generalize hd : World.drew w6 = w6d
    have hb6 : Below w6.heap.size w6 w6d := by rw [← hd]; exact (by repeat (first | with_reducible exact Below.refl _ _ | (with_reducible refine Below.drew ?_) | (with_reducible refine Below.alloc ?_ (by first | omega | (simp; done) | (simp; omega)) _)))
    clear hd
    have hA06d := (World.cell?_of_block (hb6.block w.heap.size hs6) (a := ⟨w.heap.size, 0, none⟩)).trans hA06
    have hA16d := (World.cell?_of_block (hb6.block w.heap.size hs6) (a := ⟨w.heap.size, 1, none⟩)).trans hA16
    have hr6d := hr6.below hb6
    have hs6d := Nat.lt_of_lt_of_le hs6 hb6.size
    have HB6d := HB6.trans (hb6.mono (Nat.le_of_lt hs6))
    clear hA06 hA16 hr6 hs6 HB6
    have hX06d := (World.cell?_of_block (hb6.block p hp6) (a := ⟨p, 0, none⟩)).trans hX06
    have hX16d := (World.cell?_of_block (hb6.block p hp6) (a := ⟨p, 1, none⟩)).trans hX16
    have hxr6d := hxr6.below hb6
    have hp6d := Nat.lt_of_lt_of_le hp6 hb6.size
    clear hX06 hX16 hxr6 hp6
    clear hb6
    refine wpC_any (by rfl) ⟨hX06d, hX16d⟩ (fun K hK => ?_)
    refine Exists.intro (.agg #[.int .i64 k, .slice (some ⟨g2, 0, none⟩) n n]) ⟨fun w' hS => ?_, ?_⟩
    · simp only [YR]; obtain ⟨hS0, hS1⟩ := hS; go_simp
    go_simp
    refine hK _ ?_
    clear hK K
    (repeat ((first | refine wpC_now (by rfl) (fun K hK => ?_) | refine wpC_any (by rfl) trivial (fun K hK => ?_)); simp only [YR]; go_simp; (try go_bits); refine hK _ ?_; clear hK K))
    refine wpC_step (by rfl) (by rfl) (fun K hK => ?_)
    go_simp
    refine (toMem_any k a n c l w6d hr6d hn').mono ?_
    rintro e w7 ⟨g3, rfl, ho7, hb7⟩
    have hA07 := (World.cell?_of_block (hb7.block w.heap.size hs6d) (a := ⟨w.heap.size, 0, none⟩)).trans hA06d
    have hA17 := (World.cell?_of_block (hb7.block w.heap.size hs6d) (a := ⟨w.heap.size, 1, none⟩)).trans hA16d
    have hr7 := hr6d.below hb7
    have hs7 := Nat.lt_of_lt_of_le hs6d hb7.size
    have HB7 := HB6d.trans (hb7.mono (Nat.le_of_lt hs6d))
    clear hA06d hA16d hr6d hs6d HB6d
    have hX07 := (World.cell?_of_block (hb7.block p hp6d) (a := ⟨p, 0, none⟩)).trans hX06d
    have hX17 := (World.cell?_of_block (hb7.block p hp6d) (a := ⟨p, 1, none⟩)).trans hX16d
    have hxr7 := hxr6d.below hb7
    have hp7 := Nat.lt_of_lt_of_le hp6d hb7.size
    clear hX06d hX16d hxr6d hp6d
    clear hb7
    refine hK _ _ ⟨hX07, hX17⟩ ?_
    clear hK K
    refine wpC_step (by rfl) (by rfl) (fun K hK => ?_)
    go_simp
    refine (eqMem_any k k _ _ n n n n l l w7 hxr7 (Rd.of_owns ho7) (by omega)).mono ?_
    rintro e w8 ⟨rfl, hb8⟩
    have hA08 := (World.cell?_of_block (hb8.block w.heap.size hs7) (a := ⟨w.heap.size, 0, none⟩)).trans hA07
    have hA18 := (World.cell?_of_block (hb8.block w.heap.size hs7) (a := ⟨w.heap.size, 1, none⟩)).trans hA17
    have hr8 := hr7.below hb8
    have hs8 := Nat.lt_of_lt_of_le hs7 hb8.size
    have HB8 := HB7.trans (hb8.mono (Nat.le_of_lt hs7))
    clear hA07 hA17 hr7 hs7 HB7
    have hX08 := (World.cell?_of_block (hb8.block p hp7) (a := ⟨p, 0, none⟩)).trans hX07
    have hX18 := (World.cell?_of_block (hb8.block p hp7) (a := ⟨p, 1, none⟩)).trans hX17
    have hxr8 := hxr7.below hb8
    have hp8 := Nat.lt_of_lt_of_le hp7 hb8.size
    clear hX07 hX17 hxr7 hp7
    clear hb8 ho7
    rw [show decide (k = k ∧ l = l) = true by simp]
    refine hK _ _ ⟨hX08, hX18⟩ ?_
    clear hK K
    (repeat ((first | refine wpC_now (by rfl) (fun K hK => ?_) | refine wpC_any (by rfl) trivial (fun K hK => ?_)); simp only [YR]; go_simp; (try go_bits); refine hK _ ?_; clear hK K))
    (refine wpC_nil (NoPanic.normal ?_))
    go_wp2
    go_ret
    exact ⟨rfl, HB8⟩
  · have hi : (if (n : Int) ≤ 1048576 then 1048576 - (n : Int) else -1) = -1 := if_neg hs
    rw [hi] at HS
    clear hi
    go_enter Try.func3, Try.ntmps3
    go_wp2_with fail
    refine (HS.out _).mono ?_
    rintro e w1 ⟨rfl, hb1⟩
    go_wp2
    go_ret
    exact ⟨rfl, Below.trans (by repeat (first | with_reducible exact Below.refl _ _ | (with_reducible refine Below.drew ?_) | (with_reducible refine Below.alloc ?_ (by first | omega | (simp; done) | (simp; omega)) _))) (hb1.mono (by simp))⟩

namespace fnExactMemOk
open Go.ChangeShapes Go.WideShapes Go.ChangeAt Go.RowKit
open Go.ChangeMaps (open_string shut_string)
set_option maxRecDepth 100000 in
theorem lifted (os : Os) (started : os.Started) (H : Type) (enc : TypeId × Value → H) :
    ReturnsInHanded {} Try.checked os 3 .any (Rows.fnExactMemOkSpec.pre6 enc Try.prog Try.f3 Rows.fnExactMemOkRow.domain false) (Rows.fnExactMemOkSpec.post enc Try.prog Try.f3 false true false false) := by
  refine returnsInHanded_of_change (C := Try.checked) law_own started (by kernel_rfl) Try.func3
    (ChangeSpec.witness6 (enc := enc) (C := Try.checked) false ⟨#[], #[.agg #[.int .i64 0, .slice none 0 0]], []⟩ 8 (by kernel_rfl) (by kernel_rfl) (by kernel_rfl) (by kernel_rfl)) ?_
  intro W base args ds gs before hval0 hW hcnd _
  have hval : ∀ (j : Nat) t v, Try.f3.params[j]? = some t → args[j]? = some v → Value.okWide Try.prog W .any base t v := hval0
  have hW' := hW
  obtain ⟨p, q, hA0, hV, rfl, hfz, hnd⟩ := hW
  have hA : DataW.TrodAll enc Try.prog W 0 (fun _ => true) true Try.f3.params.toList args.toList ds p := hA0
  rw [Try.params3] at hA hval
  obtain ⟨v0, vs0, d0, ds0, p0, q0, hargs, rfl, rfl, h0, r0⟩ := trodAll_cons hA
  obtain ⟨rfl, rfl, rfl⟩ := trodAll_nil r0
  obtain rfl : args = #[v0] := by cases args; simp_all
  obtain ⟨rfl, rfl⟩ := trodVars_none hV
  have lt0 : ∀ x ∈ p0, x.block < W.heap.size := by obtain ⟨m, hm⟩ := h0; exact DataW.trod_lt m _ _ _ hm
  have k0 := h0
  have hx0 := open_Mem (hval 0 _ v0 rfl rfl) h0
  clear hA0 hval0
  refine (walk_FnExactMemOk (w := W) hx0).mono fun e W' ⟨he, bel⟩ => ?_
  subst he
  exact ⟨_, rfl, _, _, _, [], _, [], hW', trodAll_mk1 (shut_bool Try.underlying4 _), (trodAll_cons_mk (Below.trod law_laid (by kernel_rfl) (of_decide_eq_true (by kernel_rfl)) k0 bel lt0) trodAll_mk0), rfl, bel.frame _, fun h => by cases h⟩

theorem over : Rows.fnExactMemOkRow.holds Try.pinned (OpenSpec.ofChange Rows.fnExactMemOkSpec) :=
  OpenClaim.holds_of_wide 3 Try.f3 rfl rfl rfl rfl rfl rfl rfl ⟨rfl, rfl, rfl, rfl, rfl⟩ rfl rfl rfl rfl rfl (by kernel_rfl) Try.func3 (by kernel_rfl)
    (of_decide_eq_true (by kernel_rfl)) (by unfold Func.isWrapper; first | (rw [if_pos (by decide +kernel)]; kernel_rfl) | (rw [if_neg (by decide +kernel)]; exact ⟨rfl, rfl⟩))
    (fun os started H enc _ => lifted os started H enc)
end fnExactMemOk
theorem fnExactMemOk_proved : Rows.FnExactMemOkSaid := fnExactMemOk.over

end Go.Proofs.Ytmhdjnmfioaciaa
