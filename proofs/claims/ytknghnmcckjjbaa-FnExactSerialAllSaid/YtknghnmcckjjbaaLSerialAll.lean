/- FnExactSerialAll: for every input the law answers true, and its arguments read as before. No condition. -/
import Derived.Test.YtknghnmcckjjbaaLawBase
import Derived.Test.YtknghnmcckjjbaaOq
import Derived.Test.YtknghnmcckjjbaaPAll
import Derived.Lib.SmallJoins
namespace Go.Proofs.Ytknghnmcckjjbaa
open Go Go.RowKit
set_option linter.unusedVariables false
set_option linter.unusedSimpArgs false
set_option maxRecDepth 100000 in
theorem open_fnExactSerialAll_61 {H : Type} {enc : TypeId × Value → H} {W : World} {r : Reach} {b0 base : Nat} {spare : Nat → Bool} {held : Bool} {v : Value} {d : DataW H} {p : List MemPlace} (hv : Value.okWide Try.prog W r b0 61 v) (h : DataW.Trod enc Try.prog W base spare held 61 v d p) :
    ∃ (a : Option Addr) (c : Nat) (l : List ProgD), v = .slice a l.length c ∧ TB (rowT l) ∧ RdT (fun _ => ¬ False) W (rowT l) (.slice a l.length c) :=
  argQ_slice Try.underlying61 (by kernel_rfl) hv h (fun m cs x hh => opQ_two ProgD.mk (fun _ _ => rfl) Try.underlying46 rfl rfl (by kernel_rfl) (by kernel_rfl) (by kernel_rfl) Try.underlying32 (by kernel_rfl) Try.underlying44 (by kernel_rfl) hh (fun m cs x hh => exB (opE_rec4 (TI := 3) Try.underlying96 rfl rfl Try.underlying3 (by kernel_rfl) (by kernel_rfl) hh)) (fun m cs x hh => opQ_one KidD.mk (fun _ => rfl) Try.underlying137 rfl rfl (by kernel_rfl) (by kernel_rfl) Try.underlying32 (by kernel_rfl) hh (fun m cs x hh => exB (opE_rec4 (TI := 3) Try.underlying96 rfl rfl Try.underlying3 (by kernel_rfl) (by kernel_rfl) hh))))

set_option maxRecDepth 100000 in
theorem open_fnExactSerialAll_62 {H : Type} {enc : TypeId × Value → H} {W : World} {r : Reach} {b0 base : Nat} {spare : Nat → Bool} {held : Bool} {v : Value} {d : DataW H} {p : List MemPlace} (hv : Value.okWide Try.prog W r b0 62 v) (h : DataW.Trod enc Try.prog W base spare held 62 v d p) :
    ∃ (a : Option Addr) (c : Nat) (l : List OrdD), v = .slice a l.length c ∧ TB (rowT l) ∧ RdT (fun _ => ¬ False) W (rowT l) (.slice a l.length c) :=
  argQ_slice Try.underlying62 (by kernel_rfl) hv h (fun m cs x hh => opQ_one OrdD.mk (fun _ => rfl) Try.underlying106 rfl rfl (by kernel_rfl) (by kernel_rfl) Try.underlying22 (by kernel_rfl) hh (fun m cs x hh => exB (opE_int Try.underlying3 hh)))

set_option maxRecDepth 100000 in
theorem open_fnExactSerialAll_24 {H : Type} {enc : TypeId × Value → H} {W : World} {r : Reach} {b0 base : Nat} {spare : Nat → Bool} {held : Bool} {v : Value} {d : DataW H} {p : List MemPlace} (hv : Value.okWide Try.prog W r b0 24 v) (h : DataW.Trod enc Try.prog W base spare held 24 v d p) :
    ∃ (x0 : List Int) (a0 : Option Addr) (c0 : Nat) (x1 : List Int) (a1 : Option Addr) (c1 : Nat) (x2 : Int), v = .agg #[.slice a0 x0.length c0, .slice a1 x1.length c1, .int .i64 x2] ∧ x0.length ≤ maxLen ∧ RdT (fun _ => ¬ False) W (rowT x0) (.slice a0 x0.length c0) ∧ x1.length ≤ maxLen ∧ RdT (fun _ => ¬ False) W (rowT x1) (.slice a1 x1.length c1) ∧ in64 x2 := by
  obtain ⟨v0, v1, v2, y0, y1, y2, n, rfl, _, _, h0, h1, h2⟩ := Go.Joins.open_agg3 Try.underlying24 (by kernel_rfl) (by kernel_rfl) hv h
  obtain ⟨a0, c0, x0, e0, m0, r0⟩ := opT_slice Try.underlying22 (by kernel_rfl) h0 (fun m cs x hh => opE_int Try.underlying3 hh)
  simp only [List.cons.injEq, and_true] at e0
  subst e0
  obtain ⟨a1, c1, x1, e1, m1, r1⟩ := opT_slice Try.underlying22 (by kernel_rfl) h1 (fun m cs x hh => opE_int Try.underlying3 hh)
  simp only [List.cons.injEq, and_true] at e1
  subst e1
  obtain ⟨x2, e2, b2⟩ := op_int Try.underlying3 h2
  simp only [List.cons.injEq, and_true] at e2
  subst e2
  exact ⟨x0, a0, c0, x1, a1, c1, x2, rfl, m0, r0, m1, r1, b2⟩
namespace fnExactSerialAll
open Go.ChangeShapes Go.WideShapes Go.ChangeAt Go.RowKit
open Go.ChangeMaps (open_string shut_string)
set_option maxRecDepth 100000 in
theorem lifted (os : Os) (started : os.Started) (H : Type) (enc : TypeId × Value → H) :
    ReturnsInHanded {} Try.checked os 7 .any (Rows.fnExactSerialAllSpec.pre6 enc Try.prog Try.f7 Rows.fnExactSerialAllRow.domain false) (Rows.fnExactSerialAllSpec.post enc Try.prog Try.f7 false true false false) := by
  refine returnsInHanded_of_change (C := Try.checked) law_own started (by kernel_rfl) Try.func7
    (ChangeSpec.witness6 (enc := enc) (C := Try.checked) false ⟨#[], #[.slice none 0 0, .slice none 0 0, .agg #[.slice none 0 0, .slice none 0 0, .int .i64 0]], []⟩ 8 (by kernel_rfl) (by kernel_rfl) (by kernel_rfl) (by kernel_rfl)) ?_
  intro W base args ds gs before hval0 hW hcnd _
  have hval : ∀ (j : Nat) t v, Try.f7.params[j]? = some t → args[j]? = some v → Value.okWide Try.prog W .any base t v := hval0
  have hW' := hW
  obtain ⟨p, q, hA0, hV, rfl, hfz, hnd⟩ := hW
  have hA : DataW.TrodAll enc Try.prog W 0 (fun _ => true) true Try.f7.params.toList args.toList ds p := hA0
  rw [Try.params7] at hA hval
  obtain ⟨v0, vs0, d0, ds0, p0, q0, hargs, rfl, rfl, h0, r0⟩ := trodAll_cons hA
  obtain ⟨v1, vs1, d1, ds1, p1, q1, rfl, rfl, rfl, h1, r1⟩ := trodAll_cons r0
  obtain ⟨v2, vs2, d2, ds2, p2, q2, rfl, rfl, rfl, h2, r2⟩ := trodAll_cons r1
  obtain ⟨rfl, rfl, rfl⟩ := trodAll_nil r2
  obtain rfl : args = #[v0, v1, v2] := by cases args; simp_all
  obtain ⟨rfl, rfl⟩ := trodVars_none hV
  have lt0 : ∀ x ∈ p0, x.block < W.heap.size := by obtain ⟨m, hm⟩ := h0; exact DataW.trod_lt m _ _ _ hm
  have lt1 : ∀ x ∈ p1, x.block < W.heap.size := by obtain ⟨m, hm⟩ := h1; exact DataW.trod_lt m _ _ _ hm
  have lt2 : ∀ x ∈ p2, x.block < W.heap.size := by obtain ⟨m, hm⟩ := h2; exact DataW.trod_lt m _ _ _ hm
  have k0 := h0
  obtain ⟨a0, c0, x0, rfl, m0, hr0⟩ := open_fnExactSerialAll_61 (hval 0 _ v0 rfl rfl) h0
  have k1 := h1
  obtain ⟨a1, c1, x1, rfl, m1, hr1⟩ := open_fnExactSerialAll_62 (hval 1 _ v1 rfl rfl) h1
  have k2 := h2
  obtain ⟨x2_0, a2_0, c2_0, x2_1, a2_1, c2_1, x2_2, rfl, m2_0, hr2_0, m2_1, hr2_1, b2_2⟩ := open_fnExactSerialAll_24 (hval 2 _ v2 rfl rfl) h2
  clear hA0 hval0
  obtain ⟨fuel, hm⟩ := pure_FnExactSerialAll m0 m1 m2_0 m2_1 b2_2
  refine (w_laws_FnExactSerialAll fuel hm hr0 hr1 hr2_0 hr2_1).mono fun e W' ⟨he, hst⟩ => ?_
  have bel := hst.below
  subst he
  exact ⟨_, rfl, _, _, _, [], _, [], hW', trodAll_mk1 (shut_bool Try.underlying4 _), (trodAll_cons_mk (Below.trod law_laid (by kernel_rfl) (of_decide_eq_true (by kernel_rfl)) k0 bel lt0) (trodAll_cons_mk (Below.trod law_laid (by kernel_rfl) (of_decide_eq_true (by kernel_rfl)) k1 bel lt1) (trodAll_cons_mk (Below.trod law_laid (by kernel_rfl) (of_decide_eq_true (by kernel_rfl)) k2 bel lt2) trodAll_mk0))), rfl, bel.frame _, fun h => by cases h⟩

theorem over : Rows.fnExactSerialAllRow.holds Try.pinned (OpenSpec.ofChange Rows.fnExactSerialAllSpec) :=
  OpenClaim.holds_of_wide 7 Try.f7 rfl rfl rfl rfl rfl rfl rfl ⟨rfl, rfl, rfl, rfl, rfl⟩ rfl rfl rfl rfl rfl (by kernel_rfl) Try.func7 (by kernel_rfl)
    (of_decide_eq_true (by kernel_rfl)) (by unfold Func.isWrapper; first | (rw [if_pos (by decide +kernel)]; kernel_rfl) | (rw [if_neg (by decide +kernel)]; exact ⟨rfl, rfl⟩))
    (fun os started H enc _ => lifted os started H enc)
end fnExactSerialAll
theorem fnExactSerialAll_proved : Rows.FnExactSerialAllSaid := fnExactSerialAll.over
end Go.Proofs.Ytknghnmcckjjbaa
