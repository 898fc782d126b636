/- FnExactValues: for every input the law answers true, and its arguments read as before. No condition. -/
import Derived.Test.YtmhdjnmfioaciaaLawBase
import Derived.Test.YtmhdjnmfioaciaaOp
import Derived.Test.YtmhdjnmfioaciaaPMemL
import Derived.Lib.SmallJoins
namespace Go.Proofs.Ytmhdjnmfioaciaa
open Go Go.RowKit
set_option linter.unusedVariables false
set_option linter.unusedSimpArgs false
theorem open_fnExactValues_24 {H : Type} {enc : TypeId × Value → H} {W : World} {r : Reach} {b0 base : Nat} {spare : Nat → Bool} {held : Bool} {v : Value} {d : DataW H} {p : List MemPlace} (hv : Value.okWide Try.prog W r b0 24 v) (h : DataW.Trod enc Try.prog W base spare held 24 v d p) :
    ∃ (x0 : Int) (x1 : List I3) (a1 : Option Addr) (c1 : Nat), v = .agg #[.int .i64 x0, .slice a1 x1.length c1] ∧ in64 x0 ∧ x1.length ≤ maxLen ∧ RdT (fun _ => ¬ False) W (rowT x1) (.slice a1 x1.length c1) := by
  obtain ⟨v0, v1, y0, y1, n, rfl, _, _, h0, h1⟩ := Go.Joins.open_agg2 Try.underlying24 (by kernel_rfl) (by kernel_rfl) hv h
  obtain ⟨x0, e0, b0⟩ := op_int Try.underlying3 h0
  simp only [List.cons.injEq, and_true] at e0
  subst e0
  obtain ⟨a1, c1, x1, e1, m1, r1⟩ := opT_slice Try.underlying22 (by kernel_rfl) h1 (fun m cs x hh => opE_rec3 (TI := 3) Try.underlying75 rfl rfl Try.underlying3 (by kernel_rfl) (by kernel_rfl) hh)
  simp only [List.cons.injEq, and_true] at e1
  subst e1
  exact ⟨x0, x1, a1, c1, rfl, b0, m1, r1⟩
namespace fnExactValues
open Go.ChangeShapes Go.WideShapes Go.ChangeAt Go.RowKit
open Go.ChangeMaps (open_string shut_string)
set_option maxRecDepth 100000 in
theorem lifted (os : Os) (started : os.Started) (H : Type) (enc : TypeId × Value → H) :
    ReturnsInHanded {} Try.checked os 8 .any (Rows.fnExactValuesSpec.pre6 enc Try.prog Try.f8 Rows.fnExactValuesRow.domain false) (Rows.fnExactValuesSpec.post enc Try.prog Try.f8 false true false false) := by
  refine returnsInHanded_of_change (C := Try.checked) law_own started (by kernel_rfl) Try.func8
    (ChangeSpec.witness6 (enc := enc) (C := Try.checked) false ⟨#[], #[.agg #[.int .i64 0, .slice none 0 0]], []⟩ 8 (by kernel_rfl) (by kernel_rfl) (by kernel_rfl) (by kernel_rfl)) ?_
  intro W base args ds gs before hval0 hW hcnd _
  have hval : ∀ (j : Nat) t v, Try.f8.params[j]? = some t → args[j]? = some v → Value.okWide Try.prog W .any base t v := hval0
  have hW' := hW
  obtain ⟨p, q, hA0, hV, rfl, hfz, hnd⟩ := hW
  have hA : DataW.TrodAll enc Try.prog W 0 (fun _ => true) true Try.f8.params.toList args.toList ds p := hA0
  rw [Try.params8] at hA hval
  obtain ⟨v0, vs0, d0, ds0, p0, q0, hargs, rfl, rfl, h0, r0⟩ := trodAll_cons hA
  obtain ⟨rfl, rfl, rfl⟩ := trodAll_nil r0
  obtain rfl : args = #[v0] := by cases args; simp_all
  obtain ⟨rfl, rfl⟩ := trodVars_none hV
  have lt0 : ∀ x ∈ p0, x.block < W.heap.size := by obtain ⟨m, hm⟩ := h0; exact DataW.trod_lt m _ _ _ hm
  have k0 := h0
  obtain ⟨x0_0, x0_1, a0_1, c0_1, rfl, b0_0, m0_1, hr0_1⟩ := open_fnExactValues_24 (hval 0 _ v0 rfl rfl) h0
  clear hA0 hval0
  obtain ⟨fuel, hm⟩ := pure_FnExactValues b0_0 m0_1
  refine (w_laws_FnExactValues fuel hm hr0_1).mono fun e W' ⟨he, hst⟩ => ?_
  have bel := hst.below
  subst he
  exact ⟨_, rfl, _, _, _, [], _, [], hW', trodAll_mk1 (shut_bool Try.underlying4 _), (trodAll_cons_mk (Below.trod law_laid (by kernel_rfl) (of_decide_eq_true (by kernel_rfl)) k0 bel lt0) trodAll_mk0), rfl, bel.frame _, fun h => by cases h⟩

theorem over : Rows.fnExactValuesRow.holds Try.pinned (OpenSpec.ofChange Rows.fnExactValuesSpec) :=
  OpenClaim.holds_of_wide 8 Try.f8 rfl rfl rfl rfl rfl rfl rfl ⟨rfl, rfl, rfl, rfl, rfl⟩ rfl rfl rfl rfl rfl (by kernel_rfl) Try.func8 (by kernel_rfl)
    (of_decide_eq_true (by kernel_rfl)) (by unfold Func.isWrapper; first | (rw [if_pos (by decide +kernel)]; kernel_rfl) | (rw [if_neg (by decide +kernel)]; exact ⟨rfl, rfl⟩))
    (fun os started H enc _ => lifted os started H enc)
end fnExactValues
theorem fnExactValues_proved : Rows.FnExactValuesSaid := fnExactValues.over
end Go.Proofs.Ytmhdjnmfioaciaa
