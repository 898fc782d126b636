/- FnExactShowProg: for every input the law answers true, and its arguments read as before. No condition. -/
import Derived.Test.YtpbfppelmgjfpaaLawBase
import Derived.Test.YtpbfppelmgjfpaaOq
import Derived.Test.YtpbfppelmgjfpaaPProgT
import Derived.Lib.SmallJoins
namespace Go.Proofs.Ytpbfppelmgjfpaa
open Go Go.RowKit
set_option linter.unusedVariables false
set_option linter.unusedSimpArgs false
set_option maxRecDepth 100000 in
theorem open_fnExactShowProg_44 {H : Type} {enc : TypeId × Value → H} {W : World} {r : Reach} {b0 base : Nat} {spare : Nat → Bool} {held : Bool} {v : Value} {d : DataW H} {p : List MemPlace} (hv : Value.okWide Try.prog W r b0 44 v) (h : DataW.Trod enc Try.prog W base spare held 44 v d p) :
    ∃ (x0 : List I4) (a0 : Option Addr) (c0 : Nat) (x1 : List KidD) (a1 : Option Addr) (c1 : Nat), v = .agg #[.slice a0 x0.length c0, .slice a1 x1.length c1] ∧ x0.length ≤ maxLen ∧ RdT (fun _ => ¬ False) W (rowT x0) (.slice a0 x0.length c0) ∧ TB (rowT x1) ∧ RdT (fun _ => ¬ False) W (rowT x1) (.slice a1 x1.length c1) := by
  obtain ⟨v0, v1, y0, y1, n, rfl, _, _, h0, h1⟩ := Go.Joins.open_agg2 Try.underlying44 (by kernel_rfl) (by kernel_rfl) hv h
  obtain ⟨a0, c0, x0, e0, m0, r0⟩ := opT_slice Try.underlying32 (by kernel_rfl) h0 (fun m cs x hh => opE_rec4 (TI := 3) Try.underlying23 rfl rfl Try.underlying3 (by kernel_rfl) (by kernel_rfl) hh)
  simp only [List.cons.injEq, and_true] at e0
  subst e0
  obtain ⟨a1, c1, x1, e1, m1, r1⟩ := opQ_slice Try.underlying42 (by kernel_rfl) h1 (fun m cs x hh => opQ_one KidD.mk (fun _ => rfl) Try.underlying95 rfl rfl (by kernel_rfl) (by kernel_rfl) Try.underlying32 (by kernel_rfl) hh (fun m cs x hh => exB (opE_rec4 (TI := 3) Try.underlying23 rfl rfl Try.underlying3 (by kernel_rfl) (by kernel_rfl) hh)))
  simp only [List.cons.injEq, and_true] at e1
  subst e1
  exact ⟨x0, a0, c0, x1, a1, c1, rfl, m0, r0, m1, r1⟩
namespace fnExactShowProg
open Go.ChangeShapes Go.WideShapes Go.ChangeAt Go.RowKit
open Go.ChangeMaps (open_string shut_string)
set_option maxRecDepth 100000 in
theorem lifted (os : Os) (started : os.Started) (H : Type) (enc : TypeId × Value → H) :
    ReturnsInHanded {} Try.checked os 7 .any (Rows.fnExactShowProgSpec.pre6 enc Try.prog Try.f7 Rows.fnExactShowProgRow.domain false) (Rows.fnExactShowProgSpec.post enc Try.prog Try.f7 false true false false) := by
  refine returnsInHanded_of_change (C := Try.checked) law_own started (by kernel_rfl) Try.func7
    (ChangeSpec.witness6 (enc := enc) (C := Try.checked) false ⟨#[], #[.agg #[.slice none 0 0, .slice none 0 0]], []⟩ 8 (by kernel_rfl) (by kernel_rfl) (by kernel_rfl) (by kernel_rfl)) ?_
  intro W base args ds gs before hval0 hW hcnd _
  have hval : ∀ (j : Nat) t v, Try.f7.params[j]? = some t → args[j]? = some v → Value.okWide Try.prog W .any base t v := hval0
  have hW' := hW
  obtain ⟨p, q, hA0, hV, rfl, hfz, hnd⟩ := hW
  have hA : DataW.TrodAll enc Try.prog W 0 (fun _ => true) true Try.f7.params.toList args.toList ds p := hA0
  rw [Try.params7] at hA hval
  obtain ⟨v0, vs0, d0, ds0, p0, q0, hargs, rfl, rfl, h0, r0⟩ := trodAll_cons hA
  obtain ⟨rfl, rfl, rfl⟩ := trodAll_nil r0
  obtain rfl : args = #[v0] := by cases args; simp_all
  obtain ⟨rfl, rfl⟩ := trodVars_none hV
  have lt0 : ∀ x ∈ p0, x.block < W.heap.size := by obtain ⟨m, hm⟩ := h0; exact DataW.trod_lt m _ _ _ hm
  have k0 := h0
  obtain ⟨x0_0, a0_0, c0_0, x0_1, a0_1, c0_1, rfl, m0_0, hr0_0, m0_1, hr0_1⟩ := open_fnExactShowProg_44 (hval 0 _ v0 rfl rfl) h0
  clear hA0 hval0
  obtain ⟨fuel, hm⟩ := pure_FnExactShowProg m0_0 m0_1
  refine (w_laws_FnExactShowProg fuel hm hr0_0 hr0_1).mono fun e W' ⟨he, hst⟩ => ?_
  have bel := hst.below
  subst he
  exact ⟨_, rfl, _, _, _, [], _, [], hW', trodAll_mk1 (shut_bool Try.underlying4 _), (trodAll_cons_mk (Below.trod law_laid (by kernel_rfl) (of_decide_eq_true (by kernel_rfl)) k0 bel lt0) trodAll_mk0), rfl, bel.frame _, fun h => by cases h⟩

theorem over : Rows.fnExactShowProgRow.holds Try.pinned (OpenSpec.ofChange Rows.fnExactShowProgSpec) :=
  OpenClaim.holds_of_wide 7 Try.f7 rfl rfl rfl rfl rfl rfl rfl ⟨rfl, rfl, rfl, rfl, rfl⟩ rfl rfl rfl rfl rfl (by kernel_rfl) Try.func7 (by kernel_rfl)
    (of_decide_eq_true (by kernel_rfl)) (by unfold Func.isWrapper; first | (rw [if_pos (by decide +kernel)]; kernel_rfl) | (rw [if_neg (by decide +kernel)]; exact ⟨rfl, rfl⟩))
    (fun os started H enc _ => lifted os started H enc)
end fnExactShowProg
theorem fnExactShowProg_proved : Rows.FnExactShowProgSaid := fnExactShowProg.over
end Go.Proofs.Ytpbfppelmgjfpaa
