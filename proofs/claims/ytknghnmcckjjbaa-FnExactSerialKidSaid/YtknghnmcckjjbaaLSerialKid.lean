/- FnExactSerialKid: for every input the law answers true, and its arguments read as before. No condition. -/
import Derived.Test.YtknghnmcckjjbaaLawBase
import Derived.Test.YtknghnmcckjjbaaOp
import Derived.Test.YtknghnmcckjjbaaPSerL
import Derived.Lib.SmallJoins
namespace Go.Proofs.Ytknghnmcckjjbaa
open Go Go.RowKit
set_option linter.unusedVariables false
set_option linter.unusedSimpArgs false
set_option maxRecDepth 100000 in
theorem open_fnExactSerialKid_32 {H : Type} {enc : TypeId × Value → H} {W : World} {r : Reach} {b0 base : Nat} {spare : Nat → Bool} {held : Bool} {v : Value} {d : DataW H} {p : List MemPlace} (hv : Value.okWide Try.prog W r b0 32 v) (h : DataW.Trod enc Try.prog W base spare held 32 v d p) :
    ∃ (a : Option Addr) (c : Nat) (l : List I4), v = .slice a l.length c ∧ l.length ≤ maxLen ∧ RdT (fun _ => ¬ False) W (rowT l) (.slice a l.length c) :=
  arg_slice Try.underlying32 (by kernel_rfl) hv h (fun m cs x hh => opE_rec4 (TI := 3) Try.underlying96 rfl rfl Try.underlying3 (by kernel_rfl) (by kernel_rfl) hh)

set_option maxRecDepth 100000 in
theorem open_fnExactSerialKid_22 {H : Type} {enc : TypeId × Value → H} {W : World} {r : Reach} {b0 base : Nat} {spare : Nat → Bool} {held : Bool} {v : Value} {d : DataW H} {p : List MemPlace} (hv : Value.okWide Try.prog W r b0 22 v) (h : DataW.Trod enc Try.prog W base spare held 22 v d p) :
    ∃ (a : Option Addr) (c : Nat) (l : List Int), v = .slice a l.length c ∧ l.length ≤ maxLen ∧ RdT (fun _ => ¬ False) W (rowT l) (.slice a l.length c) :=
  arg_slice Try.underlying22 (by kernel_rfl) hv h (fun m cs x hh => opE_int Try.underlying3 hh)
namespace fnExactSerialKid
open Go.ChangeShapes Go.WideShapes Go.ChangeAt Go.RowKit
open Go.ChangeMaps (open_string shut_string)
set_option maxRecDepth 100000 in
theorem lifted (os : Os) (started : os.Started) (H : Type) (enc : TypeId × Value → H) :
    ReturnsInHanded {} Try.checked os 5 .any (Rows.fnExactSerialKidSpec.pre6 enc Try.prog Try.f5 Rows.fnExactSerialKidRow.domain false) (Rows.fnExactSerialKidSpec.post enc Try.prog Try.f5 false true false false) := by
  refine returnsInHanded_of_change (C := Try.checked) law_own started (by kernel_rfl) Try.func5
    (ChangeSpec.witness6 (enc := enc) (C := Try.checked) false ⟨#[], #[.slice none 0 0, .slice none 0 0, .slice none 0 0], []⟩ 8 (by kernel_rfl) (by kernel_rfl) (by kernel_rfl) (by kernel_rfl)) ?_
  intro W base args ds gs before hval0 hW hcnd _
  have hval : ∀ (j : Nat) t v, Try.f5.params[j]? = some t → args[j]? = some v → Value.okWide Try.prog W .any base t v := hval0
  have hW' := hW
  obtain ⟨p, q, hA0, hV, rfl, hfz, hnd⟩ := hW
  have hA : DataW.TrodAll enc Try.prog W 0 (fun _ => true) true Try.f5.params.toList args.toList ds p := hA0
  rw [Try.params5] at hA hval
  obtain ⟨v0, vs0, d0, ds0, p0, q0, hargs, rfl, rfl, h0, r0⟩ := trodAll_cons hA
  obtain ⟨v1, vs1, d1, ds1, p1, q1, rfl, rfl, rfl, h1, r1⟩ := trodAll_cons r0
  obtain ⟨v2, vs2, d2, ds2, p2, q2, rfl, rfl, rfl, h2, r2⟩ := trodAll_cons r1
  obtain ⟨rfl, rfl, rfl⟩ := trodAll_nil r2
  obtain rfl : args = #[v0, v1, v2] := by cases args; simp_all
  obtain ⟨rfl, rfl⟩ := trodVars_none hV
  have lt0 : ∀ x ∈ p0, x.block < W.heap.size := by obtain ⟨m, hm⟩ := h0; exact DataW.trod_lt m _ _ _ hm
  have lt1 : ∀ x ∈ p1, x.block < W.heap.size := by obtain ⟨m, hm⟩ := h1; exact DataW.trod_lt m _ _ _ hm
  have lt2 : ∀ x ∈ p2, x.block < W.heap.size := by obtain ⟨m, hm⟩ := h2; exact DataW.trod_lt m _ _ _ hm
  have k0 := h0
  obtain ⟨a0, c0, x0, rfl, m0, hr0⟩ := open_fnExactSerialKid_32 (hval 0 _ v0 rfl rfl) h0
  have k1 := h1
  obtain ⟨a1, c1, x1, rfl, m1, hr1⟩ := open_fnExactSerialKid_22 (hval 1 _ v1 rfl rfl) h1
  have k2 := h2
  obtain ⟨a2, c2, x2, rfl, m2, hr2⟩ := open_fnExactSerialKid_22 (hval 2 _ v2 rfl rfl) h2
  clear hA0 hval0
  obtain ⟨fuel, hm⟩ := pure_FnExactSerialKid m0 m1 m2
  refine (w_laws_FnExactSerialKid fuel hm hr0 hr1 hr2).mono fun e W' ⟨he, hst⟩ => ?_
  have bel := hst.below
  subst he
  exact ⟨_, rfl, _, _, _, [], _, [], hW', trodAll_mk1 (shut_bool Try.underlying4 _), (trodAll_cons_mk (Below.trod law_laid (by kernel_rfl) (of_decide_eq_true (by kernel_rfl)) k0 bel lt0) (trodAll_cons_mk (Below.trod law_laid (by kernel_rfl) (of_decide_eq_true (by kernel_rfl)) k1 bel lt1) (trodAll_cons_mk (Below.trod law_laid (by kernel_rfl) (of_decide_eq_true (by kernel_rfl)) k2 bel lt2) trodAll_mk0))), rfl, bel.frame _, fun h => by cases h⟩

theorem over : Rows.fnExactSerialKidRow.holds Try.pinned (OpenSpec.ofChange Rows.fnExactSerialKidSpec) :=
  OpenClaim.holds_of_wide 5 Try.f5 rfl rfl rfl rfl rfl rfl rfl ⟨rfl, rfl, rfl, rfl, rfl⟩ rfl rfl rfl rfl rfl (by kernel_rfl) Try.func5 (by kernel_rfl)
    (of_decide_eq_true (by kernel_rfl)) (by unfold Func.isWrapper; first | (rw [if_pos (by decide +kernel)]; kernel_rfl) | (rw [if_neg (by decide +kernel)]; exact ⟨rfl, rfl⟩))
    (fun os started H enc _ => lifted os started H enc)
end fnExactSerialKid
theorem fnExactSerialKid_proved : Rows.FnExactSerialKidSaid := fnExactSerialKid.over
end Go.Proofs.Ytknghnmcckjjbaa
