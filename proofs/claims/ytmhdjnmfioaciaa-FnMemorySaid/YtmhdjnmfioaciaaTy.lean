/- Closed facts on the types and functions of the program. -/
import Derived.Test.YtmhdjnmfioaciaaRows
import Derived.Test.YtmhdjnmfioaciaaSq
namespace Go.Proofs.Ytmhdjnmfioaciaa
open Go Go.RowKit
set_option linter.unusedVariables false
set_option linter.unusedSimpArgs false
theorem cf50 : CfR Try.prog 50 := fun vs w => by kernel_rfl
theorem cf46 : CfR Try.prog 46 := fun vs w => by kernel_rfl
theorem fl29_1 : Fld Try.prog 29 1 1 := fun p o w => by kernel_rfl
theorem sc27 : Sc Try.prog 27 := fun w => ⟨by kernel_rfl, by kernel_rfl⟩
theorem el27 : Elem Try.prog 27 61 (.agg #[.int .i64 0, .int .i64 0, .int .i64 0]) 3 24 := ⟨Try.underlying27, by kernel_rfl, rfl, by decide⟩
theorem ag61 : Ag Try.prog 61 3 := fun w => ⟨by kernel_rfl, by kernel_rfl⟩
theorem zr61 : Zr Try.prog 61 (.agg #[.int .i64 0, .int .i64 0, .int .i64 0]) := fun w => by kernel_rfl
theorem fl61_0 : Fld Try.prog 61 0 0 := fun p o w => by kernel_rfl
theorem sc3 : Sc Try.prog 3 := fun w => ⟨by kernel_rfl, by kernel_rfl⟩
theorem cf49 : CfR Try.prog 49 := fun vs w => by kernel_rfl
theorem fl61_1 : Fld Try.prog 61 1 1 := fun p o w => by kernel_rfl
theorem fl29_0 : Fld Try.prog 29 0 0 := fun p o w => by kernel_rfl
theorem fl61_2 : Fld Try.prog 61 2 2 := fun p o w => by kernel_rfl
theorem cf47 : CfR Try.prog 47 := fun vs w => by kernel_rfl
theorem el38 : Elem Try.prog 38 3 (.int .i64 0) 1 8 := ⟨Try.underlying38, by kernel_rfl, rfl, by decide⟩
theorem zr29 : Zr Try.prog 29 (.agg #[.int .i64 0, .slice none 0 0]) := fun w => by kernel_rfl
theorem bd29 : Bld Try.prog 29 #[.int .i64 0, .slice none 0 0] #[(0, 1), (1, 1)] := Bld.mk zr29 Try.underlying29 (fun w => by kernel_rfl)
theorem ag29 : Ag Try.prog 29 2 := fun w => ⟨by kernel_rfl, by kernel_rfl⟩
theorem bs27_0 : BldS Try.prog 27 61 3 0 #[] := BldS.mk Try.underlying27 (fun w => by kernel_rfl) (by decide) zr61 (by kernel_rfl)
theorem cf55 : CfR Try.prog 55 := fun vs w => by kernel_rfl
theorem bd61 : Bld Try.prog 61 #[.int .i64 0, .int .i64 0, .int .i64 0] #[(0, 1), (1, 1), (2, 1)] := Bld.mk zr61 Try.underlying61 (fun w => by kernel_rfl)
theorem bs27_1 : BldS Try.prog 27 61 3 1 #[.int .i64 0, .int .i64 0, .int .i64 0] := BldS.mk Try.underlying27 (fun w => by kernel_rfl) (by decide) zr61 (by kernel_rfl)
theorem cf54 : CfR Try.prog 54 := fun vs w => by kernel_rfl
theorem cf16 : CfR Try.prog 16 := fun vs w => by kernel_rfl
theorem zr3 : Zr Try.prog 3 (.int .i64 0) := fun w => by kernel_rfl
theorem bs38_0 : BldS Try.prog 38 3 1 0 #[] := BldS.mk Try.underlying38 (fun w => by kernel_rfl) (by decide) zr3 (by kernel_rfl)
theorem bs38_1 : BldS Try.prog 38 3 1 1 #[.int .i64 0] := BldS.mk Try.underlying38 (fun w => by kernel_rfl) (by decide) zr3 (by kernel_rfl)
theorem cf14 : CfR Try.prog 14 := fun vs w => by kernel_rfl
theorem cf53 : CfR Try.prog 53 := fun vs w => by kernel_rfl
theorem cf59 : CfR Try.prog 59 := fun vs w => by kernel_rfl
theorem cf60 : CfR Try.prog 60 := fun vs w => by kernel_rfl
theorem cf52 : CfR Try.prog 52 := fun vs w => by kernel_rfl
theorem cf58 : CfR Try.prog 58 := fun vs w => by kernel_rfl
theorem cf61 : CfR Try.prog 61 := fun vs w => by kernel_rfl
theorem fl75_0 : Fld Try.prog 75 0 0 := fun p o w => by kernel_rfl
theorem fl75_1 : Fld Try.prog 75 1 1 := fun p o w => by kernel_rfl
theorem fl75_2 : Fld Try.prog 75 2 2 := fun p o w => by kernel_rfl
theorem el22 : Elem Try.prog 22 75 (.agg #[.int .i64 0, .int .i64 0, .int .i64 0]) 3 24 := ⟨Try.underlying22, by kernel_rfl, rfl, by decide⟩
theorem ag75 : Ag Try.prog 75 3 := fun w => ⟨by kernel_rfl, by kernel_rfl⟩
theorem cf66 : CfR Try.prog 66 := fun vs w => by kernel_rfl
theorem fl24_0 : Fld Try.prog 24 0 0 := fun p o w => by kernel_rfl
theorem fl24_1 : Fld Try.prog 24 1 1 := fun p o w => by kernel_rfl
theorem sc22 : Sc Try.prog 22 := fun w => ⟨by kernel_rfl, by kernel_rfl⟩
theorem cf48 : CfR Try.prog 48 := fun vs w => by kernel_rfl
theorem cf45 : CfR Try.prog 45 := fun vs w => by kernel_rfl
theorem cf67 : CfR Try.prog 67 := fun vs w => by kernel_rfl
theorem cf51 : CfR Try.prog 51 := fun vs w => by kernel_rfl
theorem cf56 : CfR Try.prog 56 := fun vs w => by kernel_rfl
theorem cf57 : CfR Try.prog 57 := fun vs w => by kernel_rfl
theorem ag24 : Ag Try.prog 24 2 := fun w => ⟨by kernel_rfl, by kernel_rfl⟩
theorem cf13 : CfR Try.prog 13 := fun vs w => by kernel_rfl
theorem cf15 : CfR Try.prog 15 := fun vs w => by kernel_rfl
theorem cf17 : CfR Try.prog 17 := fun vs w => by kernel_rfl
theorem cf23 : CfR Try.prog 23 := fun vs w => by kernel_rfl
theorem cf22 : CfR Try.prog 22 := fun vs w => by kernel_rfl
theorem cf24 : CfR Try.prog 24 := fun vs w => by kernel_rfl
theorem cf25 : CfR Try.prog 25 := fun vs w => by kernel_rfl
theorem cf26 : CfR Try.prog 26 := fun vs w => by kernel_rfl
theorem cf27 : CfR Try.prog 27 := fun vs w => by kernel_rfl
theorem cf28 : CfR Try.prog 28 := fun vs w => by kernel_rfl
theorem cf34 : CfR Try.prog 34 := fun vs w => by kernel_rfl
theorem cf35 : CfR Try.prog 35 := fun vs w => by kernel_rfl
theorem cf29 : CfR Try.prog 29 := fun vs w => by kernel_rfl
theorem cf30 : CfR Try.prog 30 := fun vs w => by kernel_rfl
theorem cf31 : CfR Try.prog 31 := fun vs w => by kernel_rfl
theorem cf32 : CfR Try.prog 32 := fun vs w => by kernel_rfl
theorem cf33 : CfR Try.prog 33 := fun vs w => by kernel_rfl
theorem cf36 : CfR Try.prog 36 := fun vs w => by kernel_rfl
theorem cf37 : CfR Try.prog 37 := fun vs w => by kernel_rfl
theorem cf38 : CfR Try.prog 38 := fun vs w => by kernel_rfl
theorem cf39 : CfR Try.prog 39 := fun vs w => by kernel_rfl
theorem cf62 : CfR Try.prog 62 := fun vs w => by kernel_rfl
theorem cf63 : CfR Try.prog 63 := fun vs w => by kernel_rfl
theorem el53 : Elem Try.prog 53 5 (.int .u8 0) 1 1 := ⟨Try.underlying53, by kernel_rfl, rfl, by decide⟩
theorem sc5 : Sc Try.prog 5 := fun w => ⟨by kernel_rfl, by kernel_rfl⟩
theorem zr78 : Zr Try.prog 78 (.agg #[.slice none 0 0, .int .i64 0, .int .i64 0]) := fun w => by kernel_rfl
theorem bd78 : Bld Try.prog 78 #[.slice none 0 0, .int .i64 0, .int .i64 0] #[(0, 1), (1, 1), (2, 1)] := Bld.mk zr78 Try.underlying78 (fun w => by kernel_rfl)
theorem cf68 : CfR Try.prog 68 := fun vs w => by kernel_rfl
theorem cf69 : CfR Try.prog 69 := fun vs w => by kernel_rfl
theorem cf72 : CfR Try.prog 72 := fun vs w => by kernel_rfl
theorem fl78_2 : Fld Try.prog 78 2 2 := fun p o w => by kernel_rfl
theorem fl78_1 : Fld Try.prog 78 1 1 := fun p o w => by kernel_rfl
theorem fl78_0 : Fld Try.prog 78 0 0 := fun p o w => by kernel_rfl
theorem sc53 : Sc Try.prog 53 := fun w => ⟨by kernel_rfl, by kernel_rfl⟩
theorem cf70 : CfR Try.prog 70 := fun vs w => by kernel_rfl
theorem cf71 : CfR Try.prog 71 := fun vs w => by kernel_rfl
theorem bs38_4 : BldS Try.prog 38 3 1 4 #[.int .i64 0, .int .i64 0, .int .i64 0, .int .i64 0] := BldS.mk Try.underlying38 (fun w => by kernel_rfl) (by decide) zr3 (by kernel_rfl)
theorem cf65 : CfR Try.prog 65 := fun vs w => by kernel_rfl
theorem cf64 : CfR Try.prog 64 := fun vs w => by kernel_rfl
theorem bs38_8 : BldS Try.prog 38 3 1 8 #[.int .i64 0, .int .i64 0, .int .i64 0, .int .i64 0, .int .i64 0, .int .i64 0, .int .i64 0, .int .i64 0] := BldS.mk Try.underlying38 (fun w => by kernel_rfl) (by decide) zr3 (by kernel_rfl)
theorem bs38_3 : BldS Try.prog 38 3 1 3 #[.int .i64 0, .int .i64 0, .int .i64 0] := BldS.mk Try.underlying38 (fun w => by kernel_rfl) (by decide) zr3 (by kernel_rfl)
theorem cf40 : CfR Try.prog 40 := fun vs w => by kernel_rfl
theorem cf41 : CfR Try.prog 41 := fun vs w => by kernel_rfl
theorem cf21 : CfR Try.prog 21 := fun vs w => by kernel_rfl
theorem cf19 : CfR Try.prog 19 := fun vs w => by kernel_rfl
theorem cf43 : CfR Try.prog 43 := fun vs w => by kernel_rfl
theorem cf42 : CfR Try.prog 42 := fun vs w => by kernel_rfl
theorem cf44 : CfR Try.prog 44 := fun vs w => by kernel_rfl
theorem eq61 : EqA Try.prog 61 3 := fun x y hx hy w => ⟨by
  rw [show (10000 : Nat) = 9999 + 1 from rfl, run_equalIn_agg w 9999 61 _ _ (by kernel_rfl) (by kernel_rfl)]
  simp only [Program.fieldsOf, Try.underlying61]
  match x, y, hx, hy with
  | [a, b, c], [a', b', c'], _, _ =>
    rw [show (9999 : Nat) = 9998 + 1 from rfl, eqF_cons Try.underlying3 _ _ _ _ _ (by decide) rfl rfl rfl, eqF_cons Try.underlying3 _ _ _ _ _ (by decide) rfl rfl rfl, eqF_cons Try.underlying3 _ _ _ _ _ (by decide) rfl rfl rfl, eqF_nil]
    simp only [List.cons.injEq, and_true]
    by_cases ha : a = a' <;> by_cases hb : b = b' <;> by_cases hc : c = c' <;> simp [ha, hb, hc], by kernel_rfl⟩
end Go.Proofs.Ytmhdjnmfioaciaa
