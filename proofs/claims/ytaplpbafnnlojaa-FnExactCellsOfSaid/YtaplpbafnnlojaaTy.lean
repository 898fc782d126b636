/- Closed facts on the types and functions of the program. -/
import Derived.Test.YtaplpbafnnlojaaRows
import Derived.Test.YtaplpbafnnlojaaSo
namespace Go.Proofs.Ytaplpbafnnlojaa
open Go Go.RowKit
set_option linter.unusedVariables false
set_option linter.unusedSimpArgs false
theorem zr44 : Zr Try.prog 44 (.agg #[.int .i64 0, .int .i64 0]) := fun w => by kernel_rfl
theorem fl46_0 : Fld Try.prog 46 0 0 := fun p o w => by kernel_rfl
theorem sc3 : Sc Try.prog 3 := fun w => ⟨by kernel_rfl, by kernel_rfl⟩
theorem fl44_0 : Fld Try.prog 44 0 0 := fun p o w => by kernel_rfl
theorem fl46_1 : Fld Try.prog 46 1 1 := fun p o w => by kernel_rfl
theorem fl44_1 : Fld Try.prog 44 1 1 := fun p o w => by kernel_rfl
theorem ag44 : Ag Try.prog 44 2 := fun w => ⟨by kernel_rfl, by kernel_rfl⟩
theorem el25 : Elem Try.prog 25 44 (.agg #[.int .i64 0, .int .i64 0]) 2 16 := ⟨Try.underlying25, by kernel_rfl, rfl, by decide⟩
theorem el22 : Elem Try.prog 22 46 (.agg #[.int .i64 0, .int .i64 0]) 2 16 := ⟨Try.underlying22, by kernel_rfl, rfl, by decide⟩
theorem ag46 : Ag Try.prog 46 2 := fun w => ⟨by kernel_rfl, by kernel_rfl⟩
theorem cf32 : CfR Try.prog 32 := fun vs w => by kernel_rfl
theorem cf40 : CfR Try.prog 40 := fun vs w => by kernel_rfl
theorem cf30 : CfR Try.prog 30 := fun vs w => by kernel_rfl
theorem cf31 : CfR Try.prog 31 := fun vs w => by kernel_rfl
theorem cf41 : CfR Try.prog 41 := fun vs w => by kernel_rfl
theorem cf33 : CfR Try.prog 33 := fun vs w => by kernel_rfl
theorem cf34 : CfR Try.prog 34 := fun vs w => by kernel_rfl
theorem cf35 : CfR Try.prog 35 := fun vs w => by kernel_rfl
theorem cf9 : CfR Try.prog 9 := fun vs w => by kernel_rfl
theorem cf11 : CfR Try.prog 11 := fun vs w => by kernel_rfl
theorem cf10 : CfR Try.prog 10 := fun vs w => by kernel_rfl
theorem cf12 : CfR Try.prog 12 := fun vs w => by kernel_rfl
theorem cf13 : CfR Try.prog 13 := fun vs w => by kernel_rfl
theorem cf14 : CfR Try.prog 14 := fun vs w => by kernel_rfl
theorem cf15 : CfR Try.prog 15 := fun vs w => by kernel_rfl
theorem bs25_0 : BldS Try.prog 25 44 2 0 #[] := BldS.mk Try.underlying25 (fun w => by kernel_rfl) (by decide) zr44 (by kernel_rfl)
theorem cf36 : CfR Try.prog 36 := fun vs w => by kernel_rfl
theorem cf16 : CfR Try.prog 16 := fun vs w => by kernel_rfl
theorem cf17 : CfR Try.prog 17 := fun vs w => by kernel_rfl
theorem cf18 : CfR Try.prog 18 := fun vs w => by kernel_rfl
theorem cf19 : CfR Try.prog 19 := fun vs w => by kernel_rfl
theorem bd44 : Bld Try.prog 44 #[.int .i64 0, .int .i64 0] #[(0, 1), (1, 1)] := Bld.mk zr44 Try.underlying44 (fun w => by kernel_rfl)
theorem bs25_1 : BldS Try.prog 25 44 2 1 #[.int .i64 0, .int .i64 0] := BldS.mk Try.underlying25 (fun w => by kernel_rfl) (by decide) zr44 (by kernel_rfl)
theorem cf20 : CfR Try.prog 20 := fun vs w => by kernel_rfl
theorem cf21 : CfR Try.prog 21 := fun vs w => by kernel_rfl
theorem el35 : Elem Try.prog 35 3 (.int .i64 0) 1 8 := ⟨Try.underlying35, by kernel_rfl, rfl, by decide⟩
theorem cf37 : CfR Try.prog 37 := fun vs w => by kernel_rfl
theorem zr3 : Zr Try.prog 3 (.int .i64 0) := fun w => by kernel_rfl
theorem bs35_0 : BldS Try.prog 35 3 1 0 #[] := BldS.mk Try.underlying35 (fun w => by kernel_rfl) (by decide) zr3 (by kernel_rfl)
theorem cf38 : CfR Try.prog 38 := fun vs w => by kernel_rfl
theorem cf39 : CfR Try.prog 39 := fun vs w => by kernel_rfl
theorem cf23 : CfR Try.prog 23 := fun vs w => by kernel_rfl
theorem cf22 : CfR Try.prog 22 := fun vs w => by kernel_rfl
theorem cf24 : CfR Try.prog 24 := fun vs w => by kernel_rfl
theorem cf25 : CfR Try.prog 25 := fun vs w => by kernel_rfl
theorem cf26 : CfR Try.prog 26 := fun vs w => by kernel_rfl
theorem cf27 : CfR Try.prog 27 := fun vs w => by kernel_rfl
theorem bs35_1 : BldS Try.prog 35 3 1 1 #[.int .i64 0] := BldS.mk Try.underlying35 (fun w => by kernel_rfl) (by decide) zr3 (by kernel_rfl)
theorem cf28 : CfR Try.prog 28 := fun vs w => by kernel_rfl
theorem cf29 : CfR Try.prog 29 := fun vs w => by kernel_rfl
end Go.Proofs.Ytaplpbafnnlojaa
