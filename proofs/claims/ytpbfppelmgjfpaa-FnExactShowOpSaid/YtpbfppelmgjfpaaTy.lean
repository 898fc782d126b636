/- Closed facts on the types and functions of the program. -/
import Derived.Test.YtpbfppelmgjfpaaRows
import Derived.Test.YtpbfppelmgjfpaaSq
namespace Go.Proofs.Ytpbfppelmgjfpaa
open Go Go.RowKit
set_option linter.unusedVariables false
set_option linter.unusedSimpArgs false
theorem ag23 : Ag Try.prog 23 4 := fun w => ⟨by kernel_rfl, by kernel_rfl⟩
theorem cf11 : CfR Try.prog 11 := fun vs w => by kernel_rfl
theorem cf10 : CfR Try.prog 10 := fun vs w => by kernel_rfl
theorem cf12 : CfR Try.prog 12 := fun vs w => by kernel_rfl
theorem ag25 : Ag Try.prog 25 4 := fun w => ⟨by kernel_rfl, by kernel_rfl⟩
theorem cf44 : CfR Try.prog 44 := fun vs w => by kernel_rfl
theorem fl25_0 : Fld Try.prog 25 0 0 := fun p o w => by kernel_rfl
theorem sc3 : Sc Try.prog 3 := fun w => ⟨by kernel_rfl, by kernel_rfl⟩
theorem cf45 : CfR Try.prog 45 := fun vs w => by kernel_rfl
theorem fl25_1 : Fld Try.prog 25 1 1 := fun p o w => by kernel_rfl
theorem fl25_2 : Fld Try.prog 25 2 2 := fun p o w => by kernel_rfl
theorem fl25_3 : Fld Try.prog 25 3 3 := fun p o w => by kernel_rfl
theorem zr3 : Zr Try.prog 3 (.int .i64 0) := fun w => by kernel_rfl
theorem bs66_3 : BldS Try.prog 66 3 1 3 #[.int .i64 0, .int .i64 0, .int .i64 0] := BldS.mk Try.underlying66 (fun w => by kernel_rfl) (by decide) zr3 (by kernel_rfl)
theorem cf46 : CfR Try.prog 46 := fun vs w => by kernel_rfl
theorem el66 : Elem Try.prog 66 3 (.int .i64 0) 1 8 := ⟨Try.underlying66, by kernel_rfl, rfl, by decide⟩
theorem cf47 : CfR Try.prog 47 := fun vs w => by kernel_rfl
theorem zr5 : Zr Try.prog 5 (.int .u8 0) := fun w => by kernel_rfl
theorem bs56_0 : BldS Try.prog 56 5 1 0 #[] := BldS.mk Try.underlying56 (fun w => by kernel_rfl) (by decide) zr5 (by kernel_rfl)
theorem bs56_1 : BldS Try.prog 56 5 1 1 #[.int .u8 0] := BldS.mk Try.underlying56 (fun w => by kernel_rfl) (by decide) zr5 (by kernel_rfl)
theorem el56 : Elem Try.prog 56 5 (.int .u8 0) 1 1 := ⟨Try.underlying56, by kernel_rfl, rfl, by decide⟩
theorem sc5 : Sc Try.prog 5 := fun w => ⟨by kernel_rfl, by kernel_rfl⟩
theorem cf77 : CfR Try.prog 77 := fun vs w => by kernel_rfl
theorem cf78 : CfR Try.prog 78 := fun vs w => by kernel_rfl
theorem cf79 : CfR Try.prog 79 := fun vs w => by kernel_rfl
theorem cf80 : CfR Try.prog 80 := fun vs w => by kernel_rfl
theorem cf81 : CfR Try.prog 81 := fun vs w => by kernel_rfl
theorem zr9 : Zr Try.prog 9 (sv []) := fun w => by kernel_rfl
theorem bs62_16 : BldS Try.prog 62 9 1 16 #[sv [], sv [], sv [], sv [], sv [], sv [], sv [], sv [], sv [], sv [], sv [], sv [], sv [], sv [], sv [], sv []] := BldS.mk Try.underlying62 (fun w => by kernel_rfl) (by decide) zr9 (by kernel_rfl)
theorem el62 : Elem Try.prog 62 9 (sv []) 1 16 := ⟨Try.underlying62, by kernel_rfl, rfl, by decide⟩
theorem sc9 : Sc Try.prog 9 := fun w => ⟨by kernel_rfl, by kernel_rfl⟩
theorem zr25 : Zr Try.prog 25 (.agg #[.int .i64 0, .int .i64 0, .int .i64 0, .int .i64 0]) := fun w => by kernel_rfl
theorem fl23_0 : Fld Try.prog 23 0 0 := fun p o w => by kernel_rfl
theorem fl23_1 : Fld Try.prog 23 1 1 := fun p o w => by kernel_rfl
theorem fl23_2 : Fld Try.prog 23 2 2 := fun p o w => by kernel_rfl
theorem fl23_3 : Fld Try.prog 23 3 3 := fun p o w => by kernel_rfl
theorem cf40 : CfR Try.prog 40 := fun vs w => by kernel_rfl
theorem cf41 : CfR Try.prog 41 := fun vs w => by kernel_rfl
theorem cf42 : CfR Try.prog 42 := fun vs w => by kernel_rfl
theorem cf43 : CfR Try.prog 43 := fun vs w => by kernel_rfl
theorem cf73 : CfR Try.prog 73 := fun vs w => by kernel_rfl
theorem cf74 : CfR Try.prog 74 := fun vs w => by kernel_rfl
theorem cf75 : CfR Try.prog 75 := fun vs w => by kernel_rfl
theorem cf76 : CfR Try.prog 76 := fun vs w => by kernel_rfl
theorem bs62_17 : BldS Try.prog 62 9 1 17 #[sv [], sv [], sv [], sv [], sv [], sv [], sv [], sv [], sv [], sv [], sv [], sv [], sv [], sv [], sv [], sv [], sv []] := BldS.mk Try.underlying62 (fun w => by kernel_rfl) (by decide) zr9 (by kernel_rfl)
end Go.Proofs.Ytpbfppelmgjfpaa
