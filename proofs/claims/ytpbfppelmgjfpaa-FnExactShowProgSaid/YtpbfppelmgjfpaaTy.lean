/- Closed facts on the types and functions of the program. -/
import Derived.Test.YtpbfppelmgjfpaaRows
import Derived.Test.YtpbfppelmgjfpaaSq
namespace Go.Proofs.Ytpbfppelmgjfpaa
open Go Go.RowKit
set_option linter.unusedVariables false
set_option linter.unusedSimpArgs false
theorem ag23 : Ag Try.prog 23 4 := fun w => ⟨by kernel_rfl, by kernel_rfl⟩
theorem cf11 : CfR Try.prog 11 := fun vs w => by kernel_rfl
theorem cf10 : CfR Try.prog 10 := fun vs w => by kernel_rfl
theorem cf12 : CfR Try.prog 12 := fun vs w => by kernel_rfl
theorem ag25 : Ag Try.prog 25 4 := fun w => ⟨by kernel_rfl, by kernel_rfl⟩
theorem cf44 : CfR Try.prog 44 := fun vs w => by kernel_rfl
theorem fl25_0 : Fld Try.prog 25 0 0 := fun p o w => by kernel_rfl
theorem sc3 : Sc Try.prog 3 := fun w => ⟨by kernel_rfl, by kernel_rfl⟩
theorem cf45 : CfR Try.prog 45 := fun vs w => by kernel_rfl
theorem fl25_1 : Fld Try.prog 25 1 1 := fun p o w => by kernel_rfl
theorem fl25_2 : Fld Try.prog 25 2 2 := fun p o w => by kernel_rfl
theorem fl25_3 : Fld Try.prog 25 3 3 := fun p o w => by kernel_rfl
theorem zr3 : Zr Try.prog 3 (.int .i64 0) := fun w => by kernel_rfl
theorem bs66_3 : BldS Try.prog 66 3 1 3 #[.int .i64 0, .int .i64 0, .int .i64 0] := BldS.mk Try.underlying66 (fun w => by kernel_rfl) (by decide) zr3 (by kernel_rfl)
theorem cf46 : CfR Try.prog 46 := fun vs w => by kernel_rfl
theorem el66 : Elem Try.prog 66 3 (.int .i64 0) 1 8 := ⟨Try.underlying66, by kernel_rfl, rfl, by decide⟩
theorem cf47 : CfR Try.prog 47 := fun vs w => by kernel_rfl
theorem zr5 : Zr Try.prog 5 (.int .u8 0) := fun w => by kernel_rfl
theorem bs56_0 : BldS Try.prog 56 5 1 0 #[] := BldS.mk Try.underlying56 (fun w => by kernel_rfl) (by decide) zr5 (by kernel_rfl)
theorem bs56_1 : BldS Try.prog 56 5 1 1 #[.int .u8 0] := BldS.mk Try.underlying56 (fun w => by kernel_rfl) (by decide) zr5 (by kernel_rfl)
theorem el56 : Elem Try.prog 56 5 (.int .u8 0) 1 1 := ⟨Try.underlying56, by kernel_rfl, rfl, by decide⟩
theorem sc5 : Sc Try.prog 5 := fun w => ⟨by kernel_rfl, by kernel_rfl⟩
theorem cf77 : CfR Try.prog 77 := fun vs w => by kernel_rfl
theorem cf78 : CfR Try.prog 78 := fun vs w => by kernel_rfl
theorem cf79 : CfR Try.prog 79 := fun vs w => by kernel_rfl
theorem cf80 : CfR Try.prog 80 := fun vs w => by kernel_rfl
theorem cf81 : CfR Try.prog 81 := fun vs w => by kernel_rfl
theorem zr9 : Zr Try.prog 9 (sv []) := fun w => by kernel_rfl
theorem bs62_16 : BldS Try.prog 62 9 1 16 #[sv [], sv [], sv [], sv [], sv [], sv [], sv [], sv [], sv [], sv [], sv [], sv [], sv [], sv [], sv [], sv []] := BldS.mk Try.underlying62 (fun w => by kernel_rfl) (by decide) zr9 (by kernel_rfl)
theorem el62 : Elem Try.prog 62 9 (sv []) 1 16 := ⟨Try.underlying62, by kernel_rfl, rfl, by decide⟩
theorem sc9 : Sc Try.prog 9 := fun w => ⟨by kernel_rfl, by kernel_rfl⟩
theorem zr25 : Zr Try.prog 25 (.agg #[.int .i64 0, .int .i64 0, .int .i64 0, .int .i64 0]) := fun w => by kernel_rfl
theorem fl23_0 : Fld Try.prog 23 0 0 := fun p o w => by kernel_rfl
theorem fl23_1 : Fld Try.prog 23 1 1 := fun p o w => by kernel_rfl
theorem fl23_2 : Fld Try.prog 23 2 2 := fun p o w => by kernel_rfl
theorem fl23_3 : Fld Try.prog 23 3 3 := fun p o w => by kernel_rfl
theorem cf40 : CfR Try.prog 40 := fun vs w => by kernel_rfl
theorem cf41 : CfR Try.prog 41 := fun vs w => by kernel_rfl
theorem cf42 : CfR Try.prog 42 := fun vs w => by kernel_rfl
theorem cf43 : CfR Try.prog 43 := fun vs w => by kernel_rfl
theorem cf73 : CfR Try.prog 73 := fun vs w => by kernel_rfl
theorem cf74 : CfR Try.prog 74 := fun vs w => by kernel_rfl
theorem cf75 : CfR Try.prog 75 := fun vs w => by kernel_rfl
theorem cf76 : CfR Try.prog 76 := fun vs w => by kernel_rfl
theorem bs62_17 : BldS Try.prog 62 9 1 17 #[sv [], sv [], sv [], sv [], sv [], sv [], sv [], sv [], sv [], sv [], sv [], sv [], sv [], sv [], sv [], sv [], sv []] := BldS.mk Try.underlying62 (fun w => by kernel_rfl) (by decide) zr9 (by kernel_rfl)
theorem cf16 : CfR Try.prog 16 := fun vs w => by kernel_rfl
theorem cf18 : CfR Try.prog 18 := fun vs w => by kernel_rfl
theorem cf17 : CfR Try.prog 17 := fun vs w => by kernel_rfl
theorem cf19 : CfR Try.prog 19 := fun vs w => by kernel_rfl
theorem cf20 : CfR Try.prog 20 := fun vs w => by kernel_rfl
theorem cf53 : CfR Try.prog 53 := fun vs w => by kernel_rfl
theorem el35 : Elem Try.prog 35 25 (.agg #[.int .i64 0, .int .i64 0, .int .i64 0, .int .i64 0]) 4 32 := ⟨Try.underlying35, by kernel_rfl, rfl, by decide⟩
theorem cf83 : CfR Try.prog 83 := fun vs w => by kernel_rfl
theorem cf84 : CfR Try.prog 84 := fun vs w => by kernel_rfl
theorem cf99 : CfR Try.prog 99 := fun vs w => by kernel_rfl
theorem cf15 : CfR Try.prog 15 := fun vs w => by kernel_rfl
theorem el32 : Elem Try.prog 32 23 (.agg #[.int .i64 0, .int .i64 0, .int .i64 0, .int .i64 0]) 4 32 := ⟨Try.underlying32, by kernel_rfl, rfl, by decide⟩
theorem cf52 : CfR Try.prog 52 := fun vs w => by kernel_rfl
theorem cf82 : CfR Try.prog 82 := fun vs w => by kernel_rfl
theorem ag44 : Ag Try.prog 44 2 := fun w => ⟨by kernel_rfl, by kernel_rfl⟩
theorem cf25 : CfR Try.prog 25 := fun vs w => by kernel_rfl
theorem cf27 : CfR Try.prog 27 := fun vs w => by kernel_rfl
theorem cf26 : CfR Try.prog 26 := fun vs w => by kernel_rfl
theorem zr49 : Zr Try.prog 49 (.agg #[.slice none 0 0, .slice none 0 0]) := fun w => by kernel_rfl
theorem ag49 : Ag Try.prog 49 2 := fun w => ⟨by kernel_rfl, by kernel_rfl⟩
theorem cf28 : CfR Try.prog 28 := fun vs w => by kernel_rfl
theorem cf29 : CfR Try.prog 29 := fun vs w => by kernel_rfl
theorem cf58 : CfR Try.prog 58 := fun vs w => by kernel_rfl
theorem fl49_0 : Fld Try.prog 49 0 0 := fun p o w => by kernel_rfl
theorem sc35 : Sc Try.prog 35 := fun w => ⟨by kernel_rfl, by kernel_rfl⟩
theorem fl49_1 : Fld Try.prog 49 1 1 := fun p o w => by kernel_rfl
theorem sc47 : Sc Try.prog 47 := fun w => ⟨by kernel_rfl, by kernel_rfl⟩
theorem el47 : Elem Try.prog 47 77 (.agg #[.slice none 0 0]) 1 24 := ⟨Try.underlying47, by kernel_rfl, rfl, by decide⟩
theorem ag77 : Ag Try.prog 77 1 := fun w => ⟨by kernel_rfl, by kernel_rfl⟩
theorem zr77 : Zr Try.prog 77 (.agg #[.slice none 0 0]) := fun w => by kernel_rfl
theorem fl77_0 : Fld Try.prog 77 0 0 := fun p o w => by kernel_rfl
theorem cf87 : CfR Try.prog 87 := fun vs w => by kernel_rfl
theorem cf88 : CfR Try.prog 88 := fun vs w => by kernel_rfl
theorem cf101 : CfR Try.prog 101 := fun vs w => by kernel_rfl
theorem cf105 : CfR Try.prog 105 := fun vs w => by kernel_rfl
theorem cf102 : CfR Try.prog 102 := fun vs w => by kernel_rfl
theorem cf100 : CfR Try.prog 100 := fun vs w => by kernel_rfl
theorem cf59 : CfR Try.prog 59 := fun vs w => by kernel_rfl
theorem cf89 : CfR Try.prog 89 := fun vs w => by kernel_rfl
theorem fl44_0 : Fld Try.prog 44 0 0 := fun p o w => by kernel_rfl
theorem sc32 : Sc Try.prog 32 := fun w => ⟨by kernel_rfl, by kernel_rfl⟩
theorem fl44_1 : Fld Try.prog 44 1 1 := fun p o w => by kernel_rfl
theorem sc42 : Sc Try.prog 42 := fun w => ⟨by kernel_rfl, by kernel_rfl⟩
theorem cf56 : CfR Try.prog 56 := fun vs w => by kernel_rfl
theorem el42 : Elem Try.prog 42 95 (.agg #[.slice none 0 0]) 1 24 := ⟨Try.underlying42, by kernel_rfl, rfl, by decide⟩
theorem ag95 : Ag Try.prog 95 1 := fun w => ⟨by kernel_rfl, by kernel_rfl⟩
theorem cf85 : CfR Try.prog 85 := fun vs w => by kernel_rfl
theorem fl95_0 : Fld Try.prog 95 0 0 := fun p o w => by kernel_rfl
theorem cf57 : CfR Try.prog 57 := fun vs w => by kernel_rfl
theorem cf86 : CfR Try.prog 86 := fun vs w => by kernel_rfl
theorem cf36 : CfR Try.prog 36 := fun vs w => by kernel_rfl
theorem cf64 : CfR Try.prog 64 := fun vs w => by kernel_rfl
theorem cf65 : CfR Try.prog 65 := fun vs w => by kernel_rfl
theorem cf91 : CfR Try.prog 91 := fun vs w => by kernel_rfl
end Go.Proofs.Ytpbfppelmgjfpaa
