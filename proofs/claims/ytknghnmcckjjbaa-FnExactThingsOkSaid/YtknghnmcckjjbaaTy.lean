/- Closed facts on the types and functions of the program. -/
import Derived.Test.YtknghnmcckjjbaaRows
import Derived.Test.YtknghnmcckjjbaaSo
namespace Go.Proofs.Ytknghnmcckjjbaa
open Go Go.RowKit
set_option linter.unusedVariables false
set_option linter.unusedSimpArgs false
theorem fl24_0 : Fld Try.prog 24 0 0 := fun p o w => by kernel_rfl
theorem sc22 : Sc Try.prog 22 := fun w => ⟨by kernel_rfl, by kernel_rfl⟩
theorem cf56 : CfR Try.prog 56 := fun vs w => by kernel_rfl
theorem fl24_1 : Fld Try.prog 24 1 1 := fun p o w => by kernel_rfl
theorem el22 : Elem Try.prog 22 3 (.int .i64 0) 1 8 := ⟨Try.underlying22, by kernel_rfl, rfl, by decide⟩
theorem sc3 : Sc Try.prog 3 := fun w => ⟨by kernel_rfl, by kernel_rfl⟩
theorem zr27 : Zr Try.prog 27 (.agg #[.slice none 0 0, .slice none 0 0, .int .i64 0]) := fun w => by kernel_rfl
theorem cf20 : CfR Try.prog 20 := fun vs w => by kernel_rfl
theorem fl27_0 : Fld Try.prog 27 0 0 := fun p o w => by kernel_rfl
theorem fl27_1 : Fld Try.prog 27 1 1 := fun p o w => by kernel_rfl
theorem fl24_2 : Fld Try.prog 24 2 2 := fun p o w => by kernel_rfl
theorem fl27_2 : Fld Try.prog 27 2 2 := fun p o w => by kernel_rfl
theorem ag27 : Ag Try.prog 27 3 := fun w => ⟨by kernel_rfl, by kernel_rfl⟩
theorem cf57 : CfR Try.prog 57 := fun vs w => by kernel_rfl
theorem cf58 : CfR Try.prog 58 := fun vs w => by kernel_rfl
theorem cf22 : CfR Try.prog 22 := fun vs w => by kernel_rfl
theorem ag24 : Ag Try.prog 24 3 := fun w => ⟨by kernel_rfl, by kernel_rfl⟩
theorem cf10 : CfR Try.prog 10 := fun vs w => by kernel_rfl
theorem cf12 : CfR Try.prog 12 := fun vs w => by kernel_rfl
theorem cf11 : CfR Try.prog 11 := fun vs w => by kernel_rfl
theorem cf13 : CfR Try.prog 13 := fun vs w => by kernel_rfl
theorem cf14 : CfR Try.prog 14 := fun vs w => by kernel_rfl
theorem cf61 : CfR Try.prog 61 := fun vs w => by kernel_rfl
theorem cf60 : CfR Try.prog 60 := fun vs w => by kernel_rfl
theorem cf59 : CfR Try.prog 59 := fun vs w => by kernel_rfl
theorem cf98 : CfR Try.prog 98 := fun vs w => by kernel_rfl
theorem cf64 : CfR Try.prog 64 := fun vs w => by kernel_rfl
theorem cf62 : CfR Try.prog 62 := fun vs w => by kernel_rfl
theorem cf63 : CfR Try.prog 63 := fun vs w => by kernel_rfl
theorem cf15 : CfR Try.prog 15 := fun vs w => by kernel_rfl
theorem cf16 : CfR Try.prog 16 := fun vs w => by kernel_rfl
end Go.Proofs.Ytknghnmcckjjbaa
