/- Closed facts on the types and functions of the program. -/
import Derived.Test.YtgcoopaodbaaeaaRows
import Derived.Test.YtgcoopaodbaaeaaSq
namespace Go.Proofs.Ytgcoopaodbaaeaa
open Go Go.RowKit
set_option linter.unusedVariables false
set_option linter.unusedSimpArgs false
theorem cf30 : CfR Try.prog 30 := fun vs w => by kernel_rfl
theorem cf31 : CfR Try.prog 31 := fun vs w => by kernel_rfl
theorem cf38 : CfR Try.prog 38 := fun vs w => by kernel_rfl
theorem cf25 : CfR Try.prog 25 := fun vs w => by kernel_rfl
theorem zr5 : Zr Try.prog 5 (.int .u8 0) := fun w => by kernel_rfl
theorem bs38_0 : BldS Try.prog 38 5 1 0 #[] := BldS.mk Try.underlying38 (fun w => by kernel_rfl) (by decide) zr5 (by kernel_rfl)
theorem bs38_1 : BldS Try.prog 38 5 1 1 #[.int .u8 0] := BldS.mk Try.underlying38 (fun w => by kernel_rfl) (by decide) zr5 (by kernel_rfl)
theorem el38 : Elem Try.prog 38 5 (.int .u8 0) 1 1 := ⟨Try.underlying38, by kernel_rfl, rfl, by decide⟩
theorem sc5 : Sc Try.prog 5 := fun w => ⟨by kernel_rfl, by kernel_rfl⟩
theorem cf24 : CfR Try.prog 24 := fun vs w => by kernel_rfl
end Go.Proofs.Ytgcoopaodbaaeaa
