/- What all rows of this seat share. -/
import Derived.Test.YtpbfppelmgjfpaaRows
import Derived.ProofKit
import Derived.OpenShut
import Derived.ShutString
import Derived.ChangeOld
import Derived.Below
namespace Go.Proofs.Ytpbfppelmgjfpaa
open Go Go.RowKit
theorem law_own : ownKnob Try.prog.godebug = none := by kernel_rfl
theorem law_laid : laidOutB Try.prog = true := by kernel_rfl
end Go.Proofs.Ytpbfppelmgjfpaa
