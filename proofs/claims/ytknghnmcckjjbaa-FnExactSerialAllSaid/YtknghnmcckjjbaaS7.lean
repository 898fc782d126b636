/- Walks of functions, by program: spec.l7Things, spec.l7AnyThings, spec.DrawSerialAll, spec.l7Ints, spec.SameThings, laws.FnSerial. -/
import Derived.Test.YtknghnmcckjjbaaTy
import Derived.Test.YtknghnmcckjjbaaS6
namespace Go.Proofs.Ytknghnmcckjjbaa
open Go Go.RowKit
set_option linter.unusedVariables false
set_option linter.unusedSimpArgs false
end Go.Proofs.Ytknghnmcckjjbaa
