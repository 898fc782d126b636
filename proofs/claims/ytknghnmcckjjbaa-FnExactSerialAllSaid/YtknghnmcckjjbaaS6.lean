/- Walks of functions, by program: spec.l3Draw, spec.l3DrawVals, spec.l4DrawCell, spec.l4DrawKey, spec.l4DrawReg, spec.l4Plain, spec.l4Any, spec.l5Bend, spec.l5Gen, spec.l5Prog, spec.l5AnyCode, spec.DrawSerialKid, laws.FnBlocks, spec.l5AnyProg, spec.l7AnyOrder. -/
import Derived.Test.YtknghnmcckjjbaaTy
import Derived.Test.YtknghnmcckjjbaaS5
namespace Go.Proofs.Ytknghnmcckjjbaa
open Go Go.RowKit
set_option linter.unusedVariables false
set_option linter.unusedSimpArgs false
end Go.Proofs.Ytknghnmcckjjbaa
