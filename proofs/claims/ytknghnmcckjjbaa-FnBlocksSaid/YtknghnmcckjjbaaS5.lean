/- Walks of functions, by program: laws.FnExactSerial, impl.SerialAll, laws.eqOrder, laws.eqOrderS, laws.eqProgS, laws.eqRunS, laws.heldRunS, laws.markOrderS, laws.markProgS, laws.markRunS, laws.szOrder, laws.szOrderS, laws.szProgS, laws.toOrder, laws.toOrderS, laws.toProgS. -/
import Derived.Test.YtknghnmcckjjbaaTy
import Derived.Test.YtknghnmcckjjbaaS4
namespace Go.Proofs.Ytknghnmcckjjbaa
open Go Go.RowKit
set_option linter.unusedVariables false
set_option linter.unusedSimpArgs false
end Go.Proofs.Ytknghnmcckjjbaa
