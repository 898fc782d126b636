/- What the laws' helpers on records do. -/
import Derived.Test.YtknghnmcckjjbaaPu
import Derived.Test.YtknghnmcckjjbaaS4
namespace Go.Proofs.Ytknghnmcckjjbaa
open Go Go.RowKit
set_option linter.unusedVariables false
set_option linter.unusedSimpArgs false
end Go.Proofs.Ytknghnmcckjjbaa
