/- Walks of functions, by program: impl.isMap, impl.ThingsOk, impl.orderOk, impl.Serial, laws.eqKid, laws.eqKidS, laws.eqProg, laws.eqThings, laws.eqRun, laws.heldThings, laws.heldRun, laws.markKidS, laws.markProg, laws.markThings, laws.markRun, laws.szKid, laws.szKidS, laws.szProg, laws.szIntS, laws.szThings, laws.toKid, laws.toKidS, laws.toProg, laws.toThings, spec.ProgOk, spec.ThingsOk, spec.l7Order, spec.Serial. -/
import Derived.Test.YtknghnmcckjjbaaTy
import Derived.Test.YtknghnmcckjjbaaS3
namespace Go.Proofs.Ytknghnmcckjjbaa
open Go Go.RowKit
set_option linter.unusedVariables false
set_option linter.unusedSimpArgs false
end Go.Proofs.Ytknghnmcckjjbaa
