/- Drawn regions in which several orders are open: a tree of orders. Generic: no program is named. -/
import Derived.Test.YtpbfppelmgjfpaaSr
namespace Go.Proofs.Ytpbfppelmgjfpaa
open Go Go.RowKit
set_option linter.unusedVariables false
set_option linter.unusedSimpArgs false

/-- A segment of one order; or one of several operations comes up next. -/
inductive Tr
  | stop
  | seg (ks : List (Nat × Bool)) (t : Tr)
  | alt (k : Nat) (c : Bool) (t u : Tr)
  | none

section
variable {P : Program} {ops : Array Oper} {Q : Exit → Act → World → Prop} {S : World → Prop}
variable {l : List Oper} {a : Act} {w : World} {ks : List (Nat × Bool)} {t u : Tr} {k : Nat} {c : Bool}
end
end Go.Proofs.Ytpbfppelmgjfpaa
