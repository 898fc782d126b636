/- Plain laws on slices that a call itself makes, on reading a string, on worlds. Generic: no program is named. -/
import Derived.Test.YtknghnmcckjjbaaCanon
import Derived.WalkKit
import Derived.WalkSpells
import Derived.WalkLawsBesides
import Derived.Deep.AppendLies
import Derived.Laws.AppendOwnNone
import Derived.Lib.Hide
namespace Go.Proofs.Ytknghnmcckjjbaa
open Go Go.RowKit

/-- A slice type t of elements e, each of so many cells and bytes. -/
structure Elem (P : Program) (t e : TypeId) (z : Value) (size bytes : Nat) : Prop where
  ht : P.underlying t = some (.slice e)
  hi : (P.info? e).map (fun i => (i.zero, i.size, i.bytes)) = some (some z, size, bytes)
  hzs : z.cells.size = size
  hsz : 0 < size

section
variable {P : Program} {o : Oper} {a : Act} {K : Act → World → Prop} {Q : Exit → Act → World → Prop} {w : World} {ops : Array Oper} {rest : List Oper}

end

section
variable {P : Program}
end

end Go.Proofs.Ytknghnmcckjjbaa
