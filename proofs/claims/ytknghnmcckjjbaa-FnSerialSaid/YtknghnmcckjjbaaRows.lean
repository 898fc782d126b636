/-
  No cell of these rows narrows 'for every input' (looked for: loops, veiled, ifaces, maps, wideKeys, modest, calm, conditions, laid).
  DERIVED. THE GIVEN ROWS OF THIS SEAT. 7 by the template 'for every input the law returns true; each argument reads behind the call as it read before'; 0 by the template 'total and deterministic' (their statements: YtknghnmcckjjbaaTotals.lean).
  GIVEN WITH THE SEED: the statements are not yours to turn. If you find one false, say at which input.
  Laid BY PROGRAM, IN A SANDBOX (cutbox-rows.mjs): the forced cells as the released guide's own fill.sh prints them over the translation 730cd253c4f8033f… (all of the seat's roots in one cut). By AI agents, Wed Nov 11 2026. No macro, syntax, notation, axiom, sorry.
-/
import Derived.Test.YtknghnmcckjjbaaChecked
import GoSem.Claim
import GoSem.ClaimJoined
import GoSem.ClaimMapViews
import Derived.JoinedTies
import Derived.KernelRfl
namespace Go.Proofs.Ytknghnmcckjjbaa
/- THE CELL 'sum', in the pinned program and in every row, IS THE sha256 OF THE DUMP (.gsa) THAT YtknghnmcckjjbaaProg.lean LOADS. Nothing in Lean hashes anything: it is a label: what it is worth is what the hold of that sum in a sandbox is worth. -/
noncomputable def Try.pinned : Pinned := { name := "ytknghnmcckjjbaa", sum := "730cd253c4f8033f955fb95de2790999ab247d5be463dddbad59cd30e5082725", checked := Try.checked }
namespace Rows
def none {H : Type} : Left H := { results := [], args := [] }

/-- 'laws.FnExactSameThings': WHATEVER THE INPUT: true; the input reads as it did. -/
def fnExactSameThingsSpec : ChangeSpec := { name := "fnExactSameThings", fn := fun _ => fun
  | [d1, d2] => { results := [.lit (.bool true)], args := [d1, d2] }
  | _ => none }
def fnExactSameThingsRow : OpenClaim := { program := "ytknghnmcckjjbaa", sum := "730cd253c4f8033f955fb95de2790999ab247d5be463dddbad59cd30e5082725", func := "loop.example/g01277/laws.FnExactSameThings", spec := "fnExactSameThings", apart := false }
def FnExactSameThingsSaid : Prop := fnExactSameThingsRow.holds Try.pinned (OpenSpec.ofChange fnExactSameThingsSpec)

/-- ITS FALSE NEIGHBOUR: 'it returns false'. Refute it at one input. -/
def fnExactSameThingsWrong : ChangeSpec := { name := "fnExactSameThings", fn := fun _ => fun
  | [d1, d2] => { results := [.lit (.bool false)], args := [d1, d2] }
  | _ => none }
def FnExactSameThingsWrongFalsely : Prop := fnExactSameThingsRow.holds Try.pinned (OpenSpec.ofChange fnExactSameThingsWrong)

/-- 'laws.FnExactThingsOk': WHATEVER THE INPUT: true; the input reads as it did. -/
def fnExactThingsOkSpec : ChangeSpec := { name := "fnExactThingsOk", fn := fun _ => fun
  | [d] => { results := [.lit (.bool true)], args := [d] }
  | _ => none }
def fnExactThingsOkRow : OpenClaim := { program := "ytknghnmcckjjbaa", sum := "730cd253c4f8033f955fb95de2790999ab247d5be463dddbad59cd30e5082725", func := "loop.example/g01277/laws.FnExactThingsOk", spec := "fnExactThingsOk", apart := false }
def FnExactThingsOkSaid : Prop := fnExactThingsOkRow.holds Try.pinned (OpenSpec.ofChange fnExactThingsOkSpec)

/-- ITS FALSE NEIGHBOUR: 'it returns false'. Refute it at one input. -/
def fnExactThingsOkWrong : ChangeSpec := { name := "fnExactThingsOk", fn := fun _ => fun
  | [d] => { results := [.lit (.bool false)], args := [d] }
  | _ => none }
def FnExactThingsOkWrongFalsely : Prop := fnExactThingsOkRow.holds Try.pinned (OpenSpec.ofChange fnExactThingsOkWrong)

/-- 'laws.FnExactSerialKid': WHATEVER THE INPUT: true; the input reads as it did. -/
def fnExactSerialKidSpec : ChangeSpec := { name := "fnExactSerialKid", fn := fun _ => fun
  | [d1, d2, d3] => { results := [.lit (.bool true)], args := [d1, d2, d3] }
  | _ => none }
def fnExactSerialKidRow : OpenClaim := { program := "ytknghnmcckjjbaa", sum := "730cd253c4f8033f955fb95de2790999ab247d5be463dddbad59cd30e5082725", func := "loop.example/g01277/laws.FnExactSerialKid", spec := "fnExactSerialKid", recurses := true, apart := false }
def FnExactSerialKidSaid : Prop := fnExactSerialKidRow.holds Try.pinned (OpenSpec.ofChange fnExactSerialKidSpec)

/-- ITS FALSE NEIGHBOUR: 'it returns false'. Refute it at one input. -/
def fnExactSerialKidWrong : ChangeSpec := { name := "fnExactSerialKid", fn := fun _ => fun
  | [d1, d2, d3] => { results := [.lit (.bool false)], args := [d1, d2, d3] }
  | _ => none }
def FnExactSerialKidWrongFalsely : Prop := fnExactSerialKidRow.holds Try.pinned (OpenSpec.ofChange fnExactSerialKidWrong)

/-- 'laws.FnExactSerial': WHATEVER THE INPUT: true; the input reads as it did. -/
def fnExactSerialSpec : ChangeSpec := { name := "fnExactSerial", fn := fun _ => fun
  | [d1, d2, d3] => { results := [.lit (.bool true)], args := [d1, d2, d3] }
  | _ => none }
def fnExactSerialRow : OpenClaim := { program := "ytknghnmcckjjbaa", sum := "730cd253c4f8033f955fb95de2790999ab247d5be463dddbad59cd30e5082725", func := "loop.example/g01277/laws.FnExactSerial", spec := "fnExactSerial", unfollowed := true, recurses := true, apart := false }
def FnExactSerialSaid : Prop := fnExactSerialRow.holds Try.pinned (OpenSpec.ofChange fnExactSerialSpec)

/-- ITS FALSE NEIGHBOUR: 'it returns false'. Refute it at one input. -/
def fnExactSerialWrong : ChangeSpec := { name := "fnExactSerial", fn := fun _ => fun
  | [d1, d2, d3] => { results := [.lit (.bool false)], args := [d1, d2, d3] }
  | _ => none }
def FnExactSerialWrongFalsely : Prop := fnExactSerialRow.holds Try.pinned (OpenSpec.ofChange fnExactSerialWrong)

/-- 'laws.FnExactSerialAll': WHATEVER THE INPUT: true; the input reads as it did. -/
def fnExactSerialAllSpec : ChangeSpec := { name := "fnExactSerialAll", fn := fun _ => fun
  | [d1, d2, d3] => { results := [.lit (.bool true)], args := [d1, d2, d3] }
  | _ => none }
def fnExactSerialAllRow : OpenClaim := { program := "ytknghnmcckjjbaa", sum := "730cd253c4f8033f955fb95de2790999ab247d5be463dddbad59cd30e5082725", func := "loop.example/g01277/laws.FnExactSerialAll", spec := "fnExactSerialAll", unfollowed := true, recurses := true, apart := false }
def FnExactSerialAllSaid : Prop := fnExactSerialAllRow.holds Try.pinned (OpenSpec.ofChange fnExactSerialAllSpec)

/-- ITS FALSE NEIGHBOUR: 'it returns false'. Refute it at one input. -/
def fnExactSerialAllWrong : ChangeSpec := { name := "fnExactSerialAll", fn := fun _ => fun
  | [d1, d2, d3] => { results := [.lit (.bool false)], args := [d1, d2, d3] }
  | _ => none }
def FnExactSerialAllWrongFalsely : Prop := fnExactSerialAllRow.holds Try.pinned (OpenSpec.ofChange fnExactSerialAllWrong)

/-- 'laws.FnBlocks': WHATEVER THE INPUT: true; the input reads as it did. -/
def fnBlocksSpec : ChangeSpec := { name := "fnBlocks", fn := fun _ => fun
  | [d] => { results := [.lit (.bool true)], args := [d] }
  | _ => none }
def fnBlocksRow : OpenClaim := { program := "ytknghnmcckjjbaa", sum := "730cd253c4f8033f955fb95de2790999ab247d5be463dddbad59cd30e5082725", func := "loop.example/g01277/laws.FnBlocks", spec := "fnBlocks", recurses := true, apart := false }
def FnBlocksSaid : Prop := fnBlocksRow.holds Try.pinned (OpenSpec.ofChange fnBlocksSpec)

/-- ITS FALSE NEIGHBOUR: 'it returns false'. Refute it at one input. -/
def fnBlocksWrong : ChangeSpec := { name := "fnBlocks", fn := fun _ => fun
  | [d] => { results := [.lit (.bool false)], args := [d] }
  | _ => none }
def FnBlocksWrongFalsely : Prop := fnBlocksRow.holds Try.pinned (OpenSpec.ofChange fnBlocksWrong)

/-- 'laws.FnSerial': WHATEVER THE INPUT: true; the input reads as it did. -/
def fnSerialSpec : ChangeSpec := { name := "fnSerial", fn := fun _ => fun
  | [d] => { results := [.lit (.bool true)], args := [d] }
  | _ => none }
def fnSerialRow : OpenClaim := { program := "ytknghnmcckjjbaa", sum := "730cd253c4f8033f955fb95de2790999ab247d5be463dddbad59cd30e5082725", func := "loop.example/g01277/laws.FnSerial", spec := "fnSerial", unfollowed := true, recurses := true, apart := false }
def FnSerialSaid : Prop := fnSerialRow.holds Try.pinned (OpenSpec.ofChange fnSerialSpec)

/-- ITS FALSE NEIGHBOUR: 'it returns false'. Refute it at one input. -/
def fnSerialWrong : ChangeSpec := { name := "fnSerial", fn := fun _ => fun
  | [d] => { results := [.lit (.bool false)], args := [d] }
  | _ => none }
def FnSerialWrongFalsely : Prop := fnSerialRow.holds Try.pinned (OpenSpec.ofChange fnSerialWrong)

/- THE SECOND FORM. 'bulk': how many values and letters a reading holds, each counted each time it is reached (what is shared counts as often as it is met; a slice's spare places count too). A statement '..UptoSaid' is the law's where the arguments, and the package variables that the reading takes, are together of bulk at most 1048576: NARROWER than '..Said'. Prove '..Said' where nothing that the law and all that it calls make is longer than what came in: it says more and counts as full. Else prove '..UptoSaid'. A law counts once. -/
mutual
def uptoBulk {H : Type} : DataW H → Nat
  | .lit (.string bytes) => bytes.length + 1
  | .lit _ => 1
  | .nil => 1
  | .ptr d => uptoBulk d + 1
  | .slice elems spare => uptoBulkAll elems + uptoBulkAll spare + 1
  | .agg parts => uptoBulkAll parts + 1
  | .iface _ d => uptoBulk d + 1
  | .map entries => uptoBulkEntries entries + 1
  | .held _ => 1
def uptoBulkAll {H : Type} : List (DataW H) → Nat
  | [] => 0
  | d :: r => uptoBulk d + uptoBulkAll r
def uptoBulkEntries {H : Type} : List (Lit × DataW H) → Nat
  | [] => 0
  | x :: r => uptoBulkEntry x + uptoBulkEntries r
def uptoBulkEntry {H : Type} : Lit × DataW H → Nat
  | (.string bytes, d) => bytes.length + uptoBulk d + 1
  | (_, d) => uptoBulk d + 1
 end
def uptoSmall : (H : Type) → List (DataW H) → Bool := fun _ ds => decide (uptoBulkAll ds ≤ 1048576)
def OpenSpec.upto (s : _root_.Go.ChangeSpec) : _root_.Go.OpenSpec := { _root_.Go.OpenSpec.ofChange s with cond := some uptoSmall }

/-- 'laws.FnExactSameThings', WHERE WHAT IT READS IS OF BULK AT MOST 1048576: true; the input reads as it did. -/
def fnExactSameThingsUptoRow : OpenClaim := { program := "ytknghnmcckjjbaa", sum := "730cd253c4f8033f955fb95de2790999ab247d5be463dddbad59cd30e5082725", func := "loop.example/g01277/laws.FnExactSameThings", spec := "fnExactSameThings", apart := false, narrowed := true }
def FnExactSameThingsUptoSaid : Prop := fnExactSameThingsUptoRow.holds Try.pinned (OpenSpec.upto fnExactSameThingsSpec)

/-- 'laws.FnExactThingsOk', WHERE WHAT IT READS IS OF BULK AT MOST 1048576: true; the input reads as it did. -/
def fnExactThingsOkUptoRow : OpenClaim := { program := "ytknghnmcckjjbaa", sum := "730cd253c4f8033f955fb95de2790999ab247d5be463dddbad59cd30e5082725", func := "loop.example/g01277/laws.FnExactThingsOk", spec := "fnExactThingsOk", apart := false, narrowed := true }
def FnExactThingsOkUptoSaid : Prop := fnExactThingsOkUptoRow.holds Try.pinned (OpenSpec.upto fnExactThingsOkSpec)

/-- 'laws.FnExactSerialKid', WHERE WHAT IT READS IS OF BULK AT MOST 1048576: true; the input reads as it did. -/
def fnExactSerialKidUptoRow : OpenClaim := { program := "ytknghnmcckjjbaa", sum := "730cd253c4f8033f955fb95de2790999ab247d5be463dddbad59cd30e5082725", func := "loop.example/g01277/laws.FnExactSerialKid", spec := "fnExactSerialKid", recurses := true, apart := false, narrowed := true }
def FnExactSerialKidUptoSaid : Prop := fnExactSerialKidUptoRow.holds Try.pinned (OpenSpec.upto fnExactSerialKidSpec)

/-- 'laws.FnExactSerial', WHERE WHAT IT READS IS OF BULK AT MOST 1048576: true; the input reads as it did. -/
def fnExactSerialUptoRow : OpenClaim := { program := "ytknghnmcckjjbaa", sum := "730cd253c4f8033f955fb95de2790999ab247d5be463dddbad59cd30e5082725", func := "loop.example/g01277/laws.FnExactSerial", spec := "fnExactSerial", unfollowed := true, recurses := true, apart := false, narrowed := true }
def FnExactSerialUptoSaid : Prop := fnExactSerialUptoRow.holds Try.pinned (OpenSpec.upto fnExactSerialSpec)

/-- 'laws.FnExactSerialAll', WHERE WHAT IT READS IS OF BULK AT MOST 1048576: true; the input reads as it did. -/
def fnExactSerialAllUptoRow : OpenClaim := { program := "ytknghnmcckjjbaa", sum := "730cd253c4f8033f955fb95de2790999ab247d5be463dddbad59cd30e5082725", func := "loop.example/g01277/laws.FnExactSerialAll", spec := "fnExactSerialAll", unfollowed := true, recurses := true, apart := false, narrowed := true }
def FnExactSerialAllUptoSaid : Prop := fnExactSerialAllUptoRow.holds Try.pinned (OpenSpec.upto fnExactSerialAllSpec)

/-- 'laws.FnBlocks', WHERE WHAT IT READS IS OF BULK AT MOST 1048576: true; the input reads as it did. -/
def fnBlocksUptoRow : OpenClaim := { program := "ytknghnmcckjjbaa", sum := "730cd253c4f8033f955fb95de2790999ab247d5be463dddbad59cd30e5082725", func := "loop.example/g01277/laws.FnBlocks", spec := "fnBlocks", recurses := true, apart := false, narrowed := true }
def FnBlocksUptoSaid : Prop := fnBlocksUptoRow.holds Try.pinned (OpenSpec.upto fnBlocksSpec)

/-- 'laws.FnSerial', WHERE WHAT IT READS IS OF BULK AT MOST 1048576: true; the input reads as it did. -/
def fnSerialUptoRow : OpenClaim := { program := "ytknghnmcckjjbaa", sum := "730cd253c4f8033f955fb95de2790999ab247d5be463dddbad59cd30e5082725", func := "loop.example/g01277/laws.FnSerial", spec := "fnSerial", unfollowed := true, recurses := true, apart := false, narrowed := true }
def FnSerialUptoSaid : Prop := fnSerialUptoRow.holds Try.pinned (OpenSpec.upto fnSerialSpec)

end Rows
end Go.Proofs.Ytknghnmcckjjbaa
