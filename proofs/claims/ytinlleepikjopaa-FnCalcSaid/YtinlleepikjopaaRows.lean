/-
  No cell of these rows narrows 'for every input' (looked for: loops, veiled, ifaces, maps, wideKeys, modest, calm, conditions, laid).
  DERIVED. THE GIVEN ROWS OF THIS SEAT. 12 by the template 'for every input the law returns true; each argument reads behind the call as it read before'; 0 by the template 'total and deterministic' (their statements: YtinlleepikjopaaTotals.lean).
  GIVEN WITH THE SEED: the statements are not yours to turn. If you find one false, say at which input.
  Laid BY PROGRAM, IN A SANDBOX (cutbox-rows.mjs): the forced cells as the released guide's own fill.sh prints them over the translation b51d9cc21a3a0d8e… (all of the seat's roots in one cut). By AI agents, Wed Nov 11 2026. No macro, syntax, notation, axiom, sorry.
-/
import Derived.Test.YtinlleepikjopaaChecked
import GoSem.Claim
import GoSem.ClaimJoined
import GoSem.ClaimMapViews
import Derived.JoinedTies
import Derived.KernelRfl
namespace Go.Proofs.Ytinlleepikjopaa
/- THE CELL 'sum', in the pinned program and in every row, IS THE sha256 OF THE DUMP (.gsa) THAT YtinlleepikjopaaProg.lean LOADS. Nothing in Lean hashes anything: it is a label: what it is worth is what the hold of that sum in a sandbox is worth. -/
noncomputable def Try.pinned : Pinned := { name := "ytinlleepikjopaa", sum := "b51d9cc21a3a0d8ea8b6da37198e85f9d8f614c544f2a8c9953192f3753ed8cf", checked := Try.checked }
namespace Rows
def none {H : Type} : Left H := { results := [], args := [] }

/-- 'laws.FnExactOpOk': WHATEVER THE INPUT: true; the input reads as it did. -/
def fnExactOpOkSpec : ChangeSpec := { name := "fnExactOpOk", fn := fun _ => fun
  | [d] => { results := [.lit (.bool true)], args := [d] }
  | _ => none }
def fnExactOpOkRow : OpenClaim := { program := "ytinlleepikjopaa", sum := "b51d9cc21a3a0d8ea8b6da37198e85f9d8f614c544f2a8c9953192f3753ed8cf", func := "loop.example/g01277/laws.FnExactOpOk", spec := "fnExactOpOk", apart := false }
def FnExactOpOkSaid : Prop := fnExactOpOkRow.holds Try.pinned (OpenSpec.ofChange fnExactOpOkSpec)

/-- ITS FALSE NEIGHBOUR: 'it returns false'. Refute it at one input. -/
def fnExactOpOkWrong : ChangeSpec := { name := "fnExactOpOk", fn := fun _ => fun
  | [d] => { results := [.lit (.bool false)], args := [d] }
  | _ => none }
def FnExactOpOkWrongFalsely : Prop := fnExactOpOkRow.holds Try.pinned (OpenSpec.ofChange fnExactOpOkWrong)

/-- 'laws.FnExactTouches': WHATEVER THE INPUT: true; the input reads as it did. -/
def fnExactTouchesSpec : ChangeSpec := { name := "fnExactTouches", fn := fun _ => fun
  | [d] => { results := [.lit (.bool true)], args := [d] }
  | _ => none }
def fnExactTouchesRow : OpenClaim := { program := "ytinlleepikjopaa", sum := "b51d9cc21a3a0d8ea8b6da37198e85f9d8f614c544f2a8c9953192f3753ed8cf", func := "loop.example/g01277/laws.FnExactTouches", spec := "fnExactTouches", apart := false }
def FnExactTouchesSaid : Prop := fnExactTouchesRow.holds Try.pinned (OpenSpec.ofChange fnExactTouchesSpec)

/-- ITS FALSE NEIGHBOUR: 'it returns false'. Refute it at one input. -/
def fnExactTouchesWrong : ChangeSpec := { name := "fnExactTouches", fn := fun _ => fun
  | [d] => { results := [.lit (.bool false)], args := [d] }
  | _ => none }
def FnExactTouchesWrongFalsely : Prop := fnExactTouchesRow.holds Try.pinned (OpenSpec.ofChange fnExactTouchesWrong)

/-- 'laws.FnExactCalc': WHATEVER THE INPUT: true; the input reads as it did. -/
def fnExactCalcSpec : ChangeSpec := { name := "fnExactCalc", fn := fun _ => fun
  | [d1, d2] => { results := [.lit (.bool true)], args := [d1, d2] }
  | _ => none }
def fnExactCalcRow : OpenClaim := { program := "ytinlleepikjopaa", sum := "b51d9cc21a3a0d8ea8b6da37198e85f9d8f614c544f2a8c9953192f3753ed8cf", func := "loop.example/g01277/laws.FnExactCalc", spec := "fnExactCalc", apart := false }
def FnExactCalcSaid : Prop := fnExactCalcRow.holds Try.pinned (OpenSpec.ofChange fnExactCalcSpec)

/-- ITS FALSE NEIGHBOUR: 'it returns false'. Refute it at one input. -/
def fnExactCalcWrong : ChangeSpec := { name := "fnExactCalc", fn := fun _ => fun
  | [d1, d2] => { results := [.lit (.bool false)], args := [d1, d2] }
  | _ => none }
def FnExactCalcWrongFalsely : Prop := fnExactCalcRow.holds Try.pinned (OpenSpec.ofChange fnExactCalcWrong)

/-- 'laws.FnCalc': WHATEVER THE INPUT: true; the input reads as it did. -/
def fnCalcSpec : ChangeSpec := { name := "fnCalc", fn := fun _ => fun
  | [d] => { results := [.lit (.bool true)], args := [d] }
  | _ => none }
def fnCalcRow : OpenClaim := { program := "ytinlleepikjopaa", sum := "b51d9cc21a3a0d8ea8b6da37198e85f9d8f614c544f2a8c9953192f3753ed8cf", func := "loop.example/g01277/laws.FnCalc", spec := "fnCalc", apart := false }
def FnCalcSaid : Prop := fnCalcRow.holds Try.pinned (OpenSpec.ofChange fnCalcSpec)

/-- ITS FALSE NEIGHBOUR: 'it returns false'. Refute it at one input. -/
def fnCalcWrong : ChangeSpec := { name := "fnCalc", fn := fun _ => fun
  | [d] => { results := [.lit (.bool false)], args := [d] }
  | _ => none }
def FnCalcWrongFalsely : Prop := fnCalcRow.holds Try.pinned (OpenSpec.ofChange fnCalcWrong)

/-- 'laws.FnExactHasFork': WHATEVER THE INPUT: true; the input reads as it did. -/
def fnExactHasForkSpec : ChangeSpec := { name := "fnExactHasFork", fn := fun _ => fun
  | [d] => { results := [.lit (.bool true)], args := [d] }
  | _ => none }
def fnExactHasForkRow : OpenClaim := { program := "ytinlleepikjopaa", sum := "b51d9cc21a3a0d8ea8b6da37198e85f9d8f614c544f2a8c9953192f3753ed8cf", func := "loop.example/g01277/laws.FnExactHasFork", spec := "fnExactHasFork", unfollowed := true, recurses := true, apart := false }
def FnExactHasForkSaid : Prop := fnExactHasForkRow.holds Try.pinned (OpenSpec.ofChange fnExactHasForkSpec)

/-- ITS FALSE NEIGHBOUR: 'it returns false'. Refute it at one input. -/
def fnExactHasForkWrong : ChangeSpec := { name := "fnExactHasFork", fn := fun _ => fun
  | [d] => { results := [.lit (.bool false)], args := [d] }
  | _ => none }
def FnExactHasForkWrongFalsely : Prop := fnExactHasForkRow.holds Try.pinned (OpenSpec.ofChange fnExactHasForkWrong)

/-- 'laws.FnExactDepthAt': WHATEVER THE INPUT: true; the input reads as it did. -/
def fnExactDepthAtSpec : ChangeSpec := { name := "fnExactDepthAt", fn := fun _ => fun
  | [d1, d2] => { results := [.lit (.bool true)], args := [d1, d2] }
  | _ => none }
def fnExactDepthAtRow : OpenClaim := { program := "ytinlleepikjopaa", sum := "b51d9cc21a3a0d8ea8b6da37198e85f9d8f614c544f2a8c9953192f3753ed8cf", func := "loop.example/g01277/laws.FnExactDepthAt", spec := "fnExactDepthAt", apart := false }
def FnExactDepthAtSaid : Prop := fnExactDepthAtRow.holds Try.pinned (OpenSpec.ofChange fnExactDepthAtSpec)

/-- ITS FALSE NEIGHBOUR: 'it returns false'. Refute it at one input. -/
def fnExactDepthAtWrong : ChangeSpec := { name := "fnExactDepthAt", fn := fun _ => fun
  | [d1, d2] => { results := [.lit (.bool false)], args := [d1, d2] }
  | _ => none }
def FnExactDepthAtWrongFalsely : Prop := fnExactDepthAtRow.holds Try.pinned (OpenSpec.ofChange fnExactDepthAtWrong)

/-- 'laws.FnExactEndOf': WHATEVER THE INPUT: true; the input reads as it did. -/
def fnExactEndOfSpec : ChangeSpec := { name := "fnExactEndOf", fn := fun _ => fun
  | [d1, d2] => { results := [.lit (.bool true)], args := [d1, d2] }
  | _ => none }
def fnExactEndOfRow : OpenClaim := { program := "ytinlleepikjopaa", sum := "b51d9cc21a3a0d8ea8b6da37198e85f9d8f614c544f2a8c9953192f3753ed8cf", func := "loop.example/g01277/laws.FnExactEndOf", spec := "fnExactEndOf", apart := false }
def FnExactEndOfSaid : Prop := fnExactEndOfRow.holds Try.pinned (OpenSpec.ofChange fnExactEndOfSpec)

/-- ITS FALSE NEIGHBOUR: 'it returns false'. Refute it at one input. -/
def fnExactEndOfWrong : ChangeSpec := { name := "fnExactEndOf", fn := fun _ => fun
  | [d1, d2] => { results := [.lit (.bool false)], args := [d1, d2] }
  | _ => none }
def FnExactEndOfWrongFalsely : Prop := fnExactEndOfRow.holds Try.pinned (OpenSpec.ofChange fnExactEndOfWrong)

/-- 'laws.FnExactCodeOk': WHATEVER THE INPUT: true; the input reads as it did. -/
def fnExactCodeOkSpec : ChangeSpec := { name := "fnExactCodeOk", fn := fun _ => fun
  | [d] => { results := [.lit (.bool true)], args := [d] }
  | _ => none }
def fnExactCodeOkRow : OpenClaim := { program := "ytinlleepikjopaa", sum := "b51d9cc21a3a0d8ea8b6da37198e85f9d8f614c544f2a8c9953192f3753ed8cf", func := "loop.example/g01277/laws.FnExactCodeOk", spec := "fnExactCodeOk", apart := false }
def FnExactCodeOkSaid : Prop := fnExactCodeOkRow.holds Try.pinned (OpenSpec.ofChange fnExactCodeOkSpec)

/-- ITS FALSE NEIGHBOUR: 'it returns false'. Refute it at one input. -/
def fnExactCodeOkWrong : ChangeSpec := { name := "fnExactCodeOk", fn := fun _ => fun
  | [d] => { results := [.lit (.bool false)], args := [d] }
  | _ => none }
def FnExactCodeOkWrongFalsely : Prop := fnExactCodeOkRow.holds Try.pinned (OpenSpec.ofChange fnExactCodeOkWrong)

/-- 'laws.FnExactKidOk': WHATEVER THE INPUT: true; the input reads as it did. -/
def fnExactKidOkSpec : ChangeSpec := { name := "fnExactKidOk", fn := fun _ => fun
  | [d] => { results := [.lit (.bool true)], args := [d] }
  | _ => none }
def fnExactKidOkRow : OpenClaim := { program := "ytinlleepikjopaa", sum := "b51d9cc21a3a0d8ea8b6da37198e85f9d8f614c544f2a8c9953192f3753ed8cf", func := "loop.example/g01277/laws.FnExactKidOk", spec := "fnExactKidOk", apart := false }
def FnExactKidOkSaid : Prop := fnExactKidOkRow.holds Try.pinned (OpenSpec.ofChange fnExactKidOkSpec)

/-- ITS FALSE NEIGHBOUR: 'it returns false'. Refute it at one input. -/
def fnExactKidOkWrong : ChangeSpec := { name := "fnExactKidOk", fn := fun _ => fun
  | [d] => { results := [.lit (.bool false)], args := [d] }
  | _ => none }
def FnExactKidOkWrongFalsely : Prop := fnExactKidOkRow.holds Try.pinned (OpenSpec.ofChange fnExactKidOkWrong)

/-- 'laws.FnExactProgOk': WHATEVER THE INPUT: true; the input reads as it did. -/
def fnExactProgOkSpec : ChangeSpec := { name := "fnExactProgOk", fn := fun _ => fun
  | [d] => { results := [.lit (.bool true)], args := [d] }
  | _ => none }
def fnExactProgOkRow : OpenClaim := { program := "ytinlleepikjopaa", sum := "b51d9cc21a3a0d8ea8b6da37198e85f9d8f614c544f2a8c9953192f3753ed8cf", func := "loop.example/g01277/laws.FnExactProgOk", spec := "fnExactProgOk", unfollowed := true, recurses := true, apart := false }
def FnExactProgOkSaid : Prop := fnExactProgOkRow.holds Try.pinned (OpenSpec.ofChange fnExactProgOkSpec)

/-- ITS FALSE NEIGHBOUR: 'it returns false'. Refute it at one input. -/
def fnExactProgOkWrong : ChangeSpec := { name := "fnExactProgOk", fn := fun _ => fun
  | [d] => { results := [.lit (.bool false)], args := [d] }
  | _ => none }
def FnExactProgOkWrongFalsely : Prop := fnExactProgOkRow.holds Try.pinned (OpenSpec.ofChange fnExactProgOkWrong)

/-- 'laws.FnExactSameProg': WHATEVER THE INPUT: true; the input reads as it did. -/
def fnExactSameProgSpec : ChangeSpec := { name := "fnExactSameProg", fn := fun _ => fun
  | [d1, d2] => { results := [.lit (.bool true)], args := [d1, d2] }
  | _ => none }
def fnExactSameProgRow : OpenClaim := { program := "ytinlleepikjopaa", sum := "b51d9cc21a3a0d8ea8b6da37198e85f9d8f614c544f2a8c9953192f3753ed8cf", func := "loop.example/g01277/laws.FnExactSameProg", spec := "fnExactSameProg", unfollowed := true, recurses := true, apart := false }
def FnExactSameProgSaid : Prop := fnExactSameProgRow.holds Try.pinned (OpenSpec.ofChange fnExactSameProgSpec)

/-- ITS FALSE NEIGHBOUR: 'it returns false'. Refute it at one input. -/
def fnExactSameProgWrong : ChangeSpec := { name := "fnExactSameProg", fn := fun _ => fun
  | [d1, d2] => { results := [.lit (.bool false)], args := [d1, d2] }
  | _ => none }
def FnExactSameProgWrongFalsely : Prop := fnExactSameProgRow.holds Try.pinned (OpenSpec.ofChange fnExactSameProgWrong)

/-- 'laws.FnShapes': WHATEVER THE INPUT: true; the input reads as it did. -/
def fnShapesSpec : ChangeSpec := { name := "fnShapes", fn := fun _ => fun
  | [d] => { results := [.lit (.bool true)], args := [d] }
  | _ => none }
def fnShapesRow : OpenClaim := { program := "ytinlleepikjopaa", sum := "b51d9cc21a3a0d8ea8b6da37198e85f9d8f614c544f2a8c9953192f3753ed8cf", func := "loop.example/g01277/laws.FnShapes", spec := "fnShapes", unfollowed := true, recurses := true, apart := false }
def FnShapesSaid : Prop := fnShapesRow.holds Try.pinned (OpenSpec.ofChange fnShapesSpec)

/-- ITS FALSE NEIGHBOUR: 'it returns false'. Refute it at one input. -/
def fnShapesWrong : ChangeSpec := { name := "fnShapes", fn := fun _ => fun
  | [d] => { results := [.lit (.bool false)], args := [d] }
  | _ => none }
def FnShapesWrongFalsely : Prop := fnShapesRow.holds Try.pinned (OpenSpec.ofChange fnShapesWrong)

/- THE SECOND FORM. 'bulk': how many values and letters a reading holds, each counted each time it is reached (what is shared counts as often as it is met; a slice's spare places count too). A statement '..UptoSaid' is the law's where the arguments, and the package variables that the reading takes, are together of bulk at most 1048576: NARROWER than '..Said'. Prove '..Said' where nothing that the law and all that it calls make is longer than what came in: it says more and counts as full. Else prove '..UptoSaid'. A law counts once. -/
mutual
def uptoBulk {H : Type} : DataW H → Nat
  | .lit (.string bytes) => bytes.length + 1
  | .lit _ => 1
  | .nil => 1
  | .ptr d => uptoBulk d + 1
  | .slice elems spare => uptoBulkAll elems + uptoBulkAll spare + 1
  | .agg parts => uptoBulkAll parts + 1
  | .iface _ d => uptoBulk d + 1
  | .map entries => uptoBulkEntries entries + 1
  | .held _ => 1
def uptoBulkAll {H : Type} : List (DataW H) → Nat
  | [] => 0
  | d :: r => uptoBulk d + uptoBulkAll r
def uptoBulkEntries {H : Type} : List (Lit × DataW H) → Nat
  | [] => 0
  | x :: r => uptoBulkEntry x + uptoBulkEntries r
def uptoBulkEntry {H : Type} : Lit × DataW H → Nat
  | (.string bytes, d) => bytes.length + uptoBulk d + 1
  | (_, d) => uptoBulk d + 1
 end
def uptoSmall : (H : Type) → List (DataW H) → Bool := fun _ ds => decide (uptoBulkAll ds ≤ 1048576)
def OpenSpec.upto (s : _root_.Go.ChangeSpec) : _root_.Go.OpenSpec := { _root_.Go.OpenSpec.ofChange s with cond := some uptoSmall }

/-- 'laws.FnExactOpOk', WHERE WHAT IT READS IS OF BULK AT MOST 1048576: true; the input reads as it did. -/
def fnExactOpOkUptoRow : OpenClaim := { program := "ytinlleepikjopaa", sum := "b51d9cc21a3a0d8ea8b6da37198e85f9d8f614c544f2a8c9953192f3753ed8cf", func := "loop.example/g01277/laws.FnExactOpOk", spec := "fnExactOpOk", apart := false, narrowed := true }
def FnExactOpOkUptoSaid : Prop := fnExactOpOkUptoRow.holds Try.pinned (OpenSpec.upto fnExactOpOkSpec)

/-- 'laws.FnExactTouches', WHERE WHAT IT READS IS OF BULK AT MOST 1048576: true; the input reads as it did. -/
def fnExactTouchesUptoRow : OpenClaim := { program := "ytinlleepikjopaa", sum := "b51d9cc21a3a0d8ea8b6da37198e85f9d8f614c544f2a8c9953192f3753ed8cf", func := "loop.example/g01277/laws.FnExactTouches", spec := "fnExactTouches", apart := false, narrowed := true }
def FnExactTouchesUptoSaid : Prop := fnExactTouchesUptoRow.holds Try.pinned (OpenSpec.upto fnExactTouchesSpec)

/-- 'laws.FnExactCalc', WHERE WHAT IT READS IS OF BULK AT MOST 1048576: true; the input reads as it did. -/
def fnExactCalcUptoRow : OpenClaim := { program := "ytinlleepikjopaa", sum := "b51d9cc21a3a0d8ea8b6da37198e85f9d8f614c544f2a8c9953192f3753ed8cf", func := "loop.example/g01277/laws.FnExactCalc", spec := "fnExactCalc", apart := false, narrowed := true }
def FnExactCalcUptoSaid : Prop := fnExactCalcUptoRow.holds Try.pinned (OpenSpec.upto fnExactCalcSpec)

/-- 'laws.FnCalc', WHERE WHAT IT READS IS OF BULK AT MOST 1048576: true; the input reads as it did. -/
def fnCalcUptoRow : OpenClaim := { program := "ytinlleepikjopaa", sum := "b51d9cc21a3a0d8ea8b6da37198e85f9d8f614c544f2a8c9953192f3753ed8cf", func := "loop.example/g01277/laws.FnCalc", spec := "fnCalc", apart := false, narrowed := true }
def FnCalcUptoSaid : Prop := fnCalcUptoRow.holds Try.pinned (OpenSpec.upto fnCalcSpec)

/-- 'laws.FnExactHasFork', WHERE WHAT IT READS IS OF BULK AT MOST 1048576: true; the input reads as it did. -/
def fnExactHasForkUptoRow : OpenClaim := { program := "ytinlleepikjopaa", sum := "b51d9cc21a3a0d8ea8b6da37198e85f9d8f614c544f2a8c9953192f3753ed8cf", func := "loop.example/g01277/laws.FnExactHasFork", spec := "fnExactHasFork", unfollowed := true, recurses := true, apart := false, narrowed := true }
def FnExactHasForkUptoSaid : Prop := fnExactHasForkUptoRow.holds Try.pinned (OpenSpec.upto fnExactHasForkSpec)

/-- 'laws.FnExactDepthAt', WHERE WHAT IT READS IS OF BULK AT MOST 1048576: true; the input reads as it did. -/
def fnExactDepthAtUptoRow : OpenClaim := { program := "ytinlleepikjopaa", sum := "b51d9cc21a3a0d8ea8b6da37198e85f9d8f614c544f2a8c9953192f3753ed8cf", func := "loop.example/g01277/laws.FnExactDepthAt", spec := "fnExactDepthAt", apart := false, narrowed := true }
def FnExactDepthAtUptoSaid : Prop := fnExactDepthAtUptoRow.holds Try.pinned (OpenSpec.upto fnExactDepthAtSpec)

/-- 'laws.FnExactEndOf', WHERE WHAT IT READS IS OF BULK AT MOST 1048576: true; the input reads as it did. -/
def fnExactEndOfUptoRow : OpenClaim := { program := "ytinlleepikjopaa", sum := "b51d9cc21a3a0d8ea8b6da37198e85f9d8f614c544f2a8c9953192f3753ed8cf", func := "loop.example/g01277/laws.FnExactEndOf", spec := "fnExactEndOf", apart := false, narrowed := true }
def FnExactEndOfUptoSaid : Prop := fnExactEndOfUptoRow.holds Try.pinned (OpenSpec.upto fnExactEndOfSpec)

/-- 'laws.FnExactCodeOk', WHERE WHAT IT READS IS OF BULK AT MOST 1048576: true; the input reads as it did. -/
def fnExactCodeOkUptoRow : OpenClaim := { program := "ytinlleepikjopaa", sum := "b51d9cc21a3a0d8ea8b6da37198e85f9d8f614c544f2a8c9953192f3753ed8cf", func := "loop.example/g01277/laws.FnExactCodeOk", spec := "fnExactCodeOk", apart := false, narrowed := true }
def FnExactCodeOkUptoSaid : Prop := fnExactCodeOkUptoRow.holds Try.pinned (OpenSpec.upto fnExactCodeOkSpec)

/-- 'laws.FnExactKidOk', WHERE WHAT IT READS IS OF BULK AT MOST 1048576: true; the input reads as it did. -/
def fnExactKidOkUptoRow : OpenClaim := { program := "ytinlleepikjopaa", sum := "b51d9cc21a3a0d8ea8b6da37198e85f9d8f614c544f2a8c9953192f3753ed8cf", func := "loop.example/g01277/laws.FnExactKidOk", spec := "fnExactKidOk", apart := false, narrowed := true }
def FnExactKidOkUptoSaid : Prop := fnExactKidOkUptoRow.holds Try.pinned (OpenSpec.upto fnExactKidOkSpec)

/-- 'laws.FnExactProgOk', WHERE WHAT IT READS IS OF BULK AT MOST 1048576: true; the input reads as it did. -/
def fnExactProgOkUptoRow : OpenClaim := { program := "ytinlleepikjopaa", sum := "b51d9cc21a3a0d8ea8b6da37198e85f9d8f614c544f2a8c9953192f3753ed8cf", func := "loop.example/g01277/laws.FnExactProgOk", spec := "fnExactProgOk", unfollowed := true, recurses := true, apart := false, narrowed := true }
def FnExactProgOkUptoSaid : Prop := fnExactProgOkUptoRow.holds Try.pinned (OpenSpec.upto fnExactProgOkSpec)

/-- 'laws.FnExactSameProg', WHERE WHAT IT READS IS OF BULK AT MOST 1048576: true; the input reads as it did. -/
def fnExactSameProgUptoRow : OpenClaim := { program := "ytinlleepikjopaa", sum := "b51d9cc21a3a0d8ea8b6da37198e85f9d8f614c544f2a8c9953192f3753ed8cf", func := "loop.example/g01277/laws.FnExactSameProg", spec := "fnExactSameProg", unfollowed := true, recurses := true, apart := false, narrowed := true }
def FnExactSameProgUptoSaid : Prop := fnExactSameProgUptoRow.holds Try.pinned (OpenSpec.upto fnExactSameProgSpec)

/-- 'laws.FnShapes', WHERE WHAT IT READS IS OF BULK AT MOST 1048576: true; the input reads as it did. -/
def fnShapesUptoRow : OpenClaim := { program := "ytinlleepikjopaa", sum := "b51d9cc21a3a0d8ea8b6da37198e85f9d8f614c544f2a8c9953192f3753ed8cf", func := "loop.example/g01277/laws.FnShapes", spec := "fnShapes", unfollowed := true, recurses := true, apart := false, narrowed := true }
def FnShapesUptoSaid : Prop := fnShapesUptoRow.holds Try.pinned (OpenSpec.upto fnShapesSpec)

end Rows
end Go.Proofs.Ytinlleepikjopaa
