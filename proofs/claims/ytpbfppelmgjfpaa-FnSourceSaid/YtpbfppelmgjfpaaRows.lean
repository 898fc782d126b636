/-
  No cell of these rows narrows 'for every input' (looked for: loops, veiled, ifaces, maps, wideKeys, modest, calm, conditions, laid).
  DERIVED. THE GIVEN ROWS OF THIS SEAT. 7 by the template 'for every input the law returns true; each argument reads behind the call as it read before'; 0 by the template 'total and deterministic' (their statements: YtpbfppelmgjfpaaTotals.lean).
  GIVEN WITH THE SEED: the statements are not yours to turn. If you find one false, say at which input.
  Laid BY PROGRAM, IN A SANDBOX (cutbox-rows.mjs): the forced cells as the released guide's own fill.sh prints them over the translation cc2fdc231a71d66c… (all of the seat's roots in one cut). By AI agents, Wed Nov 11 2026. No macro, syntax, notation, axiom, sorry.
-/
import Derived.Test.YtpbfppelmgjfpaaChecked
import GoSem.Claim
import GoSem.ClaimJoined
import GoSem.ClaimMapViews
import Derived.JoinedTies
import Derived.KernelRfl
namespace Go.Proofs.Ytpbfppelmgjfpaa
/- THE CELL 'sum', in the pinned program and in every row, IS THE sha256 OF THE DUMP (.gsa) THAT YtpbfppelmgjfpaaProg.lean LOADS. Nothing in Lean hashes anything: it is a label: what it is worth is what the hold of that sum in a sandbox is worth. -/
noncomputable def Try.pinned : Pinned := { name := "ytpbfppelmgjfpaa", sum := "cc2fdc231a71d66c08738734ee3cc1ffa7b5dea5d860a809985b42d13e53d7df", checked := Try.checked }
namespace Rows
def none {H : Type} : Left H := { results := [], args := [] }

/-- 'laws.FnExactShowOp': WHATEVER THE INPUT: true; the input reads as it did. -/
def fnExactShowOpSpec : ChangeSpec := { name := "fnExactShowOp", fn := fun _ => fun
  | [d] => { results := [.lit (.bool true)], args := [d] }
  | _ => none }
def fnExactShowOpRow : OpenClaim := { program := "ytpbfppelmgjfpaa", sum := "cc2fdc231a71d66c08738734ee3cc1ffa7b5dea5d860a809985b42d13e53d7df", func := "loop.example/g01277/laws.FnExactShowOp", spec := "fnExactShowOp", apart := false }
def FnExactShowOpSaid : Prop := fnExactShowOpRow.holds Try.pinned (OpenSpec.ofChange fnExactShowOpSpec)

/-- ITS FALSE NEIGHBOUR: 'it returns false'. Refute it at one input. -/
def fnExactShowOpWrong : ChangeSpec := { name := "fnExactShowOp", fn := fun _ => fun
  | [d] => { results := [.lit (.bool false)], args := [d] }
  | _ => none }
def FnExactShowOpWrongFalsely : Prop := fnExactShowOpRow.holds Try.pinned (OpenSpec.ofChange fnExactShowOpWrong)

/-- 'laws.FnExactReadOp': WHATEVER THE INPUT: true; the input reads as it did. -/
def fnExactReadOpSpec : ChangeSpec := { name := "fnExactReadOp", fn := fun _ => fun
  | [d] => { results := [.lit (.bool true)], args := [d] }
  | _ => none }
def fnExactReadOpRow : OpenClaim := { program := "ytpbfppelmgjfpaa", sum := "cc2fdc231a71d66c08738734ee3cc1ffa7b5dea5d860a809985b42d13e53d7df", func := "loop.example/g01277/laws.FnExactReadOp", spec := "fnExactReadOp", apart := false }
def FnExactReadOpSaid : Prop := fnExactReadOpRow.holds Try.pinned (OpenSpec.ofChange fnExactReadOpSpec)

/-- ITS FALSE NEIGHBOUR: 'it returns false'. Refute it at one input. -/
def fnExactReadOpWrong : ChangeSpec := { name := "fnExactReadOp", fn := fun _ => fun
  | [d] => { results := [.lit (.bool false)], args := [d] }
  | _ => none }
def FnExactReadOpWrongFalsely : Prop := fnExactReadOpRow.holds Try.pinned (OpenSpec.ofChange fnExactReadOpWrong)

/-- 'laws.FnExactShowCode': WHATEVER THE INPUT: true; the input reads as it did. -/
def fnExactShowCodeSpec : ChangeSpec := { name := "fnExactShowCode", fn := fun _ => fun
  | [d] => { results := [.lit (.bool true)], args := [d] }
  | _ => none }
def fnExactShowCodeRow : OpenClaim := { program := "ytpbfppelmgjfpaa", sum := "cc2fdc231a71d66c08738734ee3cc1ffa7b5dea5d860a809985b42d13e53d7df", func := "loop.example/g01277/laws.FnExactShowCode", spec := "fnExactShowCode", apart := false }
def FnExactShowCodeSaid : Prop := fnExactShowCodeRow.holds Try.pinned (OpenSpec.ofChange fnExactShowCodeSpec)

/-- ITS FALSE NEIGHBOUR: 'it returns false'. Refute it at one input. -/
def fnExactShowCodeWrong : ChangeSpec := { name := "fnExactShowCode", fn := fun _ => fun
  | [d] => { results := [.lit (.bool false)], args := [d] }
  | _ => none }
def FnExactShowCodeWrongFalsely : Prop := fnExactShowCodeRow.holds Try.pinned (OpenSpec.ofChange fnExactShowCodeWrong)

/-- 'laws.FnExactReadCode': WHATEVER THE INPUT: true; the input reads as it did. -/
def fnExactReadCodeSpec : ChangeSpec := { name := "fnExactReadCode", fn := fun _ => fun
  | [d] => { results := [.lit (.bool true)], args := [d] }
  | _ => none }
def fnExactReadCodeRow : OpenClaim := { program := "ytpbfppelmgjfpaa", sum := "cc2fdc231a71d66c08738734ee3cc1ffa7b5dea5d860a809985b42d13e53d7df", func := "loop.example/g01277/laws.FnExactReadCode", spec := "fnExactReadCode", apart := false }
def FnExactReadCodeSaid : Prop := fnExactReadCodeRow.holds Try.pinned (OpenSpec.ofChange fnExactReadCodeSpec)

/-- ITS FALSE NEIGHBOUR: 'it returns false'. Refute it at one input. -/
def fnExactReadCodeWrong : ChangeSpec := { name := "fnExactReadCode", fn := fun _ => fun
  | [d] => { results := [.lit (.bool false)], args := [d] }
  | _ => none }
def FnExactReadCodeWrongFalsely : Prop := fnExactReadCodeRow.holds Try.pinned (OpenSpec.ofChange fnExactReadCodeWrong)

/-- 'laws.FnExactShowProg': WHATEVER THE INPUT: true; the input reads as it did. -/
def fnExactShowProgSpec : ChangeSpec := { name := "fnExactShowProg", fn := fun _ => fun
  | [d] => { results := [.lit (.bool true)], args := [d] }
  | _ => none }
def fnExactShowProgRow : OpenClaim := { program := "ytpbfppelmgjfpaa", sum := "cc2fdc231a71d66c08738734ee3cc1ffa7b5dea5d860a809985b42d13e53d7df", func := "loop.example/g01277/laws.FnExactShowProg", spec := "fnExactShowProg", unfollowed := true, recurses := true, apart := false }
def FnExactShowProgSaid : Prop := fnExactShowProgRow.holds Try.pinned (OpenSpec.ofChange fnExactShowProgSpec)

/-- ITS FALSE NEIGHBOUR: 'it returns false'. Refute it at one input. -/
def fnExactShowProgWrong : ChangeSpec := { name := "fnExactShowProg", fn := fun _ => fun
  | [d] => { results := [.lit (.bool false)], args := [d] }
  | _ => none }
def FnExactShowProgWrongFalsely : Prop := fnExactShowProgRow.holds Try.pinned (OpenSpec.ofChange fnExactShowProgWrong)

/-- 'laws.FnExactReadProg': WHATEVER THE INPUT: true; the input reads as it did. -/
def fnExactReadProgSpec : ChangeSpec := { name := "fnExactReadProg", fn := fun _ => fun
  | [d] => { results := [.lit (.bool true)], args := [d] }
  | _ => none }
def fnExactReadProgRow : OpenClaim := { program := "ytpbfppelmgjfpaa", sum := "cc2fdc231a71d66c08738734ee3cc1ffa7b5dea5d860a809985b42d13e53d7df", func := "loop.example/g01277/laws.FnExactReadProg", spec := "fnExactReadProg", unfollowed := true, recurses := true, apart := false }
def FnExactReadProgSaid : Prop := fnExactReadProgRow.holds Try.pinned (OpenSpec.ofChange fnExactReadProgSpec)

/-- ITS FALSE NEIGHBOUR: 'it returns false'. Refute it at one input. -/
def fnExactReadProgWrong : ChangeSpec := { name := "fnExactReadProg", fn := fun _ => fun
  | [d] => { results := [.lit (.bool false)], args := [d] }
  | _ => none }
def FnExactReadProgWrongFalsely : Prop := fnExactReadProgRow.holds Try.pinned (OpenSpec.ofChange fnExactReadProgWrong)

/-- 'laws.FnSource': WHATEVER THE INPUT: true; the input reads as it did. -/
def fnSourceSpec : ChangeSpec := { name := "fnSource", fn := fun _ => fun
  | [d] => { results := [.lit (.bool true)], args := [d] }
  | _ => none }
def fnSourceRow : OpenClaim := { program := "ytpbfppelmgjfpaa", sum := "cc2fdc231a71d66c08738734ee3cc1ffa7b5dea5d860a809985b42d13e53d7df", func := "loop.example/g01277/laws.FnSource", spec := "fnSource", unfollowed := true, recurses := true, apart := false }
def FnSourceSaid : Prop := fnSourceRow.holds Try.pinned (OpenSpec.ofChange fnSourceSpec)

/-- ITS FALSE NEIGHBOUR: 'it returns false'. Refute it at one input. -/
def fnSourceWrong : ChangeSpec := { name := "fnSource", fn := fun _ => fun
  | [d] => { results := [.lit (.bool false)], args := [d] }
  | _ => none }
def FnSourceWrongFalsely : Prop := fnSourceRow.holds Try.pinned (OpenSpec.ofChange fnSourceWrong)

/- THE SECOND FORM. 'bulk': how many values and letters a reading holds, each counted each time it is reached (what is shared counts as often as it is met; a slice's spare places count too). A statement '..UptoSaid' is the law's where the arguments, and the package variables that the reading takes, are together of bulk at most 1048576: NARROWER than '..Said'. Prove '..Said' where nothing that the law and all that it calls make is longer than what came in: it says more and counts as full. Else prove '..UptoSaid'. A law counts once. -/
mutual
def uptoBulk {H : Type} : DataW H → Nat
  | .lit (.string bytes) => bytes.length + 1
  | .lit _ => 1
  | .nil => 1
  | .ptr d => uptoBulk d + 1
  | .slice elems spare => uptoBulkAll elems + uptoBulkAll spare + 1
  | .agg parts => uptoBulkAll parts + 1
  | .iface _ d => uptoBulk d + 1
  | .map entries => uptoBulkEntries entries + 1
  | .held _ => 1
def uptoBulkAll {H : Type} : List (DataW H) → Nat
  | [] => 0
  | d :: r => uptoBulk d + uptoBulkAll r
def uptoBulkEntries {H : Type} : List (Lit × DataW H) → Nat
  | [] => 0
  | x :: r => uptoBulkEntry x + uptoBulkEntries r
def uptoBulkEntry {H : Type} : Lit × DataW H → Nat
  | (.string bytes, d) => bytes.length + uptoBulk d + 1
  | (_, d) => uptoBulk d + 1
 end
def uptoSmall : (H : Type) → List (DataW H) → Bool := fun _ ds => decide (uptoBulkAll ds ≤ 1048576)
def OpenSpec.upto (s : _root_.Go.ChangeSpec) : _root_.Go.OpenSpec := { _root_.Go.OpenSpec.ofChange s with cond := some uptoSmall }

/-- 'laws.FnExactShowOp', WHERE WHAT IT READS IS OF BULK AT MOST 1048576: true; the input reads as it did. -/
def fnExactShowOpUptoRow : OpenClaim := { program := "ytpbfppelmgjfpaa", sum := "cc2fdc231a71d66c08738734ee3cc1ffa7b5dea5d860a809985b42d13e53d7df", func := "loop.example/g01277/laws.FnExactShowOp", spec := "fnExactShowOp", apart := false, narrowed := true }
def FnExactShowOpUptoSaid : Prop := fnExactShowOpUptoRow.holds Try.pinned (OpenSpec.upto fnExactShowOpSpec)

/-- 'laws.FnExactReadOp', WHERE WHAT IT READS IS OF BULK AT MOST 1048576: true; the input reads as it did. -/
def fnExactReadOpUptoRow : OpenClaim := { program := "ytpbfppelmgjfpaa", sum := "cc2fdc231a71d66c08738734ee3cc1ffa7b5dea5d860a809985b42d13e53d7df", func := "loop.example/g01277/laws.FnExactReadOp", spec := "fnExactReadOp", apart := false, narrowed := true }
def FnExactReadOpUptoSaid : Prop := fnExactReadOpUptoRow.holds Try.pinned (OpenSpec.upto fnExactReadOpSpec)

/-- 'laws.FnExactShowCode', WHERE WHAT IT READS IS OF BULK AT MOST 1048576: true; the input reads as it did. -/
def fnExactShowCodeUptoRow : OpenClaim := { program := "ytpbfppelmgjfpaa", sum := "cc2fdc231a71d66c08738734ee3cc1ffa7b5dea5d860a809985b42d13e53d7df", func := "loop.example/g01277/laws.FnExactShowCode", spec := "fnExactShowCode", apart := false, narrowed := true }
def FnExactShowCodeUptoSaid : Prop := fnExactShowCodeUptoRow.holds Try.pinned (OpenSpec.upto fnExactShowCodeSpec)

/-- 'laws.FnExactReadCode', WHERE WHAT IT READS IS OF BULK AT MOST 1048576: true; the input reads as it did. -/
def fnExactReadCodeUptoRow : OpenClaim := { program := "ytpbfppelmgjfpaa", sum := "cc2fdc231a71d66c08738734ee3cc1ffa7b5dea5d860a809985b42d13e53d7df", func := "loop.example/g01277/laws.FnExactReadCode", spec := "fnExactReadCode", apart := false, narrowed := true }
def FnExactReadCodeUptoSaid : Prop := fnExactReadCodeUptoRow.holds Try.pinned (OpenSpec.upto fnExactReadCodeSpec)

/-- 'laws.FnExactShowProg', WHERE WHAT IT READS IS OF BULK AT MOST 1048576: true; the input reads as it did. -/
def fnExactShowProgUptoRow : OpenClaim := { program := "ytpbfppelmgjfpaa", sum := "cc2fdc231a71d66c08738734ee3cc1ffa7b5dea5d860a809985b42d13e53d7df", func := "loop.example/g01277/laws.FnExactShowProg", spec := "fnExactShowProg", unfollowed := true, recurses := true, apart := false, narrowed := true }
def FnExactShowProgUptoSaid : Prop := fnExactShowProgUptoRow.holds Try.pinned (OpenSpec.upto fnExactShowProgSpec)

/-- 'laws.FnExactReadProg', WHERE WHAT IT READS IS OF BULK AT MOST 1048576: true; the input reads as it did. -/
def fnExactReadProgUptoRow : OpenClaim := { program := "ytpbfppelmgjfpaa", sum := "cc2fdc231a71d66c08738734ee3cc1ffa7b5dea5d860a809985b42d13e53d7df", func := "loop.example/g01277/laws.FnExactReadProg", spec := "fnExactReadProg", unfollowed := true, recurses := true, apart := false, narrowed := true }
def FnExactReadProgUptoSaid : Prop := fnExactReadProgUptoRow.holds Try.pinned (OpenSpec.upto fnExactReadProgSpec)

/-- 'laws.FnSource', WHERE WHAT IT READS IS OF BULK AT MOST 1048576: true; the input reads as it did. -/
def fnSourceUptoRow : OpenClaim := { program := "ytpbfppelmgjfpaa", sum := "cc2fdc231a71d66c08738734ee3cc1ffa7b5dea5d860a809985b42d13e53d7df", func := "loop.example/g01277/laws.FnSource", spec := "fnSource", unfollowed := true, recurses := true, apart := false, narrowed := true }
def FnSourceUptoSaid : Prop := fnSourceUptoRow.holds Try.pinned (OpenSpec.upto fnSourceSpec)

end Rows
end Go.Proofs.Ytpbfppelmgjfpaa
