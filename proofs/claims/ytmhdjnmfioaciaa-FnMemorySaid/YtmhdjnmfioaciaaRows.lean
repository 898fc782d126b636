/-
  No cell of these rows narrows 'for every input' (looked for: loops, veiled, ifaces, maps, wideKeys, modest, calm, conditions, laid).
  DERIVED. THE GIVEN ROWS OF THIS SEAT. 10 by the template 'for every input the law returns true; each argument reads behind the call as it read before'; 0 by the template 'total and deterministic' (their statements: YtmhdjnmfioaciaaTotals.lean).
  GIVEN WITH THE SEED: the statements are not yours to turn. If you find one false, say at which input.
  Laid BY PROGRAM, IN A SANDBOX (cutbox-rows.mjs): the forced cells as the released guide's own fill.sh prints them over the translation e01f91f5c09b7dbd… (all of the seat's roots in one cut). By AI agents, Wed Nov 11 2026. No macro, syntax, notation, axiom, sorry.
-/
import Derived.Test.YtmhdjnmfioaciaaChecked
import GoSem.Claim
import GoSem.ClaimJoined
import GoSem.ClaimMapViews
import Derived.JoinedTies
import Derived.KernelRfl
namespace Go.Proofs.Ytmhdjnmfioaciaa
/- THE CELL 'sum', in the pinned program and in every row, IS THE sha256 OF THE DUMP (.gsa) THAT YtmhdjnmfioaciaaProg.lean LOADS. Nothing in Lean hashes anything: it is a label: what it is worth is what the hold of that sum in a sandbox is worth. -/
noncomputable def Try.pinned : Pinned := { name := "ytmhdjnmfioaciaa", sum := "e01f91f5c09b7dbd2cde527e2126128d41cf2c83c0098a63070bffbab7932955", checked := Try.checked }
namespace Rows
def none {H : Type} : Left H := { results := [], args := [] }

/-- 'laws.FnExactMemOk': WHATEVER THE INPUT: true; the input reads as it did. -/
def fnExactMemOkSpec : ChangeSpec := { name := "fnExactMemOk", fn := fun _ => fun
  | [d] => { results := [.lit (.bool true)], args := [d] }
  | _ => none }
def fnExactMemOkRow : OpenClaim := { program := "ytmhdjnmfioaciaa", sum := "e01f91f5c09b7dbd2cde527e2126128d41cf2c83c0098a63070bffbab7932955", func := "loop.example/g01277/laws.FnExactMemOk", spec := "fnExactMemOk", apart := false }
def FnExactMemOkSaid : Prop := fnExactMemOkRow.holds Try.pinned (OpenSpec.ofChange fnExactMemOkSpec)

/-- ITS FALSE NEIGHBOUR: 'it returns false'. Refute it at one input. -/
def fnExactMemOkWrong : ChangeSpec := { name := "fnExactMemOk", fn := fun _ => fun
  | [d] => { results := [.lit (.bool false)], args := [d] }
  | _ => none }
def FnExactMemOkWrongFalsely : Prop := fnExactMemOkRow.holds Try.pinned (OpenSpec.ofChange fnExactMemOkWrong)

/-- 'laws.FnExactLoadLock': WHATEVER THE INPUT: true; the input reads as it did. -/
def fnExactLoadLockSpec : ChangeSpec := { name := "fnExactLoadLock", fn := fun _ => fun
  | [d1, d2] => { results := [.lit (.bool true)], args := [d1, d2] }
  | _ => none }
def fnExactLoadLockRow : OpenClaim := { program := "ytmhdjnmfioaciaa", sum := "e01f91f5c09b7dbd2cde527e2126128d41cf2c83c0098a63070bffbab7932955", func := "loop.example/g01277/laws.FnExactLoadLock", spec := "fnExactLoadLock", apart := false }
def FnExactLoadLockSaid : Prop := fnExactLoadLockRow.holds Try.pinned (OpenSpec.ofChange fnExactLoadLockSpec)

/-- ITS FALSE NEIGHBOUR: 'it returns false'. Refute it at one input. -/
def fnExactLoadLockWrong : ChangeSpec := { name := "fnExactLoadLock", fn := fun _ => fun
  | [d1, d2] => { results := [.lit (.bool false)], args := [d1, d2] }
  | _ => none }
def FnExactLoadLockWrongFalsely : Prop := fnExactLoadLockRow.holds Try.pinned (OpenSpec.ofChange fnExactLoadLockWrong)

/-- 'laws.FnExactLoadVal': WHATEVER THE INPUT: true; the input reads as it did. -/
def fnExactLoadValSpec : ChangeSpec := { name := "fnExactLoadVal", fn := fun _ => fun
  | [d1, d2] => { results := [.lit (.bool true)], args := [d1, d2] }
  | _ => none }
def fnExactLoadValRow : OpenClaim := { program := "ytmhdjnmfioaciaa", sum := "e01f91f5c09b7dbd2cde527e2126128d41cf2c83c0098a63070bffbab7932955", func := "loop.example/g01277/laws.FnExactLoadVal", spec := "fnExactLoadVal", apart := false }
def FnExactLoadValSaid : Prop := fnExactLoadValRow.holds Try.pinned (OpenSpec.ofChange fnExactLoadValSpec)

/-- ITS FALSE NEIGHBOUR: 'it returns false'. Refute it at one input. -/
def fnExactLoadValWrong : ChangeSpec := { name := "fnExactLoadVal", fn := fun _ => fun
  | [d1, d2] => { results := [.lit (.bool false)], args := [d1, d2] }
  | _ => none }
def FnExactLoadValWrongFalsely : Prop := fnExactLoadValRow.holds Try.pinned (OpenSpec.ofChange fnExactLoadValWrong)

/-- 'laws.FnExactMemNew': WHATEVER THE INPUT: true; the input reads as it did. -/
def fnExactMemNewSpec : ChangeSpec := { name := "fnExactMemNew", fn := fun _ => fun
  | [d] => { results := [.lit (.bool true)], args := [d] }
  | _ => none }
def fnExactMemNewRow : OpenClaim := { program := "ytmhdjnmfioaciaa", sum := "e01f91f5c09b7dbd2cde527e2126128d41cf2c83c0098a63070bffbab7932955", func := "loop.example/g01277/laws.FnExactMemNew", spec := "fnExactMemNew", apart := false }
def FnExactMemNewSaid : Prop := fnExactMemNewRow.holds Try.pinned (OpenSpec.ofChange fnExactMemNewSpec)

/-- ITS FALSE NEIGHBOUR: 'it returns false'. Refute it at one input. -/
def fnExactMemNewWrong : ChangeSpec := { name := "fnExactMemNew", fn := fun _ => fun
  | [d] => { results := [.lit (.bool false)], args := [d] }
  | _ => none }
def FnExactMemNewWrongFalsely : Prop := fnExactMemNewRow.holds Try.pinned (OpenSpec.ofChange fnExactMemNewWrong)

/-- 'laws.FnExactTick': WHATEVER THE INPUT: true; the input reads as it did. -/
def fnExactTickSpec : ChangeSpec := { name := "fnExactTick", fn := fun _ => fun
  | [d] => { results := [.lit (.bool true)], args := [d] }
  | _ => none }
def fnExactTickRow : OpenClaim := { program := "ytmhdjnmfioaciaa", sum := "e01f91f5c09b7dbd2cde527e2126128d41cf2c83c0098a63070bffbab7932955", func := "loop.example/g01277/laws.FnExactTick", spec := "fnExactTick", apart := false }
def FnExactTickSaid : Prop := fnExactTickRow.holds Try.pinned (OpenSpec.ofChange fnExactTickSpec)

/-- ITS FALSE NEIGHBOUR: 'it returns false'. Refute it at one input. -/
def fnExactTickWrong : ChangeSpec := { name := "fnExactTick", fn := fun _ => fun
  | [d] => { results := [.lit (.bool false)], args := [d] }
  | _ => none }
def FnExactTickWrongFalsely : Prop := fnExactTickRow.holds Try.pinned (OpenSpec.ofChange fnExactTickWrong)

/-- 'laws.FnExactValues': WHATEVER THE INPUT: true; the input reads as it did. -/
def fnExactValuesSpec : ChangeSpec := { name := "fnExactValues", fn := fun _ => fun
  | [d] => { results := [.lit (.bool true)], args := [d] }
  | _ => none }
def fnExactValuesRow : OpenClaim := { program := "ytmhdjnmfioaciaa", sum := "e01f91f5c09b7dbd2cde527e2126128d41cf2c83c0098a63070bffbab7932955", func := "loop.example/g01277/laws.FnExactValues", spec := "fnExactValues", apart := false }
def FnExactValuesSaid : Prop := fnExactValuesRow.holds Try.pinned (OpenSpec.ofChange fnExactValuesSpec)

/-- ITS FALSE NEIGHBOUR: 'it returns false'. Refute it at one input. -/
def fnExactValuesWrong : ChangeSpec := { name := "fnExactValues", fn := fun _ => fun
  | [d] => { results := [.lit (.bool false)], args := [d] }
  | _ => none }
def FnExactValuesWrongFalsely : Prop := fnExactValuesRow.holds Try.pinned (OpenSpec.ofChange fnExactValuesWrong)

/-- 'laws.FnExactLock': WHATEVER THE INPUT: true; the input reads as it did. -/
def fnExactLockSpec : ChangeSpec := { name := "fnExactLock", fn := fun _ => fun
  | [d1, d2, d3] => { results := [.lit (.bool true)], args := [d1, d2, d3] }
  | _ => none }
def fnExactLockRow : OpenClaim := { program := "ytmhdjnmfioaciaa", sum := "e01f91f5c09b7dbd2cde527e2126128d41cf2c83c0098a63070bffbab7932955", func := "loop.example/g01277/laws.FnExactLock", spec := "fnExactLock", apart := false }
def FnExactLockSaid : Prop := fnExactLockRow.holds Try.pinned (OpenSpec.ofChange fnExactLockSpec)

/-- ITS FALSE NEIGHBOUR: 'it returns false'. Refute it at one input. -/
def fnExactLockWrong : ChangeSpec := { name := "fnExactLock", fn := fun _ => fun
  | [d1, d2, d3] => { results := [.lit (.bool false)], args := [d1, d2, d3] }
  | _ => none }
def FnExactLockWrongFalsely : Prop := fnExactLockRow.holds Try.pinned (OpenSpec.ofChange fnExactLockWrong)

/-- 'laws.FnExactStore': WHATEVER THE INPUT: true; the input reads as it did. -/
def fnExactStoreSpec : ChangeSpec := { name := "fnExactStore", fn := fun _ => fun
  | [d1, d2, d3, d4] => { results := [.lit (.bool true)], args := [d1, d2, d3, d4] }
  | _ => none }
def fnExactStoreRow : OpenClaim := { program := "ytmhdjnmfioaciaa", sum := "e01f91f5c09b7dbd2cde527e2126128d41cf2c83c0098a63070bffbab7932955", func := "loop.example/g01277/laws.FnExactStore", spec := "fnExactStore", apart := false }
def FnExactStoreSaid : Prop := fnExactStoreRow.holds Try.pinned (OpenSpec.ofChange fnExactStoreSpec)

/-- ITS FALSE NEIGHBOUR: 'it returns false'. Refute it at one input. -/
def fnExactStoreWrong : ChangeSpec := { name := "fnExactStore", fn := fun _ => fun
  | [d1, d2, d3, d4] => { results := [.lit (.bool false)], args := [d1, d2, d3, d4] }
  | _ => none }
def FnExactStoreWrongFalsely : Prop := fnExactStoreRow.holds Try.pinned (OpenSpec.ofChange fnExactStoreWrong)

/-- 'laws.FnExactUnlock': WHATEVER THE INPUT: true; the input reads as it did. -/
def fnExactUnlockSpec : ChangeSpec := { name := "fnExactUnlock", fn := fun _ => fun
  | [d1, d2, d3, d4] => { results := [.lit (.bool true)], args := [d1, d2, d3, d4] }
  | _ => none }
def fnExactUnlockRow : OpenClaim := { program := "ytmhdjnmfioaciaa", sum := "e01f91f5c09b7dbd2cde527e2126128d41cf2c83c0098a63070bffbab7932955", func := "loop.example/g01277/laws.FnExactUnlock", spec := "fnExactUnlock", apart := false }
def FnExactUnlockSaid : Prop := fnExactUnlockRow.holds Try.pinned (OpenSpec.ofChange fnExactUnlockSpec)

/-- ITS FALSE NEIGHBOUR: 'it returns false'. Refute it at one input. -/
def fnExactUnlockWrong : ChangeSpec := { name := "fnExactUnlock", fn := fun _ => fun
  | [d1, d2, d3, d4] => { results := [.lit (.bool false)], args := [d1, d2, d3, d4] }
  | _ => none }
def FnExactUnlockWrongFalsely : Prop := fnExactUnlockRow.holds Try.pinned (OpenSpec.ofChange fnExactUnlockWrong)

/-- 'laws.FnMemory': WHATEVER THE INPUT: true; the input reads as it did. -/
def fnMemorySpec : ChangeSpec := { name := "fnMemory", fn := fun _ => fun
  | [d] => { results := [.lit (.bool true)], args := [d] }
  | _ => none }
def fnMemoryRow : OpenClaim := { program := "ytmhdjnmfioaciaa", sum := "e01f91f5c09b7dbd2cde527e2126128d41cf2c83c0098a63070bffbab7932955", func := "loop.example/g01277/laws.FnMemory", spec := "fnMemory", apart := false }
def FnMemorySaid : Prop := fnMemoryRow.holds Try.pinned (OpenSpec.ofChange fnMemorySpec)

/-- ITS FALSE NEIGHBOUR: 'it returns false'. Refute it at one input. -/
def fnMemoryWrong : ChangeSpec := { name := "fnMemory", fn := fun _ => fun
  | [d] => { results := [.lit (.bool false)], args := [d] }
  | _ => none }
def FnMemoryWrongFalsely : Prop := fnMemoryRow.holds Try.pinned (OpenSpec.ofChange fnMemoryWrong)

/- THE SECOND FORM. 'bulk': how many values and letters a reading holds, each counted each time it is reached (what is shared counts as often as it is met; a slice's spare places count too). A statement '..UptoSaid' is the law's where the arguments, and the package variables that the reading takes, are together of bulk at most 1048576: NARROWER than '..Said'. Prove '..Said' where nothing that the law and all that it calls make is longer than what came in: it says more and counts as full. Else prove '..UptoSaid'. A law counts once. -/
mutual
def uptoBulk {H : Type} : DataW H → Nat
  | .lit (.string bytes) => bytes.length + 1
  | .lit _ => 1
  | .nil => 1
  | .ptr d => uptoBulk d + 1
  | .slice elems spare => uptoBulkAll elems + uptoBulkAll spare + 1
  | .agg parts => uptoBulkAll parts + 1
  | .iface _ d => uptoBulk d + 1
  | .map entries => uptoBulkEntries entries + 1
  | .held _ => 1
def uptoBulkAll {H : Type} : List (DataW H) → Nat
  | [] => 0
  | d :: r => uptoBulk d + uptoBulkAll r
def uptoBulkEntries {H : Type} : List (Lit × DataW H) → Nat
  | [] => 0
  | x :: r => uptoBulkEntry x + uptoBulkEntries r
def uptoBulkEntry {H : Type} : Lit × DataW H → Nat
  | (.string bytes, d) => bytes.length + uptoBulk d + 1
  | (_, d) => uptoBulk d + 1
 end
def uptoSmall : (H : Type) → List (DataW H) → Bool := fun _ ds => decide (uptoBulkAll ds ≤ 1048576)
def OpenSpec.upto (s : _root_.Go.ChangeSpec) : _root_.Go.OpenSpec := { _root_.Go.OpenSpec.ofChange s with cond := some uptoSmall }

/-- 'laws.FnExactMemOk', WHERE WHAT IT READS IS OF BULK AT MOST 1048576: true; the input reads as it did. -/
def fnExactMemOkUptoRow : OpenClaim := { program := "ytmhdjnmfioaciaa", sum := "e01f91f5c09b7dbd2cde527e2126128d41cf2c83c0098a63070bffbab7932955", func := "loop.example/g01277/laws.FnExactMemOk", spec := "fnExactMemOk", apart := false, narrowed := true }
def FnExactMemOkUptoSaid : Prop := fnExactMemOkUptoRow.holds Try.pinned (OpenSpec.upto fnExactMemOkSpec)

/-- 'laws.FnExactLoadLock', WHERE WHAT IT READS IS OF BULK AT MOST 1048576: true; the input reads as it did. -/
def fnExactLoadLockUptoRow : OpenClaim := { program := "ytmhdjnmfioaciaa", sum := "e01f91f5c09b7dbd2cde527e2126128d41cf2c83c0098a63070bffbab7932955", func := "loop.example/g01277/laws.FnExactLoadLock", spec := "fnExactLoadLock", apart := false, narrowed := true }
def FnExactLoadLockUptoSaid : Prop := fnExactLoadLockUptoRow.holds Try.pinned (OpenSpec.upto fnExactLoadLockSpec)

/-- 'laws.FnExactLoadVal', WHERE WHAT IT READS IS OF BULK AT MOST 1048576: true; the input reads as it did. -/
def fnExactLoadValUptoRow : OpenClaim := { program := "ytmhdjnmfioaciaa", sum := "e01f91f5c09b7dbd2cde527e2126128d41cf2c83c0098a63070bffbab7932955", func := "loop.example/g01277/laws.FnExactLoadVal", spec := "fnExactLoadVal", apart := false, narrowed := true }
def FnExactLoadValUptoSaid : Prop := fnExactLoadValUptoRow.holds Try.pinned (OpenSpec.upto fnExactLoadValSpec)

/-- 'laws.FnExactMemNew', WHERE WHAT IT READS IS OF BULK AT MOST 1048576: true; the input reads as it did. -/
def fnExactMemNewUptoRow : OpenClaim := { program := "ytmhdjnmfioaciaa", sum := "e01f91f5c09b7dbd2cde527e2126128d41cf2c83c0098a63070bffbab7932955", func := "loop.example/g01277/laws.FnExactMemNew", spec := "fnExactMemNew", apart := false, narrowed := true }
def FnExactMemNewUptoSaid : Prop := fnExactMemNewUptoRow.holds Try.pinned (OpenSpec.upto fnExactMemNewSpec)

/-- 'laws.FnExactTick', WHERE WHAT IT READS IS OF BULK AT MOST 1048576: true; the input reads as it did. -/
def fnExactTickUptoRow : OpenClaim := { program := "ytmhdjnmfioaciaa", sum := "e01f91f5c09b7dbd2cde527e2126128d41cf2c83c0098a63070bffbab7932955", func := "loop.example/g01277/laws.FnExactTick", spec := "fnExactTick", apart := false, narrowed := true }
def FnExactTickUptoSaid : Prop := fnExactTickUptoRow.holds Try.pinned (OpenSpec.upto fnExactTickSpec)

/-- 'laws.FnExactValues', WHERE WHAT IT READS IS OF BULK AT MOST 1048576: true; the input reads as it did. -/
def fnExactValuesUptoRow : OpenClaim := { program := "ytmhdjnmfioaciaa", sum := "e01f91f5c09b7dbd2cde527e2126128d41cf2c83c0098a63070bffbab7932955", func := "loop.example/g01277/laws.FnExactValues", spec := "fnExactValues", apart := false, narrowed := true }
def FnExactValuesUptoSaid : Prop := fnExactValuesUptoRow.holds Try.pinned (OpenSpec.upto fnExactValuesSpec)

/-- 'laws.FnExactLock', WHERE WHAT IT READS IS OF BULK AT MOST 1048576: true; the input reads as it did. -/
def fnExactLockUptoRow : OpenClaim := { program := "ytmhdjnmfioaciaa", sum := "e01f91f5c09b7dbd2cde527e2126128d41cf2c83c0098a63070bffbab7932955", func := "loop.example/g01277/laws.FnExactLock", spec := "fnExactLock", apart := false, narrowed := true }
def FnExactLockUptoSaid : Prop := fnExactLockUptoRow.holds Try.pinned (OpenSpec.upto fnExactLockSpec)

/-- 'laws.FnExactStore', WHERE WHAT IT READS IS OF BULK AT MOST 1048576: true; the input reads as it did. -/
def fnExactStoreUptoRow : OpenClaim := { program := "ytmhdjnmfioaciaa", sum := "e01f91f5c09b7dbd2cde527e2126128d41cf2c83c0098a63070bffbab7932955", func := "loop.example/g01277/laws.FnExactStore", spec := "fnExactStore", apart := false, narrowed := true }
def FnExactStoreUptoSaid : Prop := fnExactStoreUptoRow.holds Try.pinned (OpenSpec.upto fnExactStoreSpec)

/-- 'laws.FnExactUnlock', WHERE WHAT IT READS IS OF BULK AT MOST 1048576: true; the input reads as it did. -/
def fnExactUnlockUptoRow : OpenClaim := { program := "ytmhdjnmfioaciaa", sum := "e01f91f5c09b7dbd2cde527e2126128d41cf2c83c0098a63070bffbab7932955", func := "loop.example/g01277/laws.FnExactUnlock", spec := "fnExactUnlock", apart := false, narrowed := true }
def FnExactUnlockUptoSaid : Prop := fnExactUnlockUptoRow.holds Try.pinned (OpenSpec.upto fnExactUnlockSpec)

/-- 'laws.FnMemory', WHERE WHAT IT READS IS OF BULK AT MOST 1048576: true; the input reads as it did. -/
def fnMemoryUptoRow : OpenClaim := { program := "ytmhdjnmfioaciaa", sum := "e01f91f5c09b7dbd2cde527e2126128d41cf2c83c0098a63070bffbab7932955", func := "loop.example/g01277/laws.FnMemory", spec := "fnMemory", apart := false, narrowed := true }
def FnMemoryUptoSaid : Prop := fnMemoryUptoRow.holds Try.pinned (OpenSpec.upto fnMemorySpec)

end Rows
end Go.Proofs.Ytmhdjnmfioaciaa
