/-
  No cell of these rows narrows 'for every input' (looked for: loops, veiled, ifaces, maps, wideKeys, modest, calm, conditions, laid).
  DERIVED. THE GIVEN ROWS OF THIS SEAT. 6 by the template 'for every input the law returns true; each argument reads behind the call as it read before'; 0 by the template 'total and deterministic' (their statements: YtaplpbafnnlojaaTotals.lean).
  GIVEN WITH THE SEED: the statements are not yours to turn. If you find one false, say at which input.
  Laid BY PROGRAM, IN A SANDBOX (cutbox-rows.mjs): the forced cells as the released guide's own fill.sh prints them over the translation 055a3f5002699323… (all of the seat's roots in one cut). By AI agents, Wed Nov 11 2026. No macro, syntax, notation, axiom, sorry.
-/
import Derived.Test.YtaplpbafnnlojaaChecked
import GoSem.Claim
import GoSem.ClaimJoined
import GoSem.ClaimMapViews
import Derived.JoinedTies
import Derived.KernelRfl
namespace Go.Proofs.Ytaplpbafnnlojaa
/- THE CELL 'sum', in the pinned program and in every row, IS THE sha256 OF THE DUMP (.gsa) THAT YtaplpbafnnlojaaProg.lean LOADS. Nothing in Lean hashes anything: it is a label: what it is worth is what the hold of that sum in a sandbox is worth. -/
noncomputable def Try.pinned : Pinned := { name := "ytaplpbafnnlojaa", sum := "055a3f5002699323a677e366c04ebb4eef8b414a3747344130613b05e8b9b470", checked := Try.checked }
namespace Rows
def none {H : Type} : Left H := { results := [], args := [] }

/-- 'laws.FnExactRowsOk': WHATEVER THE INPUT: true; the input reads as it did. -/
def fnExactRowsOkSpec : ChangeSpec := { name := "fnExactRowsOk", fn := fun _ => fun
  | [d] => { results := [.lit (.bool true)], args := [d] }
  | _ => none }
def fnExactRowsOkRow : OpenClaim := { program := "ytaplpbafnnlojaa", sum := "055a3f5002699323a677e366c04ebb4eef8b414a3747344130613b05e8b9b470", func := "loop.example/g01277/laws.FnExactRowsOk", spec := "fnExactRowsOk", apart := false }
def FnExactRowsOkSaid : Prop := fnExactRowsOkRow.holds Try.pinned (OpenSpec.ofChange fnExactRowsOkSpec)

/-- ITS FALSE NEIGHBOUR: 'it returns false'. Refute it at one input. -/
def fnExactRowsOkWrong : ChangeSpec := { name := "fnExactRowsOk", fn := fun _ => fun
  | [d] => { results := [.lit (.bool false)], args := [d] }
  | _ => none }
def FnExactRowsOkWrongFalsely : Prop := fnExactRowsOkRow.holds Try.pinned (OpenSpec.ofChange fnExactRowsOkWrong)

/-- 'laws.FnExactLast': WHATEVER THE INPUT: true; the input reads as it did. -/
def fnExactLastSpec : ChangeSpec := { name := "fnExactLast", fn := fun _ => fun
  | [d1, d2] => { results := [.lit (.bool true)], args := [d1, d2] }
  | _ => none }
def fnExactLastRow : OpenClaim := { program := "ytaplpbafnnlojaa", sum := "055a3f5002699323a677e366c04ebb4eef8b414a3747344130613b05e8b9b470", func := "loop.example/g01277/laws.FnExactLast", spec := "fnExactLast", apart := false }
def FnExactLastSaid : Prop := fnExactLastRow.holds Try.pinned (OpenSpec.ofChange fnExactLastSpec)

/-- ITS FALSE NEIGHBOUR: 'it returns false'. Refute it at one input. -/
def fnExactLastWrong : ChangeSpec := { name := "fnExactLast", fn := fun _ => fun
  | [d1, d2] => { results := [.lit (.bool false)], args := [d1, d2] }
  | _ => none }
def FnExactLastWrongFalsely : Prop := fnExactLastRow.holds Try.pinned (OpenSpec.ofChange fnExactLastWrong)

/-- 'laws.FnExactCut': WHATEVER THE INPUT: true; the input reads as it did. -/
def fnExactCutSpec : ChangeSpec := { name := "fnExactCut", fn := fun _ => fun
  | [d1, d2] => { results := [.lit (.bool true)], args := [d1, d2] }
  | _ => none }
def fnExactCutRow : OpenClaim := { program := "ytaplpbafnnlojaa", sum := "055a3f5002699323a677e366c04ebb4eef8b414a3747344130613b05e8b9b470", func := "loop.example/g01277/laws.FnExactCut", spec := "fnExactCut", apart := false }
def FnExactCutSaid : Prop := fnExactCutRow.holds Try.pinned (OpenSpec.ofChange fnExactCutSpec)

/-- ITS FALSE NEIGHBOUR: 'it returns false'. Refute it at one input. -/
def fnExactCutWrong : ChangeSpec := { name := "fnExactCut", fn := fun _ => fun
  | [d1, d2] => { results := [.lit (.bool false)], args := [d1, d2] }
  | _ => none }
def FnExactCutWrongFalsely : Prop := fnExactCutRow.holds Try.pinned (OpenSpec.ofChange fnExactCutWrong)

/-- 'laws.FnExactNet': WHATEVER THE INPUT: true; the input reads as it did. -/
def fnExactNetSpec : ChangeSpec := { name := "fnExactNet", fn := fun _ => fun
  | [d] => { results := [.lit (.bool true)], args := [d] }
  | _ => none }
def fnExactNetRow : OpenClaim := { program := "ytaplpbafnnlojaa", sum := "055a3f5002699323a677e366c04ebb4eef8b414a3747344130613b05e8b9b470", func := "loop.example/g01277/laws.FnExactNet", spec := "fnExactNet", apart := false }
def FnExactNetSaid : Prop := fnExactNetRow.holds Try.pinned (OpenSpec.ofChange fnExactNetSpec)

/-- ITS FALSE NEIGHBOUR: 'it returns false'. Refute it at one input. -/
def fnExactNetWrong : ChangeSpec := { name := "fnExactNet", fn := fun _ => fun
  | [d] => { results := [.lit (.bool false)], args := [d] }
  | _ => none }
def FnExactNetWrongFalsely : Prop := fnExactNetRow.holds Try.pinned (OpenSpec.ofChange fnExactNetWrong)

/-- 'laws.FnExactOverlay': WHATEVER THE INPUT: true; the input reads as it did. -/
def fnExactOverlaySpec : ChangeSpec := { name := "fnExactOverlay", fn := fun _ => fun
  | [d1, d2] => { results := [.lit (.bool true)], args := [d1, d2] }
  | _ => none }
def fnExactOverlayRow : OpenClaim := { program := "ytaplpbafnnlojaa", sum := "055a3f5002699323a677e366c04ebb4eef8b414a3747344130613b05e8b9b470", func := "loop.example/g01277/laws.FnExactOverlay", spec := "fnExactOverlay", apart := false }
def FnExactOverlaySaid : Prop := fnExactOverlayRow.holds Try.pinned (OpenSpec.ofChange fnExactOverlaySpec)

/-- ITS FALSE NEIGHBOUR: 'it returns false'. Refute it at one input. -/
def fnExactOverlayWrong : ChangeSpec := { name := "fnExactOverlay", fn := fun _ => fun
  | [d1, d2] => { results := [.lit (.bool false)], args := [d1, d2] }
  | _ => none }
def FnExactOverlayWrongFalsely : Prop := fnExactOverlayRow.holds Try.pinned (OpenSpec.ofChange fnExactOverlayWrong)

/-- 'laws.FnExactCellsOf': WHATEVER THE INPUT: true; the input reads as it did. -/
def fnExactCellsOfSpec : ChangeSpec := { name := "fnExactCellsOf", fn := fun _ => fun
  | [d] => { results := [.lit (.bool true)], args := [d] }
  | _ => none }
def fnExactCellsOfRow : OpenClaim := { program := "ytaplpbafnnlojaa", sum := "055a3f5002699323a677e366c04ebb4eef8b414a3747344130613b05e8b9b470", func := "loop.example/g01277/laws.FnExactCellsOf", spec := "fnExactCellsOf", apart := false }
def FnExactCellsOfSaid : Prop := fnExactCellsOfRow.holds Try.pinned (OpenSpec.ofChange fnExactCellsOfSpec)

/-- ITS FALSE NEIGHBOUR: 'it returns false'. Refute it at one input. -/
def fnExactCellsOfWrong : ChangeSpec := { name := "fnExactCellsOf", fn := fun _ => fun
  | [d] => { results := [.lit (.bool false)], args := [d] }
  | _ => none }
def FnExactCellsOfWrongFalsely : Prop := fnExactCellsOfRow.holds Try.pinned (OpenSpec.ofChange fnExactCellsOfWrong)

/- THE SECOND FORM. 'bulk': how many values and letters a reading holds, each counted each time it is reached (what is shared counts as often as it is met; a slice's spare places count too). A statement '..UptoSaid' is the law's where the arguments, and the package variables that the reading takes, are together of bulk at most 1048576: NARROWER than '..Said'. Prove '..Said' where nothing that the law and all that it calls make is longer than what came in: it says more and counts as full. Else prove '..UptoSaid'. A law counts once. -/
mutual
def uptoBulk {H : Type} : DataW H → Nat
  | .lit (.string bytes) => bytes.length + 1
  | .lit _ => 1
  | .nil => 1
  | .ptr d => uptoBulk d + 1
  | .slice elems spare => uptoBulkAll elems + uptoBulkAll spare + 1
  | .agg parts => uptoBulkAll parts + 1
  | .iface _ d => uptoBulk d + 1
  | .map entries => uptoBulkEntries entries + 1
  | .held _ => 1
def uptoBulkAll {H : Type} : List (DataW H) → Nat
  | [] => 0
  | d :: r => uptoBulk d + uptoBulkAll r
def uptoBulkEntries {H : Type} : List (Lit × DataW H) → Nat
  | [] => 0
  | x :: r => uptoBulkEntry x + uptoBulkEntries r
def uptoBulkEntry {H : Type} : Lit × DataW H → Nat
  | (.string bytes, d) => bytes.length + uptoBulk d + 1
  | (_, d) => uptoBulk d + 1
 end
def uptoSmall : (H : Type) → List (DataW H) → Bool := fun _ ds => decide (uptoBulkAll ds ≤ 1048576)
def OpenSpec.upto (s : _root_.Go.ChangeSpec) : _root_.Go.OpenSpec := { _root_.Go.OpenSpec.ofChange s with cond := some uptoSmall }

/-- 'laws.FnExactRowsOk', WHERE WHAT IT READS IS OF BULK AT MOST 1048576: true; the input reads as it did. -/
def fnExactRowsOkUptoRow : OpenClaim := { program := "ytaplpbafnnlojaa", sum := "055a3f5002699323a677e366c04ebb4eef8b414a3747344130613b05e8b9b470", func := "loop.example/g01277/laws.FnExactRowsOk", spec := "fnExactRowsOk", apart := false, narrowed := true }
def FnExactRowsOkUptoSaid : Prop := fnExactRowsOkUptoRow.holds Try.pinned (OpenSpec.upto fnExactRowsOkSpec)

/-- 'laws.FnExactLast', WHERE WHAT IT READS IS OF BULK AT MOST 1048576: true; the input reads as it did. -/
def fnExactLastUptoRow : OpenClaim := { program := "ytaplpbafnnlojaa", sum := "055a3f5002699323a677e366c04ebb4eef8b414a3747344130613b05e8b9b470", func := "loop.example/g01277/laws.FnExactLast", spec := "fnExactLast", apart := false, narrowed := true }
def FnExactLastUptoSaid : Prop := fnExactLastUptoRow.holds Try.pinned (OpenSpec.upto fnExactLastSpec)

/-- 'laws.FnExactCut', WHERE WHAT IT READS IS OF BULK AT MOST 1048576: true; the input reads as it did. -/
def fnExactCutUptoRow : OpenClaim := { program := "ytaplpbafnnlojaa", sum := "055a3f5002699323a677e366c04ebb4eef8b414a3747344130613b05e8b9b470", func := "loop.example/g01277/laws.FnExactCut", spec := "fnExactCut", apart := false, narrowed := true }
def FnExactCutUptoSaid : Prop := fnExactCutUptoRow.holds Try.pinned (OpenSpec.upto fnExactCutSpec)

/-- 'laws.FnExactNet', WHERE WHAT IT READS IS OF BULK AT MOST 1048576: true; the input reads as it did. -/
def fnExactNetUptoRow : OpenClaim := { program := "ytaplpbafnnlojaa", sum := "055a3f5002699323a677e366c04ebb4eef8b414a3747344130613b05e8b9b470", func := "loop.example/g01277/laws.FnExactNet", spec := "fnExactNet", apart := false, narrowed := true }
def FnExactNetUptoSaid : Prop := fnExactNetUptoRow.holds Try.pinned (OpenSpec.upto fnExactNetSpec)

/-- 'laws.FnExactOverlay', WHERE WHAT IT READS IS OF BULK AT MOST 1048576: true; the input reads as it did. -/
def fnExactOverlayUptoRow : OpenClaim := { program := "ytaplpbafnnlojaa", sum := "055a3f5002699323a677e366c04ebb4eef8b414a3747344130613b05e8b9b470", func := "loop.example/g01277/laws.FnExactOverlay", spec := "fnExactOverlay", apart := false, narrowed := true }
def FnExactOverlayUptoSaid : Prop := fnExactOverlayUptoRow.holds Try.pinned (OpenSpec.upto fnExactOverlaySpec)

/-- 'laws.FnExactCellsOf', WHERE WHAT IT READS IS OF BULK AT MOST 1048576: true; the input reads as it did. -/
def fnExactCellsOfUptoRow : OpenClaim := { program := "ytaplpbafnnlojaa", sum := "055a3f5002699323a677e366c04ebb4eef8b414a3747344130613b05e8b9b470", func := "loop.example/g01277/laws.FnExactCellsOf", spec := "fnExactCellsOf", apart := false, narrowed := true }
def FnExactCellsOfUptoSaid : Prop := fnExactCellsOfUptoRow.holds Try.pinned (OpenSpec.upto fnExactCellsOfSpec)

end Rows
end Go.Proofs.Ytaplpbafnnlojaa
