/- Plain laws on slices that a call itself makes, on reading a string, on worlds. Generic: no program is named. -/
import Derived.Test.YtpbfppelmgjfpaaCanon
import Derived.WalkKit
import Derived.WalkSpells
import Derived.WalkLawsBesides
import Derived.Deep.AppendLies
import Derived.Laws.AppendOwnNone
import Derived.Lib.Hide
namespace Go.Proofs.Ytpbfppelmgjfpaa
open Go Go.RowKit

/-- A slice type t of elements e, each of so many cells and bytes. -/
structure Elem (P : Program) (t e : TypeId) (z : Value) (size bytes : Nat) : Prop where
  ht : P.underlying t = some (.slice e)
  hi : (P.info? e).map (fun i => (i.zero, i.size, i.bytes)) = some (some z, size, bytes)
  hzs : z.cells.size = size
  hsz : 0 < size

section
variable {P : Program} {o : Oper} {a : Act} {K : Act → World → Prop} {Q : Exit → Act → World → Prop} {w : World} {ops : Array Oper} {rest : List Oper}

/-- s[i] of a string, in range. -/
theorem idx_str {T : TypeId} (hU : P.underlying T = some .string) (s : ByteArray) (k : IntKind) (i : Int) (h0 : 0 ≤ i) (h : i.toNat < s.size) (w : World) :
    (Instr.index T (.string s) (.int k i)).run P w = .ok (.int .u8 (s.data.toList.getD i.toNat 0).toNat) w := by
  have hx : s[i.toNat]? = some (s.data.toList.getD i.toNat 0) := by
    have h' : i.toNat < s.data.toList.length := by simpa using h
    rw [getElem?_pos s i.toNat h, List.getD, List.getElem?_eq_getElem h']
    rfl
  simp [Instr.index, asIntOf, run_underlying hU, h0, hx, Sem.run_bind, Sem.run_pure, Result.andThen]
end

section
variable {P : Program}
/-- s[:i], s[i:], s[i:j] of a string, in range. -/
theorem slice_str_hi {T : TypeId} (hU : P.underlying T = some .string) (s : ByteArray) (k : IntKind) (i : Int) (h0 : 0 ≤ i) (h : i ≤ s.size) (w : World) :
    (Instr.slice T (.string s) none (some (.int k i)) none).run P w = .ok (.string (s.extract 0 i.toNat)) w := by
  simp [Instr.slice, Instr.sliceBounds, Instr.sliceBound, asIntOf, run_underlying hU, h0, h, Sem.run_pure, Result.andThen]
theorem slice_str_lo {T : TypeId} (hU : P.underlying T = some .string) (s : ByteArray) (k : IntKind) (i : Int) (h0 : 0 ≤ i) (h : i ≤ s.size) (w : World) :
    (Instr.slice T (.string s) (some (.int k i)) none none).run P w = .ok (.string (s.extract i.toNat s.size)) w := by
  simp [Instr.slice, Instr.sliceBounds, Instr.sliceBound, asIntOf, run_underlying hU, h0, h, Sem.run_pure, Result.andThen]
theorem slice_str_mid {T : TypeId} (hU : P.underlying T = some .string) (s : ByteArray) (k l : IntKind) (i j : Int) (h0 : 0 ≤ i) (hij : i ≤ j) (h : j ≤ s.size) (w : World) :
    (Instr.slice T (.string s) (some (.int k i)) (some (.int l j)) none).run P w = .ok (.string (s.extract i.toNat j.toNat)) w := by
  have hj : 0 ≤ j := by omega
  have hc : i ≤ max j 0 := by omega
  simp [Instr.slice, Instr.sliceBounds, Instr.sliceBound, asIntOf, run_underlying hU, h0, h, hj, hc, Sem.run_pure, Result.andThen]
end

theorem ba_append (l r : List UInt8) : (ByteArray.mk l.toArray) ++ (ByteArray.mk r.toArray) = ByteArray.mk (l ++ r).toArray := by
  apply ByteArray.ext
  simp

end Go.Proofs.Ytpbfppelmgjfpaa
