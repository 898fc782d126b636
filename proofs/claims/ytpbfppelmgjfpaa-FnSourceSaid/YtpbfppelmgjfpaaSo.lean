/- More laws: conversions, cuts, handing out. Generic: no program is named. -/
import Derived.Test.YtpbfppelmgjfpaaSn
namespace Go.Proofs.Ytpbfppelmgjfpaa
open Go Go.RowKit
set_option linter.unusedVariables false
set_option linter.unusedSimpArgs false
set_option linter.unusedSectionVars false

section
variable {w0 w w' : World} {G : Foot} {L A B : List Res}
end

/-- A byte of a number. -/
def b8 (x : Int) : UInt8 := UInt8.ofNat (x % 256).toNat
theorem b8_toNat (x : Int) : ((b8 x).toNat : Int) = IntKind.u8.wrap x := by
  have h : IntKind.u8.wrap x = x % 256 := by simp [IntKind.wrap, IntKind.signed, IntKind.bits]
  rw [h, b8, UInt8.toNat_ofNat']
  omega
/-- s[i:j] -/
def sub (s : Str) (i j : Int) : Str := (s.drop i.toNat).take (j.toNat - i.toNat)
def subl {E : Type} (l : List E) (i j : Int) : List E := (l.drop i.toNat).take (j.toNat - i.toNat)

theorem RdT.cutI {E : Type} [Dat E] {w : World} {P : Foot} {l : List E} {a : Option Addr} {n c : Nat} {i j : Int} (h : RdT P w (rowT l) (.slice a n c)) (hij : 0 ≤ i ∧ i ≤ j ∧ j ≤ (l.length : Int)) :
    ∃ a' c', RdT P w (rowT (subl l i j)) (.slice a' (subl l i j).length c') ∧ i ≤ j ∧ j ≤ (n : Int) ∧ n ≤ c ∧ 0 ≤ i ∧ (if c = i.toNat then a else a.map (·.add (i.toNat * Dat.size E))) = a' ∧ j.toNat - i.toNat = (subl l i j).length ∧ c - i.toNat = c' := by
  obtain ⟨h0, h1, h2⟩ := hij
  have hn := h.neq
  obtain ⟨_, _, hl1, hl2⟩ := h.len
  simp only [Value.slice.injEq] at hl1
  obtain ⟨_, _, rfl⟩ := hl1
  have hlen : (subl l i j).length = j.toNat - i.toNat := by simp [subl]; omega
  refine ⟨_, _, ?_, h1, by omega, by omega, h0, rfl, hlen.symm, rfl⟩
  rw [hlen]
  exact h.cut i.toNat j.toNat (by omega) (by omega)

section
variable {P : Program} {ops : Array Oper} {Q : Exit → Act → World → Prop} {S : World → Prop} {a : Act} {w w0 : World} {G : Foot} {R : List Res} {n : Nat} {L : List (Nat × Value)}
  {c : Bool} {rest : List (Bool × Oper)} {ty : TypeId} {pos : String} {aft : Array Edge} {gd : Option (Nat × Bool)} {d : Nat}
theorem wc_nilCheck {X : Operand} {p : Addr} (HF : Fr a n L) (hS : c = false → S w) (hx : ov L X = some (.pointer (some p)))
    (hw : Region.wanted ⟨some d, .nilCheck X, ty, pos, aft, gd⟩ (yielded ops a.tmps) = true) (hd : Nat.blt d n = true)
    (h : ∀ a', Fr a' n ((d, .pointer (some p)) :: L) → wpD P ops Q S rest a' w) : wpD P ops Q S ((c, ⟨some d, .nilCheck X, ty, pos, aft, gd⟩) :: rest) a w :=
  wc_any HF hS rfl hw hd (fun w _ => by simp [execOp, HF.ev hx, Sem.run_pure]) h
theorem wc_cvu {S1 T1 : TypeId} {X : Operand} {x : UInt8} (HF : Fr a n L) (hS : c = false → S w) (hu : P.underlying T1 = some (.int .i64)) (hu1 : P.underlying S1 = some (.int .u8)) (hx : ov L X = some (.int .u8 (x.toNat : Int)))
    (hw : Region.wanted ⟨some d, .convert S1 T1 X, ty, pos, aft, gd⟩ (yielded ops a.tmps) = true) (hd : Nat.blt d n = true)
    (h : ∀ a', Fr a' n ((d, .int .i64 (x.toNat : Int)) :: L) → wpD P ops Q S rest a' w) : wpD P ops Q S ((c, ⟨some d, .convert S1 T1 X, ty, pos, aft, gd⟩) :: rest) a w :=
  wc_any HF hS rfl hw hd (fun w _ => by
    have hr : IntKind.i64.wrap (x.toNat : Int) = (x.toNat : Int) := wrap_in64 (by unfold in64; have := x.toNat_lt; omega)
    simp [execOp, HF.ev hx, convert, run_underlying hu, run_underlying hu1, Conv.intToInt, Sem.run_bind, Sem.run_pure, Result.andThen, hr]) h
theorem wc_cvb {S1 T1 : TypeId} {X : Operand} {x : Int} (HF : Fr a n L) (hS : c = false → S w) (hu : P.underlying T1 = some (.int .u8)) (hu1 : P.underlying S1 = some (.int .i64)) (hx : ov L X = some (.int .i64 x))
    (hw : Region.wanted ⟨some d, .convert S1 T1 X, ty, pos, aft, gd⟩ (yielded ops a.tmps) = true) (hd : Nat.blt d n = true)
    (h : ∀ a', Fr a' n ((d, .int .u8 ((b8 x).toNat : Int)) :: L) → wpD P ops Q S rest a' w) : wpD P ops Q S ((c, ⟨some d, .convert S1 T1 X, ty, pos, aft, gd⟩) :: rest) a w :=
  wc_any HF hS rfl hw hd (fun w _ => by simp [execOp, HF.ev hx, convert, run_underlying hu, run_underlying hu1, Conv.intToInt, Sem.run_bind, Sem.run_pure, Result.andThen, b8_toNat]) h
theorem wc_cvs {S1 T1 e : TypeId} {X : Operand} {B : Foot} {l : List UInt8} {x : Option Addr} {m cc : Nat} (HF : Fr a n L) (hS : c = false → S w) (hu1 : P.underlying S1 = some (.slice e)) (he : P.underlying e = some (.int .u8)) (hu : P.underlying T1 = some .string) (hx : ov L X = some (.slice x m cc)) (hr : RdT B w (rowT l) (.slice x m cc))
    (hw : Region.wanted ⟨some d, .convert S1 T1 X, ty, pos, aft, gd⟩ (yielded ops a.tmps) = true) (hd : Nat.blt d n = true)
    (h : ∀ a', Fr a' n ((d, sv l) :: L) → wpD P ops Q S rest a' w) : wpD P ops Q S ((true, ⟨some d, .convert S1 T1 X, ty, pos, aft, gd⟩) :: rest) a w := by
  refine wc_now HF rfl hw hd ?_ h
  have hm := hr.neq
  subst hm
  have key : (convert S1 T1 (.slice x l.length cc)).run P w = .ok (sv l) w := by
    cases l with
    | nil =>
      rw [run_convert_bytes_string w S1 T1 e x _ cc hu1 he hu]
      cases x with
      | none => simp [Conv.bytesToString, Sem.run_pure, sv]; rfl
      | some ad => simp [Conv.bytesToString, loadCells, loadCellsFrom, Sem.run_pure, Sem.run_bind, Result.andThen, sv]; rfl
    | cons y ys =>
      obtain ⟨b, o, rfl⟩ := hr.addr (i := 0) (x := y) rfl
      refine run_convert_bytes_back w S1 T1 e ⟨b, o, none⟩ cc (y :: ys) hu1 he hu fun j hj => ?_
      have h1 := (hr.flatAt rfl (i := (j : Int)) (x := (y :: ys)[j]) (by simp [at?, hj])) 0 (.int .u8 (((y :: ys)[j]).toNat : Int)) rfl
      rw [Addr.add_lit]
      simpa [Dat.size] using h1
  simp only [execOp, HF.ev hx]
  rw [Sem.run_bind, key]
  rfl

/-! Cuts of strings. -/
theorem str_sub (s : Str) (i j : Int) (h : 0 ≤ i ∧ i ≤ j ∧ j ≤ (s.length : Int)) : (⟨s.toArray⟩ : ByteArray).extract i.toNat j.toNat = ⟨(sub s i j).toArray⟩ := by
  apply ByteArray.ext
  apply Array.ext'
  simp only [ByteArray.data_extract, Array.toList_extract, List.extract_eq_take_drop, sub]
theorem wc_slsLH {T1 : TypeId} {X I J : Operand} {s : Str} {k l : IntKind} {i j : Int} (HF : Fr a n L) (hS : c = false → S w) (hu : P.underlying T1 = some .string) (hx : ov L X = some (sv s)) (hi : ov L I = some (.int k i)) (hj : ov L J = some (.int l j)) (hb : 0 ≤ i ∧ i ≤ j ∧ j ≤ (s.length : Int))
    (hw : Region.wanted ⟨some d, .slice T1 X (some I) (some J) none, ty, pos, aft, gd⟩ (yielded ops a.tmps) = true) (hd : Nat.blt d n = true)
    (h : ∀ a', Fr a' n ((d, sv (sub s i j)) :: L) → wpD P ops Q S rest a' w) : wpD P ops Q S ((c, ⟨some d, .slice T1 X (some I) (some J) none, ty, pos, aft, gd⟩) :: rest) a w := by
  refine wc_any HF hS rfl hw hd (fun w _ => ?_) h
  have := slice_str_mid (P := P) hu ⟨s.toArray⟩ k l i j hb.1 hb.2.1 (by show j ≤ (s.toArray.size : Int); simpa using hb.2.2) w
  simp only [execOp, HF.ev hx, HF.ev hi, HF.ev hj, Option.map_some, Option.map_none, Instr.sliceAt, Sem.run_bind, run_underlying hu, Result.andThen, sv, this, str_sub s i j hb]
  rfl
theorem wc_slsL {T1 : TypeId} {X I : Operand} {s : Str} {k : IntKind} {i : Int} (HF : Fr a n L) (hS : c = false → S w) (hu : P.underlying T1 = some .string) (hx : ov L X = some (sv s)) (hi : ov L I = some (.int k i)) (hb : 0 ≤ i ∧ i ≤ (s.length : Int) ∧ (s.length : Int) ≤ (s.length : Int))
    (hw : Region.wanted ⟨some d, .slice T1 X (some I) none none, ty, pos, aft, gd⟩ (yielded ops a.tmps) = true) (hd : Nat.blt d n = true)
    (h : ∀ a', Fr a' n ((d, sv (sub s i (s.length : Int))) :: L) → wpD P ops Q S rest a' w) : wpD P ops Q S ((c, ⟨some d, .slice T1 X (some I) none none, ty, pos, aft, gd⟩) :: rest) a w := by
  refine wc_any HF hS rfl hw hd (fun w _ => ?_) h
  have := slice_str_lo (P := P) hu ⟨s.toArray⟩ k i hb.1 (by show i ≤ (s.toArray.size : Int); simpa using hb.2.1) w
  have h2 := str_sub s i (s.length : Int) hb
  simp only [Int.toNat_natCast] at h2
  simp only [execOp, HF.ev hx, HF.ev hi, Option.map_some, Option.map_none, Instr.sliceAt, Sem.run_bind, run_underlying hu, Result.andThen, sv, this]
  show Result.ok (Next.value (.string ((⟨s.toArray⟩ : ByteArray).extract i.toNat s.toArray.size))) w = _
  rw [List.size_toArray, h2]
theorem wc_slsH {T1 : TypeId} {X J : Operand} {s : Str} {l : IntKind} {j : Int} (HF : Fr a n L) (hS : c = false → S w) (hu : P.underlying T1 = some .string) (hx : ov L X = some (sv s)) (hj : ov L J = some (.int l j)) (hb : 0 ≤ (0 : Int) ∧ (0 : Int) ≤ j ∧ j ≤ (s.length : Int))
    (hw : Region.wanted ⟨some d, .slice T1 X none (some J) none, ty, pos, aft, gd⟩ (yielded ops a.tmps) = true) (hd : Nat.blt d n = true)
    (h : ∀ a', Fr a' n ((d, sv (sub s 0 j)) :: L) → wpD P ops Q S rest a' w) : wpD P ops Q S ((c, ⟨some d, .slice T1 X none (some J) none, ty, pos, aft, gd⟩) :: rest) a w := by
  refine wc_any HF hS rfl hw hd (fun w _ => ?_) h
  have := slice_str_hi (P := P) hu ⟨s.toArray⟩ l j hb.2.1 (by show j ≤ (s.toArray.size : Int); simpa using hb.2.2) w
  have h2 := str_sub s 0 j hb
  simp only [Int.toNat_zero] at h2
  simp only [execOp, HF.ev hx, HF.ev hj, Option.map_some, Option.map_none, Instr.sliceAt, Sem.run_bind, run_underlying hu, Result.andThen, sv, this, h2]
  rfl

/-! Cuts of slices that read. -/
variable {E : Type} [Dat E]
theorem wc_slrLH {t e : TypeId} {z : Value} {bytes : Nat} {X I J : Operand} {k l : IntKind} {i j : Int} {x a2 : Option Addr} {m cc c2 m2 : Nat} (HF : Fr a n L) (hS : c = false → S w) (hE : Elem P t e z (Dat.size E) bytes) (hx : ov L X = some (.slice x m cc)) (hi : ov L I = some (.int k i)) (hj : ov L J = some (.int l j))
    (hb : i ≤ j ∧ j ≤ (m : Int) ∧ m ≤ cc ∧ 0 ≤ i ∧ (if cc = i.toNat then x else x.map (·.add (i.toNat * Dat.size E))) = a2 ∧ j.toNat - i.toNat = m2 ∧ cc - i.toNat = c2)
    (hw : Region.wanted ⟨some d, .slice t X (some I) (some J) none, ty, pos, aft, gd⟩ (yielded ops a.tmps) = true) (hd : Nat.blt d n = true)
    (h : ∀ a', Fr a' n ((d, .slice a2 m2 c2) :: L) → wpD P ops Q S rest a' w) : wpD P ops Q S ((c, ⟨some d, .slice t X (some I) (some J) none, ty, pos, aft, gd⟩) :: rest) a w := by
  obtain ⟨h1, h2, h3, h4, rfl, rfl, rfl⟩ := hb
  obtain ⟨inf, hi', hz0, hz1, hz2⟩ := info_parts hE.hi
  refine wc_any HF hS rfl hw hd (fun w _ => ?_) h
  have e1 : 0 ≤ j ∧ j ≤ (cc : Int) := by omega
  have e3 : i ≤ max j 0 := by omega
  simp [execOp, HF.ev hx, HF.ev hi, HF.ev hj, Instr.sliceAt, Instr.slice, Instr.sliceBounds, Instr.sliceBound, asIntOf, run_underlying hE.ht, Sem.run_bind, Sem.run_pure, Result.andThen, e1, h4, e3, sizeOf, typeInfo, hi', hz1]
theorem wc_slrL {t e : TypeId} {z : Value} {bytes : Nat} {X I : Operand} {k : IntKind} {i j : Int} {x a2 : Option Addr} {m cc c2 m2 : Nat} (HF : Fr a n L) (hS : c = false → S w) (hE : Elem P t e z (Dat.size E) bytes) (hx : ov L X = some (.slice x m cc)) (hi : ov L I = some (.int k i))
    (hb : i ≤ (m : Int) ∧ (m : Int) ≤ (m : Int) ∧ m ≤ cc ∧ 0 ≤ i ∧ (if cc = i.toNat then x else x.map (·.add (i.toNat * Dat.size E))) = a2 ∧ (m : Int).toNat - i.toNat = m2 ∧ cc - i.toNat = c2)
    (hw : Region.wanted ⟨some d, .slice t X (some I) none none, ty, pos, aft, gd⟩ (yielded ops a.tmps) = true) (hd : Nat.blt d n = true)
    (h : ∀ a', Fr a' n ((d, .slice a2 m2 c2) :: L) → wpD P ops Q S rest a' w) : wpD P ops Q S ((c, ⟨some d, .slice t X (some I) none none, ty, pos, aft, gd⟩) :: rest) a w := by
  obtain ⟨h1, h2, h3, h4, rfl, rfl, rfl⟩ := hb
  obtain ⟨inf, hi', hz0, hz1, hz2⟩ := info_parts hE.hi
  refine wc_any HF hS rfl hw hd (fun w _ => ?_) h
  have e2 : 0 ≤ i ∧ i ≤ (m : Int) := by omega
  simp [execOp, HF.ev hx, HF.ev hi, Instr.sliceAt, Instr.slice, Instr.sliceBounds, Instr.sliceBound, asIntOf, run_underlying hE.ht, Sem.run_bind, Sem.run_pure, Result.andThen, e2, sizeOf, typeInfo, hi', hz1]
theorem wc_slrH {t e : TypeId} {z : Value} {bytes : Nat} {X J : Operand} {l : IntKind} {j : Int} {x a2 : Option Addr} {m cc c2 m2 : Nat} (HF : Fr a n L) (hS : c = false → S w) (hE : Elem P t e z (Dat.size E) bytes) (hx : ov L X = some (.slice x m cc)) (hj : ov L J = some (.int l j))
    (hb : (0 : Int) ≤ j ∧ j ≤ (m : Int) ∧ m ≤ cc ∧ (0 : Int) ≤ 0 ∧ (if cc = (0 : Int).toNat then x else x.map (·.add ((0 : Int).toNat * Dat.size E))) = a2 ∧ j.toNat - (0 : Int).toNat = m2 ∧ cc - (0 : Int).toNat = c2)
    (hw : Region.wanted ⟨some d, .slice t X none (some J) none, ty, pos, aft, gd⟩ (yielded ops a.tmps) = true) (hd : Nat.blt d n = true)
    (h : ∀ a', Fr a' n ((d, .slice a2 m2 c2) :: L) → wpD P ops Q S rest a' w) : wpD P ops Q S ((c, ⟨some d, .slice t X none (some J) none, ty, pos, aft, gd⟩) :: rest) a w := by
  obtain ⟨h1, h2, h3, h4, rfl, rfl, rfl⟩ := hb
  obtain ⟨inf, hi', hz0, hz1, hz2⟩ := info_parts hE.hi
  refine wc_any HF hS rfl hw hd (fun w _ => ?_) h
  have e1 : 0 ≤ j ∧ j ≤ (cc : Int) := by omega
  simp [execOp, HF.ev hx, HF.ev hj, Instr.sliceAt, Instr.slice, Instr.sliceBounds, Instr.sliceBound, asIntOf, run_underlying hE.ht, Sem.run_bind, Sem.run_pure, Result.andThen, e1, sizeOf, typeInfo, hi', hz1]
end
end Go.Proofs.Ytpbfppelmgjfpaa
