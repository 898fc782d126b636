/- Laws of operations on memory, over states. Generic: no program is named. -/
import Derived.Test.YtpbfppelmgjfpaaSd
namespace Go.Proofs.Ytpbfppelmgjfpaa
open Go Go.RowKit
set_option linter.unusedVariables false
set_option linter.unusedSimpArgs false

/-! What a type is. -/
def Sc (P : Program) (t : TypeId) : Prop := ∀ w, (isAgg t).run P w = .ok false w ∧ (sizeOf t).run P w = .ok 1 w
def Ag (P : Program) (t : TypeId) (k : Nat) : Prop := ∀ w, (isAgg t).run P w = .ok true w ∧ (sizeOf t).run P w = .ok k w
def Fld (P : Program) (s : TypeId) (f k : Nat) : Prop := ∀ p o w, (Instr.fieldAt s (.pointer (some ⟨p, o, none⟩)) f).run P w = .ok (.pointer (some ⟨p, o + k, none⟩)) w
def Zr (P : Program) (t : TypeId) (z : Value) : Prop := ∀ w, (zeroValue t).run P w = .ok z w

section
variable {P : Program} {w : World}
theorem ld_run {a : Addr} {v : Value} (hc : w.cell? a = some v) : (load a).run P w = .ok v w := by rw [run_load, hc]
theorem Sc.load {t : TypeId} (h : Sc P t) {p o : Nat} {v : Value} (hc : w.cell? ⟨p, o, none⟩ = some v) : (Instr.loadAt t (.pointer (some ⟨p, o, none⟩))).run P w = .ok v w := by
  have h1 := (h w).1
  simp only [Instr.loadAt, Instr.sureAddr, loadVar, Sem.run_bind, Sem.run_pure, Result.andThen, h1, Bool.false_eq_true, if_false]
  exact ld_run hc
theorem loadCells_run {p o : Nat} : ∀ (vs : List Value) (i : Nat) (acc : Array Value), (∀ j v, vs[j]? = some v → w.cell? ⟨p, o + (i + j), none⟩ = some v) →
    (loadCellsFrom ⟨p, o, none⟩ i vs.length acc).run P w = .ok (acc ++ vs.toArray) w
  | [], i, acc, _ => by simp [loadCellsFrom, Sem.run_pure]
  | v :: vs, i, acc, h => by
    have h0 := h 0 v rfl
    have ih := loadCells_run vs (i + 1) (acc.push v) (fun j u hu => by have := h (j + 1) u (by simpa using hu); rw [show i + 1 + j = i + (j + 1) from by omega]; exact this)
    simp only [List.length_cons, loadCellsFrom, Sem.run_bind, Addr.add_lit]
    rw [ld_run (by simpa using h0)]
    simp only [Result.andThen, ih]
    simp
theorem Ag.load {t : TypeId} {k : Nat} (h : Ag P t k) {p o : Nat} {vs : List Value} (hk : vs.length = k) (hc : LdC w p o vs) : (Instr.loadAt t (.pointer (some ⟨p, o, none⟩))).run P w = .ok (.agg vs.toArray) w := by
  obtain ⟨h1, h2⟩ := h w
  subst hk
  have := loadCells_run (P := P) (w := w) (p := p) (o := o) vs 0 #[] (fun j v hv => by rw [Nat.zero_add]; exact hc j v hv)
  simp only [Instr.loadAt, Instr.sureAddr, loadVar, loadCells, Sem.run_bind, Sem.run_pure, Result.andThen, h1, h2, if_true, this]
  simp
end

/-- A list with others set in, from k on. -/
def setL (cs : List Value) : Nat → List Value → List Value
  | _, [] => cs
  | k, u :: us => setL (cs.set k u) (k + 1) us

theorem storeCells_run {P : Program} {p e : Nat} : ∀ (us : List Value) (i o : Nat) (cs : List Value) (w : World), w.heap[p]? = some (.cells cs.toArray e (0, 0)) → o + i + us.length ≤ cs.length → (∀ u ∈ us, u.oneCell' = true) →
    ∃ w', (storeCells ⟨p, o, none⟩ us i).run P w = .ok () w' ∧ w'.heap[p]? = some (.cells (setL cs (o + i) us).toArray e (0, 0)) ∧ ChgF (fun b => b = p) w w'
  | [], i, o, cs, w, hb, hl, _ => ⟨w, by simp [storeCells, Sem.run_pure], by simpa [setL] using hb, .refl _ _⟩
  | u :: us, i, o, cs, w, hb, hl, ho => by
    simp only [List.length_cons] at hl
    have hc : w.cell? ⟨p, o + i, none⟩ = some (cs.getD (o + i) undef) := by
      simp only [World.cell?, hb]
      simp [List.getD, List.getElem?_eq_getElem (show o + i < cs.length by omega)]
    have hf : w.frozen? ⟨p, o + i, none⟩ = false := by
      simp only [World.frozen?, hb]
      simp
    have hset : (w.setCell ⟨p, o + i, none⟩ u).heap[p]? = some (.cells (cs.set (o + i) u).toArray e (0, 0)) := by
      simp only [World.setCell, Array.getElem?_modify, hb]
      simp
    obtain ⟨w', h1, h2, h3⟩ := storeCells_run us (i + 1) o (cs.set (o + i) u) (w.setCell ⟨p, o + i, none⟩ u) hset (by rw [List.length_set]; omega) (fun v hv => ho v (List.mem_cons_of_mem _ hv))
    refine ⟨w', ?_, by simpa [setL, Nat.add_assoc] using h2, (ChgF.setCell w ⟨p, o + i, none⟩ u).trans h3⟩
    have hst := run_store P w (⟨p, o + i, none⟩ : Addr) u .plain (ho u (List.mem_cons_self ..))
    simp only [storeCells, Sem.run_bind, Addr.add_lit]
    rw [hst]
    simp only [stored, hc, hf, Bool.false_eq_true, if_false, Result.andThen]
    exact h1
theorem storeAt_run {P : Program} {w : World} {t p o k e : Nat} {v : Value} {cs : List Value} (hs : ∀ w, (sizeOf t).run P w = .ok k w) (hv : v.cells.size = k) (hone : ∀ u ∈ v.cells.toList, u.oneCell' = true)
    (hb : w.heap[p]? = some (.cells cs.toArray e (0, 0))) (hl : o + k ≤ cs.length) :
    ∃ w', (Instr.storeAt t (.pointer (some ⟨p, o, none⟩)) v).run P w = .ok () w' ∧ w'.heap[p]? = some (.cells (setL cs o v.cells.toList).toArray e (0, 0)) ∧ ChgF (fun b => b = p) w w' := by
  obtain ⟨w', h1, h2, h3⟩ := storeCells_run (P := P) v.cells.toList 0 o cs w hb (by simp; omega) hone
  refine ⟨w', ?_, by simpa using h2, h3⟩
  simp only [Instr.storeAt, Instr.sureAddr, storeVar, Sem.run_bind, Sem.run_pure, Result.andThen, hs w, hv, ne_eq, not_true_eq_false, if_false]
  exact h1

/-! Numbers. -/
/-- What an operator yields. -/
def BinR (P : Program) (op : BinOp) (t : TypeId) (X Y : Operand) (x y v : Value) : Prop := ∀ w, (do eqGuard op t X Y x y; binOp op t x y : Sem Value).run P w = .ok v w
section
variable {P : Program} {t : TypeId} {X Y : Operand} {x y : Int}
theorem b_add (h : in64 (x + y)) : BinR P .add t X Y (.int .i64 x) (.int .i64 y) (.int .i64 (x + y)) := fun w => by simp [eqGuard, binOp, Op.intArith, Sem.run_bind, Sem.run_pure, Result.andThen, wrap_in64 h]
theorem b_sub (h : in64 (x - y)) : BinR P .sub t X Y (.int .i64 x) (.int .i64 y) (.int .i64 (x - y)) := fun w => by simp [eqGuard, binOp, Op.intArith, Sem.run_bind, Sem.run_pure, Result.andThen, wrap_in64 h]
theorem b_mul (h : in64 (x * y)) : BinR P .mul t X Y (.int .i64 x) (.int .i64 y) (.int .i64 (x * y)) := fun w => by simp [eqGuard, binOp, Op.intArith, Sem.run_bind, Sem.run_pure, Result.andThen, wrap_in64 h]
theorem b_addw : BinR P .add t X Y (.int .i64 x) (.int .i64 y) (.int .i64 (IntKind.i64.wrap (x + y))) := fun w => by simp [eqGuard, binOp, Op.intArith, Sem.run_bind, Sem.run_pure, Result.andThen]
theorem b_mulw : BinR P .mul t X Y (.int .i64 x) (.int .i64 y) (.int .i64 (IntKind.i64.wrap (x * y))) := fun w => by simp [eqGuard, binOp, Op.intArith, Sem.run_bind, Sem.run_pure, Result.andThen]
theorem b_quo (h : y ≠ 0 ∧ in64 (x.tdiv y)) : BinR P .quo t X Y (.int .i64 x) (.int .i64 y) (.int .i64 (x.tdiv y)) := fun w => by simp [eqGuard, binOp, Op.intDiv, Sem.run_bind, Sem.run_pure, Result.andThen, wrap_in64 h.2, h.1]
theorem b_rem (h : y ≠ 0) : BinR P .rem t X Y (.int .i64 x) (.int .i64 y) (.int .i64 (x.tmod y)) := fun w => by simp [eqGuard, binOp, Op.intDiv, Sem.run_bind, Sem.run_pure, Result.andThen, h]
theorem b_and : BinR P .and t X Y (.int .i64 x) (.int .i64 y) (.int .i64 (bits .and .i64 x y)) := fun w => by simp [eqGuard, binOp, Op.intBits, bits, Sem.run_bind, Sem.run_pure, Result.andThen]
theorem b_xor : BinR P .xor t X Y (.int .i64 x) (.int .i64 y) (.int .i64 (bits .xor .i64 x y)) := fun w => by simp [eqGuard, binOp, Op.intBits, bits, Sem.run_bind, Sem.run_pure, Result.andThen]
variable {k : IntKind}
theorem b_eq : BinR P .eql t X Y (.int k x) (.int k y) (.bool (decide (x = y))) := fun w => by simp [eqGuard, binOp, Op.intCmp, Sem.run_bind, Sem.run_pure, Result.andThen]; rfl
theorem b_ne : BinR P .neq t X Y (.int k x) (.int k y) (.bool (!decide (x = y))) := fun w => by simp [eqGuard, binOp, Op.intCmp, Sem.run_bind, Sem.run_pure, Result.andThen, bne]; rfl
theorem b_lt : BinR P .lss t X Y (.int k x) (.int k y) (.bool (decide (x < y))) := fun w => by simp [eqGuard, binOp, Op.intCmp, Sem.run_bind, Sem.run_pure, Result.andThen]
theorem b_le : BinR P .leq t X Y (.int k x) (.int k y) (.bool (decide (x ≤ y))) := fun w => by simp [eqGuard, binOp, Op.intCmp, Sem.run_bind, Sem.run_pure, Result.andThen]
theorem b_gt : BinR P .gtr t X Y (.int k x) (.int k y) (.bool (decide (y < x))) := fun w => by simp [eqGuard, binOp, Op.intCmp, Sem.run_bind, Sem.run_pure, Result.andThen]
theorem b_ge : BinR P .geq t X Y (.int k x) (.int k y) (.bool (decide (y ≤ x))) := fun w => by simp [eqGuard, binOp, Op.intCmp, Sem.run_bind, Sem.run_pure, Result.andThen]
theorem sv_eq (a b : Str) : ((⟨a.toArray⟩ : ByteArray).toList == (⟨b.toArray⟩ : ByteArray).toList) = decide (a = b) := by
  have h : ∀ l : Str, (⟨l.toArray⟩ : ByteArray).toList = l := fun l => by rw [ByteArray.toList_eq]
  rw [h, h]
  by_cases e : a = b <;> simp [e]
theorem beq_dec (a b : Str) : (a == b) = decide (a = b) := by by_cases e : a = b <;> simp [e]
theorem b_seq {a b : Str} : BinR P .eql t X Y (sv a) (sv b) (.bool (decide (a = b))) := fun w => by simp [eqGuard, binOp, Op.stringOp, Sem.run_bind, Sem.run_pure, Result.andThen, sv, sv_eq, beq_dec]
theorem b_sne {a b : Str} : BinR P .neq t X Y (sv a) (sv b) (.bool (!decide (a = b))) := fun w => by simp [eqGuard, binOp, Op.stringOp, Sem.run_bind, Sem.run_pure, Result.andThen, sv, sv_eq, beq_dec]
theorem b_cat {a b : Str} (h : ((a.length + b.length : Nat) : Int) ≤ 9223372036854775807) : BinR P .add t X Y (sv a) (sv b) (sv (a ++ b)) := fun w => by
  have h' : ¬ ((((⟨a.toArray⟩ : ByteArray).size + (⟨b.toArray⟩ : ByteArray).size : Nat) : Int) > IntKind.i64.max) := by
    show ¬ (((a.toArray.size + b.toArray.size : Nat) : Int) > 9223372036854775807)
    simp only [List.size_toArray]; omega
  simp only [eqGuard, binOp, Op.stringOp, sv, Sem.run_bind, Sem.run_pure, Result.andThen, if_neg h', ba_append]
  rfl
theorem b_beq (hu : P.underlying t = some .bool) {a b : Bool} : BinR P .eql t X Y (.bool a) (.bool b) (.bool (a == b)) := fun w => by simp [eqGuard, binOp, run_equal_bool w t a b hu, Sem.run_bind, Sem.run_pure, Result.andThen]
theorem b_bne (hu : P.underlying t = some .bool) {a b : Bool} : BinR P .neq t X Y (.bool a) (.bool b) (.bool (!(a == b))) := fun w => by simp [eqGuard, binOp, bne, run_equal_bool w t a b hu, Sem.run_bind, Sem.run_pure, Result.andThen]
end
section
variable {P : Program} {ops : Array Oper} {Q : Exit → Act → World → Prop} {S : World → Prop} {a : Act} {w : World} {n : Nat} {L : List (Nat × Value)}
  {c : Bool} {rest : List (Bool × Oper)} {ty : TypeId} {pos : String} {aft : Array Edge} {gd : Option (Nat × Bool)} {d : Nat}
theorem wc_bin {o : BinOp} {T T2 : TypeId} {X Y : Operand} {x y v : Value} (HF : Fr a n L) (hS : c = false → S w) (hx : ov L X = some x) (hy : ov L Y = some y) (hb : BinR P o T X Y x y v) (hw : Region.wanted ⟨some d, .binOp o T X Y T2, ty, pos, aft, gd⟩ (yielded ops a.tmps) = true) (hd : Nat.blt d n = true)
    (h : ∀ a', Fr a' n ((d, v) :: L) → wpD P ops Q S rest a' w) : wpD P ops Q S ((c, ⟨some d, .binOp o T X Y T2, ty, pos, aft, gd⟩) :: rest) a w :=
  wc_any HF hS rfl hw hd (fun w _ => by simp only [execOp, HF.ev hx, HF.ev hy]; rw [Sem.run_bind, hb w]; rfl) h
theorem wc_not {T : TypeId} {X : Operand} {b : Bool} (HF : Fr a n L) (hS : c = false → S w) (hx : ov L X = some (.bool b)) (hw : Region.wanted ⟨some d, .unOp .not T X, ty, pos, aft, gd⟩ (yielded ops a.tmps) = true) (hd : Nat.blt d n = true)
    (h : ∀ a', Fr a' n ((d, .bool (!b)) :: L) → wpD P ops Q S rest a' w) : wpD P ops Q S ((c, ⟨some d, .unOp .not T X, ty, pos, aft, gd⟩) :: rest) a w :=
  wc_any HF hS rfl hw hd (fun w _ => by simp [execOp, HF.ev hx, Op.unary, Sem.run_bind, Sem.run_pure, Result.andThen]) h
theorem wc_neg {T : TypeId} {X : Operand} {x : Int} (HF : Fr a n L) (hS : c = false → S w) (hx : ov L X = some (.int .i64 x)) (hr : in64 (0 - x)) (hw : Region.wanted ⟨some d, .unOp .neg T X, ty, pos, aft, gd⟩ (yielded ops a.tmps) = true) (hd : Nat.blt d n = true)
    (h : ∀ a', Fr a' n ((d, .int .i64 (0 - x)) :: L) → wpD P ops Q S rest a' w) : wpD P ops Q S ((c, ⟨some d, .unOp .neg T X, ty, pos, aft, gd⟩) :: rest) a w :=
  wc_any HF hS rfl hw hd (fun w _ => by have hr := wrap_in64 hr; simp only [Int.zero_sub] at hr ⊢; simp [execOp, HF.ev hx, Op.unary, Op.intArith, Sem.run_bind, Sem.run_pure, Result.andThen, hr]) h
theorem wc_extract {X : Operand} {k : Nat} {vs : Array Value} {v : Value} (HF : Fr a n L) (hS : c = false → S w) (hx : ov L X = some (.tuple vs)) (hk : vs[k]? = some v) (hw : Region.wanted ⟨some d, .extract X k, ty, pos, aft, gd⟩ (yielded ops a.tmps) = true) (hd : Nat.blt d n = true)
    (h : ∀ a', Fr a' n ((d, v) :: L) → wpD P ops Q S rest a' w) : wpD P ops Q S ((c, ⟨some d, .extract X k, ty, pos, aft, gd⟩) :: rest) a w :=
  wc_any HF hS rfl hw hd (fun w _ => by simp [execOp, HF.ev hx, Instr.extract, hk, Sem.run_bind, Sem.run_pure, Result.andThen]) h
theorem wc_faddr {s f k p o : Nat} {X : Operand} (HF : Fr a n L) (hS : c = false → S w) (hx : ov L X = some (.pointer (some ⟨p, o, none⟩))) (hf : Fld P s f k) (hw : Region.wanted ⟨some d, .fieldAddr s X f, ty, pos, aft, gd⟩ (yielded ops a.tmps) = true) (hd : Nat.blt d n = true)
    (h : ∀ a', Fr a' n ((d, .pointer (some ⟨p, o + k, none⟩)) :: L) → wpD P ops Q S rest a' w) : wpD P ops Q S ((c, ⟨some d, .fieldAddr s X f, ty, pos, aft, gd⟩) :: rest) a w :=
  wc_any HF hS rfl hw hd (fun w _ => by simp only [execOp, HF.ev hx]; rw [Sem.run_bind, hf p o w]; rfl) h
theorem wc_load {t p o : Nat} {X : Operand} {v : Value} (HF : Fr a n L) (hx : ov L X = some (.pointer (some ⟨p, o, none⟩))) (ht : Sc P t) (hc : w.cell? ⟨p, o, none⟩ = some v) (hw : Region.wanted ⟨some d, .load t X, ty, pos, aft, gd⟩ (yielded ops a.tmps) = true) (hd : Nat.blt d n = true)
    (h : ∀ a', Fr a' n ((d, v) :: L) → wpD P ops Q S rest a' w) : wpD P ops Q S ((true, ⟨some d, .load t X, ty, pos, aft, gd⟩) :: rest) a w :=
  wc_now HF rfl hw hd (by simp only [execOp, HF.ev hx]; rw [Sem.run_bind, ht.load hc]; rfl) h
theorem wc_loadS {t p o : Nat} {X : Operand} {v : Value} (HF : Fr a n L) (hS : S w) (hx : ov L X = some (.pointer (some ⟨p, o, none⟩))) (ht : Sc P t) (hc : ∀ w, S w → w.cell? ⟨p, o, none⟩ = some v) (hw : Region.wanted ⟨some d, .load t X, ty, pos, aft, gd⟩ (yielded ops a.tmps) = true) (hd : Nat.blt d n = true)
    (h : ∀ a', Fr a' n ((d, v) :: L) → wpD P ops Q S rest a' w) : wpD P ops Q S ((false, ⟨some d, .load t X, ty, pos, aft, gd⟩) :: rest) a w :=
  wc_any HF (fun _ => hS) rfl hw hd (fun w hS => by simp only [execOp, HF.ev hx]; rw [Sem.run_bind, ht.load (hc w (hS rfl))]; rfl) h
theorem wc_loadA {t p o k : Nat} {X : Operand} {vs : List Value} (HF : Fr a n L) (hx : ov L X = some (.pointer (some ⟨p, o, none⟩))) (ht : Ag P t k) (hk : vs.length = k) (hc : LdC w p o vs) (hw : Region.wanted ⟨some d, .load t X, ty, pos, aft, gd⟩ (yielded ops a.tmps) = true) (hd : Nat.blt d n = true)
    (h : ∀ a', Fr a' n ((d, .agg vs.toArray) :: L) → wpD P ops Q S rest a' w) : wpD P ops Q S ((true, ⟨some d, .load t X, ty, pos, aft, gd⟩) :: rest) a w :=
  wc_now HF rfl hw hd (by simp only [execOp, HF.ev hx]; rw [Sem.run_bind, ht.load hk hc]; rfl) h
theorem wc_index {t : TypeId} {X I : Operand} {s : Str} {k : IntKind} {i : Int} {x : UInt8} (HF : Fr a n L) (hS : c = false → S w) (hu : P.underlying t = some .string) (hx : ov L X = some (sv s)) (hi : ov L I = some (.int k i)) (hl : at? s i = some x)
    (hw : Region.wanted ⟨some d, .index t X I, ty, pos, aft, gd⟩ (yielded ops a.tmps) = true) (hd : Nat.blt d n = true)
    (h : ∀ a', Fr a' n ((d, .int .u8 (x.toNat : Int)) :: L) → wpD P ops Q S rest a' w) : wpD P ops Q S ((c, ⟨some d, .index t X I, ty, pos, aft, gd⟩) :: rest) a w := by
  obtain ⟨h0, h1⟩ := at?_some hl
  have hlt := (List.getElem?_eq_some_iff.1 h1).1
  refine wc_any HF hS rfl hw hd (fun w _ => ?_) h
  have := idx_str (P := P) hu ⟨s.toArray⟩ k i h0 (show i.toNat < s.toArray.size by simpa using hlt) w
  simp only [execOp, HF.ev hx, HF.ev hi]
  rw [Sem.run_bind, sv, this]
  simp [Result.andThen, Sem.run_pure, List.getD, h1]
theorem wc_ixaddr {E : Type} [Dat E] {t e : TypeId} {z : Value} {bytes m cc : Nat} {X I : Operand} {k : IntKind} {i : Int} {x : E} {l : List E} {b o : Nat} {x1 : Option Addr} (HF : Fr a n L) (hS : c = false → S w) (hE : Elem P t e z (Dat.size E) bytes)
    (hx : ov L X = some (.slice x1 m cc)) (ha : x1 = some ⟨b, o, none⟩) (hm : m = l.length) (hi : ov L I = some (.int k i)) (hl : at? l i = some x)
    (hw : Region.wanted ⟨some d, .indexAddr t X I, ty, pos, aft, gd⟩ (yielded ops a.tmps) = true) (hd : Nat.blt d n = true)
    (h : ∀ a', Fr a' n ((d, .pointer (some ⟨b, o + i.toNat * Dat.size E, none⟩)) :: L) → wpD P ops Q S rest a' w) : wpD P ops Q S ((c, ⟨some d, .indexAddr t X I, ty, pos, aft, gd⟩) :: rest) a w := by
  obtain ⟨h0, h1⟩ := at?_some hl
  have hlt := (List.getElem?_eq_some_iff.1 h1).1
  obtain ⟨inf, hi', hz0, hz1, hz2⟩ := info_parts hE.hi
  refine wc_any HF hS rfl hw hd (fun w _ => ?_) h
  subst hm
  subst ha
  have hlt' : i < (l.length : Int) := by omega
  simp [execOp, HF.ev hx, HF.ev hi, Instr.indexAt, asIntOf, run_underlying hE.ht, Sem.run_bind, Sem.run_pure, Result.andThen, h0, hlt', sizeOf, typeInfo, hi', hz1, Addr.add_lit]
theorem wc_lenS {t : TypeId} {X : Operand} {s : Str} {ats : Array TypeId} (HF : Fr a n L) (hS : c = false → S w) (hu : P.underlying t = some .string) (hx : ov L X = some (sv s))
    (hw : Region.wanted ⟨some d, .call { callee := .builtin .len, args := #[X], argTypes := #[t] }, ty, pos, aft, gd⟩ (yielded ops a.tmps) = true) (hd : Nat.blt d n = true)
    (h : ∀ a', Fr a' n ((d, .int .i64 (s.length : Int)) :: L) → wpD P ops Q S rest a' w) : wpD P ops Q S ((c, ⟨some d, .call { callee := .builtin .len, args := #[X], argTypes := #[t] }, ty, pos, aft, gd⟩) :: rest) a w := by
  refine wc_any HF hS rfl hw hd (fun w _ => ?_) h
  simp [execOp, HF.ev hx, resolve, invoke, builtin, Builtin.len_, run_underlying hu, Sem.run_bind, Sem.run_pure, Result.andThen, goInt, sv]
  rfl
theorem wc_lenR {t e : TypeId} {X : Operand} {x : Option Addr} {m cc : Nat} (HF : Fr a n L) (hS : c = false → S w) (hu : P.underlying t = some (.slice e)) (hx : ov L X = some (.slice x m cc))
    (hw : Region.wanted ⟨some d, .call { callee := .builtin .len, args := #[X], argTypes := #[t] }, ty, pos, aft, gd⟩ (yielded ops a.tmps) = true) (hd : Nat.blt d n = true)
    (h : ∀ a', Fr a' n ((d, .int .i64 (m : Int)) :: L) → wpD P ops Q S rest a' w) : wpD P ops Q S ((c, ⟨some d, .call { callee := .builtin .len, args := #[X], argTypes := #[t] }, ty, pos, aft, gd⟩) :: rest) a w := by
  refine wc_any HF hS rfl hw hd (fun w _ => ?_) h
  simp [execOp, HF.ev hx, resolve, invoke, builtin, Builtin.len_, run_underlying hu, Sem.run_bind, Sem.run_pure, Result.andThen, goInt]
end
end Go.Proofs.Ytpbfppelmgjfpaa
