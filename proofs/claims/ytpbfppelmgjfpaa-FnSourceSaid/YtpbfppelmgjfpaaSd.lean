/- Typed data as trees; what a state tells of its resources. Generic: no program is named. -/
import Derived.Test.YtpbfppelmgjfpaaSp
namespace Go.Proofs.Ytpbfppelmgjfpaa
open Go Go.RowKit
set_option linter.unusedVariables false
set_option linter.unusedSimpArgs false

def T.one : T → Bool
  | .lit u => u.oneCell'
  | .row .. => true

/-- Elements of slices: so many cells, each a tree. -/
class Dat (E : Type) where
  size : Nat
  pos : 0 < size
  tree : E → List T
  len : ∀ x, (tree x).length = size
  one : ∀ x, ∀ t ∈ tree x, t.one = true

def rowT {E : Type} [Dat E] (l : List E) : T := .row (Dat.size E) l.length (l.flatMap Dat.tree)

instance : Dat Int := ⟨1, by decide, fun x => [.lit (.int .i64 x)], fun _ => rfl, fun _ t h => by simp at h; subst h; rfl⟩
instance : Dat UInt8 := ⟨1, by decide, fun x => [.lit (.int .u8 x.toNat)], fun _ => rfl, fun _ t h => by simp at h; subst h; rfl⟩
instance : Dat Bool := ⟨1, by decide, fun x => [.lit (.bool x)], fun _ => rfl, fun _ t h => by simp at h; subst h; rfl⟩
/-- Strings, as lists of bytes. -/
abbrev Str := List UInt8
def sv (s : Str) : Value := .string ⟨s.toArray⟩
/-- Strings as elements (a type of its own, for a list of bytes is also a slice of bytes). -/
structure SE where
  s : Str
  deriving DecidableEq
instance : Dat SE := ⟨1, by decide, fun x => [.lit (sv x.s)], fun _ => rfl, fun _ t h => by simp at h; subst h; rfl⟩
instance : Dat I2 := ⟨2, by decide, fun x => [.lit (.int .i64 x.a), .lit (.int .i64 x.b)], fun _ => rfl, fun _ t h => by simp at h; rcases h with h | h <;> subst h <;> rfl⟩
instance : Dat I3 := ⟨3, by decide, fun x => [.lit (.int .i64 x.a), .lit (.int .i64 x.b), .lit (.int .i64 x.c)], fun _ => rfl, fun _ t h => by simp at h; rcases h with h | h | h <;> subst h <;> rfl⟩
instance : Dat I4 := ⟨4, by decide, fun x => [.lit (.int .i64 x.a), .lit (.int .i64 x.b), .lit (.int .i64 x.c), .lit (.int .i64 x.d)], fun _ => rfl, fun _ t h => by simp at h; rcases h with h | h | h | h <;> subst h <;> rfl⟩
/-- impl.Kid. -/
structure KidD where
  code : List I4
  deriving DecidableEq
instance : Dat KidD := ⟨1, by decide, fun x => [rowT x.code], fun _ => rfl, fun _ t h => by simp at h; subst h; rfl⟩
/-- impl.Order. -/
structure OrdD where
  kids : List Int
  deriving DecidableEq
instance : Dat OrdD := ⟨1, by decide, fun x => [rowT x.kids], fun _ => rfl, fun _ t h => by simp at h; subst h; rfl⟩
/-- impl.Prog. -/
structure ProgD where
  code : List I4
  kids : List KidD
  deriving DecidableEq
instance : Dat ProgD := ⟨2, by decide, fun x => [rowT x.code, rowT x.kids], fun _ => rfl, fun _ t h => by simp at h; rcases h with h | h <;> subst h <;> rfl⟩
/-- impl.Run. -/
structure RunD where
  out : Int
  regs : List Int
  cells : List Int
  map : List Int
  count : Int
  deriving DecidableEq
instance : Dat RunD := ⟨5, by decide, fun x => [.lit (.int .i64 x.out), rowT x.regs, rowT x.cells, rowT x.map, .lit (.int .i64 x.count)], fun _ => rfl, fun _ t h => by simp at h; rcases h with h | h | h | h | h <;> subst h <;> rfl⟩
/-- What was when a block was opened. -/
structure MarkD where
  at_ : Int
  regs : List Int
  cells : List Int
  map : List Int
  count : Int
  deriving DecidableEq
instance : Dat MarkD := ⟨5, by decide, fun x => [.lit (.int .i64 x.at_), rowT x.regs, rowT x.cells, rowT x.map, .lit (.int .i64 x.count)], fun _ => rfl, fun _ t h => by simp at h; rcases h with h | h | h | h | h <;> subst h <;> rfl⟩

section
variable {E : Type} [Dat E]
theorem flat_len (l : List E) : (l.flatMap Dat.tree).length = l.length * Dat.size E := by
  induction l with
  | nil => simp
  | cons x l ih => simp only [List.flatMap_cons, List.length_append, ih, Dat.len, List.length_cons]; rw [Nat.add_mul]; omega
theorem flat_one (l : List E) : ∀ t ∈ l.flatMap (Dat.tree (E := E)), t.one = true := by
  intro t h
  obtain ⟨x, _, hx⟩ := List.mem_flatMap.1 h
  exact Dat.one x t hx
omit [Dat E] in
theorem flat_cut (l : List E) (i : Nat) (x : E) (h : l[i]? = some x) : ∃ p q, l = p ++ x :: q ∧ p.length = i := by
  have hlt := (List.getElem?_eq_some_iff.1 h).1
  refine ⟨l.take i, l.drop (i + 1), ?_, by simp; omega⟩
  have := (List.getElem?_eq_some_iff.1 h).2
  rw [← this]
  simp
end

theorem OwnTs.one {w : World} : ∀ {ts : List T} {vs : List Value} {F : Foot}, OwnTs w ts vs F → (∀ t ∈ ts, t.one = true) → ∀ v ∈ vs, v.oneCell' = true
  | [], vs, F, h, _ => by simp only [OwnTs] at h; simp [h.1]
  | x :: xs, vs, F, h, k => by
    simp only [OwnTs] at h
    obtain ⟨v, vs', F1, F2, h1, h2, h3, _⟩ := h
    subst h1
    intro u hu
    rcases List.mem_cons.1 hu with hu | hu
    · subst hu
      have := k x (List.mem_cons_self ..)
      cases x with
      | lit y => simp only [OwnT] at h2; rw [h2.1]; exact this
      | row size n ys =>
        simp only [OwnT] at h2
        obtain ⟨e, vs, F2, k1, _⟩ := h2
        rcases k1.2 with ⟨rfl, _⟩ | ⟨g, cap, cur, rfl, _⟩ <;> rfl
    · exact h3.one (fun t ht => k t (List.mem_cons_of_mem _ ht)) u hu
theorem RdTs.one {A : Foot} {w : World} : ∀ {ts : List T} {vs : List Value}, RdTs A w ts vs → (∀ t ∈ ts, t.one = true) → ∀ v ∈ vs, v.oneCell' = true
  | [], vs, h, _ => by simp only [RdTs] at h; simp [h]
  | x :: xs, vs, h, k => by
    simp only [RdTs] at h
    obtain ⟨v, vs', h1, h2, h3⟩ := h
    subst h1
    intro u hu
    rcases List.mem_cons.1 hu with hu | hu
    · subst hu
      have := k x (List.mem_cons_self ..)
      cases x with
      | lit y => simp only [RdT] at h2; rw [h2]; exact this
      | row size n ys =>
        simp only [RdT] at h2
        obtain ⟨_, a, c, rfl, _⟩ := h2
        rfl
    · exact h3.one (fun t ht => k t (List.mem_cons_of_mem _ ht)) u hu

/-- Trees of scalars. -/
def T.lits : List T → Option (List Value)
  | [] => some []
  | .lit u :: ts => match T.lits ts with | some vs => some (u :: vs) | none => none
  | .row .. :: _ => none
theorem lits_own {w : World} : ∀ {ts : List T} {vs : List Value}, T.lits ts = some vs → ∀ {us : List Value} {F : Foot}, OwnTs w ts us F ↔ us = vs ∧ ∀ b, ¬ F b
  | [], vs, h, us, F => by simp only [T.lits, Option.some.injEq] at h; subst h; simp [OwnTs]
  | .lit u :: ts, vs, h, us, F => by
    simp only [T.lits] at h
    cases h' : T.lits ts with
    | none => rw [h'] at h; cases h
    | some vs' =>
      rw [h'] at h
      simp only [Option.some.injEq] at h
      subst h
      simp only [OwnTs, OwnT]
      constructor
      · rintro ⟨v, vs1, F1, F2, rfl, ⟨rfl, k1⟩, k2, k3, _⟩
        obtain ⟨rfl, k4⟩ := (lits_own h').1 k2
        exact ⟨rfl, fun b hb => ((k3 b).1 hb).elim (k1 b) (k4 b)⟩
      · rintro ⟨rfl, k⟩
        exact ⟨u, vs', fun _ => False, F, rfl, ⟨rfl, fun _ f => f⟩, (lits_own h').2 ⟨rfl, k⟩, fun b => by simp, fun b f => f.elim⟩
  | .row .. :: _, vs, h, us, F => by simp [T.lits] at h
theorem lits_rd {A : Foot} {w : World} : ∀ {ts : List T} {vs : List Value}, T.lits ts = some vs → ∀ {us : List Value}, RdTs A w ts us ↔ us = vs
  | [], vs, h, us => by simp only [T.lits, Option.some.injEq] at h; subst h; simp [RdTs]
  | .lit u :: ts, vs, h, us => by
    simp only [T.lits] at h
    cases h' : T.lits ts with
    | none => rw [h'] at h; cases h
    | some vs' =>
      rw [h'] at h
      simp only [Option.some.injEq] at h
      subst h
      simp only [RdTs, RdT]
      constructor
      · rintro ⟨v, vs1, rfl, rfl, k2⟩
        rw [(lits_rd h').1 k2]
      · rintro rfl
        exact ⟨u, vs', rfl, rfl, (lits_rd h').2 rfl⟩
  | .row .. :: _, vs, h, us => by simp [T.lits] at h

/-- Elements that are scalars alone. -/
class Flat (E : Type) [Dat E] where
  cells : E → List Value
  ok : ∀ x : E, T.lits (Dat.tree x) = some (cells x)
instance : Flat Int := ⟨fun x => [.int .i64 x], fun _ => rfl⟩
instance : Flat UInt8 := ⟨fun x => [.int .u8 x.toNat], fun _ => rfl⟩
instance : Flat Bool := ⟨fun x => [.bool x], fun _ => rfl⟩
instance : Flat SE := ⟨fun x => [sv x.s], fun _ => rfl⟩
instance : Flat I2 := ⟨fun x => [.int .i64 x.a, .int .i64 x.b], fun _ => rfl⟩
instance : Flat I3 := ⟨fun x => [.int .i64 x.a, .int .i64 x.b, .int .i64 x.c], fun _ => rfl⟩
instance : Flat I4 := ⟨fun x => [.int .i64 x.a, .int .i64 x.b, .int .i64 x.c, .int .i64 x.d], fun _ => rfl⟩
theorem lits_append : ∀ {ts us : List T} {vs ws : List Value}, T.lits ts = some vs → T.lits us = some ws → T.lits (ts ++ us) = some (vs ++ ws)
  | [], us, vs, ws, h, k => by simp only [T.lits, Option.some.injEq] at h; subst h; simpa using k
  | .lit u :: ts, us, vs, ws, h, k => by
    simp only [T.lits] at h
    cases h' : T.lits ts with
    | none => rw [h'] at h; cases h
    | some vs' =>
      rw [h'] at h
      simp only [Option.some.injEq] at h
      subst h
      simp [T.lits, lits_append h' k]
  | .row .. :: _, us, vs, ws, h, k => by simp [T.lits] at h
theorem flat_lits {E : Type} [Dat E] [Flat E] (l : List E) : T.lits (l.flatMap (Dat.tree (E := E))) = some (l.flatMap (Flat.cells (E := E))) := by
  induction l with
  | nil => rfl
  | cons x l ih => simp only [List.flatMap_cons]; exact lits_append (Flat.ok x) ih

/-- Element i, if there is one. -/
def at? {E : Type} (l : List E) (i : Int) : Option E := if 0 ≤ i then l[i.toNat]? else none
theorem at?_some {E : Type} {l : List E} {i : Int} {x : E} (h : at? l i = some x) : 0 ≤ i ∧ l[i.toNat]? = some x := by
  unfold at? at h
  split at h
  · exact ⟨‹_›, h⟩
  · cases h
section
variable {w0 w w' : World} {G : Foot} {L L' A B : List Res} {r : Res}
/-- What was read at the beginning, on blocks that are not to be turned, reads so still. -/
theorem St.ro (h : St w0 G w L) {t : T} {v : Value} (k : RdT (fun b => ¬ G b) w0 t v) : RdT (fun b => b < w0.heap.size ∧ ¬ G b) w t v :=
  k.loc t fun b h1 h2 => ⟨⟨h2, h1⟩, Nat.lt_of_lt_of_le h2 h.1.size, h.1.block b h2 h1⟩
theorem RdT.any {P : Foot} {t : T} {v : Value} (h : RdT P w t v) : RdT (fun b => ¬ False) w t v := h.mono fun _ _ _ => id
/-- A variable's cells. -/
theorem St.box {p : Nat} {cs : List Value} (h : St w0 G w (Box p cs :: L)) : LdC w p 0 cs := by
  obtain ⟨F, ⟨_, e, hb⟩, _⟩ := h.fact
  intro j v hv
  simp only [Nat.zero_add, World.cell?, hb]
  simpa using hv
theorem St.rd {e : TypeId} {t : T} {v : Value} (h : St w0 G w (Own e t v :: L)) : RdT (fun b => ¬ False) w t v := by
  obtain ⟨F, hF, _⟩ := h.fact
  exact (OwnT.rd t hF.any).any
theorem LdC.get {p o : Nat} {vs : List Value} (h : LdC w p o vs) (j : Nat) {v : Value} (hv : vs[j]? = some v) : w.cell? ⟨p, o + j, none⟩ = some v := h j v hv
theorem LdC.below {p o : Nat} {vs : List Value} (h : LdC w p o vs) (k : Below w.heap.size w w') : LdC w' p o vs := by
  intro j v hv
  have := h j v hv
  rw [k.cell (World.block_lt_of_cell? w _ this)]
  exact this

/-- An element of a slice that reads. -/
theorem RdT.elem {E : Type} [Dat E] {P : Foot} {l : List E} {a : Option Addr} {n c : Nat} (h : RdT P w (rowT l) (.slice a n c)) (i : Nat) {x : E} (hx : l[i]? = some x) :
    ∃ b o vs, a = some ⟨b, o, none⟩ ∧ P b ∧ b < w.heap.size ∧ LdC w b (o + i * Dat.size E) vs ∧ RdTs P w (Dat.tree x) vs := by
  simp only [rowT, RdT] at h
  obtain ⟨h0, a', c', h1, h2, h3⟩ := h
  have hlt := (List.getElem?_eq_some_iff.1 hx).1
  rcases h3 with h3 | ⟨b, o, vs, h4, h5, h6, h7, h8⟩
  · omega
  · simp only [Value.slice.injEq] at h1
    obtain ⟨rfl, rfl, rfl⟩ := h1
    obtain ⟨p, q, rfl, rfl⟩ := flat_cut l i x hx
    rw [List.flatMap_append, List.flatMap_cons] at h8
    obtain ⟨v1, v2, rfl, k1, k2⟩ := h8.split
    obtain ⟨v3, v4, rfl, k3, k4⟩ := k2.split
    refine ⟨b, o, v3, h4, h5, h6, fun j u hu => ?_, k3⟩
    have hl : v1.length = p.length * Dat.size E := by rw [k1.length, flat_len]
    have := h7 (v1.length + j) u (by rw [List.getElem?_append_right (by omega), Nat.add_sub_cancel_left, List.getElem?_append_left (List.getElem?_eq_some_iff.1 hu).1]; exact hu)
    rw [hl] at this
    rw [Nat.add_assoc]
    exact this
theorem RdT.len {E : Type} [Dat E] {P : Foot} {l : List E} {v : Value} (h : RdT P w (rowT l) v) : ∃ a c, v = .slice a l.length c ∧ l.length ≤ c := by
  simp only [rowT, RdT] at h
  obtain ⟨_, a, c, h1, h2, _⟩ := h
  exact ⟨a, c, h1, h2⟩
/-- A cut of a slice that reads. -/
theorem RdT.cut {E : Type} [Dat E] {P : Foot} {l : List E} {a : Option Addr} {n c : Nat} (h : RdT P w (rowT l) (.slice a n c)) (i j : Nat) (hi : i ≤ j) (hj : j ≤ l.length) :
    RdT P w (rowT ((l.drop i).take (j - i))) (.slice (if c = i then a else a.map (·.add (i * Dat.size E))) (j - i) (c - i)) := by
  simp only [rowT, RdT] at h ⊢
  obtain ⟨h0, a', c', h1, h2, h3⟩ := h
  have hl : ((l.drop i).take (j - i)).length = j - i := by simp; omega
  simp only [Value.slice.injEq] at h1
  obtain ⟨rfl, rfl, rfl⟩ := h1
  refine ⟨flat_len _, _, _, by rw [hl], by rw [hl]; omega, ?_⟩
  rw [hl]
  rcases h3 with h3 | ⟨b, o, vs, h4, h5, h6, h7, h8⟩
  · exact .inl (by omega)
  · by_cases hz : j - i = 0
    · exact .inl hz
    · have hc : ¬ c = i := by omega
      subst h4
      have e : l = l.take i ++ ((l.drop i).take (j - i) ++ l.drop j) := by
        rw [← List.append_assoc]
        have : (l.drop i).take (j - i) = (l.take j).drop i := by rw [List.drop_take]
        rw [this]
        have k : l.take i = (l.take j).take i := by rw [List.take_take]; congr 1; omega
        rw [k, List.take_append_drop, List.take_append_drop]
      rw [e, List.flatMap_append, List.flatMap_append] at h8
      obtain ⟨v1, v2, rfl, k1, k2⟩ := h8.split
      obtain ⟨v3, v4, rfl, k3, k4⟩ := k2.split
      have hl1 : v1.length = i * Dat.size E := by rw [k1.length, flat_len, List.length_take, Nat.min_eq_left (by omega)]
      refine .inr ⟨b, o + i * Dat.size E, v3, ?_, h5, h6, fun t u hu => ?_, k3⟩
      · rw [if_neg hc]; simp [Addr.add_lit]
      · have := h7 (v1.length + t) u (by rw [List.getElem?_append_right (by omega), Nat.add_sub_cancel_left, List.getElem?_append_left (List.getElem?_eq_some_iff.1 hu).1]; exact hu)
        rw [hl1] at this
        rw [Nat.add_assoc]
        exact this

theorem pick_get : ∀ {L : List Res} {i : Nat} {r : Res}, L[i]? = some r → ∃ M, pick L i = r :: M
  | [], i, r, h => by simp at h
  | x :: L, 0, r, h => by simp at h; subst h; exact ⟨L, rfl⟩
  | x :: L, i + 1, r, h => by
    obtain ⟨M, hM⟩ := pick_get (L := L) (i := i) (by simpa using h)
    exact ⟨x :: M, by simp only [pick, hM]⟩
theorem St.boxAt (h : St w0 G w L) (i : Nat) {p : Nat} {cs : List Value} (hi : L[i]? = some (Box p cs)) : LdC w p 0 cs := by
  obtain ⟨M, hM⟩ := pick_get hi
  have := h.pick i
  rw [hM] at this
  exact this.box
theorem St.rdAt (h : St w0 G w L) (i : Nat) {e : TypeId} {t : T} {v : Value} (hi : L[i]? = some (Own e t v)) : RdT (fun b => ¬ False) w t v := by
  obtain ⟨M, hM⟩ := pick_get hi
  have := h.pick i
  rw [hM] at this
  exact this.rd
theorem St.take (h : St w0 G w L) (k : Nat) : St w0 G w (L.take k) := by
  have : St w0 G w (L.take k ++ L.drop k) := by rw [List.take_append_drop]; exact h
  exact this.left
theorem LdC.part {p o : Nat} {vs : List Value} (h : LdC w p o vs) (k m : Nat) : LdC w p (o + k) ((vs.drop k).take m) := by
  intro j v hv
  rw [List.getElem?_take] at hv
  split at hv
  · rw [List.getElem?_drop] at hv
    rw [Nat.add_assoc]
    exact h (k + j) v hv
  · cases hv
theorem St.roLd (h : St w0 G w L) {b o : Nat} {vs : List Value} (hg : ¬ G b) (hc : LdC w0 b o vs) : LdC w b o vs := by
  intro j v hv
  have h0 := hc j v hv
  have hlt := World.block_lt_of_cell? w0 _ h0
  exact (World.cell?_of_block (a := ⟨b, o + j, none⟩) (h.1.block b hlt hg)).trans h0
theorem RdT.neq {E : Type} [Dat E] {P : Foot} {l : List E} {a : Option Addr} {n c : Nat} (h : RdT P w (rowT l) (.slice a n c)) : n = l.length := by
  simp only [rowT, RdT] at h
  obtain ⟨_, a', c', h1, _⟩ := h
  simp only [Value.slice.injEq] at h1
  exact h1.2.1
theorem RdT.addr {E : Type} [Dat E] {P : Foot} {l : List E} {a : Option Addr} {n c : Nat} {i : Int} {x : E} (h : RdT P w (rowT l) (.slice a n c)) (hx : at? l i = some x) : ∃ b o, a = some ⟨b, o, none⟩ := by
  obtain ⟨b, o, vs, h1, _⟩ := h.elem i.toNat (at?_some hx).2
  exact ⟨b, o, h1⟩
theorem RdT.elemAt {E : Type} [Dat E] {P : Foot} {l : List E} {b o n c : Nat} {i : Int} {x : E} {a : Option Addr} (h : RdT P w (rowT l) (.slice a n c)) (ha : a = some ⟨b, o, none⟩) (hx : at? l i = some x) :
    ∃ vs, P b ∧ LdC w b (o + i.toNat * Dat.size E) vs ∧ RdTs P w (Dat.tree x) vs := by
  subst ha
  obtain ⟨b', o', vs, h1, h2, _, h4, h5⟩ := h.elem i.toNat (at?_some hx).2
  simp only [Option.some.injEq, Addr.mk.injEq, and_true] at h1
  obtain ⟨rfl, rfl⟩ := h1
  exact ⟨vs, h2, h4, h5⟩
theorem RdT.flatAt {E : Type} [Dat E] [Flat E] {P : Foot} {l : List E} {b o n c : Nat} {i : Int} {x : E} {a : Option Addr} (h : RdT P w (rowT l) (.slice a n c)) (ha : a = some ⟨b, o, none⟩) (hx : at? l i = some x) :
    LdC w b (o + i.toNat * Dat.size E) (Flat.cells x) := by
  obtain ⟨vs, _, h1, h2⟩ := h.elemAt ha hx
  rw [lits_rd (Flat.ok x)] at h2
  subst h2
  exact h1
theorem rd_nil {E : Type} [Dat E] (P : Foot) (w : World) : RdT P w (rowT ([] : List E)) (.slice none 0 0) := by
  simp only [rowT, RdT]
  exact ⟨by simp, none, 0, rfl, Nat.le_refl _, .inl rfl⟩
/-! The cells of elements that hold slices. -/
theorem cells_Kid {P : Foot} {x : KidD} {vs : List Value} (h : RdTs P w (Dat.tree x) vs) : ∃ a c, vs = [.slice a x.code.length c] ∧ RdT P w (rowT x.code) (.slice a x.code.length c) := by
  simp only [Dat.tree, RdTs] at h
  obtain ⟨v, _, rfl, h1, rfl⟩ := h
  obtain ⟨a, c, rfl, _⟩ := h1.len
  exact ⟨a, c, rfl, h1⟩
end
end Go.Proofs.Ytpbfppelmgjfpaa
