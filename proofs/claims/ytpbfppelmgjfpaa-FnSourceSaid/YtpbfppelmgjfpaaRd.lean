/- Reading a slice whose cells lie in blocks that a call found. Generic: no program is named. -/
import Derived.Test.YtpbfppelmgjfpaaBase
namespace Go.Proofs.Ytpbfppelmgjfpaa
open Go Go.RowKit

/-- A slice value of address a and n elements of so many cells reads, in w, as the cells xs. -/
def Rd (w : World) (size : Nat) (a : Option Addr) (n : Nat) (xs : List Value) : Prop :=
  xs.length = n * size ∧ (0 < n → ∃ b o, a = some ⟨b, o, none⟩ ∧ ∀ j u, xs[j]? = some u → w.cell? ⟨b, o + j, none⟩ = some u)

theorem Rd.below {w w' : World} {size : Nat} {a : Option Addr} {n : Nat} {xs : List Value} (h : Rd w size a n xs) (hb : Below w.heap.size w w') : Rd w' size a n xs := by
  refine ⟨h.1, fun hn => ?_⟩
  obtain ⟨b, o, ha, hc⟩ := h.2 hn
  refine ⟨b, o, ha, fun j u hu => ?_⟩
  have h1 := hc j u hu
  have hlt := World.block_lt_of_cell? w _ h1
  rw [hb.cell hlt]
  exact h1

theorem Rd.lt {w : World} {size : Nat} {b o n : Nat} {xs : List Value} (h : Rd w size (some ⟨b, o, none⟩) n xs) (hn : 0 < n) (hs : 0 < size) : b < w.heap.size := by
  obtain ⟨b', o', ha, hc⟩ := h.2 hn
  simp only [Option.some.injEq, Addr.mk.injEq, and_true] at ha
  obtain ⟨rfl, rfl⟩ := ha
  have hl : 0 < xs.length := by rw [h.1]; exact Nat.mul_pos hn hs
  exact World.block_lt_of_cell? w _ (hc 0 _ (List.getElem?_eq_getElem hl))

theorem Rd.nil (w : World) (size : Nat) (a : Option Addr) : Rd w size a 0 [] := ⟨by simp, fun h => by omega⟩

/-- A cut of it. -/
theorem Rd.cut {w : World} {size : Nat} {b o n : Nat} {xs : List Value} (h : Rd w size (some ⟨b, o, none⟩) n xs) (i j : Nat) (hj : j ≤ n) (hn : 0 < n) :
    Rd w size (some ⟨b, o + i * size, none⟩) (j - i) ((xs.drop (i * size)).take ((j - i) * size)) := by
  obtain ⟨b', o', ha, hc⟩ := h.2 hn
  simp only [Option.some.injEq, Addr.mk.injEq, and_true] at ha
  obtain ⟨rfl, rfl⟩ := ha
  refine ⟨?_, fun _ => ⟨b, _, rfl, fun t u hu => ?_⟩⟩
  · have h1 : j * size ≤ n * size := Nat.mul_le_mul_right _ hj
    have h2 : (j - i) * size = j * size - i * size := Nat.sub_mul _ _ _
    simp only [List.length_take, List.length_drop, h.1]
    omega
  · rw [List.getElem?_take] at hu
    split at hu
    · rw [List.getElem?_drop] at hu
      rw [Nat.add_assoc]
      exact hc _ u hu
    · cases hu

/-- What is owned stays owned where no block that stood has turned. -/
theorem _root_.Go.World.ownsRow.below {w w' : World} {B : Nat} {e : TypeId} {size : Nat} {v : Value} {n : Nat} {xs : List Value} (h : w.ownsRow B e size v n xs) (hb : Below w.heap.size w w') : w'.ownsRow B e size v n xs := by
  refine ⟨h.1, ?_⟩
  rcases h.2 with h1 | ⟨g, cap, cur, hv, hB, hg, r⟩
  · exact .inl h1
  · refine .inr ⟨g, cap, cur, hv, hB, ?_, r⟩
    rw [hb.block g (Array.getElem?_eq_some_iff.1 hg).1]
    exact hg

/-! Ints -/
def iCells (l : List Int) : List Value := l.map (Value.int .i64)
theorem Rd.int {w : World} {a : Option Addr} {n : Nat} {l : List Int} (h : Rd w 1 a n (iCells l)) : n = l.length := by have := h.1; simp [iCells] at this; omega
theorem Rd.addr {w : World} {size : Nat} {a : Option Addr} {n : Nat} {xs : List Value} (h : Rd w size a n xs) (hn : 0 < n) : ∃ b o, a = some ⟨b, o, none⟩ := by
  obtain ⟨b, o, ha, _⟩ := h.2 hn
  exact ⟨b, o, ha⟩

/-! Records of 2 ints -/
structure I2 where
  a : Int
  b : Int
  deriving DecidableEq
def I2.cells (x : I2) : List Value := [.int .i64 x.a, .int .i64 x.b]
def c2 (l : List I2) : List Value := l.flatMap I2.cells
theorem c2_length (l : List I2) : (c2 l).length = l.length * 2 := by
  induction l with
  | nil => rfl
  | cons x l ih => simp only [c2, List.flatMap_cons, List.length_append, List.length_cons] at *; rw [ih]; simp [I2.cells]; omega
theorem c2_get (l : List I2) (k : Nat) (x : I2) (h : l[k]? = some x) :
    (c2 l)[k * 2]? = some (.int .i64 x.a) ∧ (c2 l)[k * 2 + 1]? = some (.int .i64 x.b) := by
  induction l generalizing k with
  | nil => simp at h
  | cons y l ih =>
    cases k with
    | zero => simp at h; subst h; simp [c2, I2.cells]
    | succ k =>
      have := ih k (by simpa using h)
      rw [show (k + 1) * 2 = k * 2 + 2 from by omega]
      simpa [c2, I2.cells] using this
theorem Rd.n2 {w : World} {a : Option Addr} {n : Nat} {l : List I2} (h : Rd w 2 a n (c2 l)) : n = l.length := by have := h.1; rw [c2_length] at this; omega
theorem Rd.at2 {w : World} {b o n : Nat} {l : List I2} (h : Rd w 2 (some ⟨b, o, none⟩) n (c2 l)) (k : Nat) (x : I2) (hk : l[k]? = some x) :
    w.cell? ⟨b, o + k * 2, none⟩ = some (.int .i64 x.a) ∧ w.cell? ⟨b, o + k * 2 + 1, none⟩ = some (.int .i64 x.b) := by
  have hn := h.n2
  have hlt : k < l.length := (List.getElem?_eq_some_iff.1 hk).1
  obtain ⟨b', o', ha, hc⟩ := h.2 (by omega)
  simp only [Option.some.injEq, Addr.mk.injEq, and_true] at ha
  obtain ⟨rfl, rfl⟩ := ha
  have hg := c2_get l k x hk
  exact ⟨hc _ _ hg.1, hc _ _ hg.2⟩

/-! Records of 3 ints -/
structure I3 where
  a : Int
  b : Int
  c : Int
  deriving DecidableEq
def I3.cells (x : I3) : List Value := [.int .i64 x.a, .int .i64 x.b, .int .i64 x.c]
def c3 (l : List I3) : List Value := l.flatMap I3.cells
theorem c3_length (l : List I3) : (c3 l).length = l.length * 3 := by
  induction l with
  | nil => rfl
  | cons x l ih => simp only [c3, List.flatMap_cons, List.length_append, List.length_cons] at *; rw [ih]; simp [I3.cells]; omega
theorem c3_get (l : List I3) (k : Nat) (x : I3) (h : l[k]? = some x) :
    (c3 l)[k * 3]? = some (.int .i64 x.a) ∧ (c3 l)[k * 3 + 1]? = some (.int .i64 x.b) ∧ (c3 l)[k * 3 + 2]? = some (.int .i64 x.c) := by
  induction l generalizing k with
  | nil => simp at h
  | cons y l ih =>
    cases k with
    | zero => simp at h; subst h; simp [c3, I3.cells]
    | succ k =>
      have := ih k (by simpa using h)
      rw [show (k + 1) * 3 = k * 3 + 3 from by omega]
      simpa [c3, I3.cells] using this
theorem Rd.n3 {w : World} {a : Option Addr} {n : Nat} {l : List I3} (h : Rd w 3 a n (c3 l)) : n = l.length := by have := h.1; rw [c3_length] at this; omega
theorem Rd.at3 {w : World} {b o n : Nat} {l : List I3} (h : Rd w 3 (some ⟨b, o, none⟩) n (c3 l)) (k : Nat) (x : I3) (hk : l[k]? = some x) :
    w.cell? ⟨b, o + k * 3, none⟩ = some (.int .i64 x.a) ∧ w.cell? ⟨b, o + k * 3 + 1, none⟩ = some (.int .i64 x.b) ∧ w.cell? ⟨b, o + k * 3 + 2, none⟩ = some (.int .i64 x.c) := by
  have hn := h.n3
  have hlt : k < l.length := (List.getElem?_eq_some_iff.1 hk).1
  obtain ⟨b', o', ha, hc⟩ := h.2 (by omega)
  simp only [Option.some.injEq, Addr.mk.injEq, and_true] at ha
  obtain ⟨rfl, rfl⟩ := ha
  have hg := c3_get l k x hk
  exact ⟨hc _ _ hg.1, hc _ _ hg.2.1, hc _ _ hg.2.2⟩

/-! Records of 4 ints -/
structure I4 where
  a : Int
  b : Int
  c : Int
  d : Int
  deriving DecidableEq
def I4.cells (x : I4) : List Value := [.int .i64 x.a, .int .i64 x.b, .int .i64 x.c, .int .i64 x.d]
def c4 (l : List I4) : List Value := l.flatMap I4.cells
theorem c4_length (l : List I4) : (c4 l).length = l.length * 4 := by
  induction l with
  | nil => rfl
  | cons x l ih => simp only [c4, List.flatMap_cons, List.length_append, List.length_cons] at *; rw [ih]; simp [I4.cells]; omega
theorem c4_get (l : List I4) (k : Nat) (x : I4) (h : l[k]? = some x) :
    (c4 l)[k * 4]? = some (.int .i64 x.a) ∧ (c4 l)[k * 4 + 1]? = some (.int .i64 x.b) ∧ (c4 l)[k * 4 + 2]? = some (.int .i64 x.c) ∧ (c4 l)[k * 4 + 3]? = some (.int .i64 x.d) := by
  induction l generalizing k with
  | nil => simp at h
  | cons y l ih =>
    cases k with
    | zero => simp at h; subst h; simp [c4, I4.cells]
    | succ k =>
      have := ih k (by simpa using h)
      rw [show (k + 1) * 4 = k * 4 + 4 from by omega]
      simpa [c4, I4.cells] using this
theorem Rd.n4 {w : World} {a : Option Addr} {n : Nat} {l : List I4} (h : Rd w 4 a n (c4 l)) : n = l.length := by have := h.1; rw [c4_length] at this; omega
theorem Rd.at4 {w : World} {b o n : Nat} {l : List I4} (h : Rd w 4 (some ⟨b, o, none⟩) n (c4 l)) (k : Nat) (x : I4) (hk : l[k]? = some x) :
    w.cell? ⟨b, o + k * 4, none⟩ = some (.int .i64 x.a) ∧ w.cell? ⟨b, o + k * 4 + 1, none⟩ = some (.int .i64 x.b) ∧ w.cell? ⟨b, o + k * 4 + 2, none⟩ = some (.int .i64 x.c) ∧ w.cell? ⟨b, o + k * 4 + 3, none⟩ = some (.int .i64 x.d) := by
  have hn := h.n4
  have hlt : k < l.length := (List.getElem?_eq_some_iff.1 hk).1
  obtain ⟨b', o', ha, hc⟩ := h.2 (by omega)
  simp only [Option.some.injEq, Addr.mk.injEq, and_true] at ha
  obtain ⟨rfl, rfl⟩ := ha
  have hg := c4_get l k x hk
  exact ⟨hc _ _ hg.1, hc _ _ hg.2.1, hc _ _ hg.2.2.1, hc _ _ hg.2.2.2⟩

end Go.Proofs.Ytpbfppelmgjfpaa
