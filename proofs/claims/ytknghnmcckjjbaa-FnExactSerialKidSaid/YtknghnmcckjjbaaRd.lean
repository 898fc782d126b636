/- Reading a slice whose cells lie in blocks that a call found. Generic: no program is named. -/
import Derived.Test.YtknghnmcckjjbaaBase
namespace Go.Proofs.Ytknghnmcckjjbaa
open Go Go.RowKit

/-- A slice value of address a and n elements of so many cells reads, in w, as the cells xs. -/
def Rd (w : World) (size : Nat) (a : Option Addr) (n : Nat) (xs : List Value) : Prop :=
  xs.length = n * size ∧ (0 < n → ∃ b o, a = some ⟨b, o, none⟩ ∧ ∀ j u, xs[j]? = some u → w.cell? ⟨b, o + j, none⟩ = some u)

theorem Rd.below {w w' : World} {size : Nat} {a : Option Addr} {n : Nat} {xs : List Value} (h : Rd w size a n xs) (hb : Below w.heap.size w w') : Rd w' size a n xs := by
  refine ⟨h.1, fun hn => ?_⟩
  obtain ⟨b, o, ha, hc⟩ := h.2 hn
  refine ⟨b, o, ha, fun j u hu => ?_⟩
  have h1 := hc j u hu
  have hlt := World.block_lt_of_cell? w _ h1
  rw [hb.cell hlt]
  exact h1

theorem Rd.of_owns {w : World} {B : Nat} {e : TypeId} {size : Nat} {a : Option Addr} {n c : Nat} {xs : List Value} (h : w.ownsRow B e size (.slice a n c) n xs) : Rd w size a n xs := by
  refine ⟨h.1, fun hn => ?_⟩
  rcases h.2 with ⟨h1, h2⟩ | ⟨g, cap, cur, h1, _⟩
  · omega
  · simp only [Value.slice.injEq, true_and] at h1
    obtain ⟨rfl, rfl⟩ := h1
    refine ⟨g, 0, rfl, fun j u hu => ?_⟩
    have hj : j < n * size := by rw [← h.1]; exact (List.getElem?_eq_some_iff.1 hu).1
    rw [Nat.zero_add, h.cellAt j hj, hu]

theorem Rd.lt {w : World} {size : Nat} {b o n : Nat} {xs : List Value} (h : Rd w size (some ⟨b, o, none⟩) n xs) (hn : 0 < n) (hs : 0 < size) : b < w.heap.size := by
  obtain ⟨b', o', ha, hc⟩ := h.2 hn
  simp only [Option.some.injEq, Addr.mk.injEq, and_true] at ha
  obtain ⟨rfl, rfl⟩ := ha
  have hl : 0 < xs.length := by rw [h.1]; exact Nat.mul_pos hn hs
  exact World.block_lt_of_cell? w _ (hc 0 _ (List.getElem?_eq_getElem hl))

theorem Rd.nil (w : World) (size : Nat) (a : Option Addr) : Rd w size a 0 [] := ⟨by simp, fun h => by omega⟩

/-- A cut of it. -/
theorem Rd.cut {w : World} {size : Nat} {b o n : Nat} {xs : List Value} (h : Rd w size (some ⟨b, o, none⟩) n xs) (i j : Nat) (hj : j ≤ n) (hn : 0 < n) :
    Rd w size (some ⟨b, o + i * size, none⟩) (j - i) ((xs.drop (i * size)).take ((j - i) * size)) := by
  obtain ⟨b', o', ha, hc⟩ := h.2 hn
  simp only [Option.some.injEq, Addr.mk.injEq, and_true] at ha
  obtain ⟨rfl, rfl⟩ := ha
  refine ⟨?_, fun _ => ⟨b, _, rfl, fun t u hu => ?_⟩⟩
  · have h1 : j * size ≤ n * size := Nat.mul_le_mul_right _ hj
    have h2 : (j - i) * size = j * size - i * size := Nat.sub_mul _ _ _
    simp only [List.length_take, List.length_drop, h.1]
    omega
  · rw [List.getElem?_take] at hu
    split at hu
    · rw [List.getElem?_drop] at hu
      rw [Nat.add_assoc]
      exact hc _ u hu
    · cases hu

theorem _root_.Go.World.grownBy.trans' {a b c : World} {row : Option Nat} (h : a.grownBy b row) (k : b.grownBy c row) : a.grownBy c row :=
  ⟨k.os.trans h.os, k.tape.trans h.tape, k.output.trans h.output, Nat.le_trans h.size k.size, fun i hi hne => (k.block i (Nat.lt_of_lt_of_le hi h.size) hne).trans (h.block i hi hne)⟩

/-- What is owned stays owned where no block that stood has turned. -/
theorem _root_.Go.World.ownsRow.below {w w' : World} {B : Nat} {e : TypeId} {size : Nat} {v : Value} {n : Nat} {xs : List Value} (h : w.ownsRow B e size v n xs) (hb : Below w.heap.size w w') : w'.ownsRow B e size v n xs := by
  refine ⟨h.1, ?_⟩
  rcases h.2 with h1 | ⟨g, cap, cur, hv, hB, hg, r⟩
  · exact .inl h1
  · refine .inr ⟨g, cap, cur, hv, hB, ?_, r⟩
    rw [hb.block g (Array.getElem?_eq_some_iff.1 hg).1]
    exact hg

theorem _root_.Go.World.ownsRow.low {w : World} {B B' : Nat} {e : TypeId} {size : Nat} {v : Value} {n : Nat} {xs : List Value} (h : w.ownsRow B e size v n xs) (hB : B' ≤ B) : w.ownsRow B' e size v n xs := by
  refine ⟨h.1, ?_⟩
  rcases h.2 with h1 | ⟨g, cap, cur, hv, hg, r⟩
  · exact .inl h1
  · exact .inr ⟨g, cap, cur, hv, Nat.le_trans hB hg, r⟩
theorem below_of_grown {w w' : World} {B : Nat} {row : Option Nat} (h : w.grownBy w' row) (hB : B ≤ w.heap.size) (hr : ∀ k, row = some k → B ≤ k) : Below B w w' :=
  (Below.refl B w).grown h hB hr

/-- append of a slice that is read onto a slice of the call's own. -/
theorem run_apS {P : Program} {t e ty : TypeId} {z : Value} {size bytes : Nat} (E : Elem P t e z size bytes) (w : World) (B : Nat) (v : Value) (n : Nat) (xs : List Value) (hown : w.ownsRow B e size v n xs)
    (ao : Option Addr) (m c : Nat) (news : List Value) (hr : Rd w size ao m news) (h1 : ∀ u ∈ news, u.oneCell' = true) (hb : n + m ≤ 17179869184) (hb1 : bytes ≤ 64) (hbase : B ≤ w.heap.size) :
    ∃ a' c' w', (Builtin.append_ #[t, t] ty #[v, .slice ao m c]).run P w = .ok (.slice a' (n + m) c') w' ∧ w'.ownsRow B e size (.slice a' (n + m) c') (n + m) (xs ++ news) ∧ w.grownBy w' v.ownBlock := by
  obtain ⟨i, hi, hz0, hz1, hz2⟩ := info_parts E.hi
  have shape : ∀ {w' : World} {v' : Value} {n' : Nat} {xs' : List Value}, w'.ownsRow B e size v' n' xs' → ∃ a' c', v' = .slice a' n' c' := by
    intro w' v' n' xs' h
    rcases h.2 with ⟨rfl, rfl⟩ | ⟨g, cap, cur, rfl, _⟩
    · exact ⟨none, 0, rfl⟩
    · exact ⟨_, cap, rfl⟩
  cases ao with
  | some ad =>
    have hnews : ∀ j u, news[j]? = some u → w.cell? (ad.add j) = some u := by
      intro j u hu
      have hm : 0 < m := by
        rcases Nat.eq_zero_or_pos m with h | h
        · have := hr.1
          rw [h, Nat.zero_mul] at this
          have : news = [] := List.eq_nil_of_length_eq_zero this
          rw [this] at hu
          simp at hu
        · exact h
      obtain ⟨b, o, ha, hc⟩ := hr.2 hm
      simp only [Option.some.injEq] at ha
      subst ha
      rw [Addr.add_lit]
      exact hc j u hu
    obtain ⟨v', w', hrun, ho, hg, _⟩ := run_append_own (P := P) w B t ty e i z size bytes E.ht hi hz0 hz1 hz2 E.hzs E.hsz v n xs hown ad m c news hr.1 hnews h1 (by unfold maxLen; omega)
      (Nat.le_trans (Nat.mul_le_mul hb hb1) (by omega)) hbase
    obtain ⟨a', c', rfl⟩ := shape ho
    exact ⟨a', c', w', hrun, ho, hg⟩
  | none =>
    have hm : m = 0 := by
      rcases Nat.eq_zero_or_pos m with h | h
      · exact h
      · obtain ⟨b, o, ha, _⟩ := hr.2 h
        cases ha
    subst hm
    have hnews : news = [] := List.eq_nil_of_length_eq_zero (by simpa using hr.1)
    subst hnews
    have hrun : (Builtin.append_ #[t, t] ty #[v, .slice none 0 c]).run P w = .ok v w := by
      rcases hown.2 with ⟨rfl, rfl⟩ | ⟨g, cap, cur, rfl, _, _, hnc, _⟩
      · simp [Builtin.append_, run_underlying E.ht, sizeOf, typeInfo, hi, Builtin.lenOf, Builtin.firstCells]
      · simp [Builtin.append_, run_underlying E.ht, sizeOf, typeInfo, hi, Builtin.lenOf, Builtin.firstCells, hnc, storeCells]
    obtain ⟨a', c', rfl⟩ := shape hown
    exact ⟨a', c', w, hrun, by simpa using hown, World.grownBy.refl _ _⟩
theorem wp_apS {P : Program} {o : Oper} {a : Act} {K : Act → World → Prop} {Q : Exit → Act → World → Prop} {w : World} {t e : TypeId} {z : Value} {size bytes : Nat} (E : Elem P t e z size bytes) (s x : Operand)
    (ho : o.op = .call { callee := .builtin .append, args := #[s, x], argTypes := #[t, t] })
    (B : Nat) (v : Value) (n : Nat) (xs : List Value) (hs : a.eval s = v) (hown : w.ownsRow B e size v n xs)
    (ao : Option Addr) (m c : Nat) (news : List Value) (hx : a.eval x = .slice ao m c) (hr : Rd w size ao m news) (h1 : ∀ u ∈ news, u.oneCell' = true) (hb : n + m ≤ 17179869184) (hb1 : bytes ≤ 64) (hbase : B ≤ w.heap.size)
    (h : ∀ a' c' w', w'.ownsRow B e size (.slice a' (n + m) c') (n + m) (xs ++ news) → w.grownBy w' v.ownBlock → Below B w w' → K (a.put o.dst (.slice a' (n + m) c')) w') : o.wp P a w K Q := by
  obtain ⟨a', c', w', hrun, h2, h3⟩ := run_apS (ty := o.type) E w B v n xs hown ao m c news hr h1 hb hb1 hbase
  unfold Oper.wp execOp
  simp only [ho, resolve, invoke, builtin, Sem.run_bind, Sem.run_pure, Result.andThen_ok, List.map_toArray, List.map_cons, List.map_nil, hs, hx, hrun]
  exact h a' c' w' h2 h3 (below_of_grown h3 hbase (fun k hk => (hown.lt k hk).1))
theorem wpList_apS {P : Program} {ops : Array Oper} {rest : List Oper} {o : Oper} {a : Act} {Q : Exit → Act → World → Prop} {w : World} (hgd : o.guard = none) {t e : TypeId} {z : Value} {size bytes : Nat} (E : Elem P t e z size bytes) (s x : Operand)
    (ho : o.op = .call { callee := .builtin .append, args := #[s, x], argTypes := #[t, t] })
    (B : Nat) (v : Value) (n : Nat) (xs : List Value) (hs : a.eval s = v) (hown : w.ownsRow B e size v n xs)
    (ao : Option Addr) (m c : Nat) (news : List Value) (hx : a.eval x = .slice ao m c) (hr : Rd w size ao m news) (h1 : ∀ u ∈ news, u.oneCell' = true) (hb : n + m ≤ 17179869184) (hb1 : bytes ≤ 64) (hbase : B ≤ w.heap.size)
    (h : ∀ a' c' w', w'.ownsRow B e size (.slice a' (n + m) c') (n + m) (xs ++ news) → w.grownBy w' v.ownBlock → Below B w w' → wpList P ops Q rest (a.put o.dst (.slice a' (n + m) c')) w') : wpList P ops Q (o :: rest) a w :=
  wpList_plain hgd fun _ hK => wp_apS E s x ho B v n xs hs hown ao m c news hx hr h1 hb hb1 hbase fun a' c' w' h2 h3 h4 => hK _ _ (h a' c' w' h2 h3 h4)

/-- An empty literal slice. -/
theorem made_nil (W : World) (e : TypeId) (size g B : Nat) (hg : W.heap.size = g) (hB : B ≤ g) : (W.alloc (.cells #[] e)).ownsRow B e size (.slice (some ⟨g, 0, none⟩) 0 0) 0 [] := by
  subst hg
  exact World.ownsRow_made W #[] 0 hB (by decide) (by simp)

/-! Ints -/
def iCells (l : List Int) : List Value := l.map (Value.int .i64)
theorem iCells_one (l : List Int) : ∀ u ∈ iCells l, u.oneCell' = true := by
  intro u hu
  obtain ⟨_, _, rfl⟩ := List.mem_map.1 hu
  rfl
theorem iCells_length (l : List Int) : (iCells l).length = l.length := by simp [iCells]
theorem iCells_append (l r : List Int) : iCells (l ++ r) = iCells l ++ iCells r := by simp [iCells]
theorem iCells_get (l : List Int) (k : Nat) (h : k < l.length) : (iCells l)[k]? = some (.int .i64 (l.getD k 0)) := by
  simp [iCells, List.getD, List.getElem?_eq_getElem h]
theorem iCells_set (l : List Int) (i : Nat) (x : Int) : (iCells l).set i (.int .i64 x) = iCells (l.set i x) := by simp [iCells, List.map_set]
theorem iCells_inj {l r : List Int} (h : iCells l = iCells r) : l = r := by
  induction l generalizing r with
  | nil => cases r with | nil => rfl | cons => simp [iCells] at h
  | cons x l ih => cases r with
    | nil => simp [iCells] at h
    | cons y r =>
      simp only [iCells, List.map_cons, List.cons.injEq, Value.int.injEq, true_and] at h
      rw [h.1, ih h.2]
theorem Rd.int {w : World} {a : Option Addr} {n : Nat} {l : List Int} (h : Rd w 1 a n (iCells l)) : n = l.length := by have := h.1; simp [iCells] at this; omega
theorem Rd.int_at {w : World} {b o n : Nat} {l : List Int} (h : Rd w 1 (some ⟨b, o, none⟩) n (iCells l)) (k : Nat) (hk : k < l.length) : w.cell? ⟨b, o + k, none⟩ = some (.int .i64 (l.getD k 0)) := by
  have hn := h.int
  obtain ⟨b', o', ha, hc⟩ := h.2 (by omega)
  simp only [Option.some.injEq, Addr.mk.injEq, and_true] at ha
  obtain ⟨rfl, rfl⟩ := ha
  exact hc k _ (iCells_get l k hk)
theorem Rd.addr {w : World} {size : Nat} {a : Option Addr} {n : Nat} {xs : List Value} (h : Rd w size a n xs) (hn : 0 < n) : ∃ b o, a = some ⟨b, o, none⟩ := by
  obtain ⟨b, o, ha, _⟩ := h.2 hn
  exact ⟨b, o, ha⟩

/-! Records of 2 ints -/
structure I2 where
  a : Int
  b : Int
  deriving DecidableEq
def I2.cells (x : I2) : List Value := [.int .i64 x.a, .int .i64 x.b]
def c2 (l : List I2) : List Value := l.flatMap I2.cells
theorem c2_one (l : List I2) : ∀ u ∈ c2 l, u.oneCell' = true := by
  intro u hu
  obtain ⟨x, _, hx⟩ := List.mem_flatMap.1 hu
  simp only [I2.cells, List.mem_cons, List.not_mem_nil, or_false] at hx
  rcases hx with rfl | rfl <;> rfl
theorem c2_length (l : List I2) : (c2 l).length = l.length * 2 := by
  induction l with
  | nil => rfl
  | cons x l ih => simp only [c2, List.flatMap_cons, List.length_append, List.length_cons] at *; rw [ih]; simp [I2.cells]; omega
theorem c2_append (l r : List I2) : c2 (l ++ r) = c2 l ++ c2 r := by simp [c2]
theorem c2_get (l : List I2) (k : Nat) (x : I2) (h : l[k]? = some x) :
    (c2 l)[k * 2]? = some (.int .i64 x.a) ∧ (c2 l)[k * 2 + 1]? = some (.int .i64 x.b) := by
  induction l generalizing k with
  | nil => simp at h
  | cons y l ih =>
    cases k with
    | zero => simp at h; subst h; simp [c2, I2.cells]
    | succ k =>
      have := ih k (by simpa using h)
      rw [show (k + 1) * 2 = k * 2 + 2 from by omega]
      simpa [c2, I2.cells] using this
theorem Rd.n2 {w : World} {a : Option Addr} {n : Nat} {l : List I2} (h : Rd w 2 a n (c2 l)) : n = l.length := by have := h.1; rw [c2_length] at this; omega
theorem Rd.at2 {w : World} {b o n : Nat} {l : List I2} (h : Rd w 2 (some ⟨b, o, none⟩) n (c2 l)) (k : Nat) (x : I2) (hk : l[k]? = some x) :
    w.cell? ⟨b, o + k * 2, none⟩ = some (.int .i64 x.a) ∧ w.cell? ⟨b, o + k * 2 + 1, none⟩ = some (.int .i64 x.b) := by
  have hn := h.n2
  have hlt : k < l.length := (List.getElem?_eq_some_iff.1 hk).1
  obtain ⟨b', o', ha, hc⟩ := h.2 (by omega)
  simp only [Option.some.injEq, Addr.mk.injEq, and_true] at ha
  obtain ⟨rfl, rfl⟩ := ha
  have hg := c2_get l k x hk
  exact ⟨hc _ _ hg.1, hc _ _ hg.2⟩

/-! Records of 3 ints -/
structure I3 where
  a : Int
  b : Int
  c : Int
  deriving DecidableEq
def I3.cells (x : I3) : List Value := [.int .i64 x.a, .int .i64 x.b, .int .i64 x.c]
def c3 (l : List I3) : List Value := l.flatMap I3.cells
theorem c3_one (l : List I3) : ∀ u ∈ c3 l, u.oneCell' = true := by
  intro u hu
  obtain ⟨x, _, hx⟩ := List.mem_flatMap.1 hu
  simp only [I3.cells, List.mem_cons, List.not_mem_nil, or_false] at hx
  rcases hx with rfl | rfl | rfl <;> rfl
theorem c3_length (l : List I3) : (c3 l).length = l.length * 3 := by
  induction l with
  | nil => rfl
  | cons x l ih => simp only [c3, List.flatMap_cons, List.length_append, List.length_cons] at *; rw [ih]; simp [I3.cells]; omega
theorem c3_append (l r : List I3) : c3 (l ++ r) = c3 l ++ c3 r := by simp [c3]
theorem c3_get (l : List I3) (k : Nat) (x : I3) (h : l[k]? = some x) :
    (c3 l)[k * 3]? = some (.int .i64 x.a) ∧ (c3 l)[k * 3 + 1]? = some (.int .i64 x.b) ∧ (c3 l)[k * 3 + 2]? = some (.int .i64 x.c) := by
  induction l generalizing k with
  | nil => simp at h
  | cons y l ih =>
    cases k with
    | zero => simp at h; subst h; simp [c3, I3.cells]
    | succ k =>
      have := ih k (by simpa using h)
      rw [show (k + 1) * 3 = k * 3 + 3 from by omega]
      simpa [c3, I3.cells] using this
theorem Rd.n3 {w : World} {a : Option Addr} {n : Nat} {l : List I3} (h : Rd w 3 a n (c3 l)) : n = l.length := by have := h.1; rw [c3_length] at this; omega
theorem Rd.at3 {w : World} {b o n : Nat} {l : List I3} (h : Rd w 3 (some ⟨b, o, none⟩) n (c3 l)) (k : Nat) (x : I3) (hk : l[k]? = some x) :
    w.cell? ⟨b, o + k * 3, none⟩ = some (.int .i64 x.a) ∧ w.cell? ⟨b, o + k * 3 + 1, none⟩ = some (.int .i64 x.b) ∧ w.cell? ⟨b, o + k * 3 + 2, none⟩ = some (.int .i64 x.c) := by
  have hn := h.n3
  have hlt : k < l.length := (List.getElem?_eq_some_iff.1 hk).1
  obtain ⟨b', o', ha, hc⟩ := h.2 (by omega)
  simp only [Option.some.injEq, Addr.mk.injEq, and_true] at ha
  obtain ⟨rfl, rfl⟩ := ha
  have hg := c3_get l k x hk
  exact ⟨hc _ _ hg.1, hc _ _ hg.2.1, hc _ _ hg.2.2⟩

/-! Records of 4 ints -/
structure I4 where
  a : Int
  b : Int
  c : Int
  d : Int
  deriving DecidableEq
def I4.cells (x : I4) : List Value := [.int .i64 x.a, .int .i64 x.b, .int .i64 x.c, .int .i64 x.d]
def c4 (l : List I4) : List Value := l.flatMap I4.cells
theorem c4_one (l : List I4) : ∀ u ∈ c4 l, u.oneCell' = true := by
  intro u hu
  obtain ⟨x, _, hx⟩ := List.mem_flatMap.1 hu
  simp only [I4.cells, List.mem_cons, List.not_mem_nil, or_false] at hx
  rcases hx with rfl | rfl | rfl | rfl <;> rfl
theorem c4_length (l : List I4) : (c4 l).length = l.length * 4 := by
  induction l with
  | nil => rfl
  | cons x l ih => simp only [c4, List.flatMap_cons, List.length_append, List.length_cons] at *; rw [ih]; simp [I4.cells]; omega
theorem c4_append (l r : List I4) : c4 (l ++ r) = c4 l ++ c4 r := by simp [c4]
theorem c4_get (l : List I4) (k : Nat) (x : I4) (h : l[k]? = some x) :
    (c4 l)[k * 4]? = some (.int .i64 x.a) ∧ (c4 l)[k * 4 + 1]? = some (.int .i64 x.b) ∧ (c4 l)[k * 4 + 2]? = some (.int .i64 x.c) ∧ (c4 l)[k * 4 + 3]? = some (.int .i64 x.d) := by
  induction l generalizing k with
  | nil => simp at h
  | cons y l ih =>
    cases k with
    | zero => simp at h; subst h; simp [c4, I4.cells]
    | succ k =>
      have := ih k (by simpa using h)
      rw [show (k + 1) * 4 = k * 4 + 4 from by omega]
      simpa [c4, I4.cells] using this
theorem Rd.n4 {w : World} {a : Option Addr} {n : Nat} {l : List I4} (h : Rd w 4 a n (c4 l)) : n = l.length := by have := h.1; rw [c4_length] at this; omega
theorem Rd.at4 {w : World} {b o n : Nat} {l : List I4} (h : Rd w 4 (some ⟨b, o, none⟩) n (c4 l)) (k : Nat) (x : I4) (hk : l[k]? = some x) :
    w.cell? ⟨b, o + k * 4, none⟩ = some (.int .i64 x.a) ∧ w.cell? ⟨b, o + k * 4 + 1, none⟩ = some (.int .i64 x.b) ∧ w.cell? ⟨b, o + k * 4 + 2, none⟩ = some (.int .i64 x.c) ∧ w.cell? ⟨b, o + k * 4 + 3, none⟩ = some (.int .i64 x.d) := by
  have hn := h.n4
  have hlt : k < l.length := (List.getElem?_eq_some_iff.1 hk).1
  obtain ⟨b', o', ha, hc⟩ := h.2 (by omega)
  simp only [Option.some.injEq, Addr.mk.injEq, and_true] at ha
  obtain ⟨rfl, rfl⟩ := ha
  have hg := c4_get l k x hk
  exact ⟨hc _ _ hg.1, hc _ _ hg.2.1, hc _ _ hg.2.2.1, hc _ _ hg.2.2.2⟩

end Go.Proofs.Ytknghnmcckjjbaa
