/- Plain laws on slices that a call itself makes, on reading a string, on worlds. Generic: no program is named. -/
import Derived.Test.YtknghnmcckjjbaaCanon
import Derived.WalkKit
import Derived.WalkSpells
import Derived.WalkLawsBesides
import Derived.Deep.AppendLies
import Derived.Laws.AppendOwnNone
import Derived.Lib.Hide
namespace Go.Proofs.Ytknghnmcckjjbaa
open Go Go.RowKit

/-- A slice type t of elements e, each of so many cells and bytes. -/
structure Elem (P : Program) (t e : TypeId) (z : Value) (size bytes : Nat) : Prop where
  ht : P.underlying t = some (.slice e)
  hi : (P.info? e).map (fun i => (i.zero, i.size, i.bytes)) = some (some z, size, bytes)
  hzs : z.cells.size = size
  hsz : 0 < size

section
variable {P : Program} {o : Oper} {a : Act} {K : Act → World → Prop} {Q : Exit → Act → World → Prop} {w : World} {ops : Array Oper} {rest : List Oper}

/-- append of m > 0 elements that lie in a block of their own onto a slice of the call's own. -/
theorem wp_ap {t e : TypeId} {z : Value} {size bytes : Nat} (E : Elem P t e z size bytes) (s x : Operand)
    (ho : o.op = .call { callee := .builtin .append, args := #[s, x], argTypes := #[t, t] })
    (B : Nat) (v : Value) (n : Nat) (xs : List Value) (hs : a.eval s = v) (hown : w.ownsRow B e size v n xs)
    (g m c : Nat) (news : Array Value) (t' : TypeId) (fr : Nat × Nat) (hx : a.eval x = .slice (some ⟨g, 0, none⟩) m c) (hblk : w.heap[g]? = some (.cells news t' fr)) (hl : news.size = m * size)
    (h1 : ∀ u ∈ news.toList, u.oneCell' = true) (hm : 0 < m) (hb : n + m ≤ 17179869184) (hb1 : bytes ≤ 64) (hbase : B ≤ w.heap.size)
    (h : ∀ g cap w', w'.ownsRow B e size (.slice (some ⟨g, 0, none⟩) (n + m) cap) (n + m) (xs ++ news.toList) → w.grownBy w' v.ownBlock → (v.ownBlock = some g ∨ g = w.heap.size) → Below B w w' →
      K (a.put o.dst (.slice (some ⟨g, 0, none⟩) (n + m) cap)) w') : o.wp P a w K Q := by
  obtain ⟨i, hi, hz0, hz1, hz2⟩ := info_parts E.hi
  refine wp_append_lies w s x t ho B e i z size bytes E.ht hi hz0 hz1 hz2 E.hzs E.hsz v n xs hs hown ⟨g, 0, none⟩ m c news.toList hx (by simpa using hl)
    (World.news_of_block hblk) h1 hm (by unfold maxLen; omega) ?_ hbase w.heap.size rfl ?_
  · have := Nat.mul_le_mul hb hb1
    exact Nat.le_trans this (by omega)
  · intro g' cap w' hown' hg hat _
    exact h g' cap w' hown' hg hat ((Below.refl B w).grown hg hbase (fun k hk => (hown.lt k hk).1))

/-- The same where only one row is grown: what is owned then, and that nothing below B has turned. -/
theorem wp_ap1 {t e : TypeId} {z : Value} {size bytes : Nat} (E : Elem P t e z size bytes) (s x : Operand)
    (ho : o.op = .call { callee := .builtin .append, args := #[s, x], argTypes := #[t, t] })
    (B : Nat) (v : Value) (n : Nat) (xs : List Value) (hs : a.eval s = v) (hown : w.ownsRow B e size v n xs)
    (g m c : Nat) (news : Array Value) (t' : TypeId) (fr : Nat × Nat) (hx : a.eval x = .slice (some ⟨g, 0, none⟩) m c) (hblk : w.heap[g]? = some (.cells news t' fr)) (hl : news.size = m * size)
    (h1 : ∀ u ∈ news.toList, u.oneCell' = true) (hm : 0 < m) (hb : n + m ≤ 17179869184) (hb1 : bytes ≤ 64) (hbase : B ≤ w.heap.size)
    (h : ∀ g cap w', w'.ownsRow B e size (.slice (some ⟨g, 0, none⟩) (n + m) cap) (n + m) (xs ++ news.toList) → Below B w w' →
      K (a.put o.dst (.slice (some ⟨g, 0, none⟩) (n + m) cap)) w') : o.wp P a w K Q :=
  wp_ap E s x ho B v n xs hs hown g m c news t' fr hx hblk hl h1 hm hb hb1 hbase fun g cap w' h2 _ _ h5 => h g cap w' h2 h5

theorem wpList_ap (hgd : o.guard = none) {t e : TypeId} {z : Value} {size bytes : Nat} (E : Elem P t e z size bytes) (s x : Operand)
    (ho : o.op = .call { callee := .builtin .append, args := #[s, x], argTypes := #[t, t] })
    (B : Nat) (v : Value) (n : Nat) (xs : List Value) (hs : a.eval s = v) (hown : w.ownsRow B e size v n xs)
    (g m c : Nat) (news : Array Value) (t' : TypeId) (fr : Nat × Nat) (hx : a.eval x = .slice (some ⟨g, 0, none⟩) m c) (hblk : w.heap[g]? = some (.cells news t' fr)) (hl : news.size = m * size)
    (h1 : ∀ u ∈ news.toList, u.oneCell' = true) (hm : 0 < m) (hb : n + m ≤ 17179869184) (hb1 : bytes ≤ 64) (hbase : B ≤ w.heap.size)
    (h : ∀ g cap w', w'.ownsRow B e size (.slice (some ⟨g, 0, none⟩) (n + m) cap) (n + m) (xs ++ news.toList) → w.grownBy w' v.ownBlock → (v.ownBlock = some g ∨ g = w.heap.size) → Below B w w' →
      wpList P ops Q rest (a.put o.dst (.slice (some ⟨g, 0, none⟩) (n + m) cap)) w') : wpList P ops Q (o :: rest) a w :=
  wpList_plain hgd fun _ hK => wp_ap E s x ho B v n xs hs hown g m c news t' fr hx hblk hl h1 hm hb hb1 hbase fun g cap w' h2 h3 h4 h5 => hK _ _ (h g cap w' h2 h3 h4 h5)

theorem wpList_ap1 (hgd : o.guard = none) {t e : TypeId} {z : Value} {size bytes : Nat} (E : Elem P t e z size bytes) (s x : Operand)
    (ho : o.op = .call { callee := .builtin .append, args := #[s, x], argTypes := #[t, t] })
    (B : Nat) (v : Value) (n : Nat) (xs : List Value) (hs : a.eval s = v) (hown : w.ownsRow B e size v n xs)
    (g m c : Nat) (news : Array Value) (t' : TypeId) (fr : Nat × Nat) (hx : a.eval x = .slice (some ⟨g, 0, none⟩) m c) (hblk : w.heap[g]? = some (.cells news t' fr)) (hl : news.size = m * size)
    (h1 : ∀ u ∈ news.toList, u.oneCell' = true) (hm : 0 < m) (hb : n + m ≤ 17179869184) (hb1 : bytes ≤ 64) (hbase : B ≤ w.heap.size)
    (h : ∀ g cap w', w'.ownsRow B e size (.slice (some ⟨g, 0, none⟩) (n + m) cap) (n + m) (xs ++ news.toList) → Below B w w' →
      wpList P ops Q rest (a.put o.dst (.slice (some ⟨g, 0, none⟩) (n + m) cap)) w') : wpList P ops Q (o :: rest) a w :=
  wpList_plain hgd fun _ hK => wp_ap1 E s x ho B v n xs hs hown g m c news t' fr hx hblk hl h1 hm hb hb1 hbase fun g cap w' h2 h5 => hK _ _ (h g cap w' h2 h5)

/-- make([]T, 0, n). -/
theorem wpList_mk (hgd : o.guard = none) {t e : TypeId} {z : Value} {size bytes : Nat} (E : Elem P t e z size bytes) (l c : Operand) (hop : o.op = Op.makeSlice t l c)
    (kl kc : IntKind) (C : Int) (n : Nat) (hl : a.eval l = .int kl 0) (hc : a.eval c = .int kc C) (hC : C = (n : Int)) (hb : n ≤ 17179869184) (hb1 : bytes ≤ 64)
    (hK : ∀ w', w'.ownsRow w.heap.size e size (.slice (some ⟨w.heap.size, 0, none⟩) 0 n) 0 [] → w.grownBy w' none → Below w.heap.size w w' →
      wpList P ops Q rest (a.put o.dst (.slice (some ⟨w.heap.size, 0, none⟩) 0 n)) w') : wpList P ops Q (o :: rest) a w := by
  obtain ⟨i, hi, hz0, hz1, hz2⟩ := info_parts E.hi
  refine wpList_make_own w hgd l c t hop w.heap.size e i z size E.ht hi hz0 hz1 kl kc C n hl hc hC ?_ (by unfold maxLen; omega) (Nat.le_refl _) ?_
  · rw [hz2]
    exact Nat.le_trans (Nat.mul_le_mul hb1 hb) (by omega)
  · intro w' h1 h2
    exact hK w' h1 h2 ((Below.refl _ w).grown h2 (Nat.le_refl _) (by simp))

/-- make([]T, n): n zeros. -/
theorem wpList_mkFull (hgd : o.guard = none) {t e : TypeId} {z : Value} {size bytes : Nat} (E : Elem P t e z size bytes) (l c : Operand) (hop : o.op = Op.makeSlice t l c)
    (kl kc : IntKind) (L C : Int) (n : Nat) (hl : a.eval l = .int kl L) (hc : a.eval c = .int kc C) (hL : L = (n : Int)) (hC : C = (n : Int)) (hb : n ≤ 17179869184) (hb1 : bytes ≤ 64)
    (hK : ∀ w', w'.ownsRow w.heap.size e size (.slice (some ⟨w.heap.size, 0, none⟩) n n) n (madeCells z.cells (n * size)).toList → w.grownBy w' none → Below w.heap.size w w' →
      wpList P ops Q rest (a.put o.dst (.slice (some ⟨w.heap.size, 0, none⟩) n n)) w') : wpList P ops Q (o :: rest) a w := by
  obtain ⟨i, hi, hz0, hz1, hz2⟩ := info_parts E.hi
  refine wpList_make_full w hgd l c t hop w.heap.size e i z size E.ht hi hz0 hz1 kl kc L C n hl hc hL hC ?_ (by unfold maxLen; omega) (Nat.le_refl _) ?_
  · rw [hz2]
    exact Nat.le_trans (Nat.mul_le_mul hb1 hb) (by omega)
  · intro w' h1 h2
    exact hK w' h1 h2 ((Below.refl _ w).grown h2 (Nat.le_refl _) (by simp))

/-- s[i] of a string, in range. -/
theorem idx_str {T : TypeId} (hU : P.underlying T = some .string) (s : ByteArray) (k : IntKind) (i : Int) (h0 : 0 ≤ i) (h : i.toNat < s.size) (w : World) :
    (Instr.index T (.string s) (.int k i)).run P w = .ok (.int .u8 (s.data.toList.getD i.toNat 0).toNat) w := by
  have hx : s[i.toNat]? = some (s.data.toList.getD i.toNat 0) := by
    have h' : i.toNat < s.data.toList.length := by simpa using h
    rw [getElem?_pos s i.toNat h, List.getD, List.getElem?_eq_getElem h']
    rfl
  simp [Instr.index, asIntOf, run_underlying hU, h0, hx, Sem.run_bind, Sem.run_pure, Result.andThen]
end

section
variable {P : Program}
/-- s[:i], s[i:], s[i:j] of a string, in range. -/
theorem slice_str_hi {T : TypeId} (hU : P.underlying T = some .string) (s : ByteArray) (k : IntKind) (i : Int) (h0 : 0 ≤ i) (h : i ≤ s.size) (w : World) :
    (Instr.slice T (.string s) none (some (.int k i)) none).run P w = .ok (.string (s.extract 0 i.toNat)) w := by
  simp [Instr.slice, Instr.sliceBounds, Instr.sliceBound, asIntOf, run_underlying hU, h0, h, Sem.run_pure, Result.andThen]
theorem slice_str_lo {T : TypeId} (hU : P.underlying T = some .string) (s : ByteArray) (k : IntKind) (i : Int) (h0 : 0 ≤ i) (h : i ≤ s.size) (w : World) :
    (Instr.slice T (.string s) (some (.int k i)) none none).run P w = .ok (.string (s.extract i.toNat s.size)) w := by
  simp [Instr.slice, Instr.sliceBounds, Instr.sliceBound, asIntOf, run_underlying hU, h0, h, Sem.run_pure, Result.andThen]
theorem slice_str_mid {T : TypeId} (hU : P.underlying T = some .string) (s : ByteArray) (k l : IntKind) (i j : Int) (h0 : 0 ≤ i) (hij : i ≤ j) (h : j ≤ s.size) (w : World) :
    (Instr.slice T (.string s) (some (.int k i)) (some (.int l j)) none).run P w = .ok (.string (s.extract i.toNat j.toNat)) w := by
  have hj : 0 ≤ j := by omega
  have hc : i ≤ max j 0 := by omega
  simp [Instr.slice, Instr.sliceBounds, Instr.sliceBound, asIntOf, run_underlying hU, h0, h, hj, hc, Sem.run_pure, Result.andThen]
end

/-- The cells of bytes. -/
def u8s (l : List UInt8) : List Value := l.map fun b => Value.int .u8 b.toNat
theorem u8s_append (l r : List UInt8) : u8s (l ++ r) = u8s l ++ u8s r := by simp [u8s]
theorem u8s_length (l : List UInt8) : (u8s l).length = l.length := by simp [u8s]

/-- string(b), b a slice of the call's own. -/
theorem conv_own {P : Program} {w : World} {src dst e : TypeId} {B : Nat} {v : Value} {n : Nat} {l : List UInt8} (hs : P.underlying src = some (.slice e)) (he : P.underlying e = some (.int .u8))
    (hd : P.underlying dst = some .string) (h : w.ownsRow B e 1 v n (u8s l)) : (convert src dst v).run P w = .ok (.string ⟨l.toArray⟩) w := by
  have hn : n = l.length := by have := h.1; simp [u8s] at this; omega
  subst hn
  rcases h.2 with ⟨rfl, h0⟩ | ⟨g, cap, cur, rfl, _, hg, _, _, _, _⟩
  · have : l = [] := List.eq_nil_of_length_eq_zero h0
    subst this
    rw [run_convert_bytes_string w src dst e none 0 0 hs he hd]
    simp [Conv.bytesToString, Sem.run_pure]
    rfl
  · refine run_convert_bytes_back w src dst e ⟨g, 0, none⟩ cap l hs he hd fun j hj => ?_
    refine h.cells (g := g) rfl j _ ?_
    simp [u8s, hj]

/-- string([]byte{x}). -/
theorem conv_one {P : Program} {src dst e : TypeId} (hs : P.underlying src = some (.slice e)) (he : P.underlying e = some (.int .u8)) (hd : P.underlying dst = some .string) (w : World) (b : UInt8) :
    (convert src dst (.slice (some ⟨w.heap.size, 0, none⟩) 1 1)).run P (w.alloc (.cells #[.int .u8 b.toNat] e)) = .ok (.string ⟨#[b]⟩) (w.alloc (.cells #[.int .u8 b.toNat] e)) :=
  conv_own (l := [b]) hs he hd (World.ownsRow_lit (base := 0) w #[.int .u8 b.toNat] 1 (Nat.zero_le _) (by decide) rfl)

theorem ba_append (l r : List UInt8) : (ByteArray.mk l.toArray) ++ (ByteArray.mk r.toArray) = ByteArray.mk (l ++ r).toArray := by
  apply ByteArray.ext
  simp

theorem extract_take (s : ByteArray) (k : Nat) : s.extract 0 k = ByteArray.mk (s.data.toList.take k).toArray := by
  apply ByteArray.ext
  apply Array.ext'
  simp

theorem ba_beq (a b : ByteArray) : (a == b) = decide (a = b) := by
  have h : (a == b) = (a.data == b.data) := rfl
  rw [h]
  by_cases e : a = b
  · subst e; simp
  · have : a.data ≠ b.data := fun h' => e (ByteArray.ext h')
    simp [e, this]
theorem ba_bne (a b : ByteArray) : (a != b) = !decide (a = b) := by rw [bne, ba_beq]
theorem ba_inj {l r : List UInt8} (h : ByteArray.mk l.toArray = ByteArray.mk r.toArray) : l = r := by
  have := congrArg (fun x => x.data.toList) h
  simpa using this

theorem wraps_i64 (n : Int) (h₀ : 0 ≤ n) (h₁ : n < 2 ^ 63) : IntKind.i64.wrap n = n := by rw [IntKind.wrap_i64]; omega
theorem i64_or (x y : Int) (i : Nat) (h0 : 0 ≤ x) (h1 : x % 2 ^ i = 0) (h2 : x < 2 ^ 63) (h3 : 0 ≤ y) (h4 : y < 2 ^ i) (h5 : y < 2 ^ 63) : bits .or .i64 x y = x + y :=
  bits_join .i64 63 (by decide) wraps_i64 i x y h0 h1 h2 h3 h4 h5
theorem i64_and (x : Int) (i : Nat) (h : i ≤ 63) (h0 : 0 ≤ x) (h1 : x < 2 ^ 63) : bits .and .i64 x (2 ^ i - 1) = x % 2 ^ i :=
  bits_mask .i64 63 (by decide) wraps_i64 i h x h0 h1
theorem i64_or_comm (x y : Int) : bits .or .i64 x y = bits .or .i64 y x := by
  simp only [bits]; rw [BitVec.or_comm]
theorem i64_xor_nat (a b : Nat) (ha : a < 2 ^ 32) (hb : b < 2 ^ 32) : bits .xor .i64 (a : Int) (b : Int) = ((a ^^^ b : Nat) : Int) := by
  have h := Nat.xor_lt_two_pow ha hb
  simp only [bits, BitVec.ofInt_natCast, BitVec.toNat_xor, BitVec.toNat_ofNat]
  rw [Nat.mod_eq_of_lt (show a < 2 ^ IntKind.i64.bits from Nat.lt_of_lt_of_le ha (by decide)), Nat.mod_eq_of_lt (show b < 2 ^ IntKind.i64.bits from Nat.lt_of_lt_of_le hb (by decide))]
  exact wraps_i64 _ (Int.natCast_nonneg _) (by have : ((a ^^^ b : Nat) : Int) < ((2 ^ 32 : Nat) : Int) := by exact_mod_cast h
                                               omega)

/-- Behind a call that leaves what stood as it was: the two rules for the walk. -/
theorem bcell {W w1 : World} (hb : Below W.heap.size W w1) : (∀ b o, b < W.heap.size → w1.cell? ⟨b, o, none⟩ = W.cell? ⟨b, o, none⟩) ∧ (∀ b o, b < W.heap.size → w1.frozen? ⟨b, o, none⟩ = W.frozen? ⟨b, o, none⟩) :=
  ⟨fun b o h => hb.cell (p := ⟨b, o, none⟩) h, fun b o h => hb.frozen (p := ⟨b, o, none⟩) h⟩

theorem Below.heapsize {B : Nat} {w w' : World} (h : Below B w w') : w.heap.size ≤ w'.heap.size := h.size
end Go.Proofs.Ytknghnmcckjjbaa
