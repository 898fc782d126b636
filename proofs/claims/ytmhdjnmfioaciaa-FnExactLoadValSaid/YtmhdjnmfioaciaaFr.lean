/- Facts with a range of blocks, handed on from world to world. Generic: no program is named. -/
import Derived.Test.YtmhdjnmfioaciaaRd
namespace Go.Proofs.Ytmhdjnmfioaciaa
open Go Go.RowKit

/-- Of the blocks that stood, only those of [lo, hi) may have turned. -/
structure Chg (lo hi : Nat) (w w' : World) : Prop where
  os : w'.os = w.os
  tape : w'.tape = w.tape
  output : w'.output = w.output
  size : w.heap.size ≤ w'.heap.size
  block : ∀ k, k < w.heap.size → (k < lo ∨ hi ≤ k) → w'.heap[k]? = w.heap[k]?

/-- A fact that rests on the blocks of [lo, hi) alone, and holds in w. -/
structure It (lo hi : Nat) (P : World → Prop) (w : World) : Prop where
  keep : ∀ a b : World, hi ≤ a.heap.size → a.heap.size ≤ b.heap.size → (∀ k, lo ≤ k → k < hi → b.heap[k]? = a.heap[k]?) → P a → P b
  size : hi ≤ w.heap.size
  fact : P w

section
variable {lo hi : Nat} {P Q : World → Prop} {w w' : World}
theorem It.below (h : It lo hi P w) (hb : Below w.heap.size w w') : It lo hi P w' :=
  ⟨h.keep, Nat.le_trans h.size hb.size, h.keep w w' h.size hb.size (fun k _ hk => hb.block k (Nat.lt_of_lt_of_le hk h.size)) h.fact⟩
theorem It.chg {l r : Nat} (h : It lo hi P w) (hc : Chg l r w w') (hd : hi ≤ l ∨ r ≤ lo) : It lo hi P w' :=
  ⟨h.keep, Nat.le_trans h.size hc.size, h.keep w w' h.size hc.size (fun k h1 h2 => hc.block k (Nat.lt_of_lt_of_le h2 h.size) (by omega)) h.fact⟩
theorem It.both (h : It lo hi P w) (k : It lo hi Q w) : It lo hi (fun w => P w ∧ Q w) w :=
  ⟨fun a b h1 h2 h3 h4 => ⟨h.keep a b h1 h2 h3 h4.1, k.keep a b h1 h2 h3 h4.2⟩, h.size, h.fact, k.fact⟩
theorem It.wide {lo' hi' : Nat} (h : It lo hi P w) (h1 : lo' ≤ lo) (h2 : hi ≤ hi') (h3 : hi' ≤ w.heap.size) : It lo' hi' P w :=
  ⟨fun a b e1 e2 e3 e4 => h.keep a b (Nat.le_trans h2 e1) e2 (fun k k1 k2 => e3 k (Nat.le_trans h1 k1) (Nat.lt_of_lt_of_le k2 h2)) e4, h3, h.fact⟩
theorem It.true (h : hi ≤ w.heap.size) : It lo hi (fun _ => True) w := ⟨fun _ _ _ _ _ _ => trivial, h, trivial⟩
theorem It.same (h : It lo hi P w) (k : ∀ w, Q w ↔ P w) : It lo hi Q w := ⟨fun a b e1 e2 e3 e4 => (k b).2 (h.keep a b e1 e2 e3 ((k a).1 e4)), h.size, (k w).2 h.fact⟩
theorem It.const {p : Prop} (h : hi ≤ w.heap.size) (k : p) : It lo hi (fun _ => p) w := ⟨fun _ _ _ _ _ e => e, h, k⟩
theorem Chg.of_below (hb : Below w.heap.size w w') : Chg lo hi w w' := ⟨hb.os, hb.tape, hb.output, hb.size, fun k h _ => hb.block k h⟩
theorem Chg.trans {w'' : World} (h : Chg lo hi w w') (k : Chg lo hi w' w'') : Chg lo hi w w'' :=
  ⟨k.os.trans h.os, k.tape.trans h.tape, k.output.trans h.output, Nat.le_trans h.size k.size, fun i h1 h2 => (k.block i (Nat.lt_of_lt_of_le h1 h.size) h2).trans (h.block i h1 h2)⟩
theorem Chg.wide {lo' hi' : Nat} (h : Chg lo hi w w') (h1 : lo' ≤ lo) (h2 : hi ≤ hi') : Chg lo' hi' w w' :=
  ⟨h.os, h.tape, h.output, h.size, fun i e1 e2 => h.block i e1 (by omega)⟩
theorem below_chg {a : World} (h : Below w.heap.size w a) (hc : Chg lo hi a w') (hB : w.heap.size ≤ lo) : Below w.heap.size w w' :=
  ⟨hc.os.trans h.os, hc.tape.trans h.tape, hc.output.trans h.output, Nat.le_trans h.size hc.size, fun k hk => (hc.block k (Nat.lt_of_lt_of_le hk h.size) (.inl (by omega))).trans (h.block k hk)⟩
theorem below_chg_low {a : World} {B : Nat} (h : Below B w a) (hBw : B ≤ w.heap.size) (hc : Chg lo hi a w') (hB : B ≤ lo) : Below B w w' :=
  ⟨hc.os.trans h.os, hc.tape.trans h.tape, hc.output.trans h.output, Nat.le_trans h.size hc.size, fun k hk => (hc.block k (Nat.lt_of_lt_of_le (Nat.lt_of_lt_of_le hk hBw) h.size) (.inl (by omega))).trans (h.block k hk)⟩
end

theorem It.cell {w : World} {p o : Nat} {v : Value} (h : w.cell? ⟨p, o, none⟩ = some v) : It p (p + 1) (fun w => w.cell? ⟨p, o, none⟩ = some v) w :=
  ⟨fun a b h1 h2 h3 h4 => (World.cell?_of_block (a := ⟨p, o, none⟩) (h3 p (Nat.le_refl _) (by omega))).trans h4, World.block_lt_of_cell? w _ h, h⟩

theorem It.rd {w : World} {size : Nat} {a : Option Addr} {n : Nat} {xs : List Value} (h : Rd w size a n xs) : It 0 w.heap.size (fun w => Rd w size a n xs) w := by
  refine ⟨fun x y h1 h2 h3 h4 => ⟨h4.1, fun hn => ?_⟩, Nat.le_refl _, h⟩
  obtain ⟨b, o, ha, hc⟩ := h4.2 hn
  refine ⟨b, o, ha, fun j u hu => ?_⟩
  obtain ⟨b', o', ha', hc'⟩ := h.2 hn
  have hlt := World.block_lt_of_cell? w _ (hc' j u hu)
  rw [ha] at ha'
  simp only [Option.some.injEq, Addr.mk.injEq, and_true] at ha'
  obtain ⟨rfl, rfl⟩ := ha'
  exact (World.cell?_of_block (a := ⟨b, o + j, none⟩) (h3 b (Nat.zero_le _) hlt)).trans (hc j u hu)

/-- A row of the call's own, in a block of [lo, hi). -/
def OwnR (lo hi : Nat) (e : TypeId) (size : Nat) (v : Value) (n : Nat) (xs : List Value) (w : World) : Prop := w.ownsRow lo e size v n xs ∧ ∀ k, v.ownBlock = some k → k < hi

theorem OwnR.keeps {lo hi : Nat} {e : TypeId} {size : Nat} {v : Value} {n : Nat} {xs : List Value} (a b : World) (h3 : ∀ k, lo ≤ k → k < hi → b.heap[k]? = a.heap[k]?) (h : OwnR lo hi e size v n xs a) : OwnR lo hi e size v n xs b := by
  obtain ⟨⟨h1, h2⟩, hk⟩ := h
  refine ⟨⟨h1, ?_⟩, hk⟩
  rcases h2 with h2 | ⟨g, cap, cur, rfl, hB, hg, r⟩
  · exact .inl h2
  · exact .inr ⟨g, cap, cur, rfl, hB, by rw [h3 g hB (hk g rfl)]; exact hg, r⟩
theorem It.own {w : World} {lo : Nat} {e : TypeId} {size : Nat} {v : Value} {n : Nat} {xs : List Value} (h : w.ownsRow lo e size v n xs) : It lo w.heap.size (OwnR lo w.heap.size e size v n xs) w :=
  ⟨fun a b _ _ h3 h4 => h4.keeps a b h3, Nat.le_refl _, h, fun k hk => (h.lt k hk).2⟩
theorem It.own_of {w : World} {lo hi : Nat} {e : TypeId} {size : Nat} {v : Value} {n : Nat} {xs : List Value} (h : OwnR lo hi e size v n xs w) (hs : hi ≤ w.heap.size) : It lo hi (OwnR lo hi e size v n xs) w :=
  ⟨fun a b _ _ h3 h4 => h4.keeps a b h3, hs, h⟩
theorem It.marked {w w' : World} {lo hi : Nat} {e : TypeId} {size : Nat} {v : Value} {n : Nat} {xs ys : List Value} (h : It lo hi (OwnR lo hi e size v n xs) w) (ho : w'.ownsRow lo e size v n ys) (hg : w.grownBy w' v.ownBlock) :
    It lo hi (OwnR lo hi e size v n ys) w' ∧ Chg lo hi w w' := by
  refine ⟨It.own_of ⟨ho, h.fact.2⟩ (Nat.le_trans h.size hg.size), hg.os, hg.tape, hg.output, hg.size, fun k hk hd => hg.block k hk fun e1 => ?_⟩
  have h1 := h.fact.2 k e1.symm
  have h2 := (h.fact.1.lt k e1.symm).1
  omega
theorem OwnR.rd {w : World} {lo hi : Nat} {e : TypeId} {size : Nat} {a : Option Addr} {n c : Nat} {xs : List Value} (h : OwnR lo hi e size (.slice a n c) n xs w) : Rd w size a n xs := Rd.of_owns h.1
end Go.Proofs.Ytmhdjnmfioaciaa
