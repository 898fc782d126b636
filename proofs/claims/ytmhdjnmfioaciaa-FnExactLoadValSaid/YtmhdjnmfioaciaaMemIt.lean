/- The helpers of the laws on a memory, in the form in which the laws use them. -/
import Derived.Test.YtmhdjnmfioaciaaFr
import Derived.Test.YtmhdjnmfioaciaaMemH
namespace Go.Proofs.Ytmhdjnmfioaciaa
open Go Go.RowKit

theorem to_Mem (k : Int) (l : List I3) (a : Option Addr) (n c : Nat) (w : World) (h : Rd w 3 a n (c3 l)) (hs : l.length ≤ 1048576) :
    Calls Try.prog 15 #[.agg #[.int .i64 k, .slice a n c]] w fun e w' => ∃ a' n' c', e = .returned (.agg #[.int .i64 k, .slice a' n' c']) ∧
      It w.heap.size w'.heap.size (OwnR w.heap.size w'.heap.size 61 3 (.slice a' n' c') n' (c3 l)) w' ∧ Below w.heap.size w w' := by
  have hn := h.n3
  exact (toMem_any k a n c l w h (by omega)).mono fun e w' ⟨g, he, ho, hb⟩ => ⟨_, _, _, he, It.own ho, hb⟩
theorem sz_Mem (k : Int) (a : Option Addr) (n c : Nat) (q : Int) (w : World) (h0 : 0 ≤ q) (hq : q ≤ 1048576) (hn : n ≤ 9223372036854775807) :
    Calls Try.prog 13 #[.agg #[.int .i64 k, .slice a n c], .int .i64 q] w fun e w' => e = .returned (.int .i64 (if (n : Int) ≤ q then q - n else -1)) ∧ Below w.heap.size w w' := szMem_any k a n c q w h0 hq hn
theorem eq_Mem (k : Int) (l : List I3) (a1 : Option Addr) (n1 p1 : Nat) (a2 : Option Addr) (n2 p2 : Nat) (w : World) (h1 : Rd w 3 a1 n1 (c3 l)) (h2 : Rd w 3 a2 n2 (c3 l)) (hs : l.length ≤ 1073741824) :
    Calls Try.prog 17 #[.agg #[.int .i64 k, .slice a1 n1 p1], .agg #[.int .i64 k, .slice a2 n2 p2]] w fun e w' => e = .returned (.bool true) ∧ Below w.heap.size w w' := by
  have hn := h1.n3
  refine (eqMem_any k k a1 a2 n1 p1 n2 p2 l l w h1 h2 (by omega)).mono ?_
  rintro e w' ⟨rfl, hb⟩
  exact ⟨by simp, hb⟩
theorem mark_Mem (lo hi : Nat) (k : Int) (l : List I3) (a : Option Addr) (n c : Nat) (q : Int) (w : World) (h : It lo hi (OwnR lo hi 61 3 (.slice a n c) n (c3 l)) w) (h0 : 0 ≤ q) (hq : q ≤ 4294967296) (hs : l.length ≤ 1073741824) :
    Calls Try.prog 27 #[.agg #[.int .i64 k, .slice a n c], .int .i64 q] w fun e w' => e = .returned (.int .i64 (q + 3 * (l.length : Int))) ∧ It lo hi (OwnR lo hi 61 3 (.slice a n c) n (c3 (seq3 q l.length))) w' ∧ Chg lo hi w w' := by
  have hn := (OwnR.rd h.fact).n3
  subst hn
  refine (markMem_any lo k a l.length c l q w h.fact.1 h0 hq hs).mono ?_
  rintro e w' ⟨rfl, ho, hg⟩
  exact ⟨by simp, h.marked ho hg⟩
theorem held_Mem (k : Int) (l : List I3) (a : Option Addr) (n c : Nat) (q : Int) (w : World) (h : Rd w 3 a n (c3 (seq3 q l.length))) (h0 : 0 ≤ q) (hq : q ≤ 4294967296) (hs : l.length ≤ 1073741824) :
    Calls Try.prog 28 #[.agg #[.int .i64 k, .slice a n c], .int .i64 q] w fun e w' => e = .returned (.int .i64 (q + 3 * (l.length : Int))) ∧ Below w.heap.size w w' := by
  have hn : n = l.length := by have := h.n3; rw [seq3_length] at this; exact this
  subst hn
  refine (heldMem_any k a l.length c q w h h0 hq hs).mono ?_
  rintro e w' ⟨rfl, hb⟩
  exact ⟨by simp, hb⟩
end Go.Proofs.Ytmhdjnmfioaciaa
