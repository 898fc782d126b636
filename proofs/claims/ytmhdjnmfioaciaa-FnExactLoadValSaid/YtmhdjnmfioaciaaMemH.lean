/- The laws' helpers on a memory: copy, size, compare, mark, held. -/
import Derived.Test.YtmhdjnmfioaciaaRows
import Derived.Test.YtmhdjnmfioaciaaRecW
namespace Go.Proofs.Ytmhdjnmfioaciaa
open Go Go.RowKit

set_option maxRecDepth 20000 in
set_option maxHeartbeats 800000 in
theorem toMem_any (k : Int) (a : Option Addr) (n c : Nat) (l : List I3) (w : World) (h : Rd w 3 a n (c3 l)) (hn : n ≤ 1048576) :
    Calls Try.prog 15 #[.agg #[.int .i64 k, .slice a n c]] w fun e w' => ∃ g, e = .returned (.agg #[.int .i64 k, .slice (some ⟨g, 0, none⟩) n n]) ∧ w'.ownsRow w.heap.size 61 3 (.slice (some ⟨g, 0, none⟩) n n) n (c3 l) ∧ Below w.heap.size w w' := by
  have HC := Lib.hid (fun w' hr => toWordS_any a n c l w' hr hn)
  have H := Lib.hid h
  clear h
  go_enter Try.func15, Try.ntmps15
  go_wp2_with fail
  refine (HC.out _ (H.out.below (by repeat (first | with_reducible exact Below.refl _ _ | (with_reducible refine Below.drew ?_) | (with_reducible refine Below.alloc ?_ (by first | omega | (simp; done) | (simp; omega)) _))))).mono ?_
  rintro e w3 ⟨g, rfl, ho, hb⟩
  obtain ⟨hc, hf⟩ := bcell hb
  have hz := hb.size
  have HO := Lib.hid ho
  have HB := Lib.hid hb
  clear ho hb
  simp only [World.size_alloc] at hz hc hf
  go_wp2
  have hbb : Below w.heap.size w w3 := Below.trans (by repeat (first | with_reducible exact Below.refl _ _ | (with_reducible refine Below.drew ?_) | (with_reducible refine Below.alloc ?_ (by first | omega | (simp; done) | (simp; omega)) _))) (HB.out.mono (by simp; omega))
  exact bodyPost_ret (v := .agg #[.int .i64 k, .slice (some ⟨g, 0, none⟩) n n]) (by simp [results, Try.results15, go_sem, hc]) rfl ⟨g, rfl, (by first | with_reducible exact World.ownsRow.low HO.out (by first | omega | (simp; done) | (simp; omega)) | ((with_reducible refine World.ownsRow.low (ownsRow_setCell_below HO.out ?_ _) ?_) <;> first | omega | (simp; done) | (simp; omega)) | ((with_reducible refine World.ownsRow.low (ownsRow_setCell_below (ownsRow_setCell_below HO.out ?_ _) ?_ _) ?_) <;> first | omega | (simp; done) | (simp; omega)) | ((with_reducible refine World.ownsRow.low (ownsRow_setCell_below (ownsRow_setCell_below (ownsRow_setCell_below HO.out ?_ _) ?_ _) ?_ _) ?_) <;> first | omega | (simp; done) | (simp; omega)) | ((with_reducible refine World.ownsRow.low (ownsRow_setCell_below (ownsRow_setCell_below (ownsRow_setCell_below (ownsRow_setCell_below HO.out ?_ _) ?_ _) ?_ _) ?_ _) ?_) <;> first | omega | (simp; done) | (simp; omega)) | ((with_reducible refine World.ownsRow.low (ownsRow_setCell_below (ownsRow_setCell_below (ownsRow_setCell_below (ownsRow_setCell_below (ownsRow_setCell_below HO.out ?_ _) ?_ _) ?_ _) ?_ _) ?_ _) ?_) <;> first | omega | (simp; done) | (simp; omega)) | ((with_reducible refine World.ownsRow.low (ownsRow_setCell_below (ownsRow_setCell_below (ownsRow_setCell_below (ownsRow_setCell_below (ownsRow_setCell_below (ownsRow_setCell_below HO.out ?_ _) ?_ _) ?_ _) ?_ _) ?_ _) ?_ _) ?_) <;> first | omega | (simp; done) | (simp; omega))), (by repeat (first | with_reducible exact Below.refl _ _ | with_reducible exact hbb | (with_reducible refine Below.drew ?_) | (with_reducible refine Below.alloc ?_ (by first | omega | (simp; done) | (simp; omega)) _) | (with_reducible refine Below.setCell ?_ (by first | omega | (simp; done) | (simp; omega)) _)))⟩

set_option maxRecDepth 20000 in
set_option maxHeartbeats 800000 in
theorem szMem_any (k : Int) (a : Option Addr) (n c : Nat) (q : Int) (w : World) (h0 : 0 ≤ q) (hq : q ≤ 1048576) (hn : n ≤ 9223372036854775807) :
    Calls Try.prog 13 #[.agg #[.int .i64 k, .slice a n c], .int .i64 q] w fun e w' => e = .returned (.int .i64 (if (n : Int) ≤ q then q - n else -1)) ∧ Below w.heap.size w w' := by
  have HC := Lib.hid (fun w' => szWordS_any a n c q w' h0 hq hn)
  by_cases h : (n : Int) ≤ q
  · have hi : (if (n : Int) ≤ q then q - n else -1) = q - n := if_pos h
    rw [hi] at HC ⊢
    have hge : ¬ (q - n < 0) := by omega
    clear hi
    go_enter Try.func13, Try.ntmps13
    go_wp2_with (go_at_call 45; refine (HC.out _).mono ?_; rintro e w1 ⟨rfl, rfl⟩)
    go_ret
    exact ⟨rfl, (by repeat (first | with_reducible exact Below.refl _ _ | (with_reducible refine Below.drew ?_) | (with_reducible refine Below.alloc ?_ (by first | omega | (simp; done) | (simp; omega)) _)))⟩
  · have hi : (if (n : Int) ≤ q then q - n else -1) = -1 := if_neg h
    rw [hi] at HC ⊢
    clear hi
    go_enter Try.func13, Try.ntmps13
    go_wp2_with (go_at_call 45; refine (HC.out _).mono ?_; rintro e w1 ⟨rfl, rfl⟩)
    go_ret
    exact ⟨rfl, (by repeat (first | with_reducible exact Below.refl _ _ | (with_reducible refine Below.drew ?_) | (with_reducible refine Below.alloc ?_ (by first | omega | (simp; done) | (simp; omega)) _)))⟩

set_option maxRecDepth 20000 in
set_option maxHeartbeats 800000 in
theorem eqMem_any (k1 k2 : Int) (a1 a2 : Option Addr) (n1 p1 n2 p2 : Nat) (l1 l2 : List I3) (w : World) (h1 : Rd w 3 a1 n1 (c3 l1)) (h2 : Rd w 3 a2 n2 (c3 l2)) (hn : n1 ≤ 1073741824) :
    Calls Try.prog 17 #[.agg #[.int .i64 k1, .slice a1 n1 p1], .agg #[.int .i64 k2, .slice a2 n2 p2]] w fun e w' => e = .returned (.bool (decide (k1 = k2 ∧ l1 = l2))) ∧ Below w.heap.size w w' := by
  have HC := Lib.hid (fun w' hr1 hr2 => eqWordS_any a1 a2 n1 p1 n2 p2 l1 l2 w' hr1 hr2 hn)
  have H1 := Lib.hid h1
  have H2 := Lib.hid h2
  clear h1 h2
  by_cases hk : k1 = k2
  · subst hk
    have hd : decide (k1 = k1 ∧ l1 = l2) = decide (l1 = l2) := by simp
    rw [hd]
    generalize decide (l1 = l2) = d at HC
    clear hd
    go_enter Try.func17, Try.ntmps17
    go_wp2_with (go_at_call 51; refine (HC.out _ (H1.out.below (by repeat (first | with_reducible exact Below.refl _ _ | (with_reducible refine Below.drew ?_) | (with_reducible refine Below.alloc ?_ (by first | omega | (simp; done) | (simp; omega)) _)))) (H2.out.below (by repeat (first | with_reducible exact Below.refl _ _ | (with_reducible refine Below.drew ?_) | (with_reducible refine Below.alloc ?_ (by first | omega | (simp; done) | (simp; omega)) _))))).mono ?_; rintro e w1 ⟨rfl, hb1⟩)
    all_goals
      go_ret
      refine ⟨?_, Below.trans (by repeat (first | with_reducible exact Below.refl _ _ | (with_reducible refine Below.drew ?_) | (with_reducible refine Below.alloc ?_ (by first | omega | (simp; done) | (simp; omega)) _))) (hb1.mono (by simp; omega))⟩
      simp_all
  · have hkb : (k1 != k2) = true := by rw [bne_iff_ne]; exact hk
    have hd : decide (k1 = k2 ∧ l1 = l2) = false := by simp [hk]
    rw [hd]
    clear hk hd
    go_enter Try.func17, Try.ntmps17
    go_wp2
    go_ret
    exact ⟨rfl, (by repeat (first | with_reducible exact Below.refl _ _ | (with_reducible refine Below.drew ?_) | (with_reducible refine Below.alloc ?_ (by first | omega | (simp; done) | (simp; omega)) _)))⟩

set_option maxRecDepth 20000 in
set_option maxHeartbeats 800000 in
theorem markMem_any (B : Nat) (k : Int) (a : Option Addr) (n c : Nat) (l : List I3) (q : Int) (w : World) (h : w.ownsRow B 61 3 (.slice a n c) n (c3 l)) (h0 : 0 ≤ q) (hq : q ≤ 4294967296) (hn : n ≤ 1073741824) :
    Calls Try.prog 27 #[.agg #[.int .i64 k, .slice a n c], .int .i64 q] w fun e w' => e = .returned (.int .i64 (q + (3 * n : Nat))) ∧ w'.ownsRow B 61 3 (.slice a n c) n (c3 (seq3 q n)) ∧ w.grownBy w' (Value.slice a n c).ownBlock := by
  have HC := Lib.hid (fun w' ho => markWordS_any B a n c l q w' ho h0 hq hn)
  have H := Lib.hid h
  clear h
  go_enter Try.func27, Try.ntmps27
  go_wp2_with (go_at_call 56; refine (HC.out _ (World.ownsRow.alloc H.out _)).mono ?_; rintro e w1 ⟨rfl, ho, hg⟩)
  go_ret
  exact ⟨rfl, ho, (World.grownBy_alloc _ _ _).trans' hg⟩

set_option maxRecDepth 20000 in
set_option maxHeartbeats 800000 in
theorem heldMem_any (k : Int) (a : Option Addr) (n c : Nat) (q : Int) (w : World) (h : Rd w 3 a n (c3 (seq3 q n))) (h0 : 0 ≤ q) (hq : q ≤ 4294967296) (hn : n ≤ 1073741824) :
    Calls Try.prog 28 #[.agg #[.int .i64 k, .slice a n c], .int .i64 q] w fun e w' => e = .returned (.int .i64 (q + (3 * n : Nat))) ∧ Below w.heap.size w w' := by
  have HC := Lib.hid (fun w' hr => heldWordS_any a n c q w' hr h0 hq hn)
  have H := Lib.hid h
  clear h
  go_enter Try.func28, Try.ntmps28
  go_wp2_with (go_at_call 57; refine (HC.out _ (H.out.below (by repeat (first | with_reducible exact Below.refl _ _ | (with_reducible refine Below.drew ?_) | (with_reducible refine Below.alloc ?_ (by first | omega | (simp; done) | (simp; omega)) _))))).mono ?_; rintro e w1 ⟨rfl, rfl⟩)
  go_ret
  exact ⟨rfl, (by repeat (first | with_reducible exact Below.refl _ _ | (with_reducible refine Below.drew ?_) | (with_reducible refine Below.alloc ?_ (by first | omega | (simp; done) | (simp; omega)) _)))⟩
end Go.Proofs.Ytmhdjnmfioaciaa
