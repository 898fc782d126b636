/- MemOk of both packages, and what it leans on. -/
import Derived.Test.YtmhdjnmfioaciaaRows
import Derived.Test.YtmhdjnmfioaciaaRd
import Derived.Test.YtmhdjnmfioaciaaTests
namespace Go.Proofs.Ytmhdjnmfioaciaa
open Go Go.RowKit

def wordOk (clock : Int) (x : I3) : Bool := inB x.a 0 65535 && inB x.b 0 clock && inB x.c 0 99
def memOkB (clock : Int) (l : List I3) : Bool := decide (l.length = 8) && inB clock 0 1000000 && l.all (wordOk clock)

theorem all_take_succ {α : Type} {l : List α} {k : Nat} {x : α} (f : α → Bool) (h : l[k]? = some x) : (l.take (k + 1)).all f = ((l.take k).all f && f x) := by
  have hk := (List.getElem?_eq_some_iff.1 h).1
  rw [List.take_succ_eq_append_getElem hk, (List.getElem?_eq_some_iff.1 h).2]
  simp
theorem memOk_no {clock : Int} {l : List I3} {k : Nat} {x : I3} (h : l[k]? = some x) (hx : wordOk clock x = false) : memOkB clock l = false := by
  have : l.all (wordOk clock) = false := by
    rw [List.all_eq_false]
    exact ⟨x, List.mem_of_getElem? h, by simp [hx]⟩
  simp [memOkB, this]

set_option maxRecDepth 20000 in
set_option maxHeartbeats 800000 in
theorem memOk_impl (clock : Int) (a : Option Addr) (n c : Nat) (l : List I3) (w : World) (h : Rd w 3 a n (c3 l)) (hn : n ≤ 1048576) :
    Calls Try.prog 16 #[.agg #[.int .i64 clock, .slice a n c]] w fun e w' => e = .returned (.bool (memOkB clock l)) ∧ Below w.heap.size w w' := by
  obtain rfl := h.n3
  go_enter Try.func16, Try.ntmps16
  go_wp2
  generalize hw0 : w.alloc (.cells #[.int .i64 clock, .slice a l.length c] 29) = w0
  have hb0 : Below w.heap.size w w0 := by rw [← hw0]; exact (Below.refl _ _).alloc (Nat.le_refl _) _
  have hs0 : w.heap.size < w0.heap.size := by rw [← hw0]; simp
  have hx0 : w0.cell? ⟨w.heap.size, 0, none⟩ = some (.int .i64 clock) := by rw [← hw0]; simp
  have hx1 : w0.cell? ⟨w.heap.size, 1, none⟩ = some (.slice a l.length c) := by rw [← hw0]; simp
  have HW0 := Lib.hid hw0
  have HB0 := Lib.hid hb0
  have HX0 := Lib.hid hx0
  have HX1 := Lib.hid hx1
  have hr0 := h.below hb0
  clear hw0 hb0 hx0 hx1 h
  go_loopw [8] (fun i wr => ∃ k : Nat, k ≤ l.length ∧ i = .int .i64 k ∧ Hid ((l.take k).all (wordOk clock) = true) ∧ Below w0.heap.size w0 wr) (fun i _ => l.length - (intOf i).toNat)
  case atStart => exact ⟨0, Nat.zero_le _, rfl, rfl, Below.refl _ _⟩
  case round =>
    obtain ⟨k, hk, rfl, HP, hb⟩ := hrel
    have hx0 := (hb.cell (p := ⟨w.heap.size, 0, none⟩) hs0).trans HX0.out
    have hx1 := (hb.cell (p := ⟨w.heap.size, 1, none⟩) hs0).trans HX1.out
    have hend := HB0.out.trans (hb.mono (Nat.le_of_lt hs0))
    have HE := Lib.hid hend
    have hsz := hb.size
    have hne : w.heap.size < wr.heap.size := by omega
    clear hend
    by_cases hlt : k < l.length
    · obtain ⟨b, o, rfl⟩ := hr0.addr (by omega)
      obtain ⟨x, hx⟩ : ∃ x, l[k]? = some x := ⟨_, List.getElem?_eq_getElem hlt⟩
      obtain ⟨hc0, hc1, hc2⟩ := (hr0.below hb).at3 k x hx
      have HXK := Lib.hid hx
      clear hx
      by_cases hA : inB x.a 0 65535 = true
      · by_cases hB : inB x.b 0 clock = true
        · by_cases hC : inB x.c 0 99 = true
          · go_wp2_with (first | (go_at_call 50; refine (within_any _ _ _ _).mono ?_; rintro e w' ⟨rfl, rfl⟩) | (go_at_call 49; refine (isValue_any _ _).mono ?_; rintro e w' ⟨rfl, rfl⟩) | (go_at_call 53; refine (isCell_any _ _).mono ?_; rintro e w' ⟨rfl, rfl⟩) | (go_at_call 60; refine (isOwner_any _ _).mono ?_; rintro e w' ⟨rfl, rfl⟩) | (fail; refine (isReg_any _ _).mono ?_; rintro e w' ⟨rfl, rfl⟩) | (fail; refine (isKey_any _ _).mono ?_; rintro e w' ⟨rfl, rfl⟩) | (go_at_call 46; refine (l1In_any _ _ _ _).mono ?_; rintro e w' ⟨rfl, rfl⟩) | (go_at_call 47; refine (l3Val_any _ _).mono ?_; rintro e w' ⟨rfl, rfl⟩) | (go_at_call 52; refine (l3Cell_any _ _).mono ?_; rintro e w' ⟨rfl, rfl⟩) | (fail; refine (l4Reg_any _ _).mono ?_; rintro e w' ⟨rfl, rfl⟩))
            exact ⟨⟨k + 1, by omega, by go_num, by show _ = _; rw [all_take_succ _ HXK.out, HP.out]; simp [wordOk, hA, hB, hC], hb.alloc hsz _⟩, by simp [intOf]; omega⟩
          · go_wp2_with (first | (go_at_call 50; refine (within_any _ _ _ _).mono ?_; rintro e w' ⟨rfl, rfl⟩) | (go_at_call 49; refine (isValue_any _ _).mono ?_; rintro e w' ⟨rfl, rfl⟩) | (go_at_call 53; refine (isCell_any _ _).mono ?_; rintro e w' ⟨rfl, rfl⟩) | (go_at_call 60; refine (isOwner_any _ _).mono ?_; rintro e w' ⟨rfl, rfl⟩) | (fail; refine (isReg_any _ _).mono ?_; rintro e w' ⟨rfl, rfl⟩) | (fail; refine (isKey_any _ _).mono ?_; rintro e w' ⟨rfl, rfl⟩) | (go_at_call 46; refine (l1In_any _ _ _ _).mono ?_; rintro e w' ⟨rfl, rfl⟩) | (go_at_call 47; refine (l3Val_any _ _).mono ?_; rintro e w' ⟨rfl, rfl⟩) | (go_at_call 52; refine (l3Cell_any _ _).mono ?_; rintro e w' ⟨rfl, rfl⟩) | (fail; refine (l4Reg_any _ _).mono ?_; rintro e w' ⟨rfl, rfl⟩))
            go_ret
            exact ⟨by rw [memOk_no HXK.out (by simp [wordOk, hA, hB, hC])]; rfl, HE.out.alloc (by omega) _⟩
        · go_wp2_with (first | (go_at_call 50; refine (within_any _ _ _ _).mono ?_; rintro e w' ⟨rfl, rfl⟩) | (go_at_call 49; refine (isValue_any _ _).mono ?_; rintro e w' ⟨rfl, rfl⟩) | (go_at_call 53; refine (isCell_any _ _).mono ?_; rintro e w' ⟨rfl, rfl⟩) | (go_at_call 60; refine (isOwner_any _ _).mono ?_; rintro e w' ⟨rfl, rfl⟩) | (fail; refine (isReg_any _ _).mono ?_; rintro e w' ⟨rfl, rfl⟩) | (fail; refine (isKey_any _ _).mono ?_; rintro e w' ⟨rfl, rfl⟩) | (go_at_call 46; refine (l1In_any _ _ _ _).mono ?_; rintro e w' ⟨rfl, rfl⟩) | (go_at_call 47; refine (l3Val_any _ _).mono ?_; rintro e w' ⟨rfl, rfl⟩) | (go_at_call 52; refine (l3Cell_any _ _).mono ?_; rintro e w' ⟨rfl, rfl⟩) | (fail; refine (l4Reg_any _ _).mono ?_; rintro e w' ⟨rfl, rfl⟩))
          go_ret
          exact ⟨by rw [memOk_no HXK.out (by simp [wordOk, hB])]; rfl, HE.out.alloc (by omega) _⟩
      · go_wp2_with (first | (go_at_call 50; refine (within_any _ _ _ _).mono ?_; rintro e w' ⟨rfl, rfl⟩) | (go_at_call 49; refine (isValue_any _ _).mono ?_; rintro e w' ⟨rfl, rfl⟩) | (go_at_call 53; refine (isCell_any _ _).mono ?_; rintro e w' ⟨rfl, rfl⟩) | (go_at_call 60; refine (isOwner_any _ _).mono ?_; rintro e w' ⟨rfl, rfl⟩) | (fail; refine (isReg_any _ _).mono ?_; rintro e w' ⟨rfl, rfl⟩) | (fail; refine (isKey_any _ _).mono ?_; rintro e w' ⟨rfl, rfl⟩) | (go_at_call 46; refine (l1In_any _ _ _ _).mono ?_; rintro e w' ⟨rfl, rfl⟩) | (go_at_call 47; refine (l3Val_any _ _).mono ?_; rintro e w' ⟨rfl, rfl⟩) | (go_at_call 52; refine (l3Cell_any _ _).mono ?_; rintro e w' ⟨rfl, rfl⟩) | (fail; refine (l4Reg_any _ _).mono ?_; rintro e w' ⟨rfl, rfl⟩))
        go_ret
        exact ⟨by rw [memOk_no HXK.out (by simp [wordOk, hA])]; rfl, HE.out.alloc (by omega) _⟩
    · obtain rfl : k = l.length := by omega
      have hP := HP.out
      rw [List.take_of_length_le (Nat.le_refl _)] at hP
      have hv : memOkB clock l = (decide (l.length = 8) && inB clock 0 1000000) := by simp [memOkB, hP]
      have HV := Lib.hid hv
      clear hv
      by_cases h8 : l.length = 8
      · have h8' : ((l.length : Int) == 8) = true := by rw [beq_iff_eq]; omega
        have H8 := Lib.hid h8
        clear h8
        go_wp2_with (first | (go_at_call 50; refine (within_any _ _ _ _).mono ?_; rintro e w' ⟨rfl, rfl⟩) | (go_at_call 49; refine (isValue_any _ _).mono ?_; rintro e w' ⟨rfl, rfl⟩) | (go_at_call 53; refine (isCell_any _ _).mono ?_; rintro e w' ⟨rfl, rfl⟩) | (go_at_call 60; refine (isOwner_any _ _).mono ?_; rintro e w' ⟨rfl, rfl⟩) | (fail; refine (isReg_any _ _).mono ?_; rintro e w' ⟨rfl, rfl⟩) | (fail; refine (isKey_any _ _).mono ?_; rintro e w' ⟨rfl, rfl⟩) | (go_at_call 46; refine (l1In_any _ _ _ _).mono ?_; rintro e w' ⟨rfl, rfl⟩) | (go_at_call 47; refine (l3Val_any _ _).mono ?_; rintro e w' ⟨rfl, rfl⟩) | (go_at_call 52; refine (l3Cell_any _ _).mono ?_; rintro e w' ⟨rfl, rfl⟩) | (fail; refine (l4Reg_any _ _).mono ?_; rintro e w' ⟨rfl, rfl⟩))
        go_ret
        exact ⟨by rw [HV.out, decide_eq_true H8.out, Bool.true_and]; rfl, HE.out⟩
      · have h8' : ((l.length : Int) == 8) = false := by rw [beq_eq_false_iff_ne]; omega
        have H8 := Lib.hid h8
        clear h8
        go_wp2_with (first | (go_at_call 50; refine (within_any _ _ _ _).mono ?_; rintro e w' ⟨rfl, rfl⟩) | (go_at_call 49; refine (isValue_any _ _).mono ?_; rintro e w' ⟨rfl, rfl⟩) | (go_at_call 53; refine (isCell_any _ _).mono ?_; rintro e w' ⟨rfl, rfl⟩) | (go_at_call 60; refine (isOwner_any _ _).mono ?_; rintro e w' ⟨rfl, rfl⟩) | (fail; refine (isReg_any _ _).mono ?_; rintro e w' ⟨rfl, rfl⟩) | (fail; refine (isKey_any _ _).mono ?_; rintro e w' ⟨rfl, rfl⟩) | (go_at_call 46; refine (l1In_any _ _ _ _).mono ?_; rintro e w' ⟨rfl, rfl⟩) | (go_at_call 47; refine (l3Val_any _ _).mono ?_; rintro e w' ⟨rfl, rfl⟩) | (go_at_call 52; refine (l3Cell_any _ _).mono ?_; rintro e w' ⟨rfl, rfl⟩) | (fail; refine (l4Reg_any _ _).mono ?_; rintro e w' ⟨rfl, rfl⟩))
        go_ret
        exact ⟨by rw [HV.out, decide_eq_false H8.out, Bool.false_and]; rfl, HE.out⟩

set_option maxRecDepth 20000 in
set_option maxHeartbeats 800000 in
theorem memOk_spec (clock : Int) (a : Option Addr) (n c : Nat) (l : List I3) (w : World) (h : Rd w 3 a n (c3 l)) (hn : n ≤ 1048576) :
    Calls Try.prog 14 #[.agg #[.int .i64 clock, .slice a n c]] w fun e w' => e = .returned (.bool (memOkB clock l)) ∧ Below w.heap.size w w' := by
  obtain rfl := h.n3
  by_cases h8 : l.length = 8 ∧ inB clock 0 1000000 = true
  · obtain ⟨h8, hcl⟩ := h8
    have hv : memOkB clock l = l.all (wordOk clock) := by simp [memOkB, h8, hcl]
    have HV := Lib.hid hv
    have h8' : ((l.length : Int) != 8) = false := by rw [bne_eq_false_iff_eq]; omega
    have hL8 : l.length ≤ 8 := by omega
    clear hv h8
    go_enter Try.func14, Try.ntmps14
    go_wp2_with (first | (go_at_call 50; refine (within_any _ _ _ _).mono ?_; rintro e w' ⟨rfl, rfl⟩) | (go_at_call 49; refine (isValue_any _ _).mono ?_; rintro e w' ⟨rfl, rfl⟩) | (go_at_call 53; refine (isCell_any _ _).mono ?_; rintro e w' ⟨rfl, rfl⟩) | (go_at_call 60; refine (isOwner_any _ _).mono ?_; rintro e w' ⟨rfl, rfl⟩) | (fail; refine (isReg_any _ _).mono ?_; rintro e w' ⟨rfl, rfl⟩) | (fail; refine (isKey_any _ _).mono ?_; rintro e w' ⟨rfl, rfl⟩) | (go_at_call 46; refine (l1In_any _ _ _ _).mono ?_; rintro e w' ⟨rfl, rfl⟩) | (go_at_call 47; refine (l3Val_any _ _).mono ?_; rintro e w' ⟨rfl, rfl⟩) | (go_at_call 52; refine (l3Cell_any _ _).mono ?_; rintro e w' ⟨rfl, rfl⟩) | (fail; refine (l4Reg_any _ _).mono ?_; rintro e w' ⟨rfl, rfl⟩))
    generalize hw0 : w.alloc (.cells #[.int .i64 clock, .slice a l.length c] 29) = w0
    have hb0 : Below w.heap.size w w0 := by rw [← hw0]; exact (Below.refl _ _).alloc (Nat.le_refl _) _
    have hs0 : w.heap.size < w0.heap.size := by rw [← hw0]; simp
    have hx0 : w0.cell? ⟨w.heap.size, 0, none⟩ = some (.int .i64 clock) := by rw [← hw0]; simp
    have hx1 : w0.cell? ⟨w.heap.size, 1, none⟩ = some (.slice a l.length c) := by rw [← hw0]; simp
    have HB0 := Lib.hid hb0
    have HX0 := Lib.hid hx0
    have HX1 := Lib.hid hx1
    have hr0 := h.below hb0
    clear hw0 hb0 hx0 hx1 h
    go_loopw [3] (fun i wr => ∃ k : Nat, k ≤ l.length ∧ i = .int .i64 k ∧ Hid ((l.take k).all (wordOk clock) = true) ∧ Below w0.heap.size w0 wr) (fun i _ => l.length - (intOf i).toNat)
    case atStart => exact ⟨0, Nat.zero_le _, rfl, rfl, Below.refl _ _⟩
    case round =>
      obtain ⟨k, hk, rfl, HP, hb⟩ := hrel
      have hx0 := (hb.cell (p := ⟨w.heap.size, 0, none⟩) hs0).trans HX0.out
      have hx1 := (hb.cell (p := ⟨w.heap.size, 1, none⟩) hs0).trans HX1.out
      have hend := HB0.out.trans (hb.mono (Nat.le_of_lt hs0))
      have HE := Lib.hid hend
      have hsz := hb.size
      have hne : w.heap.size < wr.heap.size := by omega
      clear hend
      by_cases hlt : k < l.length
      · obtain ⟨b, o, rfl⟩ := hr0.addr (by omega)
        obtain ⟨x, hx⟩ : ∃ x, l[k]? = some x := ⟨_, List.getElem?_eq_getElem hlt⟩
        obtain ⟨hc0, hc1, hc2⟩ := (hr0.below hb).at3 k x hx
        have HXK := Lib.hid hx
        clear hx
        by_cases hA : inB x.a 0 65535 = true
        · by_cases hB : inB x.b 0 clock = true
          · by_cases hC : inB x.c 0 99 = true
            · go_wp2_with (first | (go_at_call 50; refine (within_any _ _ _ _).mono ?_; rintro e w' ⟨rfl, rfl⟩) | (go_at_call 49; refine (isValue_any _ _).mono ?_; rintro e w' ⟨rfl, rfl⟩) | (go_at_call 53; refine (isCell_any _ _).mono ?_; rintro e w' ⟨rfl, rfl⟩) | (go_at_call 60; refine (isOwner_any _ _).mono ?_; rintro e w' ⟨rfl, rfl⟩) | (fail; refine (isReg_any _ _).mono ?_; rintro e w' ⟨rfl, rfl⟩) | (fail; refine (isKey_any _ _).mono ?_; rintro e w' ⟨rfl, rfl⟩) | (go_at_call 46; refine (l1In_any _ _ _ _).mono ?_; rintro e w' ⟨rfl, rfl⟩) | (go_at_call 47; refine (l3Val_any _ _).mono ?_; rintro e w' ⟨rfl, rfl⟩) | (go_at_call 52; refine (l3Cell_any _ _).mono ?_; rintro e w' ⟨rfl, rfl⟩) | (fail; refine (l4Reg_any _ _).mono ?_; rintro e w' ⟨rfl, rfl⟩))
              exact ⟨⟨k + 1, by omega, by go_num, by show _ = _; rw [all_take_succ _ HXK.out, HP.out]; simp [wordOk, hA, hB, hC], hb.alloc hsz _⟩, by simp [intOf]; omega⟩
            · go_wp2_with (first | (go_at_call 50; refine (within_any _ _ _ _).mono ?_; rintro e w' ⟨rfl, rfl⟩) | (go_at_call 49; refine (isValue_any _ _).mono ?_; rintro e w' ⟨rfl, rfl⟩) | (go_at_call 53; refine (isCell_any _ _).mono ?_; rintro e w' ⟨rfl, rfl⟩) | (go_at_call 60; refine (isOwner_any _ _).mono ?_; rintro e w' ⟨rfl, rfl⟩) | (fail; refine (isReg_any _ _).mono ?_; rintro e w' ⟨rfl, rfl⟩) | (fail; refine (isKey_any _ _).mono ?_; rintro e w' ⟨rfl, rfl⟩) | (go_at_call 46; refine (l1In_any _ _ _ _).mono ?_; rintro e w' ⟨rfl, rfl⟩) | (go_at_call 47; refine (l3Val_any _ _).mono ?_; rintro e w' ⟨rfl, rfl⟩) | (go_at_call 52; refine (l3Cell_any _ _).mono ?_; rintro e w' ⟨rfl, rfl⟩) | (fail; refine (l4Reg_any _ _).mono ?_; rintro e w' ⟨rfl, rfl⟩))
              go_ret
              exact ⟨by rw [memOk_no HXK.out (by simp [wordOk, hA, hB, hC])]; rfl, HE.out.alloc (by omega) _⟩
          · go_wp2_with (first | (go_at_call 50; refine (within_any _ _ _ _).mono ?_; rintro e w' ⟨rfl, rfl⟩) | (go_at_call 49; refine (isValue_any _ _).mono ?_; rintro e w' ⟨rfl, rfl⟩) | (go_at_call 53; refine (isCell_any _ _).mono ?_; rintro e w' ⟨rfl, rfl⟩) | (go_at_call 60; refine (isOwner_any _ _).mono ?_; rintro e w' ⟨rfl, rfl⟩) | (fail; refine (isReg_any _ _).mono ?_; rintro e w' ⟨rfl, rfl⟩) | (fail; refine (isKey_any _ _).mono ?_; rintro e w' ⟨rfl, rfl⟩) | (go_at_call 46; refine (l1In_any _ _ _ _).mono ?_; rintro e w' ⟨rfl, rfl⟩) | (go_at_call 47; refine (l3Val_any _ _).mono ?_; rintro e w' ⟨rfl, rfl⟩) | (go_at_call 52; refine (l3Cell_any _ _).mono ?_; rintro e w' ⟨rfl, rfl⟩) | (fail; refine (l4Reg_any _ _).mono ?_; rintro e w' ⟨rfl, rfl⟩))
            go_ret
            exact ⟨by rw [memOk_no HXK.out (by simp [wordOk, hB])]; rfl, HE.out.alloc (by omega) _⟩
        · go_wp2_with (first | (go_at_call 50; refine (within_any _ _ _ _).mono ?_; rintro e w' ⟨rfl, rfl⟩) | (go_at_call 49; refine (isValue_any _ _).mono ?_; rintro e w' ⟨rfl, rfl⟩) | (go_at_call 53; refine (isCell_any _ _).mono ?_; rintro e w' ⟨rfl, rfl⟩) | (go_at_call 60; refine (isOwner_any _ _).mono ?_; rintro e w' ⟨rfl, rfl⟩) | (fail; refine (isReg_any _ _).mono ?_; rintro e w' ⟨rfl, rfl⟩) | (fail; refine (isKey_any _ _).mono ?_; rintro e w' ⟨rfl, rfl⟩) | (go_at_call 46; refine (l1In_any _ _ _ _).mono ?_; rintro e w' ⟨rfl, rfl⟩) | (go_at_call 47; refine (l3Val_any _ _).mono ?_; rintro e w' ⟨rfl, rfl⟩) | (go_at_call 52; refine (l3Cell_any _ _).mono ?_; rintro e w' ⟨rfl, rfl⟩) | (fail; refine (l4Reg_any _ _).mono ?_; rintro e w' ⟨rfl, rfl⟩))
          go_ret
          exact ⟨by rw [memOk_no HXK.out (by simp [wordOk, hA])]; rfl, HE.out.alloc (by omega) _⟩
      · obtain rfl : k = l.length := by omega
        go_wp2
        go_ret
        refine ⟨?_, HE.out⟩
        have := HP.out
        rw [List.take_of_length_le (Nat.le_refl _)] at this
        rw [HV.out, this]
        rfl
  · have hv : memOkB clock l = false := by
      unfold memOkB
      by_cases h1 : l.length = 8
      · have : inB clock 0 1000000 = false := by
          cases hh : inB clock 0 1000000 with
          | false => rfl
          | true => exact absurd ⟨h1, hh⟩ h8
        simp [this]
      · simp [h1]
    rw [hv]
    by_cases h1 : l.length = 8
    · have h8' : ((l.length : Int) != 8) = false := by rw [bne_eq_false_iff_eq]; omega
      have hcl : inB clock 0 1000000 = false := by
        cases hh : inB clock 0 1000000 with
        | false => rfl
        | true => exact absurd ⟨h1, hh⟩ h8
      clear h8 h1 hv
      go_enter Try.func14, Try.ntmps14
      go_wp2_with (first | (go_at_call 50; refine (within_any _ _ _ _).mono ?_; rintro e w' ⟨rfl, rfl⟩) | (go_at_call 49; refine (isValue_any _ _).mono ?_; rintro e w' ⟨rfl, rfl⟩) | (go_at_call 53; refine (isCell_any _ _).mono ?_; rintro e w' ⟨rfl, rfl⟩) | (go_at_call 60; refine (isOwner_any _ _).mono ?_; rintro e w' ⟨rfl, rfl⟩) | (fail; refine (isReg_any _ _).mono ?_; rintro e w' ⟨rfl, rfl⟩) | (fail; refine (isKey_any _ _).mono ?_; rintro e w' ⟨rfl, rfl⟩) | (go_at_call 46; refine (l1In_any _ _ _ _).mono ?_; rintro e w' ⟨rfl, rfl⟩) | (go_at_call 47; refine (l3Val_any _ _).mono ?_; rintro e w' ⟨rfl, rfl⟩) | (go_at_call 52; refine (l3Cell_any _ _).mono ?_; rintro e w' ⟨rfl, rfl⟩) | (fail; refine (l4Reg_any _ _).mono ?_; rintro e w' ⟨rfl, rfl⟩))
      go_ret
      exact ⟨rfl, (Below.refl _ _).alloc (Nat.le_refl _) _⟩
    · have h8' : ((l.length : Int) != 8) = true := by rw [bne_iff_ne]; omega
      clear h8 h1 hv
      go_enter Try.func14, Try.ntmps14
      go_wp2_with (first | (go_at_call 50; refine (within_any _ _ _ _).mono ?_; rintro e w' ⟨rfl, rfl⟩) | (go_at_call 49; refine (isValue_any _ _).mono ?_; rintro e w' ⟨rfl, rfl⟩) | (go_at_call 53; refine (isCell_any _ _).mono ?_; rintro e w' ⟨rfl, rfl⟩) | (go_at_call 60; refine (isOwner_any _ _).mono ?_; rintro e w' ⟨rfl, rfl⟩) | (fail; refine (isReg_any _ _).mono ?_; rintro e w' ⟨rfl, rfl⟩) | (fail; refine (isKey_any _ _).mono ?_; rintro e w' ⟨rfl, rfl⟩) | (go_at_call 46; refine (l1In_any _ _ _ _).mono ?_; rintro e w' ⟨rfl, rfl⟩) | (go_at_call 47; refine (l3Val_any _ _).mono ?_; rintro e w' ⟨rfl, rfl⟩) | (go_at_call 52; refine (l3Cell_any _ _).mono ?_; rintro e w' ⟨rfl, rfl⟩) | (fail; refine (l4Reg_any _ _).mono ?_; rintro e w' ⟨rfl, rfl⟩))
      go_ret
      exact ⟨rfl, (Below.refl _ _).alloc (Nat.le_refl _) _⟩
end Go.Proofs.Ytmhdjnmfioaciaa
