/- LoadLock and LoadVal of both packages. -/
import Derived.Test.YtmhdjnmfioaciaaRows
import Derived.Test.YtmhdjnmfioaciaaMem
namespace Go.Proofs.Ytmhdjnmfioaciaa
open Go Go.RowKit

def loadLock (clock : Int) (l : List I3) (i : Int) : Int × Int × Bool := match memOkB clock l && inB i 0 7, l[i.toNat]? with
  | true, some x => (x.b, x.c, true)
  | _, _ => (0, 0, false)
def loadVal (clock : Int) (l : List I3) (i : Int) : Int × Bool := match memOkB clock l && inB i 0 7, l[i.toNat]? with
  | true, some x => (x.a, true)
  | _, _ => (0, false)
set_option maxRecDepth 20000 in
set_option maxHeartbeats 800000 in
theorem loadLock_impl (clock : Int) (a : Option Addr) (n c : Nat) (l : List I3) (i : Int) (w : World) (h : Rd w 3 a n (c3 l)) (hn : n ≤ 1048576) :
    Calls Try.prog 19 #[.agg #[.int .i64 clock, .slice a n c], .int .i64 i] w fun e w' => e = .returned (.tuple #[.int .i64 (loadLock clock l i).1, .int .i64 (loadLock clock l i).2.1, .bool (loadLock clock l i).2.2]) ∧ Below w.heap.size w w' := by
  have hm := fun w' => memOk_impl clock a n c l w'
  have HM := Lib.hid hm
  clear hm
  generalize hR : loadLock clock l i = R
  obtain ⟨r1, r2, r3⟩ := R
  have HR := Lib.hid hR
  clear hR
  have hra := h.below ((Below.refl _ w).alloc (Nat.le_refl _) (.cells #[.int .i64 clock, .slice a n c] 29))
  by_cases hk : memOkB clock l = true
  · by_cases hi : inB i 0 7 = true
    · go_enter Try.func19, Try.ntmps19
      go_wp2_with (first | (go_at_call 16; refine (HM.out _ hra hn).mono ?_; rintro e w1 ⟨rfl, hb1⟩; have hc1 := hb1.cell (p := ⟨w.heap.size, 1, none⟩) (by simp)) | (first | (go_at_call 50; refine (within_any _ _ _ _).mono ?_; rintro e w' ⟨rfl, rfl⟩) | (go_at_call 49; refine (isValue_any _ _).mono ?_; rintro e w' ⟨rfl, rfl⟩) | (go_at_call 53; refine (isCell_any _ _).mono ?_; rintro e w' ⟨rfl, rfl⟩) | (go_at_call 60; refine (isOwner_any _ _).mono ?_; rintro e w' ⟨rfl, rfl⟩) | (fail; refine (isReg_any _ _).mono ?_; rintro e w' ⟨rfl, rfl⟩) | (fail; refine (isKey_any _ _).mono ?_; rintro e w' ⟨rfl, rfl⟩) | (go_at_call 46; refine (l1In_any _ _ _ _).mono ?_; rintro e w' ⟨rfl, rfl⟩) | (go_at_call 47; refine (l3Val_any _ _).mono ?_; rintro e w' ⟨rfl, rfl⟩) | (go_at_call 52; refine (l3Cell_any _ _).mono ?_; rintro e w' ⟨rfl, rfl⟩) | (fail; refine (l4Reg_any _ _).mono ?_; rintro e w' ⟨rfl, rfl⟩)))
      have hr1 := hra.below hb1
      have hl8 : l.length = 8 := by simp [memOkB] at hk; exact hk.1.1
      have hib := inB_true.1 hi
      obtain ⟨p, rfl⟩ := Int.eq_ofNat_of_zero_le hib.1
      have hp7 : p < l.length := by omega
      obtain ⟨b, o, rfl⟩ := hr1.addr (by rw [h.n3]; omega)
      obtain ⟨x, hx⟩ : ∃ x, l[p]? = some x := ⟨_, List.getElem?_eq_getElem hp7⟩
      obtain ⟨hc0, hc2, hc3⟩ := hr1.at3 p x hx
      have hpn : p < n := by rw [h.n3]; exact hp7
      have hfin : (r1, r2, r3) = (x.b, x.c, true) := by rw [← HR.out]; simp [loadLock, hk, hi, hx]
      simp only [Prod.mk.injEq] at hfin
      obtain ⟨rfl, rfl, rfl⟩ := hfin
      have hbe := ((Below.refl w.heap.size w).alloc (Nat.le_refl _) (.cells #[.int .i64 clock, .slice (some ⟨b, o, none⟩) n c] 29)).trans (hb1.mono (by simp))
      have HBE := Lib.hid hbe
      clear hbe hk hi hl8 hib hx hr1 hra h hb1
      refine wp_region_canon [(0, true), (1, true), (2, true), (3, true), (4, true), (5, true), (6, true), (7, true), (8, true), (9, true), (10, true), (11, true), (12, true), (13, true), (14, true)] (fun _ => True) (by kernel_rfl) (by kernel_rfl) ?_
      simp only [List.map_cons, List.map_nil, List.getD_cons_zero, List.getD_cons_succ]
      (repeat ((first | refine wpC_now (by rfl) (fun K hK => ?_) | refine wpC_any (by rfl) trivial (fun K hK => ?_)); simp only [YR]; go_simp; (try go_bits); refine hK _ ?_; clear hK K))
      (refine wpC_nil (NoPanic.normal ?_))
      go_wp2
      go_ret3
      exact ⟨rfl, HBE.out.drew⟩
    · go_enter Try.func19, Try.ntmps19
      go_wp2_with (first | (go_at_call 16; refine (HM.out _ hra hn).mono ?_; rintro e w1 ⟨rfl, hb1⟩) | (first | (go_at_call 50; refine (within_any _ _ _ _).mono ?_; rintro e w' ⟨rfl, rfl⟩) | (go_at_call 49; refine (isValue_any _ _).mono ?_; rintro e w' ⟨rfl, rfl⟩) | (go_at_call 53; refine (isCell_any _ _).mono ?_; rintro e w' ⟨rfl, rfl⟩) | (go_at_call 60; refine (isOwner_any _ _).mono ?_; rintro e w' ⟨rfl, rfl⟩) | (fail; refine (isReg_any _ _).mono ?_; rintro e w' ⟨rfl, rfl⟩) | (fail; refine (isKey_any _ _).mono ?_; rintro e w' ⟨rfl, rfl⟩) | (go_at_call 46; refine (l1In_any _ _ _ _).mono ?_; rintro e w' ⟨rfl, rfl⟩) | (go_at_call 47; refine (l3Val_any _ _).mono ?_; rintro e w' ⟨rfl, rfl⟩) | (go_at_call 52; refine (l3Cell_any _ _).mono ?_; rintro e w' ⟨rfl, rfl⟩) | (fail; refine (l4Reg_any _ _).mono ?_; rintro e w' ⟨rfl, rfl⟩)))
      go_ret3
      have hfin : (r1, r2, r3) = (0, 0, false) := by rw [← HR.out]; simp [loadLock, hi]
      simp only [Prod.mk.injEq] at hfin
      obtain ⟨rfl, rfl, rfl⟩ := hfin
      exact ⟨rfl, ((Below.refl _ w).alloc (Nat.le_refl _) _).trans (hb1.mono (by simp))⟩
  · go_enter Try.func19, Try.ntmps19
    go_wp2_with (first | (go_at_call 16; refine (HM.out _ hra hn).mono ?_; rintro e w1 ⟨rfl, hb1⟩) | (first | (go_at_call 50; refine (within_any _ _ _ _).mono ?_; rintro e w' ⟨rfl, rfl⟩) | (go_at_call 49; refine (isValue_any _ _).mono ?_; rintro e w' ⟨rfl, rfl⟩) | (go_at_call 53; refine (isCell_any _ _).mono ?_; rintro e w' ⟨rfl, rfl⟩) | (go_at_call 60; refine (isOwner_any _ _).mono ?_; rintro e w' ⟨rfl, rfl⟩) | (fail; refine (isReg_any _ _).mono ?_; rintro e w' ⟨rfl, rfl⟩) | (fail; refine (isKey_any _ _).mono ?_; rintro e w' ⟨rfl, rfl⟩) | (go_at_call 46; refine (l1In_any _ _ _ _).mono ?_; rintro e w' ⟨rfl, rfl⟩) | (go_at_call 47; refine (l3Val_any _ _).mono ?_; rintro e w' ⟨rfl, rfl⟩) | (go_at_call 52; refine (l3Cell_any _ _).mono ?_; rintro e w' ⟨rfl, rfl⟩) | (fail; refine (l4Reg_any _ _).mono ?_; rintro e w' ⟨rfl, rfl⟩)))
    go_ret3
    have hfin : (r1, r2, r3) = (0, 0, false) := by rw [← HR.out]; simp [loadLock, hk]
    simp only [Prod.mk.injEq] at hfin
    obtain ⟨rfl, rfl, rfl⟩ := hfin
    exact ⟨rfl, ((Below.refl _ w).alloc (Nat.le_refl _) _).trans (hb1.mono (by simp))⟩

set_option maxRecDepth 20000 in
set_option maxHeartbeats 800000 in
theorem loadLock_spec (clock : Int) (a : Option Addr) (n c : Nat) (l : List I3) (i : Int) (w : World) (h : Rd w 3 a n (c3 l)) (hn : n ≤ 1048576) :
    Calls Try.prog 18 #[.agg #[.int .i64 clock, .slice a n c], .int .i64 i] w fun e w' => e = .returned (.tuple #[.int .i64 (loadLock clock l i).1, .int .i64 (loadLock clock l i).2.1, .bool (loadLock clock l i).2.2]) ∧ Below w.heap.size w w' := by
  have hm := fun w' => memOk_spec clock a n c l w'
  have HM := Lib.hid hm
  clear hm
  generalize hR : loadLock clock l i = R
  obtain ⟨r1, r2, r3⟩ := R
  have HR := Lib.hid hR
  clear hR
  have hra := h.below ((Below.refl _ w).alloc (Nat.le_refl _) (.cells #[.int .i64 clock, .slice a n c] 29))
  by_cases hk : memOkB clock l = true
  · by_cases hi : inB i 0 7 = true
    · go_enter Try.func18, Try.ntmps18
      go_wp2_with (first | (go_at_call 14; refine (HM.out _ hra hn).mono ?_; rintro e w1 ⟨rfl, hb1⟩; have hc1 := hb1.cell (p := ⟨w.heap.size, 1, none⟩) (by simp)) | (first | (go_at_call 50; refine (within_any _ _ _ _).mono ?_; rintro e w' ⟨rfl, rfl⟩) | (go_at_call 49; refine (isValue_any _ _).mono ?_; rintro e w' ⟨rfl, rfl⟩) | (go_at_call 53; refine (isCell_any _ _).mono ?_; rintro e w' ⟨rfl, rfl⟩) | (go_at_call 60; refine (isOwner_any _ _).mono ?_; rintro e w' ⟨rfl, rfl⟩) | (fail; refine (isReg_any _ _).mono ?_; rintro e w' ⟨rfl, rfl⟩) | (fail; refine (isKey_any _ _).mono ?_; rintro e w' ⟨rfl, rfl⟩) | (go_at_call 46; refine (l1In_any _ _ _ _).mono ?_; rintro e w' ⟨rfl, rfl⟩) | (go_at_call 47; refine (l3Val_any _ _).mono ?_; rintro e w' ⟨rfl, rfl⟩) | (go_at_call 52; refine (l3Cell_any _ _).mono ?_; rintro e w' ⟨rfl, rfl⟩) | (fail; refine (l4Reg_any _ _).mono ?_; rintro e w' ⟨rfl, rfl⟩)))
      have hr1 := hra.below hb1
      have hl8 : l.length = 8 := by simp [memOkB] at hk; exact hk.1.1
      have hib := inB_true.1 hi
      obtain ⟨p, rfl⟩ := Int.eq_ofNat_of_zero_le hib.1
      have hp7 : p < l.length := by omega
      obtain ⟨b, o, rfl⟩ := hr1.addr (by rw [h.n3]; omega)
      obtain ⟨x, hx⟩ : ∃ x, l[p]? = some x := ⟨_, List.getElem?_eq_getElem hp7⟩
      obtain ⟨hc0, hc2, hc3⟩ := hr1.at3 p x hx
      have hpn : p < n := by rw [h.n3]; exact hp7
      have hfin : (r1, r2, r3) = (x.b, x.c, true) := by rw [← HR.out]; simp [loadLock, hk, hi, hx]
      simp only [Prod.mk.injEq] at hfin
      obtain ⟨rfl, rfl, rfl⟩ := hfin
      have hbe := ((Below.refl w.heap.size w).alloc (Nat.le_refl _) (.cells #[.int .i64 clock, .slice (some ⟨b, o, none⟩) n c] 29)).trans (hb1.mono (by simp))
      have HBE := Lib.hid hbe
      clear hbe hk hi hl8 hib hx hr1 hra h hb1
      refine wp_region_canon [(0, true), (1, true), (2, true), (3, true), (4, true), (5, true), (6, true), (7, true), (8, true), (9, true), (10, true), (11, true), (12, true), (13, true), (14, true)] (fun _ => True) (by kernel_rfl) (by kernel_rfl) ?_
      simp only [List.map_cons, List.map_nil, List.getD_cons_zero, List.getD_cons_succ]
      (repeat ((first | refine wpC_now (by rfl) (fun K hK => ?_) | refine wpC_any (by rfl) trivial (fun K hK => ?_)); simp only [YR]; go_simp; (try go_bits); refine hK _ ?_; clear hK K))
      (refine wpC_nil (NoPanic.normal ?_))
      go_wp2
      go_ret3
      exact ⟨rfl, HBE.out.drew⟩
    · go_enter Try.func18, Try.ntmps18
      go_wp2_with (first | (go_at_call 14; refine (HM.out _ hra hn).mono ?_; rintro e w1 ⟨rfl, hb1⟩) | (first | (go_at_call 50; refine (within_any _ _ _ _).mono ?_; rintro e w' ⟨rfl, rfl⟩) | (go_at_call 49; refine (isValue_any _ _).mono ?_; rintro e w' ⟨rfl, rfl⟩) | (go_at_call 53; refine (isCell_any _ _).mono ?_; rintro e w' ⟨rfl, rfl⟩) | (go_at_call 60; refine (isOwner_any _ _).mono ?_; rintro e w' ⟨rfl, rfl⟩) | (fail; refine (isReg_any _ _).mono ?_; rintro e w' ⟨rfl, rfl⟩) | (fail; refine (isKey_any _ _).mono ?_; rintro e w' ⟨rfl, rfl⟩) | (go_at_call 46; refine (l1In_any _ _ _ _).mono ?_; rintro e w' ⟨rfl, rfl⟩) | (go_at_call 47; refine (l3Val_any _ _).mono ?_; rintro e w' ⟨rfl, rfl⟩) | (go_at_call 52; refine (l3Cell_any _ _).mono ?_; rintro e w' ⟨rfl, rfl⟩) | (fail; refine (l4Reg_any _ _).mono ?_; rintro e w' ⟨rfl, rfl⟩)))
      go_ret3
      have hfin : (r1, r2, r3) = (0, 0, false) := by rw [← HR.out]; simp [loadLock, hi]
      simp only [Prod.mk.injEq] at hfin
      obtain ⟨rfl, rfl, rfl⟩ := hfin
      exact ⟨rfl, ((Below.refl _ w).alloc (Nat.le_refl _) _).trans (hb1.mono (by simp))⟩
  · go_enter Try.func18, Try.ntmps18
    go_wp2_with (first | (go_at_call 14; refine (HM.out _ hra hn).mono ?_; rintro e w1 ⟨rfl, hb1⟩) | (first | (go_at_call 50; refine (within_any _ _ _ _).mono ?_; rintro e w' ⟨rfl, rfl⟩) | (go_at_call 49; refine (isValue_any _ _).mono ?_; rintro e w' ⟨rfl, rfl⟩) | (go_at_call 53; refine (isCell_any _ _).mono ?_; rintro e w' ⟨rfl, rfl⟩) | (go_at_call 60; refine (isOwner_any _ _).mono ?_; rintro e w' ⟨rfl, rfl⟩) | (fail; refine (isReg_any _ _).mono ?_; rintro e w' ⟨rfl, rfl⟩) | (fail; refine (isKey_any _ _).mono ?_; rintro e w' ⟨rfl, rfl⟩) | (go_at_call 46; refine (l1In_any _ _ _ _).mono ?_; rintro e w' ⟨rfl, rfl⟩) | (go_at_call 47; refine (l3Val_any _ _).mono ?_; rintro e w' ⟨rfl, rfl⟩) | (go_at_call 52; refine (l3Cell_any _ _).mono ?_; rintro e w' ⟨rfl, rfl⟩) | (fail; refine (l4Reg_any _ _).mono ?_; rintro e w' ⟨rfl, rfl⟩)))
    go_ret3
    have hfin : (r1, r2, r3) = (0, 0, false) := by rw [← HR.out]; simp [loadLock, hk]
    simp only [Prod.mk.injEq] at hfin
    obtain ⟨rfl, rfl, rfl⟩ := hfin
    exact ⟨rfl, ((Below.refl _ w).alloc (Nat.le_refl _) _).trans (hb1.mono (by simp))⟩

set_option maxRecDepth 20000 in
set_option maxHeartbeats 800000 in
theorem loadVal_impl (clock : Int) (a : Option Addr) (n c : Nat) (l : List I3) (i : Int) (w : World) (h : Rd w 3 a n (c3 l)) (hn : n ≤ 1048576) :
    Calls Try.prog 21 #[.agg #[.int .i64 clock, .slice a n c], .int .i64 i] w fun e w' => e = .returned (.tuple #[.int .i64 (loadVal clock l i).1, .bool (loadVal clock l i).2]) ∧ Below w.heap.size w w' := by
  have hm := fun w' => memOk_impl clock a n c l w'
  have HM := Lib.hid hm
  clear hm
  generalize hR : loadVal clock l i = R
  obtain ⟨r1, r2⟩ := R
  have HR := Lib.hid hR
  clear hR
  have hra := h.below ((Below.refl _ w).alloc (Nat.le_refl _) (.cells #[.int .i64 clock, .slice a n c] 29))
  by_cases hk : memOkB clock l = true
  · by_cases hi : inB i 0 7 = true
    · have hl8 : l.length = 8 := by simp [memOkB] at hk; exact hk.1.1
      have hib := inB_true.1 hi
      obtain ⟨p, rfl⟩ := Int.eq_ofNat_of_zero_le hib.1
      have hp7 : p < l.length := by omega
      obtain ⟨b, o, rfl⟩ := hra.addr (by rw [h.n3]; omega)
      obtain ⟨x, hx⟩ : ∃ x, l[p]? = some x := ⟨_, List.getElem?_eq_getElem hp7⟩
      have HXK := Lib.hid hx
      have hpn : p < n := by rw [h.n3]; exact hp7
      have hfin : (r1, r2) = (x.a, true) := by rw [← HR.out]; simp [loadVal, hk, hi, hx]
      simp only [Prod.mk.injEq] at hfin
      obtain ⟨rfl, rfl⟩ := hfin
      clear hl8 hib hx h
      go_enter Try.func21, Try.ntmps21
      go_wp2_with (first | (go_at_call 16; refine (HM.out _ hra hn).mono ?_; rintro e w1 ⟨rfl, hb1⟩; have hc1 := hb1.cell (p := ⟨w.heap.size, 1, none⟩) (by simp); obtain ⟨hc0, hc2, hc3⟩ := (hra.below hb1).at3 p x HXK.out) | (first | (go_at_call 50; refine (within_any _ _ _ _).mono ?_; rintro e w' ⟨rfl, rfl⟩) | (go_at_call 49; refine (isValue_any _ _).mono ?_; rintro e w' ⟨rfl, rfl⟩) | (go_at_call 53; refine (isCell_any _ _).mono ?_; rintro e w' ⟨rfl, rfl⟩) | (go_at_call 60; refine (isOwner_any _ _).mono ?_; rintro e w' ⟨rfl, rfl⟩) | (fail; refine (isReg_any _ _).mono ?_; rintro e w' ⟨rfl, rfl⟩) | (fail; refine (isKey_any _ _).mono ?_; rintro e w' ⟨rfl, rfl⟩) | (go_at_call 46; refine (l1In_any _ _ _ _).mono ?_; rintro e w' ⟨rfl, rfl⟩) | (go_at_call 47; refine (l3Val_any _ _).mono ?_; rintro e w' ⟨rfl, rfl⟩) | (go_at_call 52; refine (l3Cell_any _ _).mono ?_; rintro e w' ⟨rfl, rfl⟩) | (fail; refine (l4Reg_any _ _).mono ?_; rintro e w' ⟨rfl, rfl⟩)))
      go_ret2
      exact ⟨rfl, ((Below.refl w.heap.size w).alloc (Nat.le_refl _) _).trans (hb1.mono (by simp))⟩
    · go_enter Try.func21, Try.ntmps21
      go_wp2_with (first | (go_at_call 16; refine (HM.out _ hra hn).mono ?_; rintro e w1 ⟨rfl, hb1⟩) | (first | (go_at_call 50; refine (within_any _ _ _ _).mono ?_; rintro e w' ⟨rfl, rfl⟩) | (go_at_call 49; refine (isValue_any _ _).mono ?_; rintro e w' ⟨rfl, rfl⟩) | (go_at_call 53; refine (isCell_any _ _).mono ?_; rintro e w' ⟨rfl, rfl⟩) | (go_at_call 60; refine (isOwner_any _ _).mono ?_; rintro e w' ⟨rfl, rfl⟩) | (fail; refine (isReg_any _ _).mono ?_; rintro e w' ⟨rfl, rfl⟩) | (fail; refine (isKey_any _ _).mono ?_; rintro e w' ⟨rfl, rfl⟩) | (go_at_call 46; refine (l1In_any _ _ _ _).mono ?_; rintro e w' ⟨rfl, rfl⟩) | (go_at_call 47; refine (l3Val_any _ _).mono ?_; rintro e w' ⟨rfl, rfl⟩) | (go_at_call 52; refine (l3Cell_any _ _).mono ?_; rintro e w' ⟨rfl, rfl⟩) | (fail; refine (l4Reg_any _ _).mono ?_; rintro e w' ⟨rfl, rfl⟩)))
      go_ret2
      have hfin : (r1, r2) = (0, false) := by rw [← HR.out]; simp [loadVal, hi]
      simp only [Prod.mk.injEq] at hfin
      obtain ⟨rfl, rfl⟩ := hfin
      exact ⟨rfl, ((Below.refl _ w).alloc (Nat.le_refl _) _).trans (hb1.mono (by simp))⟩
  · go_enter Try.func21, Try.ntmps21
    go_wp2_with (first | (go_at_call 16; refine (HM.out _ hra hn).mono ?_; rintro e w1 ⟨rfl, hb1⟩) | (first | (go_at_call 50; refine (within_any _ _ _ _).mono ?_; rintro e w' ⟨rfl, rfl⟩) | (go_at_call 49; refine (isValue_any _ _).mono ?_; rintro e w' ⟨rfl, rfl⟩) | (go_at_call 53; refine (isCell_any _ _).mono ?_; rintro e w' ⟨rfl, rfl⟩) | (go_at_call 60; refine (isOwner_any _ _).mono ?_; rintro e w' ⟨rfl, rfl⟩) | (fail; refine (isReg_any _ _).mono ?_; rintro e w' ⟨rfl, rfl⟩) | (fail; refine (isKey_any _ _).mono ?_; rintro e w' ⟨rfl, rfl⟩) | (go_at_call 46; refine (l1In_any _ _ _ _).mono ?_; rintro e w' ⟨rfl, rfl⟩) | (go_at_call 47; refine (l3Val_any _ _).mono ?_; rintro e w' ⟨rfl, rfl⟩) | (go_at_call 52; refine (l3Cell_any _ _).mono ?_; rintro e w' ⟨rfl, rfl⟩) | (fail; refine (l4Reg_any _ _).mono ?_; rintro e w' ⟨rfl, rfl⟩)))
    go_ret2
    have hfin : (r1, r2) = (0, false) := by rw [← HR.out]; simp [loadVal, hk]
    simp only [Prod.mk.injEq] at hfin
    obtain ⟨rfl, rfl⟩ := hfin
    exact ⟨rfl, ((Below.refl _ w).alloc (Nat.le_refl _) _).trans (hb1.mono (by simp))⟩

set_option maxRecDepth 20000 in
set_option maxHeartbeats 800000 in
theorem loadVal_spec (clock : Int) (a : Option Addr) (n c : Nat) (l : List I3) (i : Int) (w : World) (h : Rd w 3 a n (c3 l)) (hn : n ≤ 1048576) :
    Calls Try.prog 20 #[.agg #[.int .i64 clock, .slice a n c], .int .i64 i] w fun e w' => e = .returned (.tuple #[.int .i64 (loadVal clock l i).1, .bool (loadVal clock l i).2]) ∧ Below w.heap.size w w' := by
  have hm := fun w' => memOk_spec clock a n c l w'
  have HM := Lib.hid hm
  clear hm
  generalize hR : loadVal clock l i = R
  obtain ⟨r1, r2⟩ := R
  have HR := Lib.hid hR
  clear hR
  have hra := h.below ((Below.refl _ w).alloc (Nat.le_refl _) (.cells #[.int .i64 clock, .slice a n c] 29))
  by_cases hk : memOkB clock l = true
  · by_cases hi : inB i 0 7 = true
    · have hl8 : l.length = 8 := by simp [memOkB] at hk; exact hk.1.1
      have hib := inB_true.1 hi
      obtain ⟨p, rfl⟩ := Int.eq_ofNat_of_zero_le hib.1
      have hp7 : p < l.length := by omega
      obtain ⟨b, o, rfl⟩ := hra.addr (by rw [h.n3]; omega)
      obtain ⟨x, hx⟩ : ∃ x, l[p]? = some x := ⟨_, List.getElem?_eq_getElem hp7⟩
      have HXK := Lib.hid hx
      have hpn : p < n := by rw [h.n3]; exact hp7
      have hfin : (r1, r2) = (x.a, true) := by rw [← HR.out]; simp [loadVal, hk, hi, hx]
      simp only [Prod.mk.injEq] at hfin
      obtain ⟨rfl, rfl⟩ := hfin
      clear hl8 hib hx h
      go_enter Try.func20, Try.ntmps20
      go_wp2_with (first | (go_at_call 14; refine (HM.out _ hra hn).mono ?_; rintro e w1 ⟨rfl, hb1⟩; have hc1 := hb1.cell (p := ⟨w.heap.size, 1, none⟩) (by simp); obtain ⟨hc0, hc2, hc3⟩ := (hra.below hb1).at3 p x HXK.out) | (first | (go_at_call 50; refine (within_any _ _ _ _).mono ?_; rintro e w' ⟨rfl, rfl⟩) | (go_at_call 49; refine (isValue_any _ _).mono ?_; rintro e w' ⟨rfl, rfl⟩) | (go_at_call 53; refine (isCell_any _ _).mono ?_; rintro e w' ⟨rfl, rfl⟩) | (go_at_call 60; refine (isOwner_any _ _).mono ?_; rintro e w' ⟨rfl, rfl⟩) | (fail; refine (isReg_any _ _).mono ?_; rintro e w' ⟨rfl, rfl⟩) | (fail; refine (isKey_any _ _).mono ?_; rintro e w' ⟨rfl, rfl⟩) | (go_at_call 46; refine (l1In_any _ _ _ _).mono ?_; rintro e w' ⟨rfl, rfl⟩) | (go_at_call 47; refine (l3Val_any _ _).mono ?_; rintro e w' ⟨rfl, rfl⟩) | (go_at_call 52; refine (l3Cell_any _ _).mono ?_; rintro e w' ⟨rfl, rfl⟩) | (fail; refine (l4Reg_any _ _).mono ?_; rintro e w' ⟨rfl, rfl⟩)))
      go_ret2
      exact ⟨rfl, ((Below.refl w.heap.size w).alloc (Nat.le_refl _) _).trans (hb1.mono (by simp))⟩
    · go_enter Try.func20, Try.ntmps20
      go_wp2_with (first | (go_at_call 14; refine (HM.out _ hra hn).mono ?_; rintro e w1 ⟨rfl, hb1⟩) | (first | (go_at_call 50; refine (within_any _ _ _ _).mono ?_; rintro e w' ⟨rfl, rfl⟩) | (go_at_call 49; refine (isValue_any _ _).mono ?_; rintro e w' ⟨rfl, rfl⟩) | (go_at_call 53; refine (isCell_any _ _).mono ?_; rintro e w' ⟨rfl, rfl⟩) | (go_at_call 60; refine (isOwner_any _ _).mono ?_; rintro e w' ⟨rfl, rfl⟩) | (fail; refine (isReg_any _ _).mono ?_; rintro e w' ⟨rfl, rfl⟩) | (fail; refine (isKey_any _ _).mono ?_; rintro e w' ⟨rfl, rfl⟩) | (go_at_call 46; refine (l1In_any _ _ _ _).mono ?_; rintro e w' ⟨rfl, rfl⟩) | (go_at_call 47; refine (l3Val_any _ _).mono ?_; rintro e w' ⟨rfl, rfl⟩) | (go_at_call 52; refine (l3Cell_any _ _).mono ?_; rintro e w' ⟨rfl, rfl⟩) | (fail; refine (l4Reg_any _ _).mono ?_; rintro e w' ⟨rfl, rfl⟩)))
      go_ret2
      have hfin : (r1, r2) = (0, false) := by rw [← HR.out]; simp [loadVal, hi]
      simp only [Prod.mk.injEq] at hfin
      obtain ⟨rfl, rfl⟩ := hfin
      exact ⟨rfl, ((Below.refl _ w).alloc (Nat.le_refl _) _).trans (hb1.mono (by simp))⟩
  · go_enter Try.func20, Try.ntmps20
    go_wp2_with (first | (go_at_call 14; refine (HM.out _ hra hn).mono ?_; rintro e w1 ⟨rfl, hb1⟩) | (first | (go_at_call 50; refine (within_any _ _ _ _).mono ?_; rintro e w' ⟨rfl, rfl⟩) | (go_at_call 49; refine (isValue_any _ _).mono ?_; rintro e w' ⟨rfl, rfl⟩) | (go_at_call 53; refine (isCell_any _ _).mono ?_; rintro e w' ⟨rfl, rfl⟩) | (go_at_call 60; refine (isOwner_any _ _).mono ?_; rintro e w' ⟨rfl, rfl⟩) | (fail; refine (isReg_any _ _).mono ?_; rintro e w' ⟨rfl, rfl⟩) | (fail; refine (isKey_any _ _).mono ?_; rintro e w' ⟨rfl, rfl⟩) | (go_at_call 46; refine (l1In_any _ _ _ _).mono ?_; rintro e w' ⟨rfl, rfl⟩) | (go_at_call 47; refine (l3Val_any _ _).mono ?_; rintro e w' ⟨rfl, rfl⟩) | (go_at_call 52; refine (l3Cell_any _ _).mono ?_; rintro e w' ⟨rfl, rfl⟩) | (fail; refine (l4Reg_any _ _).mono ?_; rintro e w' ⟨rfl, rfl⟩)))
    go_ret2
    have hfin : (r1, r2) = (0, false) := by rw [← HR.out]; simp [loadVal, hk]
    simp only [Prod.mk.injEq] at hfin
    obtain ⟨rfl, rfl⟩ := hfin
    exact ⟨rfl, ((Below.refl _ w).alloc (Nat.le_refl _) _).trans (hb1.mono (by simp))⟩
end Go.Proofs.Ytmhdjnmfioaciaa
