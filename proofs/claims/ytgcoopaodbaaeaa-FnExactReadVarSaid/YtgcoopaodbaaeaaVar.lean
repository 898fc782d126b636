/- Var, both packages: bytes of seven bits, the least first. -/
import Derived.Test.YtgcoopaodbaaeaaRows
import Derived.Test.YtgcoopaodbaaeaaFix
namespace Go.Proofs.Ytgcoopaodbaaeaa
open Go Go.RowKit

def varF : Nat → Nat → List UInt8
  | 0, _ => []
  | f + 1, m => if m < 128 then [UInt8.ofNat m] else UInt8.ofNat (128 + m % 128) :: varF f (m / 128)
def varOf (n : Int) : List UInt8 := if 0 ≤ n ∧ n ≤ 562949953421311 then varF 7 n.toNat else []

set_option maxHeartbeats 400000 in
theorem var_impl (n : Int) (w : World) :
    Calls Try.prog 19 #[.int .i64 n] w fun e w' => e = .returned (.string ⟨(varOf n).toArray⟩) ∧ Below w.heap.size w w' := by
  by_cases h1 : 0 ≤ n ∧ n ≤ 562949953421311
  · have hB : inB n 0 562949953421311 = true := by simp [inB, h1]
    obtain ⟨m0, rfl⟩ := Int.eq_ofNat_of_zero_le h1.1
    have hr : varOf (m0 : Int) = varF 7 m0 := by simp [varOf]; omega
    rw [hr]
    have HR := Lib.hid hr
    clear hr
    go_enter Try.func19, Try.ntmps19
    go_wp2_with (go_at_call 38; refine (within_any _ _ _ _).mono ?_; rintro e w' ⟨rfl, rfl⟩)
    go_loopw [0, 3] (fun x v wr => ∃ (m f : Nat) (acc : List UInt8), x = .int .i64 m ∧ m < 128 ^ (f + 1) ∧ m ≤ m0 ∧ acc ++ varF (f + 1) m = varF 7 m0 ∧ acc.length + f = 6 ∧ wr.ownsRow w.heap.size 5 1 v acc.length (u8s acc) ∧ Below w.heap.size w wr) (fun x _ _ => (intOf x).toNat)
    case atStart => exact ⟨m0, 6, [], rfl, by omega, Nat.le_refl _, rfl, rfl, World.ownsRow_made w #[] 0 (Nat.le_refl _) (by decide) rfl, (Below.refl _ _).alloc (Nat.le_refl _) _⟩
    case round =>
      obtain ⟨m, f, acc, rfl, hm, hm0, hacc, hlen, ho, hb⟩ := hrel
      have HA := Lib.hid hacc
      have HM := Lib.hid hm
      have HL := Lib.hid hlen
      have hl6 : acc.length ≤ 6 := by omega
      clear hacc hm hlen
      by_cases hlt : 127 < m
      · have ha : bits .and .i64 (m : Int) 127 = (m : Int) % 128 := i64_and m 7 (by decide) (by omega) (by omega)
        have hor : bits .or .i64 128 ((m : Int) % 128) = 128 + (m : Int) % 128 := i64_or 128 ((m : Int) % 128) 7 (by omega) (by omega) (by omega) (by omega) (by omega) (by omega)
        rw [i64_or_comm] at hor
        obtain ⟨b, hbn⟩ : ∃ b : UInt8, b = UInt8.ofNat (128 + m % 128) := ⟨_, rfl⟩
        have hbi : (b.toNat : Int) = 128 + m % 128 := by rw [hbn]; simp; omega
        have HBN := Lib.hid hbn
        have HBI := Lib.hid hbi
        clear hbn hbi
        go_wp2_with (at_builtin; go_must (refine wpList_ap1 rfl elU8 _ _ rfl w.heap.size _ acc.length _ rfl (World.ownsRow.alloc ho _) _ 1 1 _ _ _ rfl (heap_alloc_new _ _) rfl (by simp [Value.oneCell']) (by omega) (by omega) (by decide) (by simp; have := hb.size; omega) ?_; intro g cap w2 ho2 hb2))
        match f, HM, HL, HA with
        | 0, HM, _, _ => exfalso; have := HM.out; omega
        | f + 1, HM, HL, HA =>
          refine ⟨⟨m / 128, f, acc ++ [b], by go_num, ?_, by omega, ?_, by have := HL.out; simp; omega, ?_, (hb.alloc hb.size _).trans hb2⟩, by simp [intOf]; omega⟩
          · have := HM.out
            rw [Nat.pow_succ] at this
            exact Nat.div_lt_of_lt_mul (by omega)
          · have := HA.out
            rw [varF, if_neg (by omega)] at this
            rw [← this, HBN.out]; simp
          · rw [u8s_append]
            simp only [u8s, List.map_cons, List.map_nil, HBI.out, List.length_append, List.length_singleton]
            exact ho2
      · obtain ⟨b, hbn⟩ : ∃ b : UInt8, b = UInt8.ofNat m := ⟨_, rfl⟩
        have hbi : (b.toNat : Int) = m := by rw [hbn]; simp; omega
        have HBN := Lib.hid hbn
        have HBI := Lib.hid hbi
        clear hbn hbi
        have hmb : (m : Int) ≤ 127 := by omega
        go_wp2_with (at_builtin; go_must (refine wpList_ap1 rfl elU8 _ _ rfl w.heap.size _ acc.length _ rfl (World.ownsRow.alloc ho _) _ 1 1 _ _ _ rfl (heap_alloc_new _ _) rfl (by simp [Value.oneCell']) (by omega) (by omega) (by decide) (by simp; have := hb.size; omega) ?_; intro g cap w2 ho2 hb2))
        rw [show (u8s acc ++ #[Value.int .u8 (m : Int)].toList) = u8s (acc ++ [b]) from by rw [u8s_append]; simp [u8s, HBI.out]] at ho2
        have hcv := conv_own (P := Try.prog) Try.underlying38 Try.underlying5 Try.underlying9 ho2
        clear ho2
        rw [hcv]
        go_wp2
        go_ret
        refine ⟨?_, (hb.alloc hb.size _).trans hb2⟩
        have := HA.out
        rw [varF, if_pos (by omega)] at this
        rw [← this, HBN.out]
        rfl
  · have hB : inB n 0 562949953421311 = false := by simp [inB]; omega
    have hr : varOf n = [] := by simp [varOf]; omega
    rw [hr]
    go_enter Try.func19, Try.ntmps19
    go_wp2_with (go_at_call 38; refine (within_any _ _ _ _).mono ?_; rintro e w' ⟨rfl, rfl⟩)
    go_ret
    exact ⟨rfl, Below.refl _ _⟩

set_option maxHeartbeats 400000 in
theorem var_spec (n : Int) (w : World) :
    Calls Try.prog 18 #[.int .i64 n] w fun e w' => e = .returned (.string ⟨(varOf n).toArray⟩) ∧ Below w.heap.size w w' := by
  by_cases h1 : 0 ≤ n ∧ n ≤ 562949953421311
  · have hB : inB n 0 562949953421311 = true := by simp [inB, h1]
    obtain ⟨m0, rfl⟩ := Int.eq_ofNat_of_zero_le h1.1
    have hr : varOf (m0 : Int) = varF 7 m0 := by simp [varOf]; omega
    rw [hr]
    have HR := Lib.hid hr
    clear hr
    go_enter Try.func18, Try.ntmps18
    go_wp2_with (go_at_call 37; refine (l1In_any _ _ _ _).mono ?_; rintro e w' ⟨rfl, rfl⟩)
    go_loopw [0, 3] (fun x v wr => ∃ (m f : Nat) (acc : List UInt8), x = .int .i64 m ∧ m < 128 ^ (f + 1) ∧ m ≤ m0 ∧ acc ++ varF (f + 1) m = varF 7 m0 ∧ acc.length + f = 6 ∧ wr.ownsRow w.heap.size 5 1 v acc.length (u8s acc) ∧ Below w.heap.size w wr) (fun x _ _ => (intOf x).toNat)
    case atStart => exact ⟨m0, 6, [], rfl, by omega, Nat.le_refl _, rfl, rfl, World.ownsRow_made w #[] 0 (Nat.le_refl _) (by decide) rfl, (Below.refl _ _).alloc (Nat.le_refl _) _⟩
    case round =>
      obtain ⟨m, f, acc, rfl, hm, hm0, hacc, hlen, ho, hb⟩ := hrel
      have HA := Lib.hid hacc
      have HM := Lib.hid hm
      have HL := Lib.hid hlen
      have hl6 : acc.length ≤ 6 := by omega
      clear hacc hm hlen
      by_cases hlt : 127 < m
      · have h128 : (128 : Int) ≤ (m : Int) := by omega
        obtain ⟨b, hbn⟩ : ∃ b : UInt8, b = UInt8.ofNat (128 + m % 128) := ⟨_, rfl⟩
        have hbi : (b.toNat : Int) = 128 + m % 128 := by rw [hbn]; simp; omega
        have HBN := Lib.hid hbn
        have HBI := Lib.hid hbi
        clear hbn hbi hlt
        go_wp2_with (at_builtin; go_must (refine wpList_ap1 rfl elU8 _ _ rfl w.heap.size _ acc.length _ rfl (World.ownsRow.alloc ho _) _ 1 1 _ _ _ rfl (heap_alloc_new _ _) rfl (by simp [Value.oneCell']) (by omega) (by omega) (by decide) (by simp; have := hb.size; omega) ?_; intro g cap w2 ho2 hb2))
        match f, HM, HL, HA with
        | 0, HM, _, _ => exfalso; have := HM.out; omega
        | f + 1, HM, HL, HA =>
          refine ⟨⟨m / 128, f, acc ++ [b], by go_num, ?_, by omega, ?_, by have := HL.out; simp; omega, ?_, (hb.alloc hb.size _).trans hb2⟩, by simp [intOf]; omega⟩
          · have := HM.out
            rw [Nat.pow_succ] at this
            exact Nat.div_lt_of_lt_mul (by omega)
          · have := HA.out
            rw [varF, if_neg (by omega)] at this
            rw [← this, HBN.out]; simp
          · rw [u8s_append]
            simp only [u8s, List.map_cons, List.map_nil, HBI.out, List.length_append, List.length_singleton]
            exact ho2
      · obtain ⟨b, hbn⟩ : ∃ b : UInt8, b = UInt8.ofNat m := ⟨_, rfl⟩
        have hbi : (b.toNat : Int) = m := by rw [hbn]; simp; omega
        have HBN := Lib.hid hbn
        have HBI := Lib.hid hbi
        clear hbn hbi
        have hmb : ¬ ((128 : Int) ≤ m) := by omega
        clear hlt
        go_wp2_with (at_builtin; go_must (refine wpList_ap1 rfl elU8 _ _ rfl w.heap.size _ acc.length _ rfl (World.ownsRow.alloc ho _) _ 1 1 _ _ _ rfl (heap_alloc_new _ _) rfl (by simp [Value.oneCell']) (by omega) (by omega) (by decide) (by simp; have := hb.size; omega) ?_; intro g cap w2 ho2 hb2))
        rw [show (u8s acc ++ #[Value.int .u8 (m : Int)].toList) = u8s (acc ++ [b]) from by rw [u8s_append]; simp [u8s, HBI.out]] at ho2
        have hcv := conv_own (P := Try.prog) Try.underlying38 Try.underlying5 Try.underlying9 ho2
        clear ho2
        rw [hcv]
        go_wp2
        go_ret
        refine ⟨?_, (hb.alloc hb.size _).trans hb2⟩
        have := HA.out
        rw [varF, if_pos (by omega)] at this
        rw [← this, HBN.out]
        rfl
  · have hB : inB n 0 562949953421311 = false := by simp [inB]; omega
    have hr : varOf n = [] := by simp [varOf]; omega
    rw [hr]
    go_enter Try.func18, Try.ntmps18
    go_wp2_with (go_at_call 37; refine (l1In_any _ _ _ _).mono ?_; rintro e w' ⟨rfl, rfl⟩)
    go_ret
    exact ⟨rfl, Below.refl _ _⟩
end Go.Proofs.Ytgcoopaodbaaeaa
