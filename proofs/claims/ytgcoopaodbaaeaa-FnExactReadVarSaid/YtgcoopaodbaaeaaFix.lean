/- ReadFixed, Fixed, Crc: both packages. -/
import Derived.Test.YtgcoopaodbaaeaaRows
import Derived.Test.YtgcoopaodbaaeaaHex
namespace Go.Proofs.Ytgcoopaodbaaeaa
open Go Go.RowKit

def inB (x lo hi : Int) : Bool := decide (lo ≤ x ∧ x ≤ hi)

set_option maxHeartbeats 400000 in
theorem within_any (x lo hi : Int) (w : World) :
    Calls Try.prog 38 #[.int .i64 x, .int .i64 lo, .int .i64 hi] w fun e w' => e = .returned (.bool (inB x lo hi)) ∧ w = w' := by
  go_enter Try.func38, Try.ntmps38
  go_wp2
  all_goals (go_ret; refine ⟨?_, rfl⟩; simp [inB]; try omega)

set_option maxHeartbeats 400000 in
theorem l1In_any (x lo hi : Int) (w : World) :
    Calls Try.prog 37 #[.int .i64 x, .int .i64 lo, .int .i64 hi] w fun e w' => e = .returned (.bool (inB x lo hi)) ∧ w = w' := by
  go_enter Try.func37, Try.ntmps37
  go_wp2
  all_goals (go_ret; refine ⟨?_, rfl⟩; simp [inB]; try omega)

def beOf (l : List UInt8) : Int := l.foldl (fun n b => n * 256 + b.toNat) 0
theorem beOf_snoc (l : List UInt8) (b : UInt8) : beOf (l ++ [b]) = beOf l * 256 + b.toNat := by simp [beOf]
theorem be_bd (l : List UInt8) : ∀ a : Int, 0 ≤ a → 0 ≤ l.foldl (fun (n : Int) b => n * 256 + b.toNat) a ∧ l.foldl (fun (n : Int) b => n * 256 + b.toNat) a < (a + 1) * 256 ^ l.length := by
  induction l with
  | nil => intro a ha; simp; omega
  | cons b l ih =>
    intro a ha
    have hb := b.toNat_lt
    have h := ih (a * 256 + b.toNat) (by omega)
    simp only [List.foldl_cons, List.length_cons]
    refine ⟨h.1, Int.lt_of_lt_of_le h.2 ?_⟩
    have h1 : (a * 256 + b.toNat + 1) ≤ (a + 1) * 256 := by omega
    have h2 := Int.mul_le_mul_of_nonneg_right h1 (show (0 : Int) ≤ 256 ^ l.length from Int.pow_nonneg (by omega))
    rw [Int.pow_succ, Int.mul_comm (256 ^ l.length) 256, ← Int.mul_assoc]
    exact h2
theorem beOf_bd (l : List UInt8) : 0 ≤ beOf l ∧ beOf l < 256 ^ l.length := by
  have := be_bd l 0 (by omega)
  simpa [beOf] using this
theorem beOf_lt6 (l : List UInt8) (k : Nat) (h : k ≤ 6) : 0 ≤ beOf (l.take k) ∧ beOf (l.take k) < 281474976710656 := by
  have h1 := beOf_bd (l.take k)
  refine ⟨h1.1, Int.lt_of_lt_of_le h1.2 ?_⟩
  have h2 : (l.take k).length ≤ 6 := by simp; omega
  have h3 : (256 : Nat) ^ (l.take k).length ≤ 256 ^ 6 := Nat.pow_le_pow_right (by omega) h2
  have h4 : ((256 : Nat) ^ (l.take k).length : Int) ≤ ((256 ^ 6 : Nat) : Int) := by exact_mod_cast h3
  simpa using h4
def readFixed (s : ByteArray) (n : Int) : Int × Bool := if 1 ≤ n ∧ n ≤ 7 ∧ n ≤ s.size then (beOf (s.data.toList.take n.toNat), true) else (0, false)

theorem or_byte (n : Int) (b : UInt8) (h0 : 0 ≤ n) (h : n < 281474976710656) : bits BinOp.or IntKind.i64 (n * 256) b.toNat = n * 256 + b.toNat := by
  have := b.toNat_lt
  exact i64_or (n * 256) b.toNat 8 (by omega) (by omega) (by omega) (by omega) (by omega) (by omega)

set_option maxHeartbeats 400000 in
theorem readFixed_impl (s : ByteArray) (n : Int) (w : World) :
    Calls Try.prog 17 #[.string s, .int .i64 n] w fun e w' => e = .returned (.tuple #[.int .i64 (readFixed s n).1, .bool (readFixed s n).2]) ∧ w = w' := by
  by_cases h1 : 1 ≤ n ∧ n ≤ 7
  · have hB : inB n 1 7 = true := by simp [inB, h1]
    by_cases h2 : n ≤ s.size
    · have hr : readFixed s n = (beOf (s.data.toList.take n.toNat), true) := by simp [readFixed, h1, h2]
      rw [hr]
      clear hr
      go_enter Try.func17, Try.ntmps17
      go_wp2_with (go_at_call 38; refine (within_any _ _ _ _).mono ?_; rintro e w' ⟨rfl, rfl⟩)
      go_loop [6, 7] (fun t i => ∃ k : Nat, (k : Int) ≤ n ∧ i = .int .i64 k ∧ t = .int .i64 (beOf (s.data.toList.take k))) (fun _ i => n.toNat - (intOf i).toNat)
      case atStart => exact ⟨0, by omega, rfl, by simp [beOf]⟩
      case round =>
        obtain ⟨k, hk, rfl, rfl⟩ := hrel
        by_cases hlt : (k : Int) < n
        · have hx1 := fun w' => idx_str (P := Try.prog) Try.underlying9 s .i64 k (by omega) (by omega) w'
          have hsn := take_snoc' s k (by omega)
          simp only [Int.toNat_natCast] at hx1
          have hbd := beOf_lt6 s.data.toList k (by omega)
          generalize hbb : s.data.toList.getD k 0 = b at hx1 hsn
          have HS := Lib.hid hsn
          have ho := or_byte (beOf (s.data.toList.take k)) b hbd.1 hbd.2
          clear hbb hsn
          have hb := b.toNat_lt
          generalize hm : beOf (s.data.toList.take k) = m at hbd ho
          have HM := Lib.hid hm
          clear hm
          go_wp2
          exact ⟨⟨k + 1, by omega, by go_num, by rw [HS.out, beOf_snoc, HM.out]⟩, by simp [intOf]; omega⟩
        · obtain rfl : n = (k : Int) := by omega
          go_wp2
          go_ret2
          simp
    · have hr : readFixed s n = (0, false) := by simp [readFixed, h1, h2]
      rw [hr]
      go_enter Try.func17, Try.ntmps17
      go_wp2_with (go_at_call 38; refine (within_any _ _ _ _).mono ?_; rintro e w' ⟨rfl, rfl⟩)
      go_ret2
      exact ⟨rfl, rfl⟩
  · have hB : inB n 1 7 = false := by simp [inB]; omega
    have hr : readFixed s n = (0, false) := by simp [readFixed]; omega
    rw [hr]
    go_enter Try.func17, Try.ntmps17
    go_wp2_with (go_at_call 38; refine (within_any _ _ _ _).mono ?_; rintro e w' ⟨rfl, rfl⟩)
    go_ret2
    exact ⟨rfl, rfl⟩

set_option maxHeartbeats 400000 in
theorem readFixed_spec (s : ByteArray) (n : Int) (w : World) :
    Calls Try.prog 16 #[.string s, .int .i64 n] w fun e w' => e = .returned (.tuple #[.int .i64 (readFixed s n).1, .bool (readFixed s n).2]) ∧ w = w' := by
  by_cases h1 : 1 ≤ n ∧ n ≤ 7
  · have hB : inB n 1 7 = true := by simp [inB, h1]
    by_cases h2 : n ≤ s.size
    · have hr : readFixed s n = (beOf (s.data.toList.take n.toNat), true) := by simp [readFixed, h1, h2]
      rw [hr]
      clear hr
      go_enter Try.func16, Try.ntmps16
      go_wp2_with (go_at_call 37; refine (l1In_any _ _ _ _).mono ?_; rintro e w' ⟨rfl, rfl⟩)
      go_loop [6, 7] (fun t i => ∃ k : Nat, (k : Int) ≤ n ∧ i = .int .i64 k ∧ t = .int .i64 (beOf (s.data.toList.take k))) (fun _ i => n.toNat - (intOf i).toNat)
      case atStart => exact ⟨0, by omega, rfl, by simp [beOf]⟩
      case round =>
        obtain ⟨k, hk, rfl, rfl⟩ := hrel
        by_cases hlt : (k : Int) < n
        · have hx1 := fun w' => idx_str (P := Try.prog) Try.underlying9 s .i64 k (by omega) (by omega) w'
          have hsn := take_snoc' s k (by omega)
          simp only [Int.toNat_natCast] at hx1
          have hbd := beOf_lt6 s.data.toList k (by omega)
          generalize hbb : s.data.toList.getD k 0 = b at hx1 hsn
          have HS := Lib.hid hsn
          have ho := or_byte (beOf (s.data.toList.take k)) b hbd.1 hbd.2
          clear hbb hsn
          have hb := b.toNat_lt
          generalize hm : beOf (s.data.toList.take k) = m at hbd ho
          have HM := Lib.hid hm
          clear hm
          go_wp2
          exact ⟨⟨k + 1, by omega, by go_num, by rw [HS.out, beOf_snoc, HM.out]⟩, by simp [intOf]; omega⟩
        · obtain rfl : n = (k : Int) := by omega
          go_wp2
          go_ret2
          simp
    · have hr : readFixed s n = (0, false) := by simp [readFixed, h1, h2]
      rw [hr]
      go_enter Try.func16, Try.ntmps16
      go_wp2_with (go_at_call 37; refine (l1In_any _ _ _ _).mono ?_; rintro e w' ⟨rfl, rfl⟩)
      go_ret2
      exact ⟨rfl, rfl⟩
  · have hB : inB n 1 7 = false := by simp [inB]; omega
    have hr : readFixed s n = (0, false) := by simp [readFixed]; omega
    rw [hr]
    go_enter Try.func16, Try.ntmps16
    go_wp2_with (go_at_call 37; refine (l1In_any _ _ _ _).mono ?_; rintro e w' ⟨rfl, rfl⟩)
    go_ret2
    exact ⟨rfl, rfl⟩


end Go.Proofs.Ytgcoopaodbaaeaa
