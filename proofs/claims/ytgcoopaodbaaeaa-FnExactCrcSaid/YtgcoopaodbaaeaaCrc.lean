/- Crc, both packages. -/
import Derived.Test.YtgcoopaodbaaeaaRows
import Derived.Test.YtgcoopaodbaaeaaFix
namespace Go.Proofs.Ytgcoopaodbaaeaa
open Go Go.RowKit

def crcStep (c : Nat) : Nat := if c % 2 = 1 then (c / 2) ^^^ 2197175160 else c / 2
def iterS : Nat → Nat → Nat
  | 0, c => c
  | k + 1, c => crcStep (iterS k c)
def crcB (c : Nat) (b : UInt8) : Nat := iterS 8 (c ^^^ b.toNat)
def crcOf (l : List UInt8) : Nat := l.foldl crcB 4294967295
theorem crcStep_lt (c : Nat) (h : c < 4294967296) : crcStep c < 4294967296 := by
  unfold crcStep
  split
  · exact Nat.xor_lt_two_pow (n := 32) (by omega) (by omega)
  · omega
theorem iterS_lt (k c : Nat) (h : c < 4294967296) : iterS k c < 4294967296 := by
  induction k with
  | zero => exact h
  | succ k ih => exact crcStep_lt _ ih
theorem crcB_lt (c : Nat) (b : UInt8) (h : c < 4294967296) : crcB c b < 4294967296 :=
  iterS_lt _ _ (Nat.xor_lt_two_pow (n := 32) h (by have := b.toNat_lt; omega))
theorem crcFold_lt (l : List UInt8) : ∀ c, c < 4294967296 → l.foldl crcB c < 4294967296 := by
  induction l with
  | nil => intro c h; exact h
  | cons b l ih => intro c h; exact ih _ (crcB_lt c b h)
theorem crcOf_lt (l : List UInt8) : crcOf l < 4294967296 := crcFold_lt l _ (by omega)
theorem crcOf_snoc (l : List UInt8) (b : UInt8) : crcOf (l ++ [b]) = crcB (crcOf l) b := by simp [crcOf]

set_option maxHeartbeats 800000 in
theorem crc_impl (s : ByteArray) (hs : s.size ≤ 1048576) (w : World) :
    Calls Try.prog 23 #[.string s] w fun e w' => e = .returned (.int .i64 (4294967295 - (crcOf s.data.toList : Int))) ∧ w = w' := by
  go_enter Try.func23, Try.ntmps23
  go_wp2
  go_loop [3, 4] (fun c i => ∃ k : Nat, k ≤ s.size ∧ i = .int .i64 k ∧ c = .int .i64 (crcOf (s.data.toList.take k) : Nat)) (fun _ i => s.size - (intOf i).toNat)
  case atStart => exact ⟨0, by omega, rfl, rfl⟩
  case round =>
    obtain ⟨k, hk, rfl, rfl⟩ := hrel
    by_cases hlt : k < s.size
    · have hx1 := fun w' => idx_str (P := Try.prog) Try.underlying9 s .i64 k (by omega) (by omega) w'
      have hsn := take_snoc' s k hlt
      simp only [Int.toNat_natCast] at hx1
      generalize hbb : s.data.toList.getD k 0 = b at hx1 hsn
      have HS := Lib.hid hsn
      clear hbb hsn
      have hb := b.toNat_lt
      have hxl := crcOf_lt (s.data.toList.take k)
      generalize hm : crcOf (s.data.toList.take k) = x at hxl
      have HM := Lib.hid hm
      clear hm
      have hxor := i64_xor_nat x b.toNat hxl (by omega)
      have hyl : x ^^^ b.toNat < 4294967296 := Nat.xor_lt_two_pow (n := 32) hxl (by omega)
      generalize hy : x ^^^ b.toNat = y at hxor hyl
      have HY := Lib.hid hy
      clear hy
      go_wp2
      go_loop [3, 18] (fun c j => ∃ q : Nat, q ≤ 8 ∧ j = .int .i64 q ∧ c = .int .i64 (iterS q y : Nat)) (fun _ j => 8 - (intOf j).toNat)
      case atStart => exact ⟨0, by omega, rfl, rfl⟩
      case round =>
        obtain ⟨q, hq, rfl, rfl⟩ := hrel
        clear hx1 hxor
        by_cases hq8 : q < 8
        · have hzl := iterS_lt q y hyl
          generalize hz : iterS q y = z at hzl
          have HZ := Lib.hid hz
          clear hz
          have hand : bits .and .i64 (z : Int) 1 = (z : Int) % 2 := i64_and z 1 (by decide) (by omega) (by omega)
          have hx2 := i64_xor_nat (z / 2) 2197175160 (by omega) (by omega)
          simp only [Int.natCast_ediv, Int.cast_ofNat_Int] at hx2
          by_cases hodd : z % 2 = 1
          · have ho : ((z : Int) % 2 == 1) = true := by rw [beq_iff_eq]; omega
            go_wp2
            exact ⟨⟨q + 1, by omega, by go_num, by rw [iterS, HZ.out, crcStep, if_pos hodd]⟩, by simp [intOf]; omega⟩
          · have ho : ((z : Int) % 2 == 1) = false := by rw [beq_eq_false_iff_ne]; omega
            go_wp2
            exact ⟨⟨q + 1, by omega, by go_num, by rw [iterS, HZ.out, crcStep, if_neg hodd]; go_num⟩, by simp [intOf]; omega⟩
        · obtain rfl : q = 8 := by omega
          go_wp2
          refine ⟨⟨k + 1, by omega, by go_num, ?_⟩, by simp [intOf]; omega⟩
          rw [HS.out, crcOf_snoc, HM.out, crcB, HY.out]
    · obtain rfl : k = s.size := by omega
      have hxl := crcOf_lt (s.data.toList.take s.size)
      rw [List.take_of_length_le (by simp)] at hxl ⊢
      go_wp2
      go_ret
      exact ⟨rfl, rfl⟩

set_option maxHeartbeats 800000 in
theorem crc_spec (s : ByteArray) (hs : s.size ≤ 1048576) (w : World) :
    Calls Try.prog 22 #[.string s] w fun e w' => e = .returned (.int .i64 (4294967295 - (crcOf s.data.toList : Int))) ∧ w = w' := by
  go_enter Try.func22, Try.ntmps22
  go_wp2
  go_loop [3, 4] (fun c i => ∃ k : Nat, k ≤ s.size ∧ i = .int .i64 k ∧ c = .int .i64 (crcOf (s.data.toList.take k) : Nat)) (fun _ i => s.size - (intOf i).toNat)
  case atStart => exact ⟨0, by omega, rfl, rfl⟩
  case round =>
    obtain ⟨k, hk, rfl, rfl⟩ := hrel
    by_cases hlt : k < s.size
    · have hx1 := fun w' => idx_str (P := Try.prog) Try.underlying9 s .i64 k (by omega) (by omega) w'
      have hsn := take_snoc' s k hlt
      simp only [Int.toNat_natCast] at hx1
      generalize hbb : s.data.toList.getD k 0 = b at hx1 hsn
      have HS := Lib.hid hsn
      clear hbb hsn
      have hb := b.toNat_lt
      have hxl := crcOf_lt (s.data.toList.take k)
      generalize hm : crcOf (s.data.toList.take k) = x at hxl
      have HM := Lib.hid hm
      clear hm
      have hxor := i64_xor_nat x b.toNat hxl (by omega)
      have hyl : x ^^^ b.toNat < 4294967296 := Nat.xor_lt_two_pow (n := 32) hxl (by omega)
      generalize hy : x ^^^ b.toNat = y at hxor hyl
      have HY := Lib.hid hy
      clear hy
      go_wp2
      go_loop [3, 5] (fun c j => ∃ q : Nat, q ≤ 8 ∧ j = .int .i64 q ∧ c = .int .i64 (iterS q y : Nat)) (fun _ j => 8 - (intOf j).toNat)
      case atStart => exact ⟨0, by omega, rfl, rfl⟩
      case round =>
        obtain ⟨q, hq, rfl, rfl⟩ := hrel
        clear hx1 hxor
        by_cases hq8 : q < 8
        · have hzl := iterS_lt q y hyl
          generalize hz : iterS q y = z at hzl
          have HZ := Lib.hid hz
          clear hz
          have hand : bits .and .i64 (z : Int) 1 = (z : Int) % 2 := i64_and z 1 (by decide) (by omega) (by omega)
          have hx2 := i64_xor_nat (z / 2) 2197175160 (by omega) (by omega)
          simp only [Int.natCast_ediv, Int.cast_ofNat_Int] at hx2
          by_cases hodd : z % 2 = 1
          · have ho : ((z : Int) % 2 == 1) = true := by rw [beq_iff_eq]; omega
            go_wp2
            exact ⟨⟨q + 1, by omega, by go_num, by rw [iterS, HZ.out, crcStep, if_pos hodd]⟩, by simp [intOf]; omega⟩
          · have ho : ((z : Int) % 2 == 1) = false := by rw [beq_eq_false_iff_ne]; omega
            go_wp2
            exact ⟨⟨q + 1, by omega, by go_num, by rw [iterS, HZ.out, crcStep, if_neg hodd]; go_num⟩, by simp [intOf]; omega⟩
        · obtain rfl : q = 8 := by omega
          go_wp2
          refine ⟨⟨k + 1, by omega, by go_num, ?_⟩, by simp [intOf]; omega⟩
          rw [HS.out, crcOf_snoc, HM.out, crcB, HY.out]
    · obtain rfl : k = s.size := by omega
      have hxl := crcOf_lt (s.data.toList.take s.size)
      rw [List.take_of_length_le (by simp)] at hxl ⊢
      go_wp2
      go_ret
      exact ⟨rfl, rfl⟩
end Go.Proofs.Ytgcoopaodbaaeaa
