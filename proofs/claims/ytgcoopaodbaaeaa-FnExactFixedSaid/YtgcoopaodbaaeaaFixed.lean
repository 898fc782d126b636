/- Fixed, both packages: a number in so many bytes, the greatest first. -/
import Derived.Test.YtgcoopaodbaaeaaRows
import Derived.Test.YtgcoopaodbaaeaaFix
namespace Go.Proofs.Ytgcoopaodbaaeaa
open Go Go.RowKit

/-- The lowest j bytes of m, the greatest of them first. -/
def lowB : Nat → Nat → List UInt8
  | 0, _ => []
  | j + 1, m => UInt8.ofNat (m / 256 ^ j % 256) :: lowB j m
theorem lowB_length (j m : Nat) : (lowB j m).length = j := by induction j with | zero => rfl | succ j ih => simp [lowB, ih]
def fixedOf (n w : Int) : List UInt8 := if 1 ≤ w ∧ w ≤ 7 ∧ 0 ≤ n ∧ n.toNat / 256 ^ w.toNat = 0 then lowB w.toNat n.toNat else []
theorem set_rep (q : Nat) (b : UInt8) (l : List UInt8) : (u8s (List.replicate (q + 1) 0 ++ l)).set q (.int .u8 b.toNat) = u8s (List.replicate q 0 ++ b :: l) := by
  have h : List.replicate (q + 1) (0 : UInt8) = List.replicate q 0 ++ [0] := by rw [List.replicate_succ']
  rw [h, List.append_assoc]
  simp only [u8s, List.map_append]
  rw [List.set_append_right _ _ (by simp)]
  simp

theorem wr256 (w : Nat) (h : w ≤ 7) : wrap64 ((2 : Int) ^ (8 * w)) = ((256 ^ w : Nat) : Int) := by
  have hw : w = 0 ∨ w = 1 ∨ w = 2 ∨ w = 3 ∨ w = 4 ∨ w = 5 ∨ w = 6 ∨ w = 7 := by omega
  rcases hw with rfl | rfl | rfl | rfl | rfl | rfl | rfl | rfl <;> simp [wrap64]
theorem made0 (w : Nat) : (madeCells (Value.int .u8 0).cells (w * 1)).toList = u8s (List.replicate w 0) := by
  rw [Nat.mul_one, show (Value.int .u8 0).cells = #[Value.int .u8 0] from rfl, toList_madeCells_one]
  simp [u8s]

set_option maxHeartbeats 800000 in
theorem fixed_impl_yes (m w : Nat) (h1 : 1 ≤ w) (h7 : w ≤ 7) (hm : m < 256 ^ w) (W : World) :
    Calls Try.prog 21 #[.int .i64 m, .int .i64 w] W fun e w' => e = .returned (.string ⟨(lowB w m).toArray⟩) ∧ Below W.heap.size W w' := by
  have hB : inB w 1 7 = true := by simp [inB]; omega
  have hm' : m < 72057594037927936 := Nat.lt_of_lt_of_le hm (Nat.le_trans (Nat.pow_le_pow_right (by omega) h7) (by omega))
  have hT : ¬ (wrap64 ((2 : Int) ^ (8 * w)) ≤ (m : Int)) := by rw [wr256 w h7]; omega
  have HM := Lib.hid hm
  clear hm
  go_enter Try.func21, Try.ntmps21
  go_wp2_with (first | (go_at_call 38; refine (within_any _ _ _ _).mono ?_; rintro e w' ⟨rfl, rfl⟩) | (at_make; refine wpList_mkFull rfl elU8 _ _ rfl _ _ _ _ w rfl rfl rfl rfl (by omega) (by decide) ?_; intro w1 hown _hgr hb1))
  clear hT _hgr
  rw [made0] at hown
  go_loopw [0, 6] (fun x i wr => ∃ p : Nat, p ≤ w ∧ i = .int .i64 ((p : Int) - 1) ∧ x = .int .i64 (m / 256 ^ (w - p) : Nat) ∧ wr.ownsRow W.heap.size 5 1 (.slice (some ⟨W.heap.size, 0, none⟩) w w) w (u8s (List.replicate p 0 ++ lowB (w - p) m)) ∧ Below W.heap.size W wr) (fun _ i _ => ((intOf i) + 1).toNat)
  case atStart => exact ⟨w, Nat.le_refl _, rfl, by simp, by simpa [lowB] using hown, hb1⟩
  case round =>
    obtain ⟨p, hp, rfl, rfl, ho, hb⟩ := hrel
    clear hown hb1
    cases p with
    | zero =>
      simp only [List.replicate_zero, List.nil_append, Nat.sub_zero] at ho
      have hcv := conv_own (P := Try.prog) Try.underlying38 Try.underlying5 Try.underlying9 ho
      clear ho
      go_wp2
      go_ret
      exact ⟨rfl, hb⟩
    | succ q =>
      have hx : m / 256 ^ (w - (q + 1)) ≤ m := Nat.div_le_self _ _
      have hq1 : w - q = (w - (q + 1)) + 1 := by omega
      have hnx : m / 256 ^ (w - q) = m / 256 ^ (w - (q + 1)) / 256 := by rw [hq1, Nat.pow_succ, Nat.div_div_eq_div_mul]
      have hlo : lowB (w - q) m = UInt8.ofNat (m / 256 ^ (w - (q + 1)) % 256) :: lowB (w - (q + 1)) m := by rw [hq1]; rfl
      generalize hgx : m / 256 ^ (w - (q + 1)) = x at hx hnx hlo
      have HG := Lib.hid hgx
      have HN := Lib.hid hnx
      have HL := Lib.hid hlo
      have HQ := Lib.hid hq1
      obtain ⟨b, hbn⟩ : ∃ b : UInt8, b = UInt8.ofNat (x % 256) := ⟨_, rfl⟩
      have hbi : (b.toNat : Int) = (x : Int) % 256 := by rw [hbn]; simp
      have HBN := Lib.hid hbn
      have HBI := Lib.hid hbi
      clear hgx hnx hlo hq1 hbn hbi
      have hcell := ho.cellAt q (by omega)
      have hc0 : ∃ v, (u8s (List.replicate (q + 1) 0 ++ lowB (w - (q + 1)) m))[q]? = some v := by
        rw [List.getElem?_eq_getElem (by simp [u8s, lowB_length]; omega)]; exact ⟨_, rfl⟩
      obtain ⟨v0, hv0⟩ := hc0
      rw [hv0] at hcell
      have hfz := ho.frozenAt q
      have hst := ho.stored q (.int .u8 b.toNat)
      rw [set_rep, HBI.out] at hst
      have hand : bits .and .i64 (x : Int) 255 = (x : Int) % 256 := i64_and x 8 (by decide) (by omega) (by omega)
      rw [show (((q + 1 : Nat) : Int) - 1) = (q : Int) from by omega]
      clear ho hv0
      have HST := Lib.hid hst
      clear hst
      go_wp2
      refine ⟨⟨q, by omega, rfl, by rw [HN.out]; go_num, ?_, hb.setCell (Nat.le_refl _) _⟩, by simp [intOf]⟩
      rw [HL.out, ← HBN.out]
      exact HST.out.1

set_option maxHeartbeats 800000 in
theorem fixed_impl (n w : Int) (W : World) :
    Calls Try.prog 21 #[.int .i64 n, .int .i64 w] W fun e w' => e = .returned (.string ⟨(fixedOf n w).toArray⟩) ∧ Below W.heap.size W w' := by
  by_cases h1 : 1 ≤ w ∧ w ≤ 7
  · obtain ⟨k, rfl⟩ := Int.eq_ofNat_of_zero_le (show 0 ≤ w by omega)
    have hB : inB k 1 7 = true := by simp [inB, h1]
    by_cases h2 : 0 ≤ n
    · obtain ⟨m, rfl⟩ := Int.eq_ofNat_of_zero_le h2
      by_cases h3 : m < 256 ^ k
      · have hr : fixedOf m k = lowB k m := by
          unfold fixedOf
          rw [if_pos ⟨h1.1, h1.2, h2, by simpa using Nat.div_eq_of_lt h3⟩]; simp
        rw [hr]
        exact fixed_impl_yes m k (by omega) (by omega) h3 W
      · have hr : fixedOf m k = [] := by
          unfold fixedOf
          rw [if_neg]
          rintro ⟨_, _, _, h⟩
          simp only [Int.toNat_natCast] at h
          have := (Nat.div_eq_zero_iff_lt (show 0 < 256 ^ k from Nat.pos_of_ne_zero (by simp))).1 h
          exact h3 this
        rw [hr]
        have hT : wrap64 ((2 : Int) ^ (8 * k)) ≤ (m : Int) := by rw [wr256 k (by omega)]; omega
        clear h3 hr
        go_enter Try.func21, Try.ntmps21
        go_wp2_with (go_at_call 38; refine (within_any _ _ _ _).mono ?_; rintro e w' ⟨rfl, rfl⟩)
        go_ret
        exact ⟨rfl, Below.refl _ _⟩
    · have hr : fixedOf n k = [] := by
        unfold fixedOf
        rw [if_neg]
        rintro ⟨_, _, h, _⟩
        exact h2 h
      rw [hr]
      have hn : n < 0 := by omega
      go_enter Try.func21, Try.ntmps21
      go_wp2_with (go_at_call 38; refine (within_any _ _ _ _).mono ?_; rintro e w' ⟨rfl, rfl⟩)
      go_ret
      exact ⟨rfl, Below.refl _ _⟩
  · have hB : inB w 1 7 = false := by simp [inB]; omega
    have hr : fixedOf n w = [] := by
      unfold fixedOf
      rw [if_neg]
      rintro ⟨h3, h4, _, _⟩
      exact h1 ⟨h3, h4⟩
    rw [hr]
    go_enter Try.func21, Try.ntmps21
    go_wp2_with (go_at_call 38; refine (within_any _ _ _ _).mono ?_; rintro e w' ⟨rfl, rfl⟩)
    go_ret
    exact ⟨rfl, Below.refl _ _⟩

set_option maxHeartbeats 800000 in
theorem fixed_spec (n w : Int) (hn64 : n ≤ 9223372036854775807) (W : World) :
    Calls Try.prog 20 #[.int .i64 n, .int .i64 w] W fun e w' => e = .returned (.string ⟨(fixedOf n w).toArray⟩) ∧ Below W.heap.size W w' := by
  by_cases h1 : 1 ≤ w ∧ w ≤ 7
  · obtain ⟨k, rfl⟩ := Int.eq_ofNat_of_zero_le (show 0 ≤ w by omega)
    have hB : inB k 1 7 = true := by simp [inB, h1]
    by_cases h2 : 0 ≤ n
    · obtain ⟨m, rfl⟩ := Int.eq_ofNat_of_zero_le h2
      have hk7 : k ≤ 7 := by omega
      have HF := Lib.hid (rfl : fixedOf (m : Int) (k : Int) = fixedOf (m : Int) (k : Int))
      generalize hr : fixedOf (m : Int) (k : Int) = r at HF ⊢
      have HR := Lib.hid hr
      clear hr HF
      go_enter Try.func20, Try.ntmps20
      go_wp2_with (go_at_call 37; refine (l1In_any _ _ _ _).mono ?_; rintro e w' ⟨rfl, rfl⟩)
      go_loopw [0, 5, 6] (fun x o i wr => ∃ j : Nat, j ≤ k ∧ i = .int .i64 j ∧ x = .int .i64 (m / 256 ^ j : Nat) ∧ o = .string ⟨(lowB j m).toArray⟩ ∧ Below W.heap.size W wr) (fun _ _ i _ => k - (intOf i).toNat)
      case atStart => exact ⟨0, by omega, rfl, by simp, rfl, Below.refl _ _⟩
      case round =>
        obtain ⟨j, hj, rfl, rfl, rfl, hb⟩ := hrel
        have hx : m / 256 ^ j ≤ m := Nat.div_le_self _ _
        by_cases hlt : j < k
        · have hnx : m / 256 ^ (j + 1) = m / 256 ^ j / 256 := by rw [Nat.pow_succ, Nat.div_div_eq_div_mul]
          have hlo : lowB (j + 1) m = UInt8.ofNat (m / 256 ^ j % 256) :: lowB j m := rfl
          have hll := lowB_length j m
          generalize hgx : m / 256 ^ j = x at hx hnx hlo
          have HG := Lib.hid hgx
          have HN := Lib.hid hnx
          have HL := Lib.hid hlo
          obtain ⟨b, hbn⟩ : ∃ b : UInt8, b = UInt8.ofNat (x % 256) := ⟨_, rfl⟩
          have hbi : (b.toNat : Int) = (x : Int) % 256 := by rw [hbn]; simp
          have HBN := Lib.hid hbn
          have hcv := fun w' => conv_one (P := Try.prog) Try.underlying38 Try.underlying5 Try.underlying9 w' b
          rw [hbi] at hcv
          clear hgx hnx hlo hbn hbi
          generalize lowB j m = lo at hll HL
          have hsz : (ByteArray.mk lo.toArray).size ≤ 7 := by show lo.toArray.size ≤ 7; simp; omega
          clear hll
          generalize hlob : ByteArray.mk lo.toArray = lob at hsz
          have HLB := Lib.hid hlob
          clear hlob
          have hs1 : (ByteArray.mk #[b]).size = 1 := rfl
          go_wp2
          refine ⟨⟨j + 1, by omega, by go_num, by rw [HN.out]; go_num, ?_, hb.alloc hb.size _⟩, by simp [intOf]; omega⟩
          rw [HL.out, ← HLB.out, HBN.out]
          exact congrArg Value.string (ba_append [_] lo)
        · obtain rfl : j = k := by omega
          by_cases h0 : m / 256 ^ j = 0
          · have hr : fixedOf (m : Int) (j : Int) = lowB j m := by
              unfold fixedOf
              rw [if_pos ⟨h1.1, h1.2, h2, by simpa using h0⟩]; simp
            rw [h0]
            go_wp2
            go_ret
            exact ⟨by rw [← HR.out, hr]; rfl, hb⟩
          · have hr : fixedOf (m : Int) (j : Int) = [] := by
              unfold fixedOf
              rw [if_neg]
              rintro ⟨_, _, _, h⟩
              exact h0 (by simpa using h)
            have hp : 0 < m / 256 ^ j := Nat.pos_of_ne_zero h0
            generalize m / 256 ^ j = x at hx hp
            clear h0
            have hp' : (0 : Int) < x := by omega
            go_wp2
            go_ret
            exact ⟨by rw [← HR.out, hr]; rfl, hb⟩
    · have hr : fixedOf n k = [] := by
        unfold fixedOf
        rw [if_neg]
        rintro ⟨_, _, h, _⟩
        exact h2 h
      rw [hr]
      have hn : n < 0 := by omega
      go_enter Try.func20, Try.ntmps20
      go_wp2_with (go_at_call 37; refine (l1In_any _ _ _ _).mono ?_; rintro e w' ⟨rfl, rfl⟩)
      go_ret
      exact ⟨rfl, Below.refl _ _⟩
  · have hB : inB w 1 7 = false := by simp [inB]; omega
    have hr : fixedOf n w = [] := by
      unfold fixedOf
      rw [if_neg]
      rintro ⟨h3, h4, _, _⟩
      exact h1 ⟨h3, h4⟩
    rw [hr]
    go_enter Try.func20, Try.ntmps20
    go_wp2_with (go_at_call 37; refine (l1In_any _ _ _ _).mono ?_; rintro e w' ⟨rfl, rfl⟩)
    go_ret
    exact ⟨rfl, Below.refl _ _⟩
end Go.Proofs.Ytgcoopaodbaaeaa
