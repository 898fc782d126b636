/- Hex, of the program and of the reference: both give the same text, for every string of at most 2^20 bytes. -/
import Derived.Test.YtgcoopaodbaaeaaRows
import Derived.Test.YtgcoopaodbaaeaaBase
namespace Go.Proofs.Ytgcoopaodbaaeaa
open Go Go.RowKit

theorem elU8 : Elem Try.prog 38 5 (.int .u8 0) 1 1 := ⟨Try.underlying38, by kernel_rfl, rfl, by decide⟩

def hexDigits : List UInt8 := [48, 49, 50, 51, 52, 53, 54, 55, 56, 57, 97, 98, 99, 100, 101, 102]
def hexPair (b : UInt8) : List UInt8 := [hexDigits.getD (b.toNat / 16) 0, hexDigits.getD (b.toNat % 16) 0]
def hexOf (l : List UInt8) : List UInt8 := l.flatMap hexPair
theorem hexOf_length (l : List UInt8) : (hexOf l).length = 2 * l.length := by
  induction l with
  | nil => rfl
  | cons b l ih => simp only [hexOf, List.flatMap_cons, List.length_append] at *; rw [ih]; simp [hexPair]; omega
theorem hexOf_snoc (l : List UInt8) (b : UInt8) : hexOf (l ++ [b]) = hexOf l ++ hexPair b := by simp [hexOf]
theorem take_snoc' (s : ByteArray) (k : Nat) (h : k < s.size) : s.data.toList.take (k + 1) = s.data.toList.take k ++ [s.data.toList.getD k 0] := by
  rw [List.take_succ_eq_append_getElem (by simpa using h), List.getD, List.getElem?_eq_getElem (by simpa using h)]; rfl

theorem hexd (i : Int) (h0 : 0 ≤ i) (h : i < 16) (w : World) :
    (Instr.index 9 (.string ⟨#[48, 49, 50, 51, 52, 53, 54, 55, 56, 57, 97, 98, 99, 100, 101, 102]⟩) (.int .u8 i)).run Try.prog w = .ok (.int .u8 (hexDigits.getD i.toNat 0).toNat) w :=
  idx_str Try.underlying9 ⟨#[48, 49, 50, 51, 52, 53, 54, 55, 56, 57, 97, 98, 99, 100, 101, 102]⟩ .u8 i h0 (by show i.toNat < 16; omega) w

set_option maxHeartbeats 400000 in
theorem hex_impl (s : ByteArray) (w : World) (hs : s.size ≤ 1048576) :
    Calls Try.prog 15 #[.string s] w fun e w' => e = .returned (.string ⟨(hexOf s.data.toList).toArray⟩) ∧ Below w.heap.size w w' := by
  go_enter Try.func15, Try.ntmps15
  go_wp2_with (at_make; refine wpList_mk rfl elU8 _ _ rfl _ _ _ (2 * s.size) rfl rfl (by omega) (by omega) (by decide) ?_; intro w1 hown _hgr hb1)
  go_loopw [3, 4] (fun v i wr => ∃ k : Nat, k ≤ s.size ∧ i = .int .i64 k ∧ wr.ownsRow w.heap.size 5 1 v (2 * k) (u8s (hexOf (s.data.toList.take k))) ∧ Below w.heap.size w wr) (fun _ i _ => s.size - (intOf i).toNat)
  case atStart => exact ⟨0, Nat.zero_le _, rfl, by simpa [hexOf, u8s] using hown, hb1⟩
  case round =>
    obtain ⟨k, hk, rfl, ho, hb⟩ := hrel
    clear hown hb1 _hgr
    by_cases hlt : k < s.size
    · have hx1 := fun w' => idx_str (P := Try.prog) Try.underlying9 s .i64 k (by omega) (by omega) w'
      have hsn := take_snoc' s k hlt
      simp only [Int.toNat_natCast] at hx1
      generalize hbb : s.data.toList.getD k 0 = b at hx1 hsn
      have HS := Lib.hid hsn
      clear hbb hsn
      have hbd : (b.toNat : Int) < 256 := by have := b.toNat_lt; omega
      have hx2 := fun w' => hexd ((b.toNat : Int) / 16) (by omega) (by omega) w'
      have hx3 := fun w' => hexd ((b.toNat : Int) % 16) (by omega) (by omega) w'
      rw [show ((b.toNat : Int) / 16).toNat = b.toNat / 16 from by omega] at hx2
      rw [show ((b.toNat : Int) % 16).toNat = b.toNat % 16 from by omega] at hx3
      generalize hp : hexDigits.getD (b.toNat / 16) 0 = p at hx2
      generalize hq : hexDigits.getD (b.toNat % 16) 0 = q at hx3
      have HP := Lib.hid hp
      have HQ := Lib.hid hq
      clear hp hq
      go_wp2
      refine wp_region_canon [(0, false), (1, true), (2, true), (3, true), (4, true), (5, true), (6, true), (7, true), (8, true), (9, true), (10, true), (11, true), (12, true), (13, true)] (fun _ => True) (by kernel_rfl) (by kernel_rfl) ?_
      simp only [List.map_cons, List.map_nil, List.getD_cons_zero, List.getD_cons_succ]
      (repeat ((first | refine wpC_now (by rfl) (fun K hK => ?_) | refine wpC_any (by rfl) trivial (fun K hK => ?_)); simp only [YR]; go_simp; (try go_bits); refine hK _ ?_; clear hK K))
      (refine wpC_step (by rfl) (by rfl) (fun K hK => ?_); go_simp; refine hK _ _ trivial ?_; clear hK K)
      refine wpC_step (by rfl) (by rfl) (fun K hK => ?_)
      refine wp_ap1 elU8 _ _ rfl w.heap.size _ (2 * k) _ rfl ((World.ownsRow.alloc (World.ownsRow.drew ho) _)) _ 2 2 _ _ _ rfl (heap_alloc_new _ _) rfl (by simp [Value.oneCell']) (by omega) (by omega) (by decide) (by simp; have := hb.size; omega) ?_
      intro g cap w2 ho2 hb2
      refine hK _ _ trivial ?_
      clear hK K
      (repeat ((first | refine wpC_now (by rfl) (fun K hK => ?_) | refine wpC_any (by rfl) trivial (fun K hK => ?_)); simp only [YR]; go_simp; (try go_bits); refine hK _ ?_; clear hK K))
      (refine wpC_nil (NoPanic.normal ?_))
      go_wp2
      refine ⟨⟨k + 1, by omega, by go_num, ?_, ((hb.alloc hb.size _).drew).trans hb2⟩, by simp [intOf]; omega⟩
      rw [HS.out, hexOf_snoc, u8s_append, hexPair, HP.out, HQ.out]
      exact ho2
    · have hk' : k = s.size := by omega
      subst hk'
      rw [List.take_of_length_le (by simp)] at ho
      have hcv := conv_own (P := Try.prog) Try.underlying38 Try.underlying5 Try.underlying9 ho
      clear ho
      go_wp2
      go_ret
      exact ⟨rfl, hb⟩

set_option maxHeartbeats 400000 in
theorem l1Digit_any (k : Int) (h0 : 0 ≤ k) (h : k < 16) (w : World) :
    Calls Try.prog 36 #[.int .i64 k] w fun e w' => e = .returned (.int .u8 (hexDigits.getD k.toNat 0).toNat) ∧ w = w' := by
  have hx : (Instr.index 9 (.string ⟨#[48, 49, 50, 51, 52, 53, 54, 55, 56, 57, 97, 98, 99, 100, 101, 102]⟩) (.int .i64 k)).run Try.prog w = .ok (.int .u8 (hexDigits.getD k.toNat 0).toNat) w :=
    idx_str Try.underlying9 ⟨#[48, 49, 50, 51, 52, 53, 54, 55, 56, 57, 97, 98, 99, 100, 101, 102]⟩ .i64 k h0 (by show k.toNat < 16; omega) w
  generalize hexDigits.getD k.toNat 0 = b at hx ⊢
  go_enter Try.func36, Try.ntmps36
  go_wp2
  go_ret
  exact ⟨rfl, rfl⟩

set_option maxHeartbeats 400000 in
theorem hex_spec (s : ByteArray) (w : World) (hs : s.size ≤ 1048576) :
    Calls Try.prog 14 #[.string s] w fun e w' => e = .returned (.string ⟨(hexOf s.data.toList).toArray⟩) ∧ Below w.heap.size w w' := by
  go_enter Try.func14, Try.ntmps14
  go_wp2
  go_loopw [3, 4] (fun v i wr => ∃ k : Nat, k ≤ s.size ∧ i = .int .i64 k ∧ wr.ownsRow w.heap.size 5 1 v (2 * k) (u8s (hexOf (s.data.toList.take k))) ∧ Below w.heap.size w wr) (fun _ i _ => s.size - (intOf i).toNat)
  case atStart => exact ⟨0, Nat.zero_le _, rfl, World.ownsRow_made w #[] 0 (Nat.le_refl _) (by decide) rfl, (Below.refl _ _).alloc (Nat.le_refl _) _⟩
  case round =>
    obtain ⟨k, hk, rfl, ho, hb⟩ := hrel
    by_cases hlt : k < s.size
    · have hx1 := fun w' => idx_str (P := Try.prog) Try.underlying9 s .i64 k (by omega) (by omega) w'
      have hsn := take_snoc' s k hlt
      simp only [Int.toNat_natCast] at hx1
      generalize hbb : s.data.toList.getD k 0 = b at hx1 hsn
      have HS := Lib.hid hsn
      clear hbb hsn
      have hbd : (b.toNat : Int) < 256 := by have := b.toNat_lt; omega
      have hd2 := fun w' => l1Digit_any ((b.toNat : Int) / 16) (by omega) (by omega) w'
      have hd3 := fun w' => l1Digit_any ((b.toNat : Int) % 16) (by omega) (by omega) w'
      rw [show ((b.toNat : Int) / 16).toNat = b.toNat / 16 from by omega] at hd2
      rw [show ((b.toNat : Int) % 16).toNat = b.toNat % 16 from by omega] at hd3
      generalize hp : hexDigits.getD (b.toNat / 16) 0 = p at hd2
      generalize hq : hexDigits.getD (b.toNat % 16) 0 = q at hd3
      have HP := Lib.hid hp
      have HQ := Lib.hid hq
      have HD2 := Lib.hid hd2
      have HD3 := Lib.hid hd3
      clear hp hq hd2 hd3
      go_wp2
      refine wp_region_canon [(0, false), (1, true), (2, true), (3, true), (4, true), (5, true), (7, false), (8, false), (9, false), (10, false), (11, false), (6, true), (12, true), (13, true), (14, true), (15, true)] (fun _ => True) (by kernel_rfl) (by kernel_rfl) ?_
      simp only [List.map_cons, List.map_nil, List.getD_cons_zero, List.getD_cons_succ]
      (repeat ((first | refine wpC_now (by rfl) (fun K hK => ?_) | refine wpC_any (by rfl) trivial (fun K hK => ?_)); simp only [YR]; go_simp; (try go_bits); refine hK _ ?_; clear hK K))
      (refine wpC_step (by rfl) (by rfl) (fun K hK => ?_); go_simp; refine Calls.mono (HD2.out _) ?_; rintro e w' ⟨rfl, rfl⟩; refine hK _ _ trivial ?_; clear hK K)
      (repeat ((first | refine wpC_now (by rfl) (fun K hK => ?_) | refine wpC_any (by rfl) trivial (fun K hK => ?_)); simp only [YR]; go_simp; (try go_bits); refine hK _ ?_; clear hK K))
      (refine wpC_step (by rfl) (by rfl) (fun K hK => ?_); go_simp; refine Calls.mono (HD3.out _) ?_; rintro e w' ⟨rfl, rfl⟩; refine hK _ _ trivial ?_; clear hK K)
      (repeat ((first | refine wpC_now (by rfl) (fun K hK => ?_) | refine wpC_any (by rfl) trivial (fun K hK => ?_)); simp only [YR]; go_simp; (try go_bits); refine hK _ ?_; clear hK K))
      (refine wpC_step (by rfl) (by rfl) (fun K hK => ?_); go_simp; refine hK _ _ trivial ?_; clear hK K)
      refine wpC_step (by rfl) (by rfl) (fun K hK => ?_)
      refine wp_ap1 elU8 _ _ rfl w.heap.size _ (2 * k) _ rfl ((World.ownsRow.alloc (World.ownsRow.drew ho) _)) _ 2 2 _ _ _ rfl (heap_alloc_new _ _) rfl (by simp [Value.oneCell']) (by omega) (by omega) (by decide) (by simp; have := hb.size; omega) ?_
      intro g cap w2 ho2 hb2
      refine hK _ _ trivial ?_
      clear hK K
      (repeat ((first | refine wpC_now (by rfl) (fun K hK => ?_) | refine wpC_any (by rfl) trivial (fun K hK => ?_)); simp only [YR]; go_simp; (try go_bits); refine hK _ ?_; clear hK K))
      (refine wpC_nil (NoPanic.normal ?_))
      go_wp2
      refine ⟨⟨k + 1, by omega, by go_num, ?_, ((hb.alloc hb.size _).drew).trans hb2⟩, by simp [intOf]; omega⟩
      rw [HS.out, hexOf_snoc, u8s_append, hexPair, HP.out, HQ.out]
      exact ho2
    · have hk' : k = s.size := by omega
      subst hk'
      rw [List.take_of_length_le (by simp)] at ho
      have hcv := conv_own (P := Try.prog) Try.underlying38 Try.underlying5 Try.underlying9 ho
      clear ho
      go_wp2
      go_ret
      exact ⟨rfl, hb⟩
end Go.Proofs.Ytgcoopaodbaaeaa
