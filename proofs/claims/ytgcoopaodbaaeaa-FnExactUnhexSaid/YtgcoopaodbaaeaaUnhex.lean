/- Unhex, both packages. -/
import Derived.Test.YtgcoopaodbaaeaaRows
import Derived.Test.YtgcoopaodbaaeaaHex
namespace Go.Proofs.Ytgcoopaodbaaeaa
open Go Go.RowKit

def hexVal (b : UInt8) : Int := if 48 ≤ b.toNat ∧ b.toNat ≤ 57 then b.toNat - 48 else if 97 ≤ b.toNat ∧ b.toNat ≤ 102 then b.toNat - 87 else -1
theorem hexVal_range (b : UInt8) : -1 ≤ hexVal b ∧ hexVal b < 16 := by unfold hexVal; split <;> (try split) <;> omega
def unhexL : List UInt8 → Option (List UInt8)
  | [] => some []
  | [_] => none
  | a :: b :: r => if hexVal a < 0 ∨ hexVal b < 0 then none else (unhexL r).map (UInt8.ofNat (16 * (hexVal a).toNat + (hexVal b).toNat) :: ·)
theorem unhexL_odd : ∀ (l : List UInt8), l.length % 2 = 1 → unhexL l = none
  | [], h => by simp at h
  | [_], _ => rfl
  | a :: b :: r, h => by
    rw [unhexL, unhexL_odd r (by simp only [List.length_cons] at h; omega)]
    simp
theorem drop_two (l : List UInt8) (k : Nat) (h : k + 1 < l.length) : l.drop k = l.getD k 0 :: l.getD (k + 1) 0 :: l.drop (k + 2) := by
  rw [List.drop_eq_getElem_cons (by omega), List.drop_eq_getElem_cons (by omega)]
  simp [List.getD, List.getElem?_eq_getElem h, List.getElem?_eq_getElem (show k < l.length by omega)]

set_option maxHeartbeats 400000 in
theorem hexValue_any (b : UInt8) (w : World) :
    Calls Try.prog 40 #[.int .u8 b.toNat] w fun e w' => e = .returned (.int .i64 (hexVal b)) ∧ w = w' := by
  have hb := b.toNat_lt
  have hr : hexVal b = if 48 ≤ b.toNat ∧ b.toNat ≤ 57 then (b.toNat : Int) - 48 else if 97 ≤ b.toNat ∧ b.toNat ≤ 102 then (b.toNat : Int) - 87 else -1 := rfl
  generalize hexVal b = v at hr ⊢
  generalize b.toNat = n at hb hr ⊢
  have HR := Lib.hid hr
  clear hr
  go_enter Try.func40, Try.ntmps40
  go_wp2
  all_goals
    go_ret
    refine ⟨?_, rfl⟩
    rw [HR.out]
    simp
    try omega

theorem dig_of (n k : Nat) (hn : n < 256) (hk : k < 16) (h : hexDigits.getD k 0 = UInt8.ofNat n) : hexVal (UInt8.ofNat n) = k := by
  have : ∀ n < 256, ∀ k < 16, hexDigits.getD k 0 = UInt8.ofNat n → hexVal (UInt8.ofNat n) = k := by decide +kernel
  exact this n hn k hk h
theorem dig_no (n : Nat) (hn : n < 256) (h : ∀ k, k < 16 → hexDigits.getD k 0 ≠ UInt8.ofNat n) : hexVal (UInt8.ofNat n) = -1 := by
  have : ∀ n < 256, (∀ k < 16, hexDigits.getD k 0 ≠ UInt8.ofNat n) → hexVal (UInt8.ofNat n) = -1 := by decide +kernel
  exact this n hn h

set_option maxHeartbeats 400000 in
theorem l1FromHex_any (b : UInt8) (w : World) :
    Calls Try.prog 39 #[.int .u8 b.toNat] w fun e w' => e = .returned (.int .i64 (hexVal b)) ∧ w = w' := by
  have hb := b.toNat_lt
  have h1 : ∀ k, k < 16 → hexDigits.getD k 0 = b → hexVal b = k := fun k hk h => by
    have := dig_of b.toNat k hb hk
    simp at this
    exact this (by simpa using h)
  have h2 : (∀ k, k < 16 → hexDigits.getD k 0 ≠ b) → hexVal b = -1 := fun h => by
    have := dig_no b.toNat hb
    simp at this
    exact this (by simpa using h)
  have H1 := Lib.hid h1
  have H2 := Lib.hid h2
  clear h1 h2
  generalize hexVal b = v at H1 H2 ⊢
  go_enter Try.func39, Try.ntmps39
  go_wp2
  go_loop [3] (fun i => ∃ k : Nat, k ≤ 16 ∧ i = .int .i64 k ∧ Hid (∀ c, c < k → hexDigits.getD c 0 ≠ b)) (fun i => 16 - (intOf i).toNat)
  case atStart => exact ⟨0, by omega, rfl, fun c hc => by omega⟩
  case round =>
    obtain ⟨k, hk, rfl, HN⟩ := hrel
    by_cases hlt : k < 16
    · have hd := fun w' => l1Digit_any (k : Int) (by omega) (by omega) w'
      rw [Int.toNat_natCast] at hd
      generalize hg : hexDigits.getD k 0 = d at hd
      have HG := Lib.hid hg
      have HD := Lib.hid hd
      clear hd hg
      by_cases he : d = b
      · subst he
        have hv := H1.out k hlt HG.out
        subst hv
        go_wp2_with (go_at_call 36; refine (HD.out _).mono ?_; rintro e w' ⟨rfl, rfl⟩)
        go_ret
        exact ⟨rfl, rfl⟩
      · have he' : ((d.toNat : Int) == (b.toNat : Int)) = false := by
          rw [beq_eq_false_iff_ne]
          intro h
          exact he (UInt8.toNat_inj.1 (by omega))
        have HE := Lib.hid he
        clear he
        go_wp2_with (go_at_call 36; refine (HD.out _).mono ?_; rintro e w' ⟨rfl, rfl⟩)
        refine ⟨⟨k + 1, by omega, by go_num, ?_⟩, by simp [intOf]; omega⟩
        intro c hc
        by_cases h : c = k
        · subst h; rw [HG.out]; exact HE.out
        · exact HN.out c (by omega)
    · obtain rfl : k = 16 := by omega
      have hv := H2.out HN.out
      subst hv
      go_wp2
      go_ret
      exact ⟨rfl, rfl⟩

set_option maxHeartbeats 800000 in
theorem unhex_impl (s : ByteArray) (hs : s.size ≤ 1048576) (w : World) :
    Calls Try.prog 27 #[.string s] w fun e w' => e = .returned (.tuple #[.string ⟨((unhexL s.data.toList).getD []).toArray⟩, .bool (unhexL s.data.toList).isSome]) ∧ Below w.heap.size w w' := by
  by_cases hodd : s.size % 2 = 1
  · have hr : unhexL s.data.toList = none := unhexL_odd _ (by simpa using hodd)
    rw [hr]
    have hN : ((s.size : Int) % 2 != 0) = true := by rw [bne_iff_ne]; omega
    clear hodd hr
    go_enter Try.func27, Try.ntmps27
    go_wp2
    go_ret2
    exact ⟨rfl, Below.refl _ _⟩
  · have hN : ((s.size : Int) % 2 != 0) = false := by rw [bne_eq_false_iff_eq]; omega
    have hev : s.size % 2 = 0 := by omega
    have HEV := Lib.hid hev
    have HR := Lib.hid (rfl : unhexL s.data.toList = unhexL s.data.toList)
    generalize hrr : unhexL s.data.toList = R at HR ⊢
    have HRR := Lib.hid hrr
    clear hodd hev hrr HR
    go_enter Try.func27, Try.ntmps27
    go_wp2_with (at_make; refine wpList_mk rfl elU8 _ _ rfl _ _ _ (s.size / 2) rfl rfl (by omega) (by omega) (by decide) ?_; intro w1 hown _hgr hb1)
    go_loopw [4, 5] (fun v i wr => ∃ (p : Nat) (acc : List UInt8), 2 * p ≤ s.size ∧ i = .int .i64 ((2 * p : Nat) : Int) ∧ Hid (R = (unhexL (s.data.toList.drop (2 * p))).map (acc ++ ·)) ∧ acc.length = p ∧ wr.ownsRow w.heap.size 5 1 v p (u8s acc) ∧ Below w.heap.size w wr) (fun _ i _ => s.size - (intOf i).toNat)
    case atStart => exact ⟨0, [], by omega, rfl, by show R = _; rw [← HRR.out]; simp, rfl, hown, hb1⟩
    case round =>
      obtain ⟨p, acc, hp, rfl, HU, hacc, ho, hb⟩ := hrel
      have HA := Lib.hid hacc
      clear hacc
      by_cases hlt : 2 * p < s.size
      · have hlt1 : 2 * p + 1 < s.size := by have := HEV.out; omega
        have hx1 := fun w' => idx_str (P := Try.prog) Try.underlying9 s .i64 ((2 * p : Nat) : Int) (by omega) (by omega) w'
        have hx2 := fun w' => idx_str (P := Try.prog) Try.underlying9 s .i64 (2 * (p : Int) + 1) (by omega) (by omega) w'
        rw [show ((2 * p : Nat) : Int).toNat = 2 * p from by omega] at hx1
        rw [show (2 * (p : Int) + 1).toNat = 2 * p + 1 from by omega] at hx2
        simp only [Int.natCast_mul, Int.cast_ofNat_Int] at hx1 ⊢
        have hdr := drop_two s.data.toList (2 * p) (by simpa using hlt1)
        generalize s.data.toList.getD (2 * p) 0 = a at hx1 hdr
        generalize s.data.toList.getD (2 * p + 1) 0 = b at hx2 hdr
        have HD := Lib.hid hdr
        clear hdr
        have hca := fun w' => hexValue_any a w'
        have hcb := fun w' => hexValue_any b w'
        have hra := hexVal_range a
        have hrb := hexVal_range b
        generalize hva : hexVal a = va at hca hra
        generalize hvb : hexVal b = vb at hcb hrb
        have HVA := Lib.hid hva
        have HVB := Lib.hid hvb
        have HCA := Lib.hid hca
        have HCB := Lib.hid hcb
        clear hva hvb hca hcb
        by_cases ha : va < 0
        · have hn : Hid (R = none) := by
            show R = none
            rw [HU.out, HD.out, unhexL, if_pos (.inl (by rw [HVA.out]; exact ha))]; rfl
          go_wp2
          refine wp_region_canon [(0, true), (1, true), (2, true), (4, false), (5, false), (6, false), (7, false), (3, true), (8, true), (9, true), (10, true)] (fun _ => True) (by kernel_rfl) (by kernel_rfl) ?_
          simp only [List.map_cons, List.map_nil, List.getD_cons_zero, List.getD_cons_succ]
          (repeat ((first | refine wpC_now (by rfl) (fun K hK => ?_) | refine wpC_any (by rfl) trivial (fun K hK => ?_)); simp only [YR]; go_simp; (try go_bits); refine hK _ ?_; clear hK K))
          (refine wpC_step (by rfl) (by rfl) (fun K hK => ?_); go_simp; refine Calls.mono (HCA.out _) ?_; rintro e w' ⟨rfl, rfl⟩; refine hK _ _ trivial ?_; clear hK K)
          (refine wpC_step (by rfl) (by rfl) (fun K hK => ?_); go_simp; refine Calls.mono (HCB.out _) ?_; rintro e w' ⟨rfl, rfl⟩; refine hK _ _ trivial ?_; clear hK K)
          (repeat ((first | refine wpC_now (by rfl) (fun K hK => ?_) | refine wpC_any (by rfl) trivial (fun K hK => ?_)); simp only [YR]; go_simp; (try go_bits); refine hK _ ?_; clear hK K))
          (refine wpC_nil (NoPanic.normal ?_))
          go_wp2
          go_ret2
          exact ⟨by rw [hn.out]; rfl, hb.drew⟩
        · by_cases hbn : vb < 0
          · have hn : Hid (R = none) := by
              show R = none
              rw [HU.out, HD.out, unhexL, if_pos (.inr (by rw [HVB.out]; exact hbn))]; rfl
            go_wp2
            refine wp_region_canon [(0, true), (1, true), (2, true), (4, false), (5, false), (6, false), (7, false), (3, true), (8, true), (9, true), (10, true)] (fun _ => True) (by kernel_rfl) (by kernel_rfl) ?_
            simp only [List.map_cons, List.map_nil, List.getD_cons_zero, List.getD_cons_succ]
            (repeat ((first | refine wpC_now (by rfl) (fun K hK => ?_) | refine wpC_any (by rfl) trivial (fun K hK => ?_)); simp only [YR]; go_simp; (try go_bits); refine hK _ ?_; clear hK K))
            (refine wpC_step (by rfl) (by rfl) (fun K hK => ?_); go_simp; refine Calls.mono (HCA.out _) ?_; rintro e w' ⟨rfl, rfl⟩; refine hK _ _ trivial ?_; clear hK K)
            (refine wpC_step (by rfl) (by rfl) (fun K hK => ?_); go_simp; refine Calls.mono (HCB.out _) ?_; rintro e w' ⟨rfl, rfl⟩; refine hK _ _ trivial ?_; clear hK K)
            (repeat ((first | refine wpC_now (by rfl) (fun K hK => ?_) | refine wpC_any (by rfl) trivial (fun K hK => ?_)); simp only [YR]; go_simp; (try go_bits); refine hK _ ?_; clear hK K))
            (refine wpC_nil (NoPanic.normal ?_))
            go_wp2
            go_ret2
            exact ⟨by rw [hn.out]; rfl, hb.drew⟩
          · obtain ⟨na, rfl⟩ := Int.eq_ofNat_of_zero_le (show 0 ≤ va by omega)
            obtain ⟨nb, rfl⟩ := Int.eq_ofNat_of_zero_le (show 0 ≤ vb by omega)
            have hn : Hid (R = (unhexL (s.data.toList.drop (2 * p + 2))).map ((acc ++ [UInt8.ofNat (16 * na + nb)]) ++ ·)) := by
              show R = _
              rw [HU.out, HD.out, unhexL, if_neg (by rw [HVA.out, HVB.out]; omega), HVA.out, HVB.out, Option.map_map]
              congr 1
              funext l; simp
            obtain ⟨c, hc⟩ : ∃ c : UInt8, c = UInt8.ofNat (16 * na + nb) := ⟨_, rfl⟩
            have hci : (c.toNat : Int) = na * 16 + nb := by rw [hc]; simp; omega
            have HC := Lib.hid hc
            have HCI := Lib.hid hci
            clear hc hci
            have hor := i64_or ((na : Int) * 16) nb 4 (by omega) (by omega) (by omega) (by omega) (by omega) (by omega)
            go_wp2
            refine wp_region_canon [(0, true), (1, true), (2, true), (4, false), (5, false), (6, false), (7, false), (3, true), (8, true), (9, true), (10, true)] (fun _ => True) (by kernel_rfl) (by kernel_rfl) ?_
            simp only [List.map_cons, List.map_nil, List.getD_cons_zero, List.getD_cons_succ]
            (repeat ((first | refine wpC_now (by rfl) (fun K hK => ?_) | refine wpC_any (by rfl) trivial (fun K hK => ?_)); simp only [YR]; go_simp; (try go_bits); refine hK _ ?_; clear hK K))
            (refine wpC_step (by rfl) (by rfl) (fun K hK => ?_); go_simp; refine Calls.mono (HCA.out _) ?_; rintro e w' ⟨rfl, rfl⟩; refine hK _ _ trivial ?_; clear hK K)
            (refine wpC_step (by rfl) (by rfl) (fun K hK => ?_); go_simp; refine Calls.mono (HCB.out _) ?_; rintro e w' ⟨rfl, rfl⟩; refine hK _ _ trivial ?_; clear hK K)
            (repeat ((first | refine wpC_now (by rfl) (fun K hK => ?_) | refine wpC_any (by rfl) trivial (fun K hK => ?_)); simp only [YR]; go_simp; (try go_bits); refine hK _ ?_; clear hK K))
            (refine wpC_nil (NoPanic.normal ?_))
            go_wp2_with (at_builtin; go_must (refine wpList_ap1 rfl elU8 _ _ rfl w.heap.size _ p _ rfl (World.ownsRow.alloc (World.ownsRow.drew ho) _) _ 1 1 _ _ _ rfl (heap_alloc_new _ _) rfl (by simp [Value.oneCell']) (by omega) (by omega) (by decide) (by simp; have := hb.size; omega) ?_; intro g cap w2 ho2 hb2))
            refine ⟨⟨p + 1, acc ++ [c], by omega, by go_num, ?_, by simp; exact HA.out, ?_, ((hb.alloc hb.size _).drew).trans hb2⟩, by simp [intOf]; omega⟩
            · show R = _
              rw [hn.out, HC.out]; rfl
            · rw [u8s_append]
              simp only [u8s, List.map_cons, List.map_nil, HCI.out]
              exact ho2
      · have hfin : s.data.toList.drop (2 * p) = [] := List.drop_eq_nil_of_le (by simp; omega)
        have hR : R = some acc := by rw [HU.out, hfin, unhexL]; simp
        have hcv := conv_own (P := Try.prog) Try.underlying38 Try.underlying5 Try.underlying9 ho
        have HRF := Lib.hid hR
        clear hR hfin ho
        simp only [Int.natCast_mul, Int.cast_ofNat_Int]
        go_wp2
        go_ret2
        exact ⟨by rw [HRF.out]; rfl, hb⟩

set_option maxHeartbeats 800000 in
theorem unhex_spec (s : ByteArray) (hs : s.size ≤ 1048576) (w : World) :
    Calls Try.prog 26 #[.string s] w fun e w' => e = .returned (.tuple #[.string ⟨((unhexL s.data.toList).getD []).toArray⟩, .bool (unhexL s.data.toList).isSome]) ∧ Below w.heap.size w w' := by
  by_cases hodd : s.size % 2 = 1
  · have hr : unhexL s.data.toList = none := unhexL_odd _ (by simpa using hodd)
    rw [hr]
    have hN : ((s.size : Int) % 2 == 1) = true := by rw [beq_iff_eq]; omega
    clear hodd hr
    go_enter Try.func26, Try.ntmps26
    go_wp2
    go_ret2
    exact ⟨rfl, (Below.refl _ _).alloc (Nat.le_refl _) _⟩
  · have hN : ((s.size : Int) % 2 == 1) = false := by rw [beq_eq_false_iff_ne]; omega
    have hev : s.size % 2 = 0 := by omega
    have HEV := Lib.hid hev
    have HR := Lib.hid (rfl : unhexL s.data.toList = unhexL s.data.toList)
    generalize hrr : unhexL s.data.toList = R at HR ⊢
    have HRR := Lib.hid hrr
    clear hodd hev hrr HR
    go_enter Try.func26, Try.ntmps26
    go_wp2
    go_loopw [4, 5] (fun v i wr => ∃ (p : Nat) (acc : List UInt8), 2 * p ≤ s.size ∧ i = .int .i64 ((2 * p : Nat) : Int) ∧ Hid (R = (unhexL (s.data.toList.drop (2 * p))).map (acc ++ ·)) ∧ acc.length = p ∧ wr.ownsRow w.heap.size 5 1 v p (u8s acc) ∧ Below w.heap.size w wr) (fun _ i _ => s.size - (intOf i).toNat)
    case atStart => exact ⟨0, [], by omega, rfl, by show R = _; rw [← HRR.out]; simp, rfl, World.ownsRow_made w #[] 0 (Nat.le_refl _) (by decide) rfl, (Below.refl _ _).alloc (Nat.le_refl _) _⟩
    case round =>
      obtain ⟨p, acc, hp, rfl, HU, hacc, ho, hb⟩ := hrel
      have HA := Lib.hid hacc
      clear hacc
      by_cases hlt : 2 * p < s.size
      · have hlt1 : 2 * p + 1 < s.size := by have := HEV.out; omega
        have hx1 := fun w' => idx_str (P := Try.prog) Try.underlying9 s .i64 ((2 * p : Nat) : Int) (by omega) (by omega) w'
        have hx2 := fun w' => idx_str (P := Try.prog) Try.underlying9 s .i64 (2 * (p : Int) + 1) (by omega) (by omega) w'
        rw [show ((2 * p : Nat) : Int).toNat = 2 * p from by omega] at hx1
        rw [show (2 * (p : Int) + 1).toNat = 2 * p + 1 from by omega] at hx2
        simp only [Int.natCast_mul, Int.cast_ofNat_Int] at hx1 ⊢
        have hdr := drop_two s.data.toList (2 * p) (by simpa using hlt1)
        generalize s.data.toList.getD (2 * p) 0 = a at hx1 hdr
        generalize s.data.toList.getD (2 * p + 1) 0 = b at hx2 hdr
        have HD := Lib.hid hdr
        clear hdr
        have hca := fun w' => l1FromHex_any a w'
        have hcb := fun w' => l1FromHex_any b w'
        have hra := hexVal_range a
        have hrb := hexVal_range b
        generalize hva : hexVal a = va at hca hra
        generalize hvb : hexVal b = vb at hcb hrb
        have HVA := Lib.hid hva
        have HVB := Lib.hid hvb
        have HCA := Lib.hid hca
        have HCB := Lib.hid hcb
        clear hva hvb hca hcb
        by_cases ha : va < 0
        · have hn : Hid (R = none) := by
            show R = none
            rw [HU.out, HD.out, unhexL, if_pos (.inl (by rw [HVA.out]; exact ha))]; rfl
          go_wp2_with fail
          refine (HCA.out _).mono ?_
          rintro e w' ⟨rfl, rfl⟩
          go_wp2_with fail
          refine (HCB.out _).mono ?_
          rintro e w' ⟨rfl, rfl⟩
          go_wp2
          go_ret2
          exact ⟨by rw [hn.out]; rfl, hb⟩
        · by_cases hbn : vb < 0
          · have hn : Hid (R = none) := by
              show R = none
              rw [HU.out, HD.out, unhexL, if_pos (.inr (by rw [HVB.out]; exact hbn))]; rfl
            go_wp2_with fail
            refine (HCA.out _).mono ?_
            rintro e w' ⟨rfl, rfl⟩
            go_wp2_with fail
            refine (HCB.out _).mono ?_
            rintro e w' ⟨rfl, rfl⟩
            go_wp2
            go_ret2
            exact ⟨by rw [hn.out]; rfl, hb⟩
          · obtain ⟨na, rfl⟩ := Int.eq_ofNat_of_zero_le (show 0 ≤ va by omega)
            obtain ⟨nb, rfl⟩ := Int.eq_ofNat_of_zero_le (show 0 ≤ vb by omega)
            have hn : Hid (R = (unhexL (s.data.toList.drop (2 * p + 2))).map ((acc ++ [UInt8.ofNat (16 * na + nb)]) ++ ·)) := by
              show R = _
              rw [HU.out, HD.out, unhexL, if_neg (by rw [HVA.out, HVB.out]; omega), HVA.out, HVB.out, Option.map_map]
              congr 1
              funext l; simp
            obtain ⟨c, hc⟩ : ∃ c : UInt8, c = UInt8.ofNat (16 * na + nb) := ⟨_, rfl⟩
            have hci : (c.toNat : Int) = 16 * na + nb := by rw [hc]; simp; omega
            have HC := Lib.hid hc
            have HCI := Lib.hid hci
            clear hc hci
            go_wp2_with fail
            refine (HCA.out _).mono ?_
            rintro e w' ⟨rfl, rfl⟩
            go_wp2_with fail
            refine (HCB.out _).mono ?_
            rintro e w' ⟨rfl, rfl⟩
            go_wp2_with (at_builtin; go_must (refine wpList_ap1 rfl elU8 _ _ rfl w.heap.size _ p _ rfl (World.ownsRow.alloc ho _) _ 1 1 _ _ _ rfl (heap_alloc_new _ _) rfl (by simp [Value.oneCell']) (by omega) (by omega) (by decide) (by simp; have := hb.size; omega) ?_; intro g cap w2 ho2 hb2))
            refine ⟨⟨p + 1, acc ++ [c], by omega, by go_num, ?_, by simp; exact HA.out, ?_, (hb.alloc hb.size _).trans hb2⟩, by simp [intOf]; omega⟩
            · show R = _
              rw [hn.out, HC.out]; rfl
            · rw [u8s_append]
              simp only [u8s, List.map_cons, List.map_nil, HCI.out]
              exact ho2
      · have hfin : s.data.toList.drop (2 * p) = [] := List.drop_eq_nil_of_le (by simp; omega)
        have hR : R = some acc := by rw [HU.out, hfin, unhexL]; simp
        have hcv := conv_own (P := Try.prog) Try.underlying38 Try.underlying5 Try.underlying9 ho
        have HRF := Lib.hid hR
        clear hR hfin ho
        simp only [Int.natCast_mul, Int.cast_ofNat_Int]
        go_wp2
        go_ret2
        exact ⟨by rw [HRF.out]; rfl, hb⟩
end Go.Proofs.Ytgcoopaodbaaeaa
