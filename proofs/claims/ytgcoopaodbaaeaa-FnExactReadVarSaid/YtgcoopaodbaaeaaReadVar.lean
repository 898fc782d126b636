/- ReadVar, both packages. -/
import Derived.Test.YtgcoopaodbaaeaaRows
import Derived.Test.YtgcoopaodbaaeaaVar
namespace Go.Proofs.Ytgcoopaodbaaeaa
open Go Go.RowKit

def leV : List UInt8 → Nat
  | [] => 0
  | b :: r => b.toNat % 128 + 128 * leV r
theorem leV_lt (l : List UInt8) : leV l < 128 ^ l.length := by
  induction l with
  | nil => simp [leV]
  | cons b r ih => simp only [leV, List.length_cons, Nat.pow_succ]; omega
theorem leV_snoc (l : List UInt8) (b : UInt8) : leV (l ++ [b]) = leV l + 128 ^ l.length * (b.toNat % 128) := by
  induction l with
  | nil => simp [leV]
  | cons c r ih => simp only [List.cons_append, leV, ih, List.length_cons, Nat.pow_succ]; rw [Nat.mul_add, ← Nat.mul_assoc, Nat.mul_comm 128 (128 ^ r.length)]; omega
theorem leV_take7 (l : List UInt8) (k : Nat) (h : k ≤ 7) : leV (l.take k) ≤ 562949953421311 := by
  have h1 := leV_lt (l.take k)
  have h2 : (128 : Nat) ^ (l.take k).length ≤ 128 ^ 7 := Nat.pow_le_pow_right (by omega) (by simp; omega)
  omega

/-- The first k bytes are the Var of what they say. -/
def MatV (l : List UInt8) (k : Nat) : Prop := varOf (leV (l.take k)) = l.take k
instance (l : List UInt8) (k : Nat) : Decidable (MatV l k) := by unfold MatV; infer_instance
def rvF (l : List UInt8) : Nat → Nat → Nat × Nat
  | 0, _ => (0, 0)
  | f + 1, k => if k ≤ l.length ∧ MatV l k then (leV (l.take k), k) else rvF l f (k + 1)
def rv (l : List UInt8) : Nat × Nat := rvF l 7 1

theorem varF_shape : ∀ (f m : Nat), m < 128 ^ (f + 1) → ∃ (i : List UInt8) (c : UInt8), varF (f + 1) m = i ++ [c] ∧ (∀ b ∈ i, 128 ≤ b.toNat) ∧ c.toNat < 128
  | f, m, h => by
    rw [varF]
    by_cases hm : m < 128
    · rw [if_pos hm]
      exact ⟨[], UInt8.ofNat m, rfl, by simp, by simp; omega⟩
    · rw [if_neg hm]
      cases f with
      | zero => simp at h; omega
      | succ f =>
        obtain ⟨i, c, h1, h2, h3⟩ := varF_shape f (m / 128) (by rw [Nat.pow_succ] at h; exact Nat.div_lt_of_lt_mul (by omega))
        refine ⟨UInt8.ofNat (128 + m % 128) :: i, c, by rw [h1]; rfl, ?_, h3⟩
        intro b hb
        rcases List.mem_cons.1 hb with rfl | hb
        · simp; omega
        · exact h2 b hb

/-- Where the first k bytes match, the last of them is below 128 and the others are not. -/
theorem mat_shape {l : List UInt8} {k : Nat} (h1 : 1 ≤ k) (h7 : k ≤ 7) (hl : k ≤ l.length) (h : MatV l k) : (l.getD (k - 1) 0).toNat < 128 ∧ ∀ j, j < k - 1 → 128 ≤ (l.getD j 0).toNat := by
  unfold MatV at h
  have hb := leV_take7 l k h7
  have hv : varOf (leV (l.take k)) = varF 7 (leV (l.take k)) := by
    unfold varOf
    rw [if_pos (by omega)]; simp
  rw [hv] at h
  obtain ⟨i, c, e1, e2, e3⟩ := varF_shape 6 (leV (l.take k)) (by omega)
  rw [e1] at h
  have hlen : i.length + 1 = k := by
    have := congrArg List.length h
    simp at this
    omega
  have get : ∀ j, j < k → l.getD j 0 = (i ++ [c]).getD j 0 := fun j hj => by
    rw [h]
    simp [List.getD, hj]
  constructor
  · rw [get (k - 1) (by omega), show k - 1 = i.length from by omega]
    simp [List.getD]
    exact e3
  · intro j hj
    rw [get j (by omega)]
    simp only [List.getD]
    rw [List.getElem?_append_left (by omega), List.getElem?_eq_getElem (by omega)]
    exact e2 _ (List.getElem_mem _)

theorem rvF_out (l : List UInt8) : ∀ (f k : Nat), (∀ j, k ≤ j → j < k + f → ¬ (j ≤ l.length ∧ MatV l j)) → rvF l f k = (0, 0)
  | 0, _, _ => rfl
  | f + 1, k, h => by
    rw [rvF, if_neg (h k (Nat.le_refl _) (by omega))]
    exact rvF_out l f (k + 1) (fun j h1 h2 => h j (by omega) (by omega))

theorem two128 (k : Nat) : (2 : Nat) ^ (7 * k) = 128 ^ k := by rw [Nat.pow_mul]
theorem two128i (k : Nat) : (2 : Int) ^ (7 * k) = ((128 ^ k : Nat) : Int) := by rw [← two128]; simp
theorem wrap64_in (x : Int) (h0 : 0 ≤ x) (h : x ≤ 562949953421311) : wrap64 x = x := by unfold wrap64; omega
theorem u8_and127 (b : UInt8) : bits .and .u8 (b.toNat : Int) 127 = (b.toNat : Int) % 128 := by
  have := b.toNat_lt
  exact bits_mask .u8 8 (by decide) wraps_u8 7 (by decide) b.toNat (by omega) (by omega)
theorem vor (m q P : Nat) (k : Nat) (hP : P = 128 ^ k) (hm : m < P) (hb : m + P * q ≤ 562949953421311) : bits .or .i64 (m : Int) ((P * q : Nat) : Int) = (m : Int) + (P * q : Nat) := by
  rw [i64_or_comm, Int.add_comm]
  have e : ((2 : Int) ^ (7 * k)) = (P : Int) := by rw [two128i, hP]
  have h1 : P * q ≤ 562949953421311 := by omega
  have h2 : m ≤ 562949953421311 := by omega
  refine i64_or ((P * q : Nat) : Int) (m : Int) (7 * k) (Int.natCast_nonneg _) ?_ ?_ (Int.natCast_nonneg _) ?_ ?_
  · rw [e, Int.natCast_mul, Int.mul_emod_right]
  · exact Int.lt_of_le_of_lt (Int.ofNat_le.2 h1) (by decide)
  · rw [e]; exact_mod_cast hm
  · exact Int.lt_of_le_of_lt (Int.ofNat_le.2 h2) (by decide)
theorem rv_step (l : List UInt8) (k : Nat) (hk : k ≤ 6) (hlt : k < l.length) (hsn : l.take (k + 1) = l.take k ++ [l.getD k 0]) :
    ∃ p : Nat, wrap64 (((l.getD k 0).toNat : Int) % 128 * 2 ^ (7 * k)) = (p : Int) ∧ bits .or .i64 (leV (l.take k) : Int) (p : Int) = (leV (l.take k) : Int) + (p : Int) ∧
      leV (l.take (k + 1)) = leV (l.take k) + p ∧ leV (l.take k) + p ≤ 562949953421311 := by
  have hln : (l.take k).length = k := by simp; omega
  have h1 := leV_lt (l.take k)
  have h2 := leV_snoc (l.take k) (l.getD k 0)
  rw [hln] at h1 h2
  rw [← hsn] at h2
  have h3 := leV_take7 l (k + 1) (by omega)
  rw [h2] at h3
  refine ⟨128 ^ k * ((l.getD k 0).toNat % 128), ?_, vor _ _ _ k rfl h1 h3, h2, h3⟩
  have e : (((l.getD k 0).toNat : Int) % 128 * 2 ^ (7 * k)) = ((128 ^ k * ((l.getD k 0).toNat % 128) : Nat) : Int) := by
    rw [two128i, Int.natCast_mul, Int.mul_comm]; simp
  rw [e]
  exact wrap64_in _ (Int.natCast_nonneg _) (Int.ofNat_le.2 (Nat.le_trans (Nat.le_add_left _ _) h3))

set_option maxRecDepth 20000 in
set_option maxHeartbeats 800000 in
theorem readVar_impl (s : ByteArray) (hs : s.size ≤ 9223372036854775807) (w : World) :
    Calls Try.prog 29 #[.string s] w fun e w' => e = .returned (.tuple #[.int .i64 (rv s.data.toList).1, .int .i64 (rv s.data.toList).2]) ∧ Below w.heap.size w w' := by
  obtain ⟨R, hR⟩ : ∃ R, R = rv s.data.toList := ⟨_, rfl⟩
  rw [← hR]
  obtain ⟨r1, r2⟩ := R
  have HR := Lib.hid hR
  clear hR
  go_enter Try.func29, Try.ntmps29
  go_wp2
  go_loopw [4, 5] (fun x i wr => ∃ k : Nat, k ≤ 7 ∧ k ≤ s.size ∧ i = .int .i64 k ∧ x = .int .i64 (leV (s.data.toList.take k) : Nat) ∧ Hid ((r1, r2) = rvF s.data.toList (7 - k) (k + 1) ∧ ∀ j, j < k → 128 ≤ (s.data.toList.getD j 0).toNat) ∧ Below w.heap.size w wr) (fun _ i _ => 7 - (intOf i).toNat)
  case atStart => exact ⟨0, by omega, by omega, rfl, by simp [leV], ⟨HR.out, fun j hj => by omega⟩, Below.refl _ _⟩
  case round =>
    obtain ⟨k, hk, hks, rfl, rfl, HV, hb⟩ := hrel
    by_cases hlt : k < s.size
    · by_cases hk7 : k < 7
      · have hx1 := fun w' => idx_str (P := Try.prog) Try.underlying9 s .i64 k (by omega) (by omega) w'
        have hsn := take_snoc' s k hlt
        simp only [Int.toNat_natCast] at hx1
        have hmv : MatV s.data.toList (k + 1) → (s.data.toList.getD k 0).toNat < 128 := fun h => (mat_shape (k := k + 1) (by omega) (by omega) (show k + 1 ≤ s.data.toList.length from hlt) h).1
        have HMV := Lib.hid hmv
        obtain ⟨p, hsh, hor, hsn2, hmp⟩ := rv_step s.data.toList k (by omega) (show k < s.data.toList.length from hlt) hsn
        generalize hbb : s.data.toList.getD k 0 = b at hx1 hsn hsh
        generalize hmm : leV (s.data.toList.take k) = m at hor hsn2 hmp ⊢
        have hbl := b.toNat_lt
        have HS2 := Lib.hid hsn2
        have HB := Lib.hid hbb
        have HM := Lib.hid hmm
        have HS := Lib.hid hsn
        have hand := u8_and127 b
        clear hsn hsn2 hmv hbb hmm
        by_cases hb1 : b.toNat < 128
        · have hv := fun w' => var_impl ((m : Int) + p) w'
          have hA : (varOf ((m : Int) + p) = s.data.toList.take (k + 1)) = MatV s.data.toList (k + 1) := by
            unfold MatV
            rw [HS2.out]; simp
          generalize varOf ((m : Int) + p) = A at hv hA
          generalize hBA : ByteArray.mk A.toArray = BA at hv
          have HV2 := Lib.hid hv
          clear hv
          have hb1' : (b.toNat : Int) < 128 := by omega
          have hsl := fun w' => slice_str_hi (P := Try.prog) Try.underlying9 s .i64 ((k : Int) + 1) (by omega) (by omega) w'
          rw [show ((k : Int) + 1).toNat = k + 1 from by omega] at hsl
          by_cases hM : MatV s.data.toList (k + 1)
          · have hcmp : (BA.toList == (s.extract 0 (k + 1)).toList) = true := by
              rw [extract_take, ← hBA, ByteArray.toList_mk, ByteArray.toList_mk, beq_iff_eq]; exact hA.symm.mp hM
            have hfin : (r1, r2) = (m + p, k + 1) := by
              have := HV.1
              rw [show 7 - k = (6 - k) + 1 from by omega, rvF, if_pos ⟨hlt, hM⟩, HS2.out] at this
              exact this
            obtain ⟨rfl, rfl⟩ := Prod.mk.inj hfin
            clear hA hM hBA hb1 hfin
            go_wp2
            refine wp_region_canon [(0, true), (2, false), (3, false), (4, false), (5, false), (1, true), (6, true)] (fun _ => True) (by kernel_rfl) (by kernel_rfl) ?_
            simp only [List.map_cons, List.map_nil, List.getD_cons_zero, List.getD_cons_succ]
            (repeat ((first | refine wpC_now (by rfl) (fun K hK => ?_) | refine wpC_any (by rfl) trivial (fun K hK => ?_)); simp only [YR]; go_simp; (try go_bits); refine hK _ ?_; clear hK K))
            refine wpC_step (by rfl) (by rfl) (fun K hK => ?_)
            go_simp
            refine Calls.mono (HV2.out _) ?_
            rintro e w2 ⟨rfl, hb2⟩
            refine hK _ _ trivial ?_
            clear hK K
            (repeat ((first | refine wpC_now (by rfl) (fun K hK => ?_) | refine wpC_any (by rfl) trivial (fun K hK => ?_)); simp only [YR]; go_simp; (try go_bits); refine hK _ ?_; clear hK K))
            (refine wpC_nil (NoPanic.normal ?_))
            go_wp2
            go_ret2
            exact ⟨by simp only [Int.natCast_add]; rfl, hb.drew.trans (hb2.mono hb.size)⟩
          · have hcmp : (BA.toList == (s.extract 0 (k + 1)).toList) = false := by
              rw [extract_take, ← hBA, ByteArray.toList_mk, ByteArray.toList_mk, beq_eq_false_iff_ne]
              intro h
              exact hM (hA.mp h)
            have hfin : (r1, r2) = (0, 0) := by
              have h0 := HV.1
              rw [h0]
              apply rvF_out
              intro j hj1 hj2 hj3
              by_cases hjk : j = k + 1
              · subst hjk; exact hM hj3.2
              · have := (mat_shape (k := j) (by omega) (by omega) hj3.1 hj3.2).2 k (by omega)
                rw [HB.out] at this
                omega
            obtain ⟨rfl, rfl⟩ := Prod.mk.inj hfin
            clear hA hM hBA hb1 hfin
            go_wp2
            refine wp_region_canon [(0, true), (2, false), (3, false), (4, false), (5, false), (1, true), (6, true)] (fun _ => True) (by kernel_rfl) (by kernel_rfl) ?_
            simp only [List.map_cons, List.map_nil, List.getD_cons_zero, List.getD_cons_succ]
            (repeat ((first | refine wpC_now (by rfl) (fun K hK => ?_) | refine wpC_any (by rfl) trivial (fun K hK => ?_)); simp only [YR]; go_simp; (try go_bits); refine hK _ ?_; clear hK K))
            refine wpC_step (by rfl) (by rfl) (fun K hK => ?_)
            go_simp
            refine Calls.mono (HV2.out _) ?_
            rintro e w2 ⟨rfl, hb2⟩
            refine hK _ _ trivial ?_
            clear hK K
            (repeat ((first | refine wpC_now (by rfl) (fun K hK => ?_) | refine wpC_any (by rfl) trivial (fun K hK => ?_)); simp only [YR]; go_simp; (try go_bits); refine hK _ ?_; clear hK K))
            (refine wpC_nil (NoPanic.normal ?_))
            go_wp2
            go_ret2
            exact ⟨rfl, hb.drew.trans (hb2.mono hb.size)⟩
        · have hb1' : ¬ ((b.toNat : Int) < 128) := by omega
          have hV' : Hid ((r1, r2) = rvF s.data.toList (7 - (k + 1)) (k + 1 + 1) ∧ ∀ j, j < k + 1 → 128 ≤ (s.data.toList.getD j 0).toNat) := by
            refine ⟨?_, fun j hj => ?_⟩
            · have h0 := HV.1
              rw [show 7 - k = (6 - k) + 1 from by omega, rvF, if_neg (fun h => hb1 (by have := HMV.out h.2; rw [HB.out] at this; exact this))] at h0
              rw [h0]; congr 1; omega
            · by_cases h : j = k
              · subst h; rw [HB.out]; omega
              · exact HV.2 j (by omega)
          clear hb1
          go_wp2
          refine ⟨⟨k + 1, by omega, by omega, by go_num, by rw [HS2.out]; go_num, hV', hb⟩, by simp [intOf]; omega⟩
      · obtain rfl : k = 7 := by omega
        have hfin : (r1, r2) = (0, 0) := HV.1
        obtain ⟨rfl, rfl⟩ := Prod.mk.inj hfin
        clear hfin
        go_wp2
        go_ret2
        exact ⟨rfl, hb⟩
    · have hfin : (r1, r2) = (0, 0) := by
        rw [HV.1]
        apply rvF_out
        intro j hj1 hj2 hj3
        have : s.data.toList.length = s.size := rfl
        omega
      obtain ⟨rfl, rfl⟩ := Prod.mk.inj hfin
      clear hfin
      go_wp2
      go_ret2
      exact ⟨rfl, hb⟩

theorem leV_drop (l : List UInt8) (k i : Nat) (hi : i < k) (hk : k ≤ l.length) : leV ((l.take k).drop i) = (l.getD i 0).toNat % 128 + 128 * leV ((l.take k).drop (i + 1)) := by
  rw [List.drop_eq_getElem_cons (by simp; omega), leV]
  congr 3
  simp [List.getD, List.getElem?_eq_getElem (show i < l.length by omega)]
theorem leV_drop_le (l : List UInt8) (k i : Nat) (hk : k ≤ 7) : leV ((l.take k).drop i) ≤ 562949953421311 := by
  have h1 := leV_lt ((l.take k).drop i)
  have h2 : (128 : Nat) ^ ((l.take k).drop i).length ≤ 128 ^ 7 := Nat.pow_le_pow_right (by omega) (by simp; omega)
  exact Nat.le_of_lt_succ (Nat.lt_of_lt_of_le h1 h2)

set_option maxRecDepth 20000 in
set_option maxHeartbeats 1600000 in
theorem readVar_spec (s : ByteArray) (hs : s.size ≤ 9223372036854775800) (w : World) :
    Calls Try.prog 28 #[.string s] w fun e w' => e = .returned (.tuple #[.int .i64 (rv s.data.toList).1, .int .i64 (rv s.data.toList).2]) ∧ Below w.heap.size w w' := by
  obtain ⟨R, hR⟩ : ∃ R, R = rv s.data.toList := ⟨_, rfl⟩
  rw [← hR]
  obtain ⟨r1, r2⟩ := R
  have HR := Lib.hid hR
  clear hR
  go_enter Try.func28, Try.ntmps28
  go_wp2
  go_loopw [4, 5, 6] (fun i _ _ wr => ∃ k : Nat, 1 ≤ k ∧ k ≤ 8 ∧ k ≤ s.size + 1 ∧ i = .int .i64 k ∧ Hid ((r1, r2) = rvF s.data.toList (8 - k) k) ∧ Below w.heap.size w wr) (fun i _ _ _ => 8 - (intOf i).toNat)
  case atStart => exact ⟨1, by omega, by omega, by omega, rfl, HR.out, Below.refl _ _⟩
  case round =>
    obtain ⟨k, hk1, hk8, hks, rfl, HV, hb⟩ := hrel
    by_cases hlt : k ≤ s.size
    · by_cases hk7 : k ≤ 7
      · go_wp2
        obtain ⟨wo, rfl⟩ : ∃ wo : World, wo = wr := ⟨_, rfl⟩
        go_loop [5, 6] (fun x i => ∃ q : Nat, q ≤ k ∧ i = .int .i64 ((q : Int) - 1) ∧ x = .int .i64 (leV ((s.data.toList.take k).drop q) : Nat)) (fun _ i => ((intOf i) + 1).toNat)
        case atStart => exact ⟨k, Nat.le_refl _, rfl, by rw [List.drop_eq_nil_of_le (by simp; omega)]; rfl⟩
        case round =>
          obtain ⟨q, hq, rfl, rfl⟩ := hrel
          cases q with
          | zero =>
            rw [List.drop_zero]
            have hmle := leV_take7 s.data.toList k hk7
            have hA : (varOf (leV (s.data.toList.take k)) = s.data.toList.take k) = MatV s.data.toList k := rfl
            generalize hmm : leV (s.data.toList.take k) = m at hmle hA ⊢
            have HM := Lib.hid hmm
            have hv := fun w' => var_spec (m : Int) w'
            generalize varOf (m : Int) = A at hv hA
            generalize hBA : ByteArray.mk A.toArray = BA at hv
            have HV2 := Lib.hid hv
            have hsl := fun w' => slice_str_hi (P := Try.prog) Try.underlying9 s .i64 (k : Int) (by omega) (by omega) w'
            rw [Int.toNat_natCast] at hsl
            clear hv hmm
            by_cases hM : MatV s.data.toList k
            · have hcmp : (BA.toList == (s.extract 0 k).toList) = true := by
                rw [extract_take, ← hBA, ByteArray.toList_mk, ByteArray.toList_mk, beq_iff_eq]; exact hA.symm.mp hM
              have hfin : (r1, r2) = (m, k) := by
                have := HV.out
                rw [show 8 - k = (7 - k) + 1 from by omega, rvF, if_pos ⟨hlt, hM⟩, HM.out] at this
                exact this
              obtain ⟨rfl, rfl⟩ := Prod.mk.inj hfin
              clear hA hM hBA hfin
              go_wp2
              refine wp_region_canon [(0, true), (2, false), (3, false), (4, false), (1, true), (5, true)] (fun _ => True) (by kernel_rfl) (by kernel_rfl) ?_
              simp only [List.map_cons, List.map_nil, List.getD_cons_zero, List.getD_cons_succ]
              (repeat ((first | refine wpC_now (by rfl) (fun K hK => ?_) | refine wpC_any (by rfl) trivial (fun K hK => ?_)); simp only [YR]; go_simp; (try go_bits); refine hK _ ?_; clear hK K))
              refine wpC_step (by rfl) (by rfl) (fun K hK => ?_)
              go_simp
              refine Calls.mono (HV2.out _) ?_
              rintro e w2 ⟨rfl, hb2⟩
              refine hK _ _ trivial ?_
              clear hK K
              (repeat ((first | refine wpC_now (by rfl) (fun K hK => ?_) | refine wpC_any (by rfl) trivial (fun K hK => ?_)); simp only [YR]; go_simp; (try go_bits); refine hK _ ?_; clear hK K))
              (refine wpC_nil (NoPanic.normal ?_))
              go_wp2
              go_ret2
              exact ⟨rfl, hb.drew.trans (hb2.mono hb.size)⟩
            · have hcmp : (BA.toList == (s.extract 0 k).toList) = false := by
                rw [extract_take, ← hBA, ByteArray.toList_mk, ByteArray.toList_mk, beq_eq_false_iff_ne]
                intro h
                exact hM (hA.mp h)
              have hV' : Hid ((r1, r2) = rvF s.data.toList (8 - (k + 1)) (k + 1)) := by
                have h0 := HV.out
                rw [show 8 - k = (7 - k) + 1 from by omega, rvF, if_neg (fun h => hM h.2)] at h0
                show _ = _
                rw [h0]; congr 1; omega
              clear hA hM hBA
              go_wp2
              refine wp_region_canon [(0, true), (2, false), (3, false), (4, false), (1, true), (5, true)] (fun _ => True) (by kernel_rfl) (by kernel_rfl) ?_
              simp only [List.map_cons, List.map_nil, List.getD_cons_zero, List.getD_cons_succ]
              (repeat ((first | refine wpC_now (by rfl) (fun K hK => ?_) | refine wpC_any (by rfl) trivial (fun K hK => ?_)); simp only [YR]; go_simp; (try go_bits); refine hK _ ?_; clear hK K))
              refine wpC_step (by rfl) (by rfl) (fun K hK => ?_)
              go_simp
              refine Calls.mono (HV2.out _) ?_
              rintro e w2 ⟨rfl, hb2⟩
              refine hK _ _ trivial ?_
              clear hK K
              (repeat ((first | refine wpC_now (by rfl) (fun K hK => ?_) | refine wpC_any (by rfl) trivial (fun K hK => ?_)); simp only [YR]; go_simp; (try go_bits); refine hK _ ?_; clear hK K))
              (refine wpC_nil (NoPanic.normal ?_))
              go_wp2
              exact ⟨⟨k + 1, by omega, by omega, by omega, by go_num, hV', hb.drew.trans (hb2.mono hb.size)⟩, by simp [intOf]; omega⟩
          | succ q =>
            have hx1 := fun w' => idx_str (P := Try.prog) Try.underlying9 s .i64 q (by omega) (by omega) w'
            simp only [Int.toNat_natCast] at hx1
            have hd := leV_drop s.data.toList k q (by omega) hlt
            have hle := leV_drop_le s.data.toList k q hk7
            rw [hd] at hle
            generalize s.data.toList.getD q 0 = b at hx1 hd hle
            generalize leV ((s.data.toList.take k).drop (q + 1)) = m at hd hle ⊢
            have HD := Lib.hid hd
            have hbl := b.toNat_lt
            rw [show (((q + 1 : Nat) : Int) - 1) = (q : Int) from by omega]
            have hm1 : m ≤ 4398046511103 := by omega
            clear hd
            go_wp2
            refine ⟨⟨q, by omega, rfl, ?_⟩, by simp [intOf]⟩
            rw [HD.out]
            simp
            omega
      · obtain rfl : k = 8 := by omega
        have hfin : (r1, r2) = (0, 0) := HV.out
        obtain ⟨rfl, rfl⟩ := Prod.mk.inj hfin
        clear hfin
        go_wp2
        go_ret2
        exact ⟨rfl, hb⟩
    · have hfin : (r1, r2) = (0, 0) := by
        rw [HV.out]
        apply rvF_out
        intro j hj1 hj2 hj3
        have : s.data.toList.length = s.size := rfl
        omega
      obtain ⟨rfl, rfl⟩ := Prod.mk.inj hfin
      clear hfin
      by_cases hk7 : (k : Int) ≤ 7
      · go_wp2
        go_ret2
        exact ⟨rfl, hb⟩
      · go_wp2
        go_ret2
        exact ⟨rfl, hb⟩
end Go.Proofs.Ytgcoopaodbaaeaa
