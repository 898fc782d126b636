/- Numbers in decimal, in plain Lean. -/
import Derived.Test.YtgcoopaodbaaeaaPu
import Derived.Test.YtgcoopaodbaaeaaR1
import Derived.Laws.BitsLemmas
namespace Go.Proofs.Ytgcoopaodbaaeaa
open Go Go.RowKit
set_option linter.unusedVariables false
set_option linter.unusedSimpArgs false


/-! Numbers in decimal digits. -/
def digs (n : Nat) : Str := if h : n = 0 then [] else b8 (48 + ((n % 10 : Nat) : Int)) :: digs (n / 10)
termination_by n
decreasing_by omega
theorem digs_zero : digs 0 = [] := by rw [digs]; rfl
theorem digs_pos {n : Nat} (h : n ≠ 0) : digs n = b8 (48 + ((n % 10 : Nat) : Int)) :: digs (n / 10) := by rw [digs, dif_neg h]
theorem digs_len : ∀ n, (digs n).length ≤ n := by
  intro n
  induction n using Nat.strongRecOn with
  | ind n ih =>
    by_cases h : n = 0
    · subst h; rw [digs_zero]; exact Nat.le_refl _
    · rw [digs_pos h, List.length_cons]
      have := ih (n / 10) (by omega)
      omega
theorem tm (n : Nat) : ((n : Int)).tmod 10 = ((n % 10 : Nat) : Int) := by rw [Int.tmod_eq_emod_of_nonneg (by omega)]; omega
theorem td (n : Nat) : ((n : Int)).tdiv 10 = ((n / 10 : Nat) : Int) := by rw [Int.tdiv_eq_ediv_of_nonneg (by omega)]; omega
theorem p_DL (F : Nat) : ∀ K n (A : Str), n < K → A.length + n ≤ 2000000000 → m_impl_Dec_L0 F K A (n : Int) = some (A ++ digs n) := by
  intro K
  induction K with
  | zero => intro n A h1 h2; omega
  | succ K ih =>
    intro n A h1 h2
    rw [m_impl_Dec_L0]
    by_cases h : n = 0
    · subst h; rw [if_pos (show ((0 : Nat) : Int) = 0 from rfl), digs_zero, List.append_nil]
    · have nz : (10 : Int) ≠ 0 := by decide
      have i1 : in64 (48 + ((n % 10 : Nat) : Int)) := in64_of (by omega) (by omega)
      have i2 : in64 ((n / 10 : Nat) : Int) := in64_of (by omega) (by omega)
      have i3 : A.length + 1 ≤ 17179869184 := by omega
      have e := ih (n / 10) (A ++ [b8 (48 + ((n % 10 : Nat) : Int))]) (by omega) (by simp; omega)
      rw [if_neg (by omega)]
      simp only [tm, td, if_pos nz, if_neg (show ¬ ((n % 10 : Nat) : Int) < 0 by omega), Option.bind_some, if_pos i1, if_pos i3, if_pos (And.intro nz i2)]
      rw [e, digs_pos h, List.append_assoc]; rfl
theorem p_SDL (F : Nat) : ∀ K n (s : Str), n < K → s.length + n ≤ 2000000000 → m_spec_Dec_L0 F K (n : Int) s = some ((digs n).reverse ++ s) := by
  intro K
  induction K with
  | zero => intro n s h1 h2; omega
  | succ K ih =>
    intro n s h1 h2
    rw [m_spec_Dec_L0]
    by_cases h : n = 0
    · subst h; rw [if_pos (show ((0 : Nat) : Int) = 0 from rfl), digs_zero]; rfl
    · have nz : (10 : Int) ≠ 0 := by decide
      have i1 : in64 (48 + ((n % 10 : Nat) : Int)) := in64_of (by omega) (by omega)
      have i2 : in64 ((n / 10 : Nat) : Int) := in64_of (by omega) (by omega)
      have i3 : ((([b8 (48 + ((n % 10 : Nat) : Int))] : List UInt8).length + s.length : Nat) : Int) ≤ 9223372036854775807 := by simp; omega
      have e := ih (n / 10) ([b8 (48 + ((n % 10 : Nat) : Int))] ++ s) (by omega) (by simp; omega)
      rw [if_neg (by omega)]
      simp only [tm, td, if_pos nz, if_neg (show ¬ ((n % 10 : Nat) : Int) < 0 by omega), Option.bind_some, if_pos i1, if_pos i3, if_pos (And.intro nz i2)]
      rw [e, digs_pos h, List.reverse_cons, List.append_assoc]
theorem p_rev (F : Nat) (l : Str) (hl : l.length ≤ 2000000000) : ∀ (K i : Nat) (z : Str), z.length = l.length → (∀ k, k < l.length → z[k]? = if k < i ∨ l.length ≤ k + i then l[l.length - 1 - k]? else l[k]?) → l.length < 2 * (i + K) → 2 * i ≤ l.length →
    m_impl_Dec_L1 F K z (i : Int) ((l.length : Int) - 1 - (i : Int)) = some l.reverse := by
  intro K
  induction K with
  | zero => intro i z h1 h2 h3 h4; omega
  | succ K ih =>
    intro i z hz hI h3 h4
    rw [m_impl_Dec_L1]
    by_cases h : 2 * i + 1 < l.length
    · have hj : (l.length : Int) - 1 - (i : Int) = ((l.length - 1 - i : Nat) : Int) := by omega
      rw [hj, if_pos (by omega)]
      have zi : i < z.length := by omega
      have zj : l.length - 1 - i < z.length := by omega
      obtain ⟨u, hu⟩ := at?_some_iff (l := z) (i := (i : Int)) (by omega)
      obtain ⟨v, hv⟩ := at?_some_iff (l := z) (i := ((l.length - 1 - i : Nat) : Int)) (by omega)
      obtain ⟨w, hw⟩ := at?_some_iff (l := z.set ((i : Int)).toNat v) (i := ((l.length - 1 - i : Nat) : Int)) (by rw [List.length_set]; omega)
      have hi : in64 ((i : Int) + 1) := in64_of (by omega) (by omega)
      have hk : in64 (((l.length - 1 - i : Nat) : Int) - 1) := in64_of (by omega) (by omega)
      rw [hv, Option.bind_some, hu, Option.bind_some, hw, Option.bind_some, if_pos hi, if_pos hk]
      have e1 : ((l.length - 1 - i : Nat) : Int) - 1 = (l.length : Int) - 1 - ((i + 1 : Nat) : Int) := by omega
      rw [e1, cast_succ, Int.toNat_natCast, Int.toNat_natCast]
      rw [at?_nat] at hu hv
      have ei : l[i]? = some u := by rw [← hu, hI i (by omega), if_neg (by omega)]
      have ej : l[l.length - 1 - i]? = some v := by rw [← hv, hI _ (by omega), if_neg (by omega)]
      refine ih (i + 1) _ (by simpa using hz) (fun k hk => ?_) (by omega) (by omega)
      rw [List.getElem?_set, List.getElem?_set]
      by_cases k1 : l.length - 1 - i = k
      · subst k1
        rw [if_pos rfl, if_pos (by rw [List.length_set]; exact zj), if_pos (.inr (by omega)), show l.length - 1 - (l.length - 1 - i) = i by omega, ei]
      · rw [if_neg k1]
        by_cases k2 : i = k
        · subst k2
          rw [if_pos rfl, if_pos zi, if_pos (.inl (by omega)), ej]
        · rw [if_neg k2, hI k hk]
          by_cases c : k < i ∨ l.length ≤ k + i
          · rw [if_pos c, if_pos (by omega)]
          · rw [if_neg c, if_neg (by omega)]
    · rw [if_neg (by omega)]
      congr 1
      refine List.ext_getElem? fun k => ?_
      by_cases hk : k < l.length
      · rw [hI k hk, List.getElem?_reverse hk]
        by_cases c : k < i ∨ l.length ≤ k + i
        · rw [if_pos c]
        · rw [if_neg c, show l.length - 1 - k = k by omega]
      · rw [List.getElem?_eq_none (by omega), List.getElem?_eq_none (by simp; omega)]

theorem tmn (n : Nat) : (-(n : Int)).tmod 10 = -((n % 10 : Nat) : Int) := by rw [Int.neg_tmod, tm]
theorem tdn (n : Nat) : (-(n : Int)).tdiv 10 = -((n / 10 : Nat) : Int) := by rw [Int.neg_tdiv, td]
theorem dg (n : Nat) : (if -((n % 10 : Nat) : Int) < 0 then (if in64 (0 - -((n % 10 : Nat) : Int)) then some (0 - -((n % 10 : Nat) : Int)) else none) else some (-((n % 10 : Nat) : Int))) = some ((n % 10 : Nat) : Int) := by
  by_cases h : -((n % 10 : Nat) : Int) < 0
  · rw [if_pos h, if_pos (in64_of (by omega) (by omega))]; congr 1; omega
  · rw [if_neg h]; congr 1; omega
theorem p_DLn (F : Nat) : ∀ K n (A : Str), n < K → A.length + n ≤ 2000000000 → m_impl_Dec_L0 F K A (-(n : Int)) = some (A ++ digs n) := by
  intro K
  induction K with
  | zero => intro n A h1 h2; omega
  | succ K ih =>
    intro n A h1 h2
    rw [m_impl_Dec_L0]
    by_cases h : n = 0
    · subst h; rw [if_pos (show -((0 : Nat) : Int) = 0 from rfl), digs_zero, List.append_nil]
    · have nz : (10 : Int) ≠ 0 := by decide
      have i1 : in64 (48 + ((n % 10 : Nat) : Int)) := in64_of (by omega) (by omega)
      have i2 : in64 (-((n / 10 : Nat) : Int)) := in64_of (by omega) (by omega)
      have i3 : A.length + 1 ≤ 17179869184 := by omega
      have e := ih (n / 10) (A ++ [b8 (48 + ((n % 10 : Nat) : Int))]) (by omega) (by simp; omega)
      rw [if_neg (by omega), if_pos nz, tmn, tdn, dg, Option.bind_some, if_pos i1, if_pos i3, Option.bind_some, if_pos ⟨nz, i2⟩, e, digs_pos h, List.append_assoc]; rfl
theorem p_SDLn (F : Nat) : ∀ K n (s : Str), n < K → s.length + n ≤ 2000000000 → m_spec_Dec_L0 F K (-(n : Int)) s = some ((digs n).reverse ++ s) := by
  intro K
  induction K with
  | zero => intro n s h1 h2; omega
  | succ K ih =>
    intro n s h1 h2
    rw [m_spec_Dec_L0]
    by_cases h : n = 0
    · subst h; rw [if_pos (show -((0 : Nat) : Int) = 0 from rfl), digs_zero]; rfl
    · have nz : (10 : Int) ≠ 0 := by decide
      have i1 : in64 (48 + ((n % 10 : Nat) : Int)) := in64_of (by omega) (by omega)
      have i2 : in64 (-((n / 10 : Nat) : Int)) := in64_of (by omega) (by omega)
      have i3 : ((([b8 (48 + ((n % 10 : Nat) : Int))] : List UInt8).length + s.length : Nat) : Int) ≤ 9223372036854775807 := by simp; omega
      have e := ih (n / 10) ([b8 (48 + ((n % 10 : Nat) : Int))] ++ s) (by omega) (by simp; omega)
      rw [if_neg (by omega), if_pos nz, tmn, tdn, dg, Option.bind_some, if_pos i1, if_pos i3, if_pos ⟨nz, i2⟩, e, digs_pos h, List.reverse_cons, List.append_assoc]
theorem digs_dig : ∀ n, ∀ c ∈ digs n, 48 ≤ c.toNat ∧ c.toNat ≤ 57 := by
  intro n
  induction n using Nat.strongRecOn with
  | ind n ih =>
    intro c hc
    by_cases h : n = 0
    · subst h; rw [digs_zero] at hc; simp at hc
    · rw [digs_pos h] at hc
      rcases List.mem_cons.1 hc with rfl | hc
      · have := b8_toNat (48 + ((n % 10 : Nat) : Int))
        rw [IntKind.wrap_u8] at this
        omega
      · exact ih (n / 10) (by omega) c hc
theorem digs_ne {n : Nat} (h : n ≠ 0) : digs n ≠ [] := by rw [digs_pos h]; simp

/-! The decimal of a number on both sides. -/
def decI (z : Int) : Str := if z = 0 then [48] else if z < 0 then 45 :: (digs z.natAbs).reverse else (digs z.natAbs).reverse
theorem p_DecI (F : Nat) {z : Int} (h : -1000000000 ≤ z ∧ z ≤ 1000000000) (hf : 1000000001 < F) : m_impl_Dec F z = some (decI z) := by
  unfold m_impl_Dec decI
  by_cases h0 : z = 0
  · rw [if_pos h0, if_pos h0]
  · rw [if_neg h0, if_neg h0]
    by_cases hn : z < 0
    · obtain ⟨n, rfl⟩ : ∃ n : Nat, z = -(n : Int) := ⟨z.natAbs, by omega⟩
      have hlen := digs_len n
      have e1 := p_DLn F F n [] (by omega) (by simp <;> omega)
      have e2 := p_rev F (digs n ++ [45]) (by simp <;> omega) F 0 (digs n ++ [45]) rfl (fun k hk => by rw [if_neg (by omega)]) (by simp <;> omega) (by omega)
      simp only [Int.natCast_zero, Int.sub_zero] at e2
      rw [List.nil_append] at e1
      rw [e1, Option.bind_some, if_pos hn, if_pos hn, if_pos (by omega), Option.bind_some, if_pos (in64_of (by simp <;> omega) (by simp <;> omega)), e2, Option.bind_some, List.reverse_append, show (-(n : Int)).natAbs = n by omega]
      rfl
    · obtain ⟨n, rfl⟩ : ∃ n : Nat, z = (n : Int) := ⟨z.natAbs, by omega⟩
      have hlen := digs_len n
      have e1 := p_DL F F n [] (by omega) (by simp <;> omega)
      have e2 := p_rev F (digs n) (by omega) F 0 (digs n) rfl (fun k hk => by rw [if_neg (by omega)]) (by omega) (by omega)
      simp only [Int.natCast_zero, Int.sub_zero] at e2
      rw [List.nil_append] at e1
      rw [e1, Option.bind_some, if_neg hn, if_neg hn, Option.bind_some, if_pos (in64_of (by omega) (by omega)), e2, Option.bind_some, show ((n : Int)).natAbs = n by omega]
theorem p_SDecI (F : Nat) {z : Int} (h : -1000000000 ≤ z ∧ z ≤ 1000000000) (hf : 1000000001 < F) : m_spec_Dec F z = some (decI z) := by
  unfold m_spec_Dec decI
  by_cases h0 : z = 0
  · rw [if_pos h0, if_pos h0]
  · rw [if_neg h0, if_neg h0]
    by_cases hn : z < 0
    · obtain ⟨n, rfl⟩ : ∃ n : Nat, z = -(n : Int) := ⟨z.natAbs, by omega⟩
      have hlen := digs_len n
      have e1 := p_SDLn F F n [] (by omega) (by simp <;> omega)
      rw [List.append_nil] at e1
      rw [e1, Option.bind_some, if_pos hn, if_pos hn, if_pos (by simp <;> omega), show (-(n : Int)).natAbs = n by omega]
      rfl
    · obtain ⟨n, rfl⟩ : ∃ n : Nat, z = (n : Int) := ⟨z.natAbs, by omega⟩
      have e1 := p_SDL F F n [] (by omega) (by simp <;> omega)
      rw [List.append_nil] at e1
      rw [e1, Option.bind_some, if_neg hn, if_neg hn, show ((n : Int)).natAbs = n by omega]
/-- What a decimal looks like: a sign perhaps, and digits, one at least. -/
theorem decI_form (z : Int) : ∃ s : Str, s ≠ [] ∧ (∀ c ∈ s, 48 ≤ c.toNat ∧ c.toNat ≤ 57) ∧ (decI z = s ∨ decI z = 45 :: s) := by
  unfold decI
  by_cases h0 : z = 0
  · exact ⟨[48], by simp, by simp, .inl (by rw [if_pos h0])⟩
  · have hd : ∀ c ∈ (digs z.natAbs).reverse, 48 ≤ c.toNat ∧ c.toNat ≤ 57 := fun c hc => digs_dig _ c (List.mem_reverse.1 hc)
    have hne : (digs z.natAbs).reverse ≠ [] := by simpa using digs_ne (n := z.natAbs) (by omega)
    rw [if_neg h0]
    by_cases hn : z < 0
    · exact ⟨_, hne, hd, .inr (by rw [if_pos hn])⟩
    · exact ⟨_, hne, hd, .inl (by rw [if_neg hn])⟩

/-! Reading. -/
def isD (c : UInt8) : Bool := decide (48 ≤ c.toNat) && decide (c.toNat ≤ 57)
def dvl : Int → Str → Int
  | z, [] => z
  | z, c :: s => if isD c = true then dvl (z * 10 + ((c.toNat : Int) - 48)) s else dvl z s
def cnt : Str → Int
  | [] => 0
  | c :: s => (if isD c = true then 1 else 0) + cnt s
def p10 : Nat → Int
  | 0 => 1
  | k + 1 => 10 * p10 k
theorem p10_pos (k : Nat) : 1 ≤ p10 k := by induction k with
  | zero => simp [p10]
  | succ k ih => simp only [p10]; omega
theorem p10_mono {k : Nat} (h : k ≤ 11) : p10 k ≤ 100000000000 := by
  have : k = 0 ∨ k = 1 ∨ k = 2 ∨ k = 3 ∨ k = 4 ∨ k = 5 ∨ k = 6 ∨ k = 7 ∨ k = 8 ∨ k = 9 ∨ k = 10 ∨ k = 11 := by omega
  rcases this with rfl | rfl | rfl | rfl | rfl | rfl | rfl | rfl | rfl | rfl | rfl | rfl <;> decide
theorem b8_dig {c : UInt8} (h : 48 ≤ c.toNat ∧ c.toNat ≤ 57) : ((b8 ((c.toNat : Int) - 48)).toNat : Int) = (c.toNat : Int) - 48 := by
  rw [b8_toNat, IntKind.wrap_u8]; omega
/-- The reference's pass: every digit of the first eleven bytes counts. -/
theorem p_SRead_L (F : Nat) (x : Str) (hx : x.length ≤ 1048576) : ∀ (K n k : Nat) (z : Int), n ≤ x.length → n ≤ 11 → 11 < n + K → k ≤ n → 0 ≤ z ∧ z < p10 k →
    ∃ v w, m_spec_ReadDec_L0 F x K z (k : Int) (n : Int) = some (v, w) ∧ 0 ≤ v ∧ v < 100000000000 ∧ (x.length ≤ 11 → v = dvl z (x.drop n) ∧ w = (k : Int) + cnt (x.drop n)) ∧ (w ≤ 9 → v < 1000000000) := by
  intro K
  induction K with
  | zero => intro n k z h1 h2 h3 h4 h5; omega
  | succ K ih =>
    intro n k z h1 h2 h3 h4 h5
    have hp := p10_mono (k := k) (by omega)
    have hk9 : (k : Int) ≤ 9 → z < 1000000000 := by
      intro hk
      have : k ≤ 9 := by omega
      have : k = 0 ∨ k = 1 ∨ k = 2 ∨ k = 3 ∨ k = 4 ∨ k = 5 ∨ k = 6 ∨ k = 7 ∨ k = 8 ∨ k = 9 := by omega
      have hb : p10 k ≤ 1000000000 := by rcases this with rfl | rfl | rfl | rfl | rfl | rfl | rfl | rfl | rfl | rfl <;> decide
      omega
    rw [m_spec_ReadDec_L0]
    by_cases h : n < x.length
    · rw [if_pos (lt_cast h)]
      by_cases h11 : (n : Int) < 11
      · rw [if_pos h11]
        have hi : in64 ((n : Int) + 1) := in64_of (by omega) (by omega)
        by_cases hd : isD x[n] = true
        · have hd' : 48 ≤ x[n].toNat ∧ x[n].toNat ≤ 57 := by simpa [isD] using hd
          obtain ⟨v, w, e, q1, q2, q3, q4⟩ := ih (n + 1) (k + 1) (z * 10 + ((x[n].toNat : Int) - 48)) (by omega) (by omega) (by omega) (by omega) (by simp only [p10]; omega)
          refine ⟨v, w, ?_, q1, q2, fun hl => ?_, q4⟩
          · rw [at?_lt h]
            simp only [Option.bind_some, bind2, if_pos (show (48 : Int) ≤ (x[n].toNat : Int) by omega), if_pos (show (x[n].toNat : Int) ≤ 57 by omega), b8_dig hd']
            rw [if_pos (in64_of (by omega) (by omega)), if_pos (in64_of (by omega) (by omega)), if_pos (in64_of (by omega) (by omega)), Option.bind_some]
            simp only []
            rw [if_pos hi]
            exact e
          · obtain ⟨r1, r2⟩ := q3 hl
            rw [drop_cons h, dvl, cnt, if_pos hd, if_pos hd]
            exact ⟨r1, by rw [r2]; omega⟩
        · obtain ⟨v, w, e, q1, q2, q3, q4⟩ := ih (n + 1) k z (by omega) (by omega) (by omega) (by omega) h5
          refine ⟨v, w, ?_, q1, q2, fun hl => ?_, q4⟩
          · have hd' : ¬ (48 ≤ x[n].toNat ∧ x[n].toNat ≤ 57) := by simpa [isD] using hd
            rw [at?_lt h]
            simp only [Option.bind_some, bind2]
            by_cases h48 : (48 : Int) ≤ (x[n].toNat : Int)
            · rw [if_pos h48, if_neg (show ¬ (x[n].toNat : Int) ≤ 57 by omega), Option.bind_some]
              simp only []
              rw [if_pos hi]; exact e
            · rw [if_neg h48, Option.bind_some]
              simp only []
              rw [if_pos hi]; exact e
          · obtain ⟨r1, r2⟩ := q3 hl
            rw [drop_cons h, dvl, cnt, if_neg hd, if_neg hd]
            exact ⟨r1, by rw [r2]; omega⟩
      · rw [if_neg h11]
        exact ⟨z, k, rfl, h5.1, by omega, fun hl => by omega, hk9⟩
    · rw [if_neg (ge_cast h)]
      exact ⟨z, k, rfl, h5.1, by omega, fun _ => by rw [drop_end h]; simp [dvl, cnt], hk9⟩
theorem cnt_all : ∀ {s : Str}, s.all isD = true → cnt s = (s.length : Int)
  | [], _ => rfl
  | c :: s, h => by
    rw [List.all_cons, Bool.and_eq_true] at h
    rw [cnt, if_pos h.1, cnt_all h.2, List.length_cons]; omega
theorem p_Read_L (F : Nat) (x : Str) (hx : x.length ≤ 1048576) : ∀ (K n k : Nat) (z : Int), n ≤ x.length → x.length < n + K → k + (x.length - n) ≤ 9 → 0 ≤ z ∧ z < p10 k →
    m_impl_ReadDec_L0 F x K z (n : Int) = some (if (x.drop n).all isD = true then .brk (dvl z (x.drop n)) else .ret (0, false)) ∧ ((x.drop n).all isD = true → 0 ≤ dvl z (x.drop n) ∧ dvl z (x.drop n) < 1000000000) := by
  intro K
  induction K with
  | zero => intro n k z h1 h2 h3 h5; omega
  | succ K ih =>
    intro n k z h1 h2 h3 h5
    have hp := p10_mono (k := k) (by omega)
    have hk9 : z < 1000000000 := by
      have : k = 0 ∨ k = 1 ∨ k = 2 ∨ k = 3 ∨ k = 4 ∨ k = 5 ∨ k = 6 ∨ k = 7 ∨ k = 8 ∨ k = 9 := by omega
      have hb : p10 k ≤ 1000000000 := by rcases this with rfl | rfl | rfl | rfl | rfl | rfl | rfl | rfl | rfl | rfl <;> decide
      omega
    rw [m_impl_ReadDec_L0]
    by_cases h : n < x.length
    · have hi : in64 ((n : Int) + 1) := in64_of (by omega) (by omega)
      rw [if_pos (lt_cast h), drop_cons h, List.all_cons, at?_lt h, Option.bind_some]
      by_cases hd : isD x[n] = true
      · have hd' : 48 ≤ x[n].toNat ∧ x[n].toNat ≤ 57 := by simpa [isD] using hd
        obtain ⟨e, q⟩ := ih (n + 1) (k + 1) (10 * z + ((x[n].toNat : Int) - 48)) (by omega) (by omega) (by omega) (by simp only [p10]; omega)
        have ez : z * 10 + ((x[n].toNat : Int) - 48) = 10 * z + ((x[n].toNat : Int) - 48) := by omega
        rw [if_neg (by omega), Option.bind_some, if_neg (by omega), if_pos (in64_of (by omega) (by omega)), Option.bind_some, b8_dig hd', if_pos (in64_of (by omega) (by omega)), if_pos hi, hd, Bool.true_and, dvl, if_pos hd, ez]
        exact ⟨e, q⟩
      · have hd' : ¬ (48 ≤ x[n].toNat ∧ x[n].toNat ≤ 57) := by simpa [isD] using hd
        rw [Bool.eq_false_iff.2 hd, Bool.false_and]
        refine ⟨?_, fun q => by cases q⟩
        by_cases h48 : (x[n].toNat : Int) < 48
        · rw [if_pos h48]; rfl
        · rw [if_neg h48, Option.bind_some, if_pos (by omega)]; rfl
    · rw [if_neg (ge_cast h), drop_end h]
      exact ⟨rfl, fun _ => ⟨h5.1, hk9⟩⟩
theorem p_within (fuel : Nat) (x lo hi : Int) : m_impl_within fuel x lo hi = some (inB x lo hi) := by
  unfold m_impl_within inB; split <;> simp_all <;> omega
theorem s_ReadDec (F : Nat) (x : Str) (hx : x.length ≤ 1048576) (hf : 1000000001 < F) : ∃ v b, m_impl_ReadDec F x = some (v, b) ∧ m_spec_ReadDec F x = some (v, b) := by
  obtain ⟨v, w, e, q1, q2, q3, q4⟩ := p_SRead_L F x hx F 0 0 0 (by omega) (by omega) (by omega) (by omega) (by decide)
  simp only [Int.natCast_zero, List.drop_zero, Int.zero_add] at e q3
  -- the sign
  obtain ⟨sg, hsg, hsgx⟩ : ∃ sg : Nat, (sg ≤ 1 ∧ sg ≤ x.length) ∧ (((if 0 < (x.length : Int) then (at? x 0).bind fun c1 => if (c1.toNat : Int) = 45 then some (1 : Int) else some 0 else some 0) = some (sg : Int)) ∧ (∀ u : Int, in64 (0 - u) → (if 0 < (x.length : Int) then (at? x 0).bind fun c4 => if (c4.toNat : Int) = 45 then (if in64 (0 - u) then some (0 - u) else none) else some u else some u) = some (if sg = 1 then 0 - u else u)) ∧ (sg = 1 ↔ ∃ s, x = 45 :: s) ∧ dvl 0 x = dvl 0 (x.drop sg) ∧ cnt x = cnt (x.drop sg)) := by
    cases x with
    | nil => exact ⟨0, ⟨by omega, by simp⟩, by simp, fun u _ => by simp, by simp, rfl, rfl⟩
    | cons c s =>
      by_cases hc : (c.toNat : Int) = 45
      · have hc' : c = 45 := UInt8.toNat_inj.1 (by simpa using (show c.toNat = 45 by omega))
        subst hc'
        exact ⟨1, ⟨by omega, by simp⟩, by simp [at?], fun u hu => by rw [if_pos (by simp <;> omega), show at? ((45 : UInt8) :: s) 0 = some 45 from rfl, Option.bind_some, if_pos (by decide), if_pos hu, if_pos rfl], by simp, by simp [dvl, isD], by simp [cnt, isD]⟩
      · refine ⟨0, ⟨by omega, by simp⟩, by simp [at?, hc], fun u _ => by simp [at?, hc], ⟨fun h => by omega, fun ⟨s', h⟩ => ?_⟩, rfl, rfl⟩
        simp only [List.cons.injEq] at h
        exact absurd (by rw [h.1]; rfl) hc
  obtain ⟨g1, g2, g3, g4, g5⟩ := hsgx
  have hneg : in64 (0 - v) := in64_of (by omega) (by omega)
  unfold m_impl_ReadDec m_spec_ReadDec
  rw [g1, Option.bind_some, if_pos (in64_of (by omega) (by omega)), p_within]
  simp only [e, bind2, Option.bind_some]
  rw [g2 v hneg]
  simp only [Option.bind_some]
  by_cases hI : inB ((x.length : Int) - (sg : Int)) 1 9 = true ∧ (x.drop sg).all isD = true
  · obtain ⟨hi, ha⟩ := hI
    have hl := inB_true.1 hi
    obtain ⟨r, r2⟩ := p_Read_L F x hx F sg 0 0 (by omega) (by omega) (by omega) (by decide)
    obtain ⟨r3, r4⟩ := r2 ha
    obtain ⟨q5, q6⟩ := q3 (by omega)
    have hw : w = ((x.drop sg).length : Int) := by rw [q6, g5, cnt_all ha]
    have hw9 : ¬ 9 < w := by rw [hw]; simp; omega
    have hv : v = dvl 0 (x.drop sg) := by rw [q5, g4]
    rw [if_pos hi, r, if_pos ha, Option.bind_some, if_neg hw9, if_neg (show ¬ 10 < (x.length : Int) by omega), hv]
    simp only [contL, un1]
    have hz : (if (sg : Int) = 1 then (if in64 (0 - dvl 0 (x.drop sg)) then some (0 - dvl 0 (x.drop sg)) else none) else some (dvl 0 (x.drop sg))) = some (if sg = 1 then 0 - dvl 0 (x.drop sg) else dvl 0 (x.drop sg)) := by
      by_cases hs : sg = 1
      · rw [if_pos (by omega), if_pos (in64_of (by omega) (by omega)), if_pos hs]
      · rw [if_neg (by omega), if_neg hs]
    rw [hz, Option.bind_some, p_DecI F (by split <;> omega) hf, p_SDecI F (by split <;> omega) hf, Option.bind_some]
    by_cases hq : decI (if sg = 1 then 0 - dvl 0 (x.drop sg) else dvl 0 (x.drop sg)) = x
    · rw [if_pos hq]; exact ⟨_, _, rfl, rfl⟩
    · rw [if_neg hq]; exact ⟨_, _, rfl, rfl⟩
  · refine ⟨0, false, ?_, ?_⟩
    · by_cases hi : inB ((x.length : Int) - (sg : Int)) 1 9 = true
      · have hl := inB_true.1 hi
        have ha : ¬ (x.drop sg).all isD = true := fun q => hI ⟨hi, q⟩
        obtain ⟨r, _⟩ := p_Read_L F x hx F sg 0 0 (by omega) (by omega) (by omega) (by decide)
        rw [if_pos hi, r, if_neg ha, Option.bind_some]; rfl
      · rw [if_neg hi]
    · by_cases hw9 : 9 < w
      · rw [if_pos hw9]
      · rw [if_neg hw9]
        by_cases h10 : 10 < (x.length : Int)
        · rw [if_pos h10]
        · rw [if_neg h10]
          obtain ⟨q5, q6⟩ := q3 (by omega)
          have hb := q4 (by omega)
          rw [p_SDecI F (by split <;> omega) hf, Option.bind_some]
          by_cases hq : decI (if sg = 1 then 0 - v else v) = x
          · exfalso
            obtain ⟨s, s1, s2, s3⟩ := decI_form (if sg = 1 then 0 - v else v)
            rw [hq] at s3
            have hs : s.all isD = true := List.all_eq_true.2 fun c hc => by simpa [isD] using s2 c hc
            have hsl : 0 < s.length := List.length_pos_iff.2 s1
            rcases s3 with s3 | s3
            · have h0 : sg = 0 := by
                rcases Nat.lt_or_ge sg 1 with h | h
                · omega
                · obtain ⟨s', h'⟩ := g3.1 (by omega)
                  have := s2 45 (by rw [← s3, h']; simp)
                  simp at this
              subst h0
              rw [List.drop_zero] at g5 hI
              rw [s3] at hI q6
              rw [cnt_all hs] at q6
              exact hI ⟨inB_true.2 (by omega), hs⟩
            · have h1 : sg = 1 := g3.2 ⟨s, s3⟩
              subst h1
              have hdr : x.drop 1 = s := by rw [s3]; rfl
              rw [hdr] at hI g5
              rw [g5, cnt_all hs] at q6
              have hxl : x.length = s.length + 1 := by rw [s3]; rfl
              exact hI ⟨inB_true.2 (by omega), hs⟩
          · rw [if_neg hq]
theorem pure_FnExactReadDec {x : Str} (hx : (⟨⟨x⟩⟩ : ByteArray).size ≤ maxLen) : ∃ fuel, m_laws_FnExactReadDec fuel x = some true := by
  refine ⟨1000000010, ?_⟩
  generalize hF : (1000000010 : Nat) = F
  unfold m_laws_FnExactReadDec
  by_cases hs : (1048576 : Int) < (x.length : Int)
  · rw [if_pos hs]
  · obtain ⟨v, b, h1, h2⟩ := s_ReadDec F x (by omega) (by omega)
    rw [if_neg hs]
    simp only [h1, h2, bind2, Option.bind_some, if_true, beq_self_eq_true]
end Go.Proofs.Ytgcoopaodbaaeaa
