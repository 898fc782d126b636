/- FnNumbers, in plain Lean. -/
import Derived.Test.YtikfmmfifhnbjaaPNum
import Derived.Test.YtikfmmfifhnbjaaX2
namespace Go.Proofs.Ytikfmmfifhnbjaa
open Go Go.RowKit
set_option linter.unusedVariables false
set_option linter.unusedSimpArgs false
theorem bb2 {α β δ : Type} (a : α) (b : β) (f : α → β → Option δ) : bind2 (some (a, b)) f = f a b := rfl
theorem s_Var_L (F : Nat) : ∀ (k K m : Nat) (A : Str), k < K → m < 128 ^ (k + 1) → m < 4611686018427387904 → A.length + k ≤ 1000 → W (m_spec_Var_L0 F K (m : Int) A) (fun t => t.2.length ≤ A.length + k) := by
  intro k
  induction k with
  | zero =>
    intro K m A h1 h2 h3 h4
    obtain ⟨K, rfl⟩ : ∃ q, K = q + 1 := ⟨K - 1, by omega⟩
    rw [m_spec_Var_L0, if_neg (by simp at h2; omega)]
    exact .some (by show A.length ≤ _; omega)
  | succ k ih =>
    intro K m A h1 h2 h3 h4
    obtain ⟨K, rfl⟩ : ∃ q, K = q + 1 := ⟨K - 1, by omega⟩
    rw [m_spec_Var_L0]
    refine .ite (fun h => ?_) (fun h => .some (by show A.length ≤ _; omega))
    have e1 : (m : Int).tmod 128 = ((m % 128 : Nat) : Int) := by rw [Int.tmod_eq_emod_of_nonneg (by omega)]; omega
    have e2 : (m : Int).tdiv 128 = ((m / 128 : Nat) : Int) := by rw [Int.tdiv_eq_ediv_of_nonneg (by omega)]; omega
    have h' : m / 128 < 128 ^ (k + 1) := by rw [Nat.pow_succ] at h2; exact Nat.div_lt_of_lt_mul (by rw [Nat.mul_comm]; exact h2)
    rw [e1, e2]
    refine .grd (by decide) (.grd (in64_of (by omega) (by omega)) (.grd (by omega) (.grd ⟨by decide, in64_of (by omega) (by omega)⟩ ((ih K (m / 128) _ (by omega) h' (by omega) (by simp; omega)).mono fun t ht => ?_))))
    simp at ht
    omega
theorem s_Var (F : Nat) (n : Int) (hf : 100 < F) : W (m_spec_Var F n) (fun s => s.length ≤ 7) := by
  unfold m_spec_Var
  rw [p_l1In, Option.bind_some]
  refine .ite (fun h => ?_) (fun _ => .some (by simp))
  have hb := inB_true.1 h
  obtain ⟨m, rfl⟩ := Int.eq_ofNat_of_zero_le hb.1
  refine (s_Var_L F 6 F m [] (by omega) (Nat.lt_of_le_of_lt (show m ≤ 562949953421311 by omega) (by decide)) (by omega) (by simp)).bind2 fun v B hB => ?_
  simp at hB
  exact .grd (by omega) (.some (by simp; omega))
theorem d_DrawVar (F : Nat) (x : List UInt8) (hl : x.length ≤ 1048576) (hx : x.length < F) : W (m_spec_DrawVar F x) in64 := by
  unfold m_spec_DrawVar
  obtain ⟨s, e⟩ := p_l1New F x hl hx
  rw [e, bb2]
  exact (dn_Num F x hl 0 s (by omega)).bind3 fun a b c h => .some h.2
theorem d_DrawHex (F : Nat) (x : List UInt8) (hl : x.length ≤ 1048576) (hx : x.length < F) (hf : 2000 < F) : W (m_spec_DrawHex F x) (fun s => s.length ≤ 40) := by
  unfold m_spec_DrawHex
  obtain ⟨s, e⟩ := p_l1New F x hl hx
  rw [e, bb2]
  exact (dt_Text F x hl hf 0 s 40 (by omega) (by decide)).bind3 fun a b c h => .some (by have := h.2; simp only at this; omega)
theorem d_DrawReadVar (F : Nat) (x : List UInt8) (hl : x.length ≤ 1048576) (hx : x.length < F) (hf : 2000 < F) : W (m_spec_DrawReadVar F x) (fun s => s.length ≤ 100) := by
  unfold m_spec_DrawReadVar
  obtain ⟨s, e⟩ := p_l1New F x hl hx
  rw [e, bb2]
  refine (dn_Num F x hl 0 s (by omega)).bind3 fun n p s hn => ?_
  refine (s_Var F n (by omega)).bind fun v hv => ?_
  refine (dt_Text F x hl hf p s 4 hn.1 (by decide)).bind3 fun t p s ht => ?_
  have h2 := ht.2
  simp only at h2
  refine .grd (by omega) ?_
  refine (dt_Once F x hl p s 4 ht.1).bind3 fun b p s hb => ?_
  refine .ite (fun _ => (dt_Spoil F x hl hf p s (v ++ t) hb (by simp; omega)).bind3 fun a b c h => .some ?_) (fun _ => .some (by simp; omega))
  have h3 := h.2
  simp at h3
  omega
theorem bC {δ : Type} (b : Bool) (f : Unit → Option δ) (r : δ) : ((if b = true then some (Lp.ret r) else some (Lp.brk ())).bind <| contL <| un1 f) = if b = true then some r else f () := by cases b <;> rfl
theorem pure_FnNumbers {x : List UInt8} (hx : x.length ≤ maxLen) : ∃ fuel, m_laws_FnNumbers fuel x = some true := by
  refine ⟨1048586, ?_⟩
  generalize hF : (1048586 : Nat) = F
  unfold m_laws_FnNumbers m_laws_big
  rw [Option.bind_some]
  by_cases hs : (1048576 : Int) < (x.length : Int)
  · rw [decide_eq_true hs, if_pos rfl]
  · rw [decide_eq_false hs, if_neg (by simp)]
    obtain ⟨n, en, hn⟩ := d_DrawVar F x (by omega) (by omega)
    obtain ⟨tail, et, ht⟩ := d_DrawHex F x (by omega) (by omega) (by omega)
    obtain ⟨u, eu, hu⟩ := d_DrawReadVar F x (by omega) (by omega) (by omega)
    obtain ⟨v, ev, hv, hv2⟩ := p_Var_any F n (by omega)
    have i1 : ((v.length + tail.length : Nat) : Int) ≤ 9223372036854775807 := by omega
    rw [en, Option.bind_some, et, Option.bind_some, ev, Option.bind_some, if_pos i1]
    -- what is read of it
    obtain ⟨z, j, ez, hz⟩ : ∃ (z : Int) (j : Nat), m_impl_ReadVar F (v ++ tail) = some (z, (j : Int)) ∧ (v ≠ [] → z = n ∧ j = v.length) := by
      by_cases hvn : v = []
      · obtain ⟨z, j, e, _⟩ := p_ReadVar_any F (v ++ tail) (by simp; omega) (by omega)
        exact ⟨z, j, e, fun q => absurd hvn q⟩
      · obtain ⟨h0, h1⟩ := hv2.1 hvn
        obtain ⟨m, rfl⟩ := Int.eq_ofNat_of_zero_le h0
        rw [p_Var F m (by omega) (by omega)] at ev
        have hvv := Option.some.inj ev
        subst hvv
        exact ⟨m, _, p_ReadVarBack F m tail (by omega) (by omega), fun _ => ⟨rfl, rfl⟩⟩
    rw [ez]
    have c1 : (if 0 ≤ n then
            if ((!(decide (v = []))) == (decide (n ≤ 562949953421311))) = true then
              if v = [] then some false else if z = n then some (!(decide ((j : Int) = (v.length : Int)))) else some true
            else some true
          else
          if ((!(decide (v = []))) == false) = true then
            if v = [] then some false else if z = n then some (!(decide ((j : Int) = (v.length : Int)))) else some true
          else some true) = some false := by
      by_cases hvn : v = []
      · by_cases h0 : 0 ≤ n
        · have : ¬ n ≤ 562949953421311 := fun q => (hv2.2 ⟨h0, q⟩) hvn
          simp [hvn, h0, this]
        · simp [hvn, h0]
      · obtain ⟨h0, h1⟩ := hv2.1 hvn
        obtain ⟨q1, q2⟩ := hz hvn
        simp [hvn, h0, h1, q1, q2]
    show ((_ : Option (Lp Unit Bool)).bind <| contL <| un1 _) = _
    rw [c1, Option.bind_some, bC, if_neg (by simp)]
    -- so many bytes
    obtain ⟨w, ew, hw, hw2⟩ : ∃ w, m_impl_Fixed F n 7 = some w ∧ w.length ≤ 7 ∧ ((w ≠ [] ∧ 0 ≤ n ∧ n < 72057594037927936 ∧ w.length = 7 ∧ m_impl_ReadFixed F (w ++ tail) 7 = some (n, true)) ∨ (w = [] ∧ (n < 0 ∨ 72057594037927936 ≤ n))) := by
      by_cases h : 0 ≤ n ∧ n < 72057594037927936
      · obtain ⟨m, rfl⟩ := Int.eq_ofNat_of_zero_le h.1
        have hl := lowF_len 7 m
        have e := p_ReadFixed F (lowF 7 m ++ tail) (by omega) (by rw [List.length_append]; omega)
        have e2 : (lowF 7 m ++ tail).take 7 = lowF 7 m := by rw [List.take_append_of_le_length (by omega)]; exact List.take_of_length_le (by omega)
        rw [e2, beF_low 7 m (Nat.lt_of_lt_of_le (show m < 72057594037927936 by omega) (by decide))] at e
        exact ⟨lowF 7 m, p_FixedOk F m (by omega) (by omega), by omega, .inl ⟨fun q => by rw [q] at hl; simp at hl, h.1, h.2, hl, e⟩⟩
      · exact ⟨[], p_FixedNo F n (by omega), by simp, .inr ⟨rfl, by omega⟩⟩
    have i2 : ((w.length + tail.length : Nat) : Int) ≤ 9223372036854775807 := by omega
    obtain ⟨fv, fb, ef⟩ := p_ReadFixed_any F (w ++ tail) (by omega)
    rw [ew, Option.bind_some, if_pos i2, ef]
    have c2 : (if w = [] then
            if n < 0 then some (!(((decide (w = [])) == true))) else some (!(((decide (w = [])) == (decide (72057594037927936 ≤ n)))))
          else
          if fb = true then
            if fv = n then
              if (w.length : Int) = 7 then
                if n < 0 then some (!(((decide (w = [])) == true))) else some (!(((decide (w = [])) == (decide (72057594037927936 ≤ n)))))
              else some true
            else some true
          else some true) = some false := by
      rcases hw2 with ⟨h1, h2, h3, h4, h5⟩ | ⟨h1, h2⟩
      · rw [ef] at h5
        simp only [Option.some.injEq, Prod.mk.injEq] at h5
        obtain ⟨rfl, rfl⟩ := h5
        simp [h1, h4, show ¬ fv < 0 by omega, show ¬ 72057594037927936 ≤ fv by omega]
      · by_cases h0 : n < 0
        · simp [h1, h0]
        · simp [h1, h0, show 72057594037927936 ≤ n by omega]
    show ((_ : Option (Lp Unit Bool)).bind <| contL <| un1 _) = _
    rw [c2, Option.bind_some, bC, if_neg (by simp)]
    -- decimals
    have hdl := decI_len hn
    obtain ⟨dv, db, ed, hd1, hd2⟩ := i_ReadDec F (decI n) (by omega) (by omega)
    rw [p_DecX F hn (by omega), Option.bind_some, ed]
    have hdb : db = true ↔ (-1000000000 < n ∧ n < 1000000000) := ⟨fun h => by
      obtain ⟨q1, q2, q3⟩ := hd1 h
      have := decI_inj q1
      omega, fun h => hd2 n h.1 h.2 rfl⟩
    have c3 : (if (-1000000000) < n then
            if (db == (decide (n < 1000000000))) = true then
              if db = true then some (!(decide (dv = n))) else some false
            else some true
          else
          if (db == false) = true then
            if db = true then some (!(decide (dv = n))) else some false
          else some true) = some false := by
      cases db with
      | true =>
        obtain ⟨h1, h2⟩ := hdb.1 rfl
        have := (decI_inj (hd1 rfl).1).symm
        simp [h1, h2, this]
      | false =>
        by_cases h1 : -1000000000 < n
        · have : ¬ n < 1000000000 := fun h => by have := hdb.2 ⟨h1, h⟩; cases this
          simp [h1, this]
        · simp [h1]
    show ((_ : Option (Lp Unit Bool)).bind <| contL <| un1 _) = _
    rw [c3, Option.bind_some, bC, if_neg (by simp), p_Hex F tail (by omega) (by omega), Option.bind_some, p_Unhex F tail (by omega) (by omega)]
    obtain ⟨rv, rj, er, hr⟩ := p_ReadVar_any F u (by omega) (by omega)
    simp only [bind2, eu, Option.bind_some, er, if_true]
    by_cases hj0 : (rj : Int) = 0
    · rw [if_pos hj0, Option.bind_some]
    · obtain ⟨h1, h2⟩ := hr (by omega)
      have hsub : sub u 0 (rj : Int) = u.take rj := by
        have := sub_nat u 0 rj
        rw [Int.natCast_zero] at this
        rw [this]; simp
      have i4 : 0 ≤ (0 : Int) ∧ (0 : Int) ≤ (rj : Int) ∧ (rj : Int) ≤ (u.length : Int) := by omega
      rw [if_neg hj0, if_pos (by omega), if_pos (by omega), h2, Option.bind_some, if_pos i4, hsub, decide_eq_true rfl, Option.bind_some]
end Go.Proofs.Ytikfmmfifhnbjaa
