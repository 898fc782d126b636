/- Code read from text, in plain Lean. -/
import Derived.Test.YtpbfppelmgjfpaaPRop
import Derived.Test.YtpbfppelmgjfpaaG3
namespace Go.Proofs.Ytpbfppelmgjfpaa
open Go Go.RowKit
set_option linter.unusedVariables false
set_option linter.unusedSimpArgs false
theorem p_STouches (fuel : Nat) (a b c d : Int) : m_spec_Touches fuel a b c d = some (tchF a b c d) := by
  unfold m_spec_Touches tchF
  simp only [p_SOpOk, Option.bind_some]
  by_cases h : opB a b c d = true
  · simp only [h, if_true]
    by_cases h5 : a = 5
    · subst h5; simp [contL]
    by_cases h6 : a = 6
    · subst h6; simp [contL]
    by_cases h12 : a = 12
    · subst h12; simp [contL]
    by_cases h13 : a = 13
    · subst h13; simp [contL]
    by_cases h14 : a = 14
    · subst h14; simp [contL]
    by_cases h15 : a = 15
    · subst h15; simp [contL]
    by_cases h16 : a = 16
    · subst h16; simp [contL]
    simp [h5, h6, h12, h13, h14, h15, h16, contL, un1]
  · simp [h]
theorem p_Touches (fuel : Nat) (a b c d : Int) : m_impl_Touches fuel a b c d = some (tchF a b c d) := by
  rw [← p_STouches fuel a b c d]
  unfold m_impl_Touches m_spec_Touches
  simp only [p_OpOk, p_SOpOk]

open Classical in
theorem p_SCode_L (fuel : Nat) (x : List I4) (hl : x.length ≤ 24) (hf : x.length < fuel) : ∀ K n, 0 ≤ dF x n → n ≤ x.length → x.length < n + K →
    m_spec_CodeOk_L0 fuel x K (dF x n) (fF x n) (n : Int) = some (if Al n x.length (CodeT x) then .brk (dF x x.length) else .ret false) := by
  intro K
  induction K with
  | zero => intro n h0 h1 h2; omega
  | succ K ih =>
    intro n h0 h1 h2
    rw [m_spec_CodeOk_L0]
    by_cases h : n < x.length
    · have hfb := fF_b x n
      have hb := dF_b x n
      have hi := in64_succ h (show x.length ≤ _ by omega)
      have key : ∀ (b : Bool), (b = true ↔ CodeT x n) → ((some (if b = true then Lp.brk (dF x (n + 1), fF x (n + 1)) else Lp.ret false) : Option (Lp (Int × Int) Bool)).bind <| contM <| un2 fun z5 z6 => if in64 ((n : Int) + 1) then m_spec_CodeOk_L0 fuel x K z5 z6 ((n : Int) + 1) else none) = some (if Al n x.length (CodeT x) then .brk (dF x x.length) else .ret false) := by
        intro b hb
        rw [al_cons h]
        cases b with
        | false => simp only [Bool.false_eq_true, if_false]; rw [if_neg (fun q => by have := hb.2 q.1; cases this)]; rfl
        | true =>
          simp only [if_true, Option.bind_some, contM, un2, if_pos hi]
          erw [ih (n + 1) (hb.1 rfl).2 (by omega) (by omega)]
          by_cases hA : Al (n + 1) x.length (CodeT x)
          · rw [if_pos hA, if_pos ⟨hb.1 rfl, hA⟩]
          · rw [if_neg hA, if_neg (fun q => hA q.2)]
      simp only [if_pos (lt_cast h), at?_lt h, Option.bind_some, p_SOpOk]
      refine Eq.trans (congrArg (fun q => Option.bind q _) ?_) (key (decide (CodeT x n)) (by simp))
      simp only [decide_eq_true_eq]
      by_cases hop : opC x[n] = true
      · have hop' : opB x[n].a x[n].b x[n].c x[n].d = true := hop
        simp only [if_pos hop']
        have i1 : in64 (dF x n + 1) := in64_of (by omega) (by omega)
        have i2 : in64 (dF x n - 1) := in64_of (by omega) (by omega)
        have i3 : in64 (fF x n + 1) := in64_of (by omega) (by omega)
        have fin : ∀ (P : Prop) (d f : Int), (P ↔ CodeS x n x[n]) → (P → d = dF x (n + 1) ∧ f = fF x (n + 1)) → ((some (if P then Lp.brk (d, f) else Lp.ret false) : Option (Lp (Int × Int) Bool)).bind <| contM <| un2 fun z7 z8 => if z7 < 0 then some (Lp.ret false) else some (Lp.brk (z7, z8))) = some (if CodeT x n then Lp.brk (dF x (n + 1), fF x (n + 1)) else Lp.ret false) := by
          intro P d f hP hdf
          by_cases hp : P
          · obtain ⟨rfl, rfl⟩ := hdf hp
            simp only [if_pos hp, Option.bind_some, contM, un2]
            by_cases hn : dF x (n + 1) < 0
            · rw [if_pos hn, if_neg (fun q => by have := q.2; omega)]
            · rw [if_neg hn, if_pos ⟨fun _ => hP.1 hp, by omega⟩]
          · simp only [if_neg hp, Option.bind_some, contM]
            rw [if_neg (fun q => hp (hP.2 (q.1 h)))]
        have dn : dF x (n + 1) = dF x n + opn x[n] := dF_succ h
        have fn : fF x (n + 1) = fF x n + (if x[n].a = 11 then 1 else 0) := fF_succ h
        by_cases h8 : x[n].a = 8
        · have := fin True (dF x n + 1) (fF x n) (by simp [CodeS, hop, h8]) (fun _ => ⟨by rw [dn]; simp [opn, h8], by rw [fn]; simp [h8]⟩)
          simp only [if_true] at this
          simp only [if_pos h8, if_pos i1]; exact this
        by_cases h9 : x[n].a = 9
        · have := fin True (dF x n - 1) (fF x n) (by simp [CodeS, hop, h9]) (fun _ => ⟨by rw [dn]; simp [opn, h9]; omega, by rw [fn]; simp [h9]⟩)
          simp only [if_true] at this
          simp only [if_neg h8, if_pos h9, if_pos i2]; exact this
        by_cases h7 : x[n].a = 7
        · have hc := opC7 hop h7
          have := fin (SkipOk x n x[n].c) (dF x n) (fF x n) (by simp [CodeS, hop, h7]) (fun _ => ⟨by rw [dn]; simp [opn, h7], by rw [fn]; simp [h7]⟩)
          simp only [if_neg h8, if_neg h9, if_pos h7, p_Skip fuel x n (by omega) hf h hc, Option.bind_some, decide_eq_true_eq]
          rw [← this]
          by_cases hS : SkipOk x n x[n].c
          · rw [if_pos hS, if_pos hS]
          · rw [if_neg hS, if_neg hS]
        by_cases h11 : x[n].a = 11
        · have := fin (dF x n = 0 ∧ fF x n + 1 ≤ 1) (dF x n) (fF x n + 1) (by simp [CodeS, hop, h11, fn]; omega) (fun _ => ⟨by rw [dn]; simp [opn, h11], by rw [fn]; simp [h11]⟩)
          simp only [if_neg h8, if_neg h9, if_neg h7, if_pos h11, if_pos i3]
          rw [← this]
          by_cases hd : 0 < dF x n
          · rw [if_pos hd, if_neg (fun q => by omega)]
          · rw [if_neg hd]
            by_cases hq : 1 < fF x n + 1
            · rw [if_pos hq, if_neg (fun q => by omega)]
            · rw [if_neg hq, if_pos ⟨by omega, by omega⟩]
        · have := fin True (dF x n) (fF x n) (by simp [CodeS, hop, h7, h11]) (fun _ => ⟨by rw [dn]; simp [opn, h8, h9], by rw [fn]; simp [h11]⟩)
          simp only [if_true] at this
          simp only [if_neg h8, if_neg h9, if_neg h7, if_neg h11]; exact this
      · have hop' : ¬ opB x[n].a x[n].b x[n].c x[n].d = true := hop
        simp only [if_neg hop']
        rw [if_neg (fun q => hop (q.1 h).1)]
    · have e : n = x.length := by omega
      rw [if_neg (ge_cast h), if_pos (al_end h), e]
open Classical in
theorem p_SCodeOk (fuel : Nat) (x : List I4) (hl : x.length ≤ 1048576) (hf : x.length < fuel) : m_spec_CodeOk fuel x = some (decide (CodeP x)) := by
  unfold m_spec_CodeOk
  by_cases h24 : 24 < (x.length : Int)
  · rw [if_pos h24]; congr 1; exact (dec_no (fun q => by have := q.1; omega)).symm
  · rw [if_neg h24]
    have := p_SCode_L fuel x (by omega) hf fuel 0 (by simp [dF]) (by omega) (by omega)
    simp only [fF_zero, dF_zero] at this
    erw [this]
    by_cases hA : Al 0 x.length (CodeT x)
    · simp only [if_pos hA, Option.bind_some, contL, un1]
      congr 1
      exact dec_eq ⟨fun q => ⟨by omega, ⟨fun m h1 h2 => (hA m h1 h2).2, q⟩, fun m h1 h2 => (hA m h1 h2).1⟩, fun q => q.2.1.2⟩
    · simp only [if_neg hA, Option.bind_some, contL]
      congr 1
      exact (dec_no (fun q => hA (fun m h1 h2 => ⟨q.2.2 m h1 h2, q.2.1.1 m h1 h2⟩))).symm
theorem p_eqOp (fuel : Nat) (x y : I4) : m_laws_eqOp fuel x.a x.b x.c x.d y.a y.b y.c y.d = some (decide (x = y)) := by
  obtain ⟨x0, x1, x2, x3⟩ := x; obtain ⟨y0, y1, y2, y3⟩ := y
  simp only [m_laws_eqOp, I4.mk.injEq]
  repeat' split
  all_goals simp_all
theorem p_eqOpS_L (fuel : Nat) (x y : List I4) (hl : x.length ≤ 4611686018427387904) (he : x.length = y.length) : ∀ K n, n ≤ x.length → x.length < n + K →
    m_laws_eqOpS_L0 fuel x y K (n : Int) = some (if x.drop n = y.drop n then .brk () else .ret false) := by
  intro K
  induction K with
  | zero => intro n h1 h2; omega
  | succ K ih =>
    intro n h1 h2
    rw [m_laws_eqOpS_L0]
    by_cases h : n < x.length
    · have h' : n < y.length := by omega
      rw [drop_cons h, drop_cons h']
      have := ih (n + 1) (by omega) (by omega)
      simp only [if_pos (lt_cast h), at?_lt h, at?_lt h', Option.bind_some, if_pos (in64_succ h (show x.length ≤ _ by omega)), p_eqOp, List.cons.injEq]
      by_cases e : x[n] = y[n]
      · simp only [e, decide_true, if_true, true_and]; exact this
      · simp [e]
    · rw [if_neg (ge_cast h), drop_end h, drop_end (by omega)]
      simp
theorem p_eqOpS (fuel : Nat) (x y : List I4) (hl : x.length ≤ 4611686018427387904) (hf : x.length < fuel) : m_laws_eqOpS fuel x y = some (decide (x = y)) := by
  unfold m_laws_eqOpS
  by_cases he : x.length = y.length
  · rw [if_pos (by omega)]
    have := p_eqOpS_L fuel x y hl he fuel 0 (by omega) (by omega)
    simp only [List.drop_zero, Int.natCast_zero] at this
    erw [this]
    by_cases e : x = y <;> simp [e, contL, un1]
  · rw [if_neg (by omega)]
    have : x ≠ y := fun e => he (by rw [e])
    simp [this]
theorem p_markOpS_L (fuel : Nat) (x : List I4) (hl : x.length ≤ 1048576) (k0 : Int) (h0 : 0 ≤ k0 ∧ k0 ≤ 1099511627776) : ∀ K n, n ≤ x.length → x.length < n + K → ∀ k : Int, k = k0 + 4 * (n : Int) →
    m_laws_markOpS_L0 fuel x K (seq4 k0 n ++ x.drop n) k (n : Int) = some (k0 + 4 * (x.length : Int), seq4 k0 x.length) := by
  intro K
  induction K with
  | zero => intro n h1 h2; omega
  | succ K ih =>
    intro n h1 h2 k hk
    rw [m_laws_markOpS_L0]
    have hA : (seq4 k0 n).length = n := seq4_len _ _
    by_cases h : n < x.length
    · rw [drop_cons h]
      have i1 : in64 (k + 1) := in64_of (by omega) (by omega)
      have i2 : in64 (k + 1 + 1) := in64_of (by omega) (by omega)
      have i3 : in64 (k + 1 + 1 + 1) := in64_of (by omega) (by omega)
      have i4 : in64 (k + 1 + 1 + 1 + 1) := in64_of (by omega) (by omega)
      simp only [if_pos (lt_cast h), at?_mid hA, set_mid hA, Option.bind_some, if_pos (in64_succ h (show x.length ≤ _ by omega)), if_pos i1, if_pos i2, if_pos i3, if_pos i4]
      have ih' := ih (n + 1) (by omega) (by omega) (k + 1 + 1 + 1 + 1) (by omega)
      rw [seq4_succ, List.append_assoc] at ih'
      rw [← ih']
      have e1 : k0 + 4 * (n : Int) + 1 = k + 1 := by omega
      have e2 : k0 + 4 * (n : Int) + 2 = k + 1 + 1 := by omega
      have e3 : k0 + 4 * (n : Int) + 3 = k + 1 + 1 + 1 := by omega
      rw [e1, e2, e3, ← hk]
      rfl
    · rw [if_neg (ge_cast h), drop_end h, List.append_nil]
      have : n = x.length := by omega
      subst this
      rw [hk]
theorem p_markOpS (fuel : Nat) (x : List I4) (hl : x.length ≤ 1048576) (hf : x.length < fuel) (k0 : Int) (h0 : 0 ≤ k0 ∧ k0 ≤ 1099511627776) : m_laws_markOpS fuel x k0 = some (k0 + 4 * (x.length : Int), seq4 k0 x.length) := by
  unfold m_laws_markOpS
  have := p_markOpS_L fuel x hl k0 h0 fuel 0 (by omega) (by omega) k0 (by simp)
  simp only [List.drop_zero, Int.natCast_zero, show seq4 k0 0 = [] from rfl, List.nil_append] at this
  erw [this]
  rfl
theorem p_heldOpS_L (fuel : Nat) (len : Nat) (hl : len ≤ 1048576) (k0 : Int) (h0 : 0 ≤ k0 ∧ k0 ≤ 1099511627776) : ∀ K n, n ≤ len → len < n + K → ∀ k : Int, k = k0 + 4 * (n : Int) →
    m_laws_heldOpS_L0 fuel (seq4 k0 len) K k (n : Int) = some (.brk (k0 + 4 * (len : Int))) := by
  intro K
  induction K with
  | zero => intro n h1 h2; omega
  | succ K ih =>
    intro n h1 h2 k hk
    rw [m_laws_heldOpS_L0, seq4_len]
    by_cases h : n < len
    · have i1 : in64 (k + 1) := in64_of (by omega) (by omega)
      have i1 : in64 (k + 1) := in64_of (by omega) (by omega)
      have i2 : in64 (k + 1 + 1) := in64_of (by omega) (by omega)
      have i3 : in64 (k + 1 + 1 + 1) := in64_of (by omega) (by omega)
      have i4 : in64 (k + 1 + 1 + 1 + 1) := in64_of (by omega) (by omega)
      have e0 : k0 + 4 * (n : Int) = k := by omega
      have e1 : k0 + 4 * (n : Int) + 1 = k + 1 := by omega
      have e2 : k0 + 4 * (n : Int) + 2 = k + 1 + 1 := by omega
      have e3 : k0 + 4 * (n : Int) + 3 = k + 1 + 1 + 1 := by omega
      simp only [if_pos (lt_cast h), seq4_at h, Option.bind_some, if_pos (in64_succ h (show len ≤ _ by omega)), if_pos i1, if_pos i2, if_pos i3, if_pos i4, if_pos e0, if_pos e1, if_pos e2, if_pos e3]
      exact ih (n + 1) (by omega) (by omega) (k + 1 + 1 + 1 + 1) (by omega)
    · rw [if_neg (ge_cast h)]
      have : n = len := by omega
      subst this
      rw [hk]
theorem p_heldOpS (fuel : Nat) (len : Nat) (hl : len ≤ 1048576) (hf : len < fuel) (k0 : Int) (h0 : 0 ≤ k0 ∧ k0 ≤ 1099511627776) : m_laws_heldOpS fuel (seq4 k0 len) k0 = some (k0 + 4 * (len : Int)) := by
  unfold m_laws_heldOpS
  have := p_heldOpS_L fuel len hl k0 h0 fuel 0 (by omega) (by omega) k0 (by simp)
  erw [this]
  rfl


/-! Code read from text. -/
theorem spl_snoc_eq (c : UInt8) : ∀ s : Str, spl c (s ++ [c]) = spl c s ++ [[]]
  | [] => by simp [spl]
  | x :: s => by
    rw [List.cons_append]
    by_cases h : x = c
    · subst h; rw [spl_cons_eq, spl_cons_eq, spl_snoc_eq x s]; rfl
    · rw [spl_cons_ne h, spl_cons_ne h, spl_snoc_eq c s]
      cases hs : spl c s with
      | nil => exact absurd hs (spl_ne c s)
      | cons p t => rfl
theorem spl_snoc_ne {c d : UInt8} (hd : ¬ d = c) : ∀ s : Str, ∃ l p, spl c (s ++ [d]) = l ++ [p] ∧ p ≠ []
  | [] => ⟨[], [d], by rw [List.nil_append, spl_cons_ne hd]; rfl, by simp⟩
  | x :: s => by
    rw [List.cons_append]
    obtain ⟨l, p, h1, h2⟩ := spl_snoc_ne hd s
    by_cases h : x = c
    · subst h; rw [spl_cons_eq, h1]; exact ⟨[] :: l, p, rfl, h2⟩
    · rw [spl_cons_ne h, h1]
      cases l with
      | nil => exact ⟨[], [x] ++ p, rfl, by simp⟩
      | cons q t => exact ⟨([x] ++ q) :: t, p, rfl, h2⟩
theorem last_cases (x : Str) : x = [] ∨ ∃ s d, x = s ++ [d] := by
  rcases List.eq_nil_or_concat x with h | ⟨s, d, h⟩
  · exact .inl h
  · exact .inr ⟨s, d, by rw [h, List.concat_eq_append]⟩
/-- The lines of a text. -/
def linF (x : Str) : Option (List Str) := if x = [] then some [] else if x.getLast? = some 10 then some (spl 10 x.dropLast) else none
theorem p_lines (F : Nat) (x : Str) (hx : x.length ≤ 1048576) (hf : x.length < F) : m_impl_lines F x = some (match linF x with | some l => (mk1 l, true) | none => ([], false)) := by
  unfold m_impl_lines linF
  rw [p_split F x 10 hx hf]
  have hne := spl_ne 10 x
  have hlen := spl_len 10 x
  have key : ∀ (l : List Str) (p : Str), spl 10 x = l ++ [p] → ((mk1 (spl 10 x)).length : Int) - 1 = ((mk1 l).length : Int) ∧ at? (mk1 (spl 10 x)) ((mk1 l).length : Int) = some ⟨p⟩ ∧ subl (mk1 (spl 10 x)) 0 ((mk1 l).length : Int) = mk1 l ∧ ((mk1 l).length : Int) ≤ ((mk1 (spl 10 x)).length : Int) := by
    intro l p h
    rw [h]
    refine ⟨by simp [mk1], ?_, by simp [mk1, subl], by simp [mk1]; omega⟩
    have : mk1 (l ++ [p]) = mk1 l ++ ⟨p⟩ :: [] := by simp [mk1]
    rw [this, at?_mid rfl]
  have fin : ∀ (l : List Str) (p : Str), spl 10 x = l ++ [p] → ((some (mk1 (spl 10 x))).bind fun y1 =>
      if in64 ((y1.length : Int) - 1) then
        (at? y1 ((y1.length : Int) - 1)).bind fun e1 =>
        if e1.s = [] then
          if in64 ((y1.length : Int) - 1) then
            if 0 ≤ ((y1.length : Int) - 1 : Int) ∧ ((y1.length : Int) - 1) ≤ (y1.length : Int) then
              some (subl y1 0 ((y1.length : Int) - 1), true)
            else none
          else none
        else
        some (([] : List SE), false)
      else none) = some (if p = [] then (mk1 l, true) else ([], false)) := by
    intro l p h
    obtain ⟨k1, k2, k3, k4⟩ := key l p h
    have hll : (mk1 l).length ≤ 1048577 := by rw [h] at hlen; simp [mk1] at hlen ⊢; omega
    have hi : in64 ((mk1 l).length : Int) := in64_of (by omega) (by omega)
    rw [Option.bind_some, k1, if_pos hi, k2, Option.bind_some]
    by_cases hp : p = []
    · rw [if_pos hp, if_pos hi, if_pos ⟨by omega, k4⟩, k3, if_pos hp]
    · rw [if_neg hp, if_neg hp]
  rcases last_cases x with h | ⟨s, d, h⟩
  · rw [fin [] [] (by rw [h]; rfl), if_pos rfl, if_pos h]
  · have hx0 : ¬ x = [] := by rw [h]; simp
    have hgl : x.getLast? = some d := by rw [h]; simp
    have hdl : x.dropLast = s := by rw [h]; simp
    rw [if_neg hx0, hgl, hdl]
    by_cases hd : d = 10
    · subst hd
      rw [fin (spl 10 s) [] (by rw [h, spl_snoc_eq]), if_pos rfl, if_pos rfl]
    · obtain ⟨l, p, h1, h2⟩ := spl_snoc_ne hd s
      rw [← h] at h1
      rw [fin l p h1, if_neg h2, if_neg (fun q => hd (Option.some.inj q))]
/-- Operations and their texts, line by line. -/
def Sh (F : Nat) : List I4 → List Str → Prop
  | [], [] => True
  | o :: l, s :: t => (opC o = true ∧ m_impl_ShowOp F o.a o.b o.c o.d = some s) ∧ Sh F l t
  | _, _ => False
theorem s_Lines_L (F : Nat) (ls : List Str) (hl : ls.length ≤ 24) (hw : ∀ w ∈ ls, w.length ≤ 1048576) (hf : 1000000001 < F) : ∀ (K n : Nat) (A : List I4), n ≤ ls.length → ls.length < n + K → A.length ≤ n →
    (∃ C, m_impl_ReadCode_L0 F (mk1 ls) K A (n : Int) = some (.brk (A ++ C)) ∧ m_spec_l6Lines_L0 F (mk1 ls) K A (n : Int) = some (.brk (A ++ C)) ∧ C.length = ls.length - n ∧ Sh F C (ls.drop n)) ∨
    (m_impl_ReadCode_L0 F (mk1 ls) K A (n : Int) = some (.ret ([], false)) ∧ m_spec_l6Lines_L0 F (mk1 ls) K A (n : Int) = some (.ret ([], false))) := by
  intro K
  induction K with
  | zero => intro n A h1 h2 h3; omega
  | succ K ih =>
    intro n A h1 h2 h3
    rw [m_impl_ReadCode_L0, m_spec_l6Lines_L0]
    have hml : (mk1 ls).length = ls.length := by simp [mk1]
    by_cases h : n < ls.length
    · have hm : n < (mk1 ls).length := by omega
      have hat : at? (mk1 ls) (n : Int) = some ⟨ls[n]⟩ := by rw [at?_lt hm]; simp [mk1]
      obtain ⟨a, b, c, d, g, r1, r2, r3, r4⟩ := s_ReadOp F ls[n] (hw _ (List.getElem_mem h)) hf
      rw [if_pos (lt_cast hm), if_pos (lt_cast hm), hat]
      simp only [Option.bind_some, r1, r2, bind5]
      cases g with
      | false => rw [if_neg (by simp)]; exact .inr ⟨rfl, by rw [if_neg (by simp)]⟩
      | true =>
        have i1 : A.length + 1 ≤ 17179869184 := by omega
        have i2 : in64 ((n : Int) + 1) := in64_of (by omega) (by omega)
        simp only [if_true, if_pos i1, if_pos i2]
        rw [cast_succ]
        rcases ih (n + 1) (A ++ [⟨a, b, c, d⟩]) (by omega) (by omega) (by simp; omega) with ⟨C, e1, e2, e3, e4⟩ | ⟨e1, e2⟩
        · refine .inl ⟨⟨a, b, c, d⟩ :: C, by rw [e1]; simp, by rw [e2]; simp, by simp; omega, ?_⟩
          rw [drop_cons h]
          exact ⟨r3 rfl, e4⟩
        · exact .inr ⟨e1, e2⟩
    · rw [if_neg (ge_cast (by omega)), if_neg (ge_cast (by omega))]
      refine .inl ⟨[], by simp, by simp, by simp; omega, ?_⟩
      rw [drop_end h]; trivial
open Classical in
/-- What is read is right code, of which the text is what was read, line by line; or nothing is read on either side. -/
theorem s_ReadCode (F : Nat) (x : Str) (hx : x.length ≤ 1048576) (hf : 1000000001 < F) :
    (∃ l ls, m_impl_ReadCode F x = some (l, true) ∧ m_spec_ReadCode F x = some (l, true) ∧ CodeP l ∧ linF x = some ls ∧ Sh F l ls ∧ l.length = ls.length) ∨
    (m_impl_ReadCode F x = some ([], false) ∧ m_spec_ReadCode F x = some ([], false)) := by
  have tail : ∀ ls : List Str, linF x = some ls → (∀ w ∈ ls, w.length ≤ 1048576) → ls.length ≤ 1048577 →
      (m_spec_ReadCode F x = if 24 < ((mk1 ls).length : Int) then some (([] : List I4), false) else
          bind2 (m_spec_l6Lines F (mk1 ls)) fun y2 y3 => if y3 = true then (m_spec_CodeOk F y2).bind fun y4 => if y4 = true then some (y2, true) else some (([] : List I4), false) else some (([] : List I4), false)) →
      (∃ l ls, m_impl_ReadCode F x = some (l, true) ∧ m_spec_ReadCode F x = some (l, true) ∧ CodeP l ∧ linF x = some ls ∧ Sh F l ls ∧ l.length = ls.length) ∨
      (m_impl_ReadCode F x = some ([], false) ∧ m_spec_ReadCode F x = some ([], false)) := by
    intro ls hls hw hlen hs
    have hml : (mk1 ls).length = ls.length := by simp [mk1]
    unfold m_impl_ReadCode
    rw [p_lines F x hx (by omega), hls, hs]
    simp only [bind2, Option.bind_some, if_true]
    by_cases h24 : 24 < ((mk1 ls).length : Int)
    · rw [if_pos h24, if_pos h24]; exact .inr ⟨rfl, rfl⟩
    · rw [if_neg h24, if_neg h24]
      unfold m_spec_l6Lines
      rcases s_Lines_L F ls (by omega) hw hf F 0 [] (by omega) (by omega) (by simp) with ⟨C, e1, e2, e3, e4⟩ | ⟨e1, e2⟩
      · simp only [Int.natCast_zero, List.nil_append, List.drop_zero, Nat.sub_zero] at e1 e2 e3 e4
        rw [e1, e2]
        simp only [Option.bind_some, contL, un1, if_true]
        rw [p_CodeOk F C (by omega) (by omega), p_SCodeOk F C (by omega) (by omega)]
        simp only [Option.bind_some, decide_eq_true_eq]
        by_cases hC : CodeP C
        · rw [if_pos hC]; exact .inl ⟨C, ls, rfl, rfl, hC, rfl, e4, e3⟩
        · rw [if_neg hC]; exact .inr ⟨rfl, rfl⟩
      · simp only [Int.natCast_zero] at e1 e2
        rw [e1, e2]
        exact .inr ⟨rfl, by simp [contL]⟩
  rcases last_cases x with h | ⟨s, d, h⟩
  · refine tail [] (by unfold linF; rw [if_pos h]) (by simp) (by simp) ?_
    unfold m_spec_ReadCode m_spec_l6Lines
    rw [if_pos h, if_neg (by simp [mk1])]
    obtain ⟨k, hk⟩ : ∃ k, F = k + 1 := ⟨F - 1, by omega⟩
    have e0 : m_spec_l6Lines_L0 F (mk1 []) F [] 0 = some (.brk []) := by
      rw [hk, m_spec_l6Lines_L0, if_neg (by simp [mk1])]
    have e1 : CodeP [] := by
      have h1 := p_SCodeOk F [] (by simp) (by simp; omega)
      have h2 : m_spec_CodeOk F [] = some true := by
        unfold m_spec_CodeOk
        rw [hk, m_spec_CodeOk_L0]
        simp [contL, un1, un2]
      rw [h2] at h1
      exact of_decide_eq_true (Option.some.inj h1).symm
    rw [e0]
    simp only [Option.bind_some, contL, un1, bind2, if_true]
    rw [p_SCodeOk F [] (by simp) (by simp; omega)]
    simp [e1]
  · have hx0 : ¬ x = [] := by rw [h]; simp
    have hlx : x.length = s.length + 1 := by rw [h]; simp
    have hi : in64 ((x.length : Int) - 1) := in64_of (by omega) (by omega)
    have e1 : (x.length : Int) - 1 = (s.length : Int) := by omega
    have hat : at? x ((x.length : Int) - 1) = some d := by rw [e1, h, at?_mid rfl]
    have hsub : sub x 0 ((x.length : Int) - 1) = s := by
      rw [e1]
      have := sub_nat x 0 s.length
      rw [Int.natCast_zero] at this
      rw [this, h]; simp
    by_cases hd : d = 10
    · subst hd
      have hls : linF x = some (spl 10 s) := by
        unfold linF
        rw [if_neg hx0, if_pos (by rw [h]; simp)]
        rw [h]; simp
      have hlen := spl_len 10 s
      refine tail (spl 10 s) hls (fun w hw => by have := spl_len_le 10 s w hw; omega) (by omega) ?_
      unfold m_spec_ReadCode
      rw [if_neg hx0, if_pos hi, hat, Option.bind_some, if_pos (by decide), if_pos hi, if_pos (by omega), hsub, s_split, p_split F s 10 (by omega) (by omega), Option.bind_some]
    · refine .inr ⟨?_, ?_⟩
      · have hls : linF x = none := by
          unfold linF
          rw [if_neg hx0, if_neg (by rw [h]; simp; exact hd)]
        unfold m_impl_ReadCode
        rw [p_lines F x hx (by omega), hls]
        simp [bind2]
      · unfold m_spec_ReadCode
        have hn : ¬ ((d.toNat : Nat) : Int) = 10 := fun q => hd (UInt8.toNat_inj.1 (by show d.toNat = 10; omega))
        rw [if_neg hx0, if_pos hi, hat, Option.bind_some, if_neg hn]
theorem pure_FnExactReadCode {x : Str} (hx : (⟨⟨x⟩⟩ : ByteArray).size ≤ maxLen) : ∃ fuel, m_laws_FnExactReadCode fuel x = some true := by
  refine ⟨1000000010, ?_⟩
  generalize hF : (1000000010 : Nat) = F
  unfold m_laws_FnExactReadCode
  by_cases hs : (1048576 : Int) < (x.length : Int)
  · rw [if_pos hs]
  · rw [if_neg hs]
    obtain ⟨l, g, e1, e2, hl⟩ : ∃ l g, m_impl_ReadCode F x = some (l, g) ∧ m_spec_ReadCode F x = some (l, g) ∧ l.length ≤ 24 := by
      rcases s_ReadCode F x (by omega) (by omega) with ⟨l, ls, e1, e2, e3, _⟩ | ⟨e1, e2⟩
      · exact ⟨l, true, e1, e2, e3.1⟩
      · exact ⟨[], false, e1, e2, by simp⟩
    have q1 := p_eqOpS F l l (by omega) (by omega)
    have q2 := p_markOpS F l (by omega) (by omega) 1 (by omega)
    have q3 := p_heldOpS F l.length (by omega) (by omega) 1 (by omega)
    rw [decide_eq_true rfl] at q1
    simp only [e1, e2, bind2, Option.bind_some, q1, q2, q3, if_true, beq_self_eq_true, Bool.not_true, contL, un1, Bool.false_eq_true, if_false, show ¬ (1 + 4 * (l.length : Int) < 0) by omega]
end Go.Proofs.Ytpbfppelmgjfpaa
