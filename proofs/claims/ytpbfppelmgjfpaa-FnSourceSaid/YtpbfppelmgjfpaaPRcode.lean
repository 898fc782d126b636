/- Code read from text, in plain Lean. -/
import Derived.Test.YtpbfppelmgjfpaaPRop
import Derived.Test.YtpbfppelmgjfpaaG3
namespace Go.Proofs.Ytpbfppelmgjfpaa
open Go Go.RowKit
set_option linter.unusedVariables false
set_option linter.unusedSimpArgs false
theorem p_STouches (fuel : Nat) (a b c d : Int) : m_spec_Touches fuel a b c d = some (tchF a b c d) := by
  unfold m_spec_Touches tchF
  simp only [p_SOpOk, Option.bind_some]
  by_cases h : opB a b c d = true
  · simp only [h, if_true]
    by_cases h5 : a = 5
    · subst h5; simp [contL]
    by_cases h6 : a = 6
    · subst h6; simp [contL]
    by_cases h12 : a = 12
    · subst h12; simp [contL]
    by_cases h13 : a = 13
    · subst h13; simp [contL]
    by_cases h14 : a = 14
    · subst h14; simp [contL]
    by_cases h15 : a = 15
    · subst h15; simp [contL]
    by_cases h16 : a = 16
    · subst h16; simp [contL]
    simp [h5, h6, h12, h13, h14, h15, h16, contL, un1]
  · simp [h]
theorem p_Touches (fuel : Nat) (a b c d : Int) : m_impl_Touches fuel a b c d = some (tchF a b c d) := by
  rw [← p_STouches fuel a b c d]
  unfold m_impl_Touches m_spec_Touches
  simp only [p_OpOk, p_SOpOk]

/-! Code read from text. -/
theorem spl_snoc_eq (c : UInt8) : ∀ s : Str, spl c (s ++ [c]) = spl c s ++ [[]]
  | [] => by simp [spl]
  | x :: s => by
    rw [List.cons_append]
    by_cases h : x = c
    · subst h; rw [spl_cons_eq, spl_cons_eq, spl_snoc_eq x s]; rfl
    · rw [spl_cons_ne h, spl_cons_ne h, spl_snoc_eq c s]
      cases hs : spl c s with
      | nil => exact absurd hs (spl_ne c s)
      | cons p t => rfl
theorem spl_snoc_ne {c d : UInt8} (hd : ¬ d = c) : ∀ s : Str, ∃ l p, spl c (s ++ [d]) = l ++ [p] ∧ p ≠ []
  | [] => ⟨[], [d], by rw [List.nil_append, spl_cons_ne hd]; rfl, by simp⟩
  | x :: s => by
    rw [List.cons_append]
    obtain ⟨l, p, h1, h2⟩ := spl_snoc_ne hd s
    by_cases h : x = c
    · subst h; rw [spl_cons_eq, h1]; exact ⟨[] :: l, p, rfl, h2⟩
    · rw [spl_cons_ne h, h1]
      cases l with
      | nil => exact ⟨[], [x] ++ p, rfl, by simp⟩
      | cons q t => exact ⟨([x] ++ q) :: t, p, rfl, h2⟩
theorem last_cases (x : Str) : x = [] ∨ ∃ s d, x = s ++ [d] := by
  rcases List.eq_nil_or_concat x with h | ⟨s, d, h⟩
  · exact .inl h
  · exact .inr ⟨s, d, by rw [h, List.concat_eq_append]⟩
/-- The lines of a text. -/
def linF (x : Str) : Option (List Str) := if x = [] then some [] else if x.getLast? = some 10 then some (spl 10 x.dropLast) else none
theorem p_lines (F : Nat) (x : Str) (hx : x.length ≤ 1048576) (hf : x.length < F) : m_impl_lines F x = some (match linF x with | some l => (mk1 l, true) | none => ([], false)) := by
  unfold m_impl_lines linF
  rw [p_split F x 10 hx hf]
  have hne := spl_ne 10 x
  have hlen := spl_len 10 x
  have key : ∀ (l : List Str) (p : Str), spl 10 x = l ++ [p] → ((mk1 (spl 10 x)).length : Int) - 1 = ((mk1 l).length : Int) ∧ at? (mk1 (spl 10 x)) ((mk1 l).length : Int) = some ⟨p⟩ ∧ subl (mk1 (spl 10 x)) 0 ((mk1 l).length : Int) = mk1 l ∧ ((mk1 l).length : Int) ≤ ((mk1 (spl 10 x)).length : Int) := by
    intro l p h
    rw [h]
    refine ⟨by simp [mk1], ?_, by simp [mk1, subl], by simp [mk1]; omega⟩
    have : mk1 (l ++ [p]) = mk1 l ++ ⟨p⟩ :: [] := by simp [mk1]
    rw [this, at?_mid rfl]
  have fin : ∀ (l : List Str) (p : Str), spl 10 x = l ++ [p] → ((some (mk1 (spl 10 x))).bind fun y1 =>
      if in64 ((y1.length : Int) - 1) then
        (at? y1 ((y1.length : Int) - 1)).bind fun e1 =>
        if e1.s = [] then
          if in64 ((y1.length : Int) - 1) then
            if 0 ≤ ((y1.length : Int) - 1 : Int) ∧ ((y1.length : Int) - 1) ≤ (y1.length : Int) then
              some (subl y1 0 ((y1.length : Int) - 1), true)
            else none
          else none
        else
        some (([] : List SE), false)
      else none) = some (if p = [] then (mk1 l, true) else ([], false)) := by
    intro l p h
    obtain ⟨k1, k2, k3, k4⟩ := key l p h
    have hll : (mk1 l).length ≤ 1048577 := by rw [h] at hlen; simp [mk1] at hlen ⊢; omega
    have hi : in64 ((mk1 l).length : Int) := in64_of (by omega) (by omega)
    rw [Option.bind_some, k1, if_pos hi, k2, Option.bind_some]
    by_cases hp : p = []
    · rw [if_pos hp, if_pos hi, if_pos ⟨by omega, k4⟩, k3, if_pos hp]
    · rw [if_neg hp, if_neg hp]
  rcases last_cases x with h | ⟨s, d, h⟩
  · rw [fin [] [] (by rw [h]; rfl), if_pos rfl, if_pos h]
  · have hx0 : ¬ x = [] := by rw [h]; simp
    have hgl : x.getLast? = some d := by rw [h]; simp
    have hdl : x.dropLast = s := by rw [h]; simp
    rw [if_neg hx0, hgl, hdl]
    by_cases hd : d = 10
    · subst hd
      rw [fin (spl 10 s) [] (by rw [h, spl_snoc_eq]), if_pos rfl, if_pos rfl]
    · obtain ⟨l, p, h1, h2⟩ := spl_snoc_ne hd s
      rw [← h] at h1
      rw [fin l p h1, if_neg h2, if_neg (fun q => hd (Option.some.inj q))]
/-- Operations and their texts, line by line. -/
def Sh (F : Nat) : List I4 → List Str → Prop
  | [], [] => True
  | o :: l, s :: t => (opC o = true ∧ m_impl_ShowOp F o.a o.b o.c o.d = some s) ∧ Sh F l t
  | _, _ => False
theorem s_Lines_L (F : Nat) (ls : List Str) (hl : ls.length ≤ 24) (hw : ∀ w ∈ ls, w.length ≤ 1048576) (hf : 1000000001 < F) : ∀ (K n : Nat) (A : List I4), n ≤ ls.length → ls.length < n + K → A.length ≤ n →
    (∃ C, m_impl_ReadCode_L0 F (mk1 ls) K A (n : Int) = some (.brk (A ++ C)) ∧ m_spec_l6Lines_L0 F (mk1 ls) K A (n : Int) = some (.brk (A ++ C)) ∧ C.length = ls.length - n ∧ Sh F C (ls.drop n)) ∨
    (m_impl_ReadCode_L0 F (mk1 ls) K A (n : Int) = some (.ret ([], false)) ∧ m_spec_l6Lines_L0 F (mk1 ls) K A (n : Int) = some (.ret ([], false))) := by
  intro K
  induction K with
  | zero => intro n A h1 h2 h3; omega
  | succ K ih =>
    intro n A h1 h2 h3
    rw [m_impl_ReadCode_L0, m_spec_l6Lines_L0]
    have hml : (mk1 ls).length = ls.length := by simp [mk1]
    by_cases h : n < ls.length
    · have hm : n < (mk1 ls).length := by omega
      have hat : at? (mk1 ls) (n : Int) = some ⟨ls[n]⟩ := by rw [at?_lt hm]; simp [mk1]
      obtain ⟨a, b, c, d, g, r1, r2, r3, r4⟩ := s_ReadOp F ls[n] (hw _ (List.getElem_mem h)) hf
      rw [if_pos (lt_cast hm), if_pos (lt_cast hm), hat]
      simp only [Option.bind_some, r1, r2, bind5]
      cases g with
      | false => rw [if_neg (by simp)]; exact .inr ⟨rfl, by rw [if_neg (by simp)]⟩
      | true =>
        have i1 : A.length + 1 ≤ 17179869184 := by omega
        have i2 : in64 ((n : Int) + 1) := in64_of (by omega) (by omega)
        simp only [if_true, if_pos i1, if_pos i2]
        rw [cast_succ]
        rcases ih (n + 1) (A ++ [⟨a, b, c, d⟩]) (by omega) (by omega) (by simp; omega) with ⟨C, e1, e2, e3, e4⟩ | ⟨e1, e2⟩
        · refine .inl ⟨⟨a, b, c, d⟩ :: C, by rw [e1]; simp, by rw [e2]; simp, by simp; omega, ?_⟩
          rw [drop_cons h]
          exact ⟨r3 rfl, e4⟩
        · exact .inr ⟨e1, e2⟩
    · rw [if_neg (ge_cast (by omega)), if_neg (ge_cast (by omega))]
      refine .inl ⟨[], by simp, by simp, by simp; omega, ?_⟩
      rw [drop_end h]; trivial
open Classical in
/-- What is read is right code, of which the text is what was read, line by line; or nothing is read on either side. -/
theorem s_ReadCode (F : Nat) (x : Str) (hx : x.length ≤ 1048576) (hf : 1000000001 < F) :
    (∃ l ls, m_impl_ReadCode F x = some (l, true) ∧ m_spec_ReadCode F x = some (l, true) ∧ CodeP l ∧ linF x = some ls ∧ Sh F l ls ∧ l.length = ls.length) ∨
    (m_impl_ReadCode F x = some ([], false) ∧ m_spec_ReadCode F x = some ([], false)) := by
  have tail : ∀ ls : List Str, linF x = some ls → (∀ w ∈ ls, w.length ≤ 1048576) → ls.length ≤ 1048577 →
      (m_spec_ReadCode F x = if 24 < ((mk1 ls).length : Int) then some (([] : List I4), false) else
          bind2 (m_spec_l6Lines F (mk1 ls)) fun y2 y3 => if y3 = true then (m_spec_CodeOk F y2).bind fun y4 => if y4 = true then some (y2, true) else some (([] : List I4), false) else some (([] : List I4), false)) →
      (∃ l ls, m_impl_ReadCode F x = some (l, true) ∧ m_spec_ReadCode F x = some (l, true) ∧ CodeP l ∧ linF x = some ls ∧ Sh F l ls ∧ l.length = ls.length) ∨
      (m_impl_ReadCode F x = some ([], false) ∧ m_spec_ReadCode F x = some ([], false)) := by
    intro ls hls hw hlen hs
    have hml : (mk1 ls).length = ls.length := by simp [mk1]
    unfold m_impl_ReadCode
    rw [p_lines F x hx (by omega), hls, hs]
    simp only [bind2, Option.bind_some, if_true]
    by_cases h24 : 24 < ((mk1 ls).length : Int)
    · rw [if_pos h24, if_pos h24]; exact .inr ⟨rfl, rfl⟩
    · rw [if_neg h24, if_neg h24]
      unfold m_spec_l6Lines
      rcases s_Lines_L F ls (by omega) hw hf F 0 [] (by omega) (by omega) (by simp) with ⟨C, e1, e2, e3, e4⟩ | ⟨e1, e2⟩
      · simp only [Int.natCast_zero, List.nil_append, List.drop_zero, Nat.sub_zero] at e1 e2 e3 e4
        rw [e1, e2]
        simp only [Option.bind_some, contL, un1, if_true]
        rw [p_CodeOk F C (by omega) (by omega), p_SCodeOk F C (by omega) (by omega)]
        simp only [Option.bind_some, decide_eq_true_eq]
        by_cases hC : CodeP C
        · rw [if_pos hC]; exact .inl ⟨C, ls, rfl, rfl, hC, rfl, e4, e3⟩
        · rw [if_neg hC]; exact .inr ⟨rfl, rfl⟩
      · simp only [Int.natCast_zero] at e1 e2
        rw [e1, e2]
        exact .inr ⟨rfl, by simp [contL]⟩
  rcases last_cases x with h | ⟨s, d, h⟩
  · refine tail [] (by unfold linF; rw [if_pos h]) (by simp) (by simp) ?_
    unfold m_spec_ReadCode m_spec_l6Lines
    rw [if_pos h, if_neg (by simp [mk1])]
    obtain ⟨k, hk⟩ : ∃ k, F = k + 1 := ⟨F - 1, by omega⟩
    have e0 : m_spec_l6Lines_L0 F (mk1 []) F [] 0 = some (.brk []) := by
      rw [hk, m_spec_l6Lines_L0, if_neg (by simp [mk1])]
    have e1 : CodeP [] := by
      have h1 := p_SCodeOk F [] (by simp) (by simp; omega)
      have h2 : m_spec_CodeOk F [] = some true := by
        unfold m_spec_CodeOk
        rw [hk, m_spec_CodeOk_L0]
        simp [contL, un1, un2]
      rw [h2] at h1
      exact of_decide_eq_true (Option.some.inj h1).symm
    rw [e0]
    simp only [Option.bind_some, contL, un1, bind2, if_true]
    rw [p_SCodeOk F [] (by simp) (by simp; omega)]
    simp [e1]
  · have hx0 : ¬ x = [] := by rw [h]; simp
    have hlx : x.length = s.length + 1 := by rw [h]; simp
    have hi : in64 ((x.length : Int) - 1) := in64_of (by omega) (by omega)
    have e1 : (x.length : Int) - 1 = (s.length : Int) := by omega
    have hat : at? x ((x.length : Int) - 1) = some d := by rw [e1, h, at?_mid rfl]
    have hsub : sub x 0 ((x.length : Int) - 1) = s := by
      rw [e1]
      have := sub_nat x 0 s.length
      rw [Int.natCast_zero] at this
      rw [this, h]; simp
    by_cases hd : d = 10
    · subst hd
      have hls : linF x = some (spl 10 s) := by
        unfold linF
        rw [if_neg hx0, if_pos (by rw [h]; simp)]
        rw [h]; simp
      have hlen := spl_len 10 s
      refine tail (spl 10 s) hls (fun w hw => by have := spl_len_le 10 s w hw; omega) (by omega) ?_
      unfold m_spec_ReadCode
      rw [if_neg hx0, if_pos hi, hat, Option.bind_some, if_pos (by decide), if_pos hi, if_pos (by omega), hsub, s_split, p_split F s 10 (by omega) (by omega), Option.bind_some]
    · refine .inr ⟨?_, ?_⟩
      · have hls : linF x = none := by
          unfold linF
          rw [if_neg hx0, if_neg (by rw [h]; simp; exact hd)]
        unfold m_impl_ReadCode
        rw [p_lines F x hx (by omega), hls]
        simp [bind2]
      · unfold m_spec_ReadCode
        have hn : ¬ ((d.toNat : Nat) : Int) = 10 := fun q => hd (UInt8.toNat_inj.1 (by show d.toNat = 10; omega))
        rw [if_neg hx0, if_pos hi, hat, Option.bind_some, if_neg hn]
end Go.Proofs.Ytpbfppelmgjfpaa
