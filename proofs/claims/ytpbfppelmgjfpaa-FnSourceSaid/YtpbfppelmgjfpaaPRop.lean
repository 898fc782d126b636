/- Operations read from text, in plain Lean. -/
import Derived.Test.YtpbfppelmgjfpaaPTxt
namespace Go.Proofs.Ytpbfppelmgjfpaa
open Go Go.RowKit
set_option linter.unusedVariables false
set_option linter.unusedSimpArgs false

/-! Texts parted at a sign. -/
def spl (c : UInt8) : Str → List Str
  | [] => [[]]
  | x :: s => if x = c then [] :: spl c s else match spl c s with | [] => [[x]] | h :: t => (x :: h) :: t
def consH (h : Str) : List Str → List Str
  | [] => [h]
  | p :: t => (h ++ p) :: t
theorem spl_ne (c : UInt8) (s : Str) : spl c s ≠ [] := by
  cases s with
  | nil => simp [spl]
  | cons x s => simp only [spl]; split
                · simp
                · split <;> simp
theorem spl_cons_eq (c : UInt8) (s : Str) : spl c (c :: s) = [] :: spl c s := by simp [spl]
theorem spl_cons_ne {c x : UInt8} (h : ¬ x = c) (s : Str) : spl c (x :: s) = consH [x] (spl c s) := by
  simp only [spl, if_neg h]
  cases hs : spl c s with
  | nil => rfl
  | cons p t => rfl
theorem consH_nil {l : List Str} (h : l ≠ []) : consH [] l = l := by
  cases l with
  | nil => exact absurd rfl h
  | cons p t => rfl
theorem consH_consH (a b : Str) (l : List Str) (h : l ≠ []) : consH a (consH b l) = consH (a ++ b) l := by
  cases l with
  | nil => exact absurd rfl h
  | cons p t => simp [consH]
theorem spl_no {c : UInt8} : ∀ {s : Str}, (∀ x ∈ s, ¬ x = c) → spl c s = [s]
  | [], _ => rfl
  | x :: s, h => by
    rw [spl_cons_ne (h x (by simp)), spl_no (fun y hy => h y (List.mem_cons_of_mem _ hy))]; rfl
theorem spl_app {c : UInt8} : ∀ {s : Str}, (∀ x ∈ s, ¬ x = c) → ∀ t, spl c (s ++ c :: t) = s :: spl c t
  | [], _, t => spl_cons_eq c t
  | x :: s, h, t => by
    rw [List.cons_append, spl_cons_ne (h x (by simp)), spl_app (fun y hy => h y (List.mem_cons_of_mem _ hy))]; rfl
theorem spl_free {c : UInt8} : ∀ {s : Str}, ∀ p ∈ spl c s, ∀ x ∈ p, ¬ x = c
  | [], p, hp, x, hx => by simp [spl] at hp; subst hp; cases hx
  | y :: s, p, hp, x, hx => by
    by_cases h : y = c
    · subst h
      rw [spl_cons_eq] at hp
      rcases List.mem_cons.1 hp with rfl | hp
      · cases hx
      · exact spl_free p hp x hx
    · rw [spl_cons_ne h] at hp
      cases hs : spl c s with
      | nil => exact absurd hs (spl_ne c s)
      | cons q t =>
        have ih := spl_free (c := c) (s := s)
        rw [hs] at hp ih
        rcases List.mem_cons.1 hp with rfl | hp
        · rcases List.mem_cons.1 hx with rfl | hx
          · exact h
          · exact ih q (by simp) x hx
        · exact ih p (List.mem_cons_of_mem _ hp) x hx
theorem spl_len (c : UInt8) : ∀ s : Str, (spl c s).length ≤ s.length + 1
  | [] => by simp [spl]
  | x :: s => by
    have := spl_len c s
    by_cases h : x = c
    · subst h; rw [spl_cons_eq]; simp; exact this
    · rw [spl_cons_ne h]
      cases hs : spl c s with
      | nil => exact absurd hs (spl_ne c s)
      | cons q t => rw [hs] at this; simp [consH] at this ⊢; omega
theorem spl_len_le (c : UInt8) : ∀ s : Str, ∀ p ∈ spl c s, p.length ≤ s.length
  | [], p, hp => by simp [spl] at hp; subst hp; simp
  | x :: s, p, hp => by
    have ih := spl_len_le c s
    by_cases h : x = c
    · subst h
      rw [spl_cons_eq] at hp
      rcases List.mem_cons.1 hp with rfl | hp
      · simp
      · have := ih p hp; simp; omega
    · rw [spl_cons_ne h] at hp
      cases hs : spl c s with
      | nil => exact absurd hs (spl_ne c s)
      | cons q t =>
        rw [hs] at hp ih
        rcases List.mem_cons.1 hp with rfl | hp
        · have := ih q (by simp); simp; omega
        · have := ih p (List.mem_cons_of_mem _ hp); simp; omega
def mk1 (l : List Str) : List SE := l.map SE.mk
theorem sub_nat (x : Str) (i j : Nat) : sub x (i : Int) (j : Int) = (x.drop i).take (j - i) := by simp [sub]
theorem sub_succ {x : Str} {f n : Nat} (hf : f ≤ n) (h : n < x.length) : sub x (f : Int) ((n + 1 : Nat) : Int) = sub x (f : Int) (n : Int) ++ [x[n]] := by
  rw [sub_nat, sub_nat, show n + 1 - f = (n - f) + 1 by omega, List.take_add_one]
  congr 1
  rw [List.getElem?_drop, show f + (n - f) = n by omega, List.getElem?_eq_getElem h]; rfl
theorem sub_end (x : Str) (f : Nat) : sub x (f : Int) (x.length : Int) = x.drop f := by
  rw [sub_nat, List.take_of_length_le (by simp)]
theorem split_bind {α β γ δ : Type} (a : α) (b : β) (c : γ) (f : α → β → γ → Option δ) : bind3 (some (a, b, c)) f = f a b c := rfl
theorem p_split_L (F : Nat) (x : Str) (c : UInt8) (hx : x.length ≤ 1048576) : ∀ (K n f : Nat) (A : List SE), n ≤ x.length → f ≤ n → x.length < n + K → A.length ≤ n →
    ∃ B, ∃ g : Nat, m_impl_split_L0 F x K c A (f : Int) (n : Int) = some (B, (g : Int)) ∧ g ≤ x.length ∧ B.length ≤ x.length ∧ B ++ [⟨sub x (g : Int) (x.length : Int)⟩] = A ++ mk1 (consH (sub x (f : Int) (n : Int)) (spl c (x.drop n))) := by
  intro K
  induction K with
  | zero => intro n f A h1 h2 h3 h4; omega
  | succ K ih =>
    intro n f A h1 h2 h3 h4
    rw [m_impl_split_L0]
    by_cases h : n < x.length
    · have hi : in64 ((n : Int) + 1) := in64_of (by omega) (by omega)
      rw [if_pos (lt_cast h), at?_lt h, Option.bind_some, drop_cons h]
      by_cases hc : x[n] = c
      · have i1 : ((x[n].toNat : Nat) : Int) = ((c.toNat : Nat) : Int) := by rw [hc]
        have i2 : 0 ≤ (f : Int) ∧ (f : Int) ≤ (n : Int) ∧ (n : Int) ≤ (x.length : Int) := by omega
        have i3 : A.length + 1 ≤ 17179869184 := by omega
        rw [if_pos i1, if_pos i2, if_pos i3, if_pos hi, split_bind, if_pos hi]
        obtain ⟨B, g, e1, e2, e3, e4⟩ := ih (n + 1) (n + 1) (A ++ [⟨sub x (f : Int) (n : Int)⟩]) (by omega) (by omega) (by omega) (by simp; omega)
        refine ⟨B, g, e1, e2, e3, ?_⟩
        rw [e4, hc, spl_cons_eq]
        have e0 : sub x ((n + 1 : Nat) : Int) ((n + 1 : Nat) : Int) = [] := by rw [sub_nat]; simp
        rw [e0, consH_nil (spl_ne _ _)]
        simp [mk1, consH]
      · have i1 : ¬ ((x[n].toNat : Nat) : Int) = ((c.toNat : Nat) : Int) := fun q => hc (UInt8.toNat_inj.1 (by omega))
        rw [if_neg i1, split_bind, if_pos hi]
        obtain ⟨B, g, e1, e2, e3, e4⟩ := ih (n + 1) f A (by omega) (by omega) (by omega) (by omega)
        refine ⟨B, g, e1, e2, e3, ?_⟩
        rw [e4, spl_cons_ne hc, sub_succ h2 h, consH_consH _ _ _ (spl_ne _ _)]
    · have hn : n = x.length := by omega
      subst hn
      rw [if_neg (ge_cast h)]
      refine ⟨A, f, rfl, by omega, h4, ?_⟩
      simp [mk1, consH, spl]
theorem p_split (F : Nat) (x : Str) (c : UInt8) (hx : x.length ≤ 1048576) (hf : x.length < F) : m_impl_split F x c = some (mk1 (spl c x)) := by
  obtain ⟨B, g, e1, e2, e3, e4⟩ := p_split_L F x c hx F 0 0 [] (by omega) (by omega) (by omega) (by simp)
  simp only [Int.natCast_zero] at e1
  have e0 : sub x ((0 : Nat) : Int) ((0 : Nat) : Int) = [] := by rw [sub_nat]; simp
  rw [Int.natCast_zero] at e0
  rw [List.drop_zero, Int.natCast_zero, e0, consH_nil (spl_ne _ _), List.nil_append] at e4
  unfold m_impl_split
  rw [e1]
  simp only [bind2, Option.bind_some]
  rw [if_pos (by omega), if_pos (by omega)]
  exact congrArg some e4
theorem s_split_L (F : Nat) (x : Str) : ∀ (K : Nat) (c : UInt8) (A : List SE) (f n : Int), m_spec_l6Split_L0 F x K c A f n = m_impl_split_L0 F x K c A f n := by
  intro K
  induction K with
  | zero => intro c A f n; rfl
  | succ K ih => intro c A f n; rw [m_spec_l6Split_L0, m_impl_split_L0]; simp only [ih]
theorem s_split (F : Nat) (x : Str) (c : UInt8) : m_spec_l6Split F x c = m_impl_split F x c := by
  unfold m_spec_l6Split m_impl_split; rw [s_split_L]

/-! Words. -/
set_option maxRecDepth 100000 in
theorem p_mnX (F : Nat) {a : Int} (h : 1 ≤ a ∧ a ≤ 16) : ∃ e : SE, m_impl_mnemonic F a = some e.s ∧ (m_spec_l6Words F).bind (fun y => at? y a) = some e ∧ e.s.length ≤ 5 ∧ e.s ≠ [] ∧ (∀ c ∈ e.s, 97 ≤ c.toNat) := by
  unfold m_impl_mnemonic m_spec_l6Words
  rw [p_within]
  simp only [Option.bind_some, inB_true.2 h, if_true, if_pos (show in64 (a - 1) from in64_of (by omega) (by omega))]
  rw [at_cons _ _ h.1]
  have : a = 1 ∨ a = 2 ∨ a = 3 ∨ a = 4 ∨ a = 5 ∨ a = 6 ∨ a = 7 ∨ a = 8 ∨ a = 9 ∨ a = 10 ∨ a = 11 ∨ a = 12 ∨ a = 13 ∨ a = 14 ∨ a = 15 ∨ a = 16 := by omega
  rcases this with rfl | rfl | rfl | rfl | rfl | rfl | rfl | rfl | rfl | rfl | rfl | rfl | rfl | rfl | rfl | rfl <;> exact ⟨_, rfl, rfl, by decide, by decide, by decide⟩
theorem decS_I {v : Int} (h : 0 ≤ v) : decS v = decI v := by
  unfold decS decI
  split
  · rfl
  · rw [if_neg (by omega), show v.toNat = v.natAbs by omega]
theorem decI_no32 (v : Int) : ∀ c ∈ decI v, 45 ≤ c.toNat := by
  obtain ⟨s, h1, h2, h3⟩ := decI_form v
  intro c hc
  rcases h3 with h3 | h3
  · rw [h3] at hc; have := h2 c hc; omega
  · rw [h3] at hc
    rcases List.mem_cons.1 hc with rfl | hc
    · decide
    · have := h2 c hc; omega
theorem ne_of_toNat {x c : UInt8} (h : c.toNat < x.toNat) : ¬ x = c := fun e => by subst e; omega
theorem foldl_app : ∀ (es : List Int) (z pre : Str), es.foldl app (pre ++ z) = pre ++ es.foldl app z
  | [], z, pre => rfl
  | e :: es, z, pre => by simp only [List.foldl_cons]; rw [show app (pre ++ z) e = pre ++ app z e by simp [app]]; exact foldl_app es _ _
theorem spl_shown : ∀ (es : List Int) (z : Str), (∀ e ∈ es, 0 ≤ e) → (∀ c ∈ z, ¬ c = 32) → spl 32 (es.foldl app z) = z :: es.map decI
  | [], z, h, hz => spl_no hz
  | e :: es, z, h, hz => by
    have he : decS e = decI e := decS_I (h e (by simp))
    have hno : ∀ c ∈ decI e, ¬ c = 32 := fun c hc => ne_of_toNat (by have := decI_no32 e c hc; show 32 < c.toNat; omega)
    rw [List.foldl_cons, show app z e = (z ++ [32]) ++ decS e from rfl, foldl_app, List.append_assoc, List.singleton_append, spl_app hz, he, spl_shown es _ (fun e' h' => h e' (List.mem_cons_of_mem _ h')) hno]
    rfl
theorem s_ShowOpX (F : Nat) (a b c d : Int) (hf : 65536 < F) : ∃ r, m_impl_ShowOp F a b c d = some r ∧ m_spec_ShowOp F a b c d = some r ∧ r.length ≤ 200000 ∧ (¬ opB a b c d = true → r = []) ∧
    (opB a b c d = true → ∃ e : SE, m_impl_mnemonic F a = some e.s ∧ r = (([b, c, d] : List Int).take (nF a).toNat).foldl app e.s) := by
  unfold m_impl_ShowOp m_spec_ShowOp
  simp only [p_OpOk, p_SOpOk, Option.bind_some]
  by_cases hop : opB a b c d = true
  · obtain ⟨ha, hb, hc, hd⟩ := opB_rng hop
    obtain ⟨e, e1, e2, e3⟩ := p_mn F ha
    have lb := app_len (z := e.s) hb
    have lc := app_len (z := app e.s b) hc
    have ld := app_len (z := app (app e.s b) c) hd
    have db := decS_len hb
    have dc := decS_len hc
    have dd := decS_len hd
    simp only [if_pos hop, e1, Option.bind_some, p_fieldsOf, p_l6Args]
    have e2' : m_spec_l6Words F = some ([(⟨[]⟩ : SE), (⟨[115, 101, 116]⟩ : SE), (⟨[97, 100, 100]⟩ : SE), (⟨[115, 117, 98]⟩ : SE), (⟨[108, 101, 115, 115]⟩ : SE), (⟨[114, 101, 97, 100]⟩ : SE), (⟨[119, 114, 105, 116, 101]⟩ : SE), (⟨[115, 107, 105, 112]⟩ : SE), (⟨[98, 101, 103, 105, 110]⟩ : SE), (⟨[101, 110, 100]⟩ : SE), (⟨[97, 98, 111, 114, 116]⟩ : SE), (⟨[102, 111, 114, 107]⟩ : SE), (⟨[112, 117, 116]⟩ : SE), (⟨[103, 101, 116]⟩ : SE), (⟨[100, 114, 111, 112]⟩ : SE), (⟨[98, 117, 109, 112]⟩ : SE), (⟨[99, 111, 117, 110, 116]⟩ : SE)] : List SE) := rfl
    rw [e2'] at e2 ⊢
    simp only [Option.bind_some] at e2 ⊢
    rw [e2]
    simp only [Option.bind_some]
    rcases nF_cases a with h | h | h | h
    · refine ⟨e.s, ?_, ?_, by omega, fun q => absurd hop q, fun _ => ⟨e, rfl, by rw [h]; rfl⟩⟩
      · have := p_loop F b c d 0 [] rfl (by simp) (by simp) hf F 0 e.s (by omega) (by simp) (by simp; omega)
        simp only [Int.natCast_zero, List.drop_zero, List.foldl_cons, List.foldl_nil] at this
        rw [h, if_pos (by simp), this, Option.bind_some]
      · rw [h, if_neg (show ¬ (0 : Int) < 0 by omega), Option.bind_some, if_neg (show ¬ (1 : Int) < 0 by omega), Option.bind_some, if_neg (show ¬ (2 : Int) < 0 by omega), Option.bind_some]
    · refine ⟨app e.s b, ?_, ?_, by omega, fun q => absurd hop q, fun _ => ⟨e, rfl, by rw [h]; rfl⟩⟩
      · have := p_loop F b c d 1 [b] rfl (by simpa using hb) (by simp) hf F 0 e.s (by omega) (by simp) (by simp; omega)
        simp only [Int.natCast_zero, List.drop_zero, List.foldl_cons, List.foldl_nil] at this
        rw [h, if_pos (by simp), this, Option.bind_some]
      · rw [h, if_pos (show (0 : Int) < 1 by omega), p_step F e.s b hb (by omega) hf, Option.bind_some, if_neg (show ¬ (1 : Int) < 1 by omega), Option.bind_some, if_neg (show ¬ (2 : Int) < 1 by omega), Option.bind_some]
    · refine ⟨app (app e.s b) c, ?_, ?_, by omega, fun q => absurd hop q, fun _ => ⟨e, rfl, by rw [h]; rfl⟩⟩
      · have := p_loop F b c d 2 [b, c] rfl (by simp; exact ⟨hb, hc⟩) (by simp) hf F 0 e.s (by omega) (by simp) (by simp; omega)
        simp only [Int.natCast_zero, List.drop_zero, List.foldl_cons, List.foldl_nil] at this
        rw [h, if_pos (by simp), this, Option.bind_some]
      · rw [h, if_pos (show (0 : Int) < 2 by omega), p_step F e.s b hb (by omega) hf, Option.bind_some, if_pos (show (1 : Int) < 2 by omega), p_step F _ c hc (by omega) hf, Option.bind_some, if_neg (show ¬ (2 : Int) < 2 by omega), Option.bind_some]
    · refine ⟨app (app (app e.s b) c) d, ?_, ?_, by omega, fun q => absurd hop q, fun _ => ⟨e, rfl, by rw [h]; rfl⟩⟩
      · have := p_loop F b c d 3 [b, c, d] rfl (by simp; exact ⟨hb, hc, hd⟩) (by simp) hf F 0 e.s (by omega) (by simp) (by simp; omega)
        simp only [Int.natCast_zero, List.drop_zero, List.foldl_cons, List.foldl_nil] at this
        rw [h, if_pos (by simp), this, Option.bind_some]
      · rw [h, if_pos (show (0 : Int) < 3 by omega), p_step F e.s b hb (by omega) hf, Option.bind_some, if_pos (show (1 : Int) < 3 by omega), p_step F _ c hc (by omega) hf, Option.bind_some, if_pos (show (2 : Int) < 3 by omega), p_step F _ d hd (by omega) hf, Option.bind_some]
  · exact ⟨[], by simp only [if_neg hop], by simp only [if_neg hop], by simp, fun _ => rfl, fun q => absurd q hop⟩

/-! Reading an operation. -/
theorem words_len (F : Nat) : ∃ W, m_spec_l6Words F = some W ∧ W.length = 17 := ⟨_, rfl, rfl⟩
theorem s_RL0 (F : Nat) (e : SE) (ys W : List SE) (hW : m_spec_l6Words F = some W) (hl : W.length = 17) : ∀ (K n : Nat) (z : Int), 1 ≤ n → n ≤ 17 → 17 < n + K →
    ((z = 0 ∧ ∀ k : Int, 1 ≤ k → k < (n : Int) → ¬ m_impl_mnemonic F k = some e.s) ∨ (1 ≤ z ∧ z < (n : Int) ∧ m_impl_mnemonic F z = some e.s)) →
    ∃ r, m_impl_ReadOp_L0 F (e :: ys) K z (n : Int) = some r ∧ m_spec_ReadOp_L0 F (e :: ys) W K z (n : Int) = some r ∧ ((r = 0 ∧ ∀ k : Int, 1 ≤ k → k < 17 → ¬ m_impl_mnemonic F k = some e.s) ∨ (1 ≤ r ∧ r < 17 ∧ m_impl_mnemonic F r = some e.s)) := by
  intro K
  induction K with
  | zero => intro n z h1 h2 h3 h4; omega
  | succ K ih =>
    intro n z h1 h2 h3 h4
    rw [m_impl_ReadOp_L0, m_spec_ReadOp_L0, hl]
    by_cases h : n < 17
    · obtain ⟨e', m1, m2, m3, m4, m5⟩ := p_mnX F (a := (n : Int)) (by omega)
      rw [hW, Option.bind_some] at m2
      have hi : in64 ((n : Int) + 1) := in64_of (by omega) (by omega)
      rw [if_pos (show (n : Int) ≤ 16 by omega), if_pos (show (n : Int) < ((17 : Nat) : Int) by omega), m1, m2]
      simp only [show at? (e :: ys) 0 = some e from rfl, Option.bind_some]
      by_cases he : e'.s = e.s
      · simp only [if_pos he, Option.bind_some, if_pos hi]; rw [cast_succ]
        exact ih (n + 1) (n : Int) (by omega) (by omega) (by omega) (.inr ⟨by omega, by omega, by rw [m1, he]⟩)
      · simp only [if_neg he, Option.bind_some, if_pos hi]; rw [cast_succ]
        refine ih (n + 1) z (by omega) (by omega) (by omega) ?_
        rcases h4 with ⟨h4, h5⟩ | ⟨h4, h5, h6⟩
        · refine .inl ⟨h4, fun k k1 k2 => ?_⟩
          by_cases hk : k = (n : Int)
          · subst hk; rw [m1]; exact fun q => he (Option.some.inj q)
          · exact h5 k k1 (by omega)
        · exact .inr ⟨h4, by omega, h6⟩
    · have : n = 17 := by omega
      subst this
      rw [if_neg (by omega), if_neg (by omega)]
      exact ⟨z, rfl, rfl, h4⟩
theorem subl_one {E : Type} (e : E) (l : List E) : subl (e :: l) 1 ((e :: l).length : Int) = l := by
  simp [subl]
/-- Numbers that are read. -/
theorem s_ReadOp (F : Nat) (x : Str) (hx : x.length ≤ 1048576) (hf : 1000000001 < F) : ∃ a b c d g, m_impl_ReadOp F x = some (a, b, c, d, g) ∧ m_spec_ReadOp F x = some (a, b, c, d, g) ∧
    (g = true → opB a b c d = true ∧ m_impl_ShowOp F a b c d = some x) ∧ (g = false → a = 0 ∧ b = 0 ∧ c = 0 ∧ d = 0) := by
  unfold m_impl_ReadOp m_spec_ReadOp
  rw [s_split, p_split F x 32 hx (by omega)]
  have hps := spl_len_le 32 x
  have hne := spl_ne 32 x
  have hplen := spl_len 32 x
  cases hsp : spl 32 x with
  | nil => exact absurd hsp hne
  | cons e ws =>
  rw [hsp] at hps hplen
  have hmk : mk1 (e :: ws) = (⟨e⟩ : SE) :: mk1 ws := rfl
  obtain ⟨W, hW, hWl⟩ := words_len F
  obtain ⟨z, z1, z2, z3⟩ := s_RL0 F ⟨e⟩ (mk1 ws) W hW hWl F 1 0 (by omega) (by omega) (by omega) (.inl ⟨rfl, fun k k1 k2 => by omega⟩)
  rw [hW, hmk]
  simp only [Option.bind_some]
  simp only [Int.natCast_one] at z1 z2
  erw [z1, z2]
  simp only [Option.bind_some]
  by_cases hz : z = 0
  · rw [if_pos hz, if_pos hz]
    exact ⟨0, 0, 0, 0, false, rfl, rfl, fun q => (by cases q), fun _ => ⟨rfl, rfl, rfl, rfl⟩⟩
  · obtain ⟨r1, r2, r3⟩ := z3.resolve_left (fun q => hz q.1)
    rw [if_neg hz, if_neg hz, p_fieldsOf, p_l6Args]
    simp only [Option.bind_some, List.length_cons, mk1, List.length_map] at hplen ⊢
    have hn := nF_cases z
    rw [if_pos (show in64 (((ws.length + 1 : Nat) : Int) - 1) from in64_of (by omega) (by omega)), if_pos (show in64 (1 + nF z) from in64_of (by omega) (by omega))]
    by_cases hlen : (ws.length : Int) = nF z
    · rw [if_pos (by omega), if_pos (by omega), if_pos (by omega)]
      -- the two passes over the numbers
      have core : ∀ K, 5 < K → ∃ a b c ok, m_impl_ReadOp_L1 F ((⟨e⟩ : SE) :: ws.map SE.mk) K 0 0 0 0 = some (a, b, c) ∧
          m_spec_ReadOp_L1 F ((⟨e⟩ : SE) :: ws.map SE.mk) K 0 0 0 1 = some (if ok = true then .brk (a, b, c) else .ret (0, 0, 0, 0, false)) ∧
          (ok = false → ∀ r, ¬ (opB z a b c = true ∧ r = (([a, b, c] : List Int).take (nF z).toNat).foldl app e ∧ spl 32 r = e :: ws)) := by
        intro K hK
        obtain ⟨k, rfl⟩ : ∃ k, K = k + 5 := ⟨K - 5, by omega⟩
        have hsub : ∀ ws' : List SE, subl ((⟨e⟩ : SE) :: ws') 1 ((((⟨e⟩ : SE) :: ws').length : Nat) : Int) = ws' := fun ws' => subl_one _ _
        have hnum : ∀ w ∈ ws, ∃ v b, m_impl_ReadDec F w = some (v, b) ∧ m_spec_ReadDec F w = some (v, b) ∧ (b = false → ∀ u, 0 ≤ u → u ≤ 65535 → ¬ w = decI u) := fun w hw => by
          obtain ⟨v, b, q1, q2, q3, q4, q5⟩ := s_ReadDecX F w (by have := hps w (List.mem_cons_of_mem _ hw); omega) hf
          exact ⟨v, b, q1, q2, fun hb u h0 h1 hu => by have := q5 u (by omega) (by omega) hu; rw [hb] at this; cases this⟩
        have hso : ∀ a b c : Int, opB z a b c = true → ∀ es : List Int, es = ([a, b, c] : List Int).take (nF z).toNat → ∀ r, r = es.foldl app e → spl 32 r = e :: ws → ws = es.map decI ∧ ∀ u ∈ es, 0 ≤ u ∧ u ≤ 65535 := by
          intro a b c hop es hes r hr hs
          obtain ⟨_, ra, rb, rc⟩ := opB_rng hop
          have hrng : ∀ u ∈ es, 0 ≤ u ∧ u ≤ 65535 := fun u hu => by
            rw [hes] at hu
            have := List.mem_of_mem_take hu
            simp only [List.mem_cons, List.not_mem_nil, or_false] at this
            rcases this with rfl | rfl | rfl
            · exact ra
            · exact rb
            · exact rc
          have hfree : ∀ c ∈ e, ¬ c = 32 := spl_free (c := 32) (s := x) e (by rw [hsp]; simp)
          rw [hr, spl_shown es e (fun u hu => (hrng u hu).1) hfree] at hs
          exact ⟨(List.cons.inj hs).2.symm, hrng⟩
        have at1 : ∀ (u : SE) (l : List SE), at? (u :: l) 0 = some u := fun _ _ => rfl
        have at2 : ∀ (u v : SE) (l : List SE), at? (u :: v :: l) 1 = some v := fun _ _ _ => rfl
        have at3 : ∀ (u v w : SE) (l : List SE), at? (u :: v :: w :: l) 2 = some w := fun _ _ _ _ => rfl
        have at4 : ∀ (u v w t : SE) (l : List SE), at? (u :: v :: w :: t :: l) 3 = some t := fun _ _ _ _ _ => rfl
        match ws, hlen, hnum, hso with
        | [], hlen, hnum, hso =>
          refine ⟨0, 0, 0, true, ?_, ?_, fun q => by cases q⟩
          · simp [m_impl_ReadOp_L1, hsub, subl]
          · simp [m_spec_ReadOp_L1]
        | [w1], hlen, hnum, hso =>
          obtain ⟨v1, b1, q1, q2, q3⟩ := hnum w1 (by simp)
          refine ⟨v1, 0, 0, b1, ?_, ?_, ?_⟩
          · simp [m_impl_ReadOp_L1, hsub, at1, q1, bind2, subl, in64]
          · cases b1 <;> simp [m_spec_ReadOp_L1, at2, q2, bind2, contM, un3, in64]
          · rintro rfl r ⟨g1, g2, g3⟩
            obtain ⟨g4, g5⟩ := hso _ _ _ g1 _ rfl r g2 g3
            rw [show (nF z).toNat = 1 by simp at hlen; omega] at g4 g5
            simp at g4 g5
            exact q3 rfl v1 g5.1 g5.2 g4
        | [w1, w2], hlen, hnum, hso =>
          obtain ⟨v1, b1, q1, q2, q3⟩ := hnum w1 (by simp)
          obtain ⟨v2, b2, p1, p2, p3⟩ := hnum w2 (by simp)
          refine ⟨v1, v2, 0, b1 && b2, ?_, ?_, ?_⟩
          · simp [m_impl_ReadOp_L1, hsub, at1, at2, q1, p1, bind2, subl, in64]
          · cases b1 <;> cases b2 <;> simp [m_spec_ReadOp_L1, at2, at3, q2, p2, bind2, contM, un3, in64]
          · rintro hb r ⟨g1, g2, g3⟩
            obtain ⟨g4, g5⟩ := hso _ _ _ g1 _ rfl r g2 g3
            rw [show (nF z).toNat = 2 by simp at hlen; omega] at g4 g5
            simp at g4 g5
            cases b1 with
            | false => exact q3 rfl v1 g5.1.1 g5.1.2 g4.1
            | true => cases b2 with
              | false => exact p3 rfl v2 g5.2.1 g5.2.2 g4.2
              | true => cases hb
        | [w1, w2, w3], hlen, hnum, hso =>
          obtain ⟨v1, b1, q1, q2, q3⟩ := hnum w1 (by simp)
          obtain ⟨v2, b2, p1, p2, p3⟩ := hnum w2 (by simp)
          obtain ⟨v3, b3, t1, t2, t3⟩ := hnum w3 (by simp)
          refine ⟨v1, v2, v3, b1 && b2 && b3, ?_, ?_, ?_⟩
          · simp [m_impl_ReadOp_L1, hsub, at1, at2, at3, q1, p1, t1, bind2, subl, in64]
          · cases b1 <;> cases b2 <;> cases b3 <;> simp [m_spec_ReadOp_L1, at2, at3, at4, q2, p2, t2, bind2, contM, un3, in64]
          · rintro hb r ⟨g1, g2, g3⟩
            obtain ⟨g4, g5⟩ := hso _ _ _ g1 _ rfl r g2 g3
            rw [show (nF z).toNat = 3 by simp at hlen; omega] at g4 g5
            simp at g4 g5
            cases b1 with
            | false => exact q3 rfl v1 g5.1.1 g5.1.2 g4.1
            | true => cases b2 with
              | false => exact p3 rfl v2 g5.2.1.1 g5.2.1.2 g4.2.1
              | true => cases b3 with
                | false => exact t3 rfl v3 g5.2.2.1 g5.2.2.2 g4.2.2
                | true => cases hb
        | _ :: _ :: _ :: _ :: _, hlen, _, _ => simp at hlen; omega
      obtain ⟨a, b, c, ok, c1, c2, c3⟩ := core F (by omega)
      obtain ⟨r, s1, s2, s3, s4, s5⟩ := s_ShowOpX F z a b c (by omega)
      rw [c1, c2]
      simp only [bind3, Option.bind_some]
      rw [s1]
      simp only [Option.bind_some]
      have hrx : r = x → opB z a b c = true ∧ r = (([a, b, c] : List Int).take (nF z).toNat).foldl app e ∧ spl 32 r = e :: ws := by
        intro hr
        by_cases hop : opB z a b c = true
        · obtain ⟨e', m1, m2⟩ := s5 hop
          have : e'.s = e := by rw [r3] at m1; exact (Option.some.inj m1).symm
          rw [this] at m2
          exact ⟨hop, m2, by rw [hr, hsp]⟩
        · exfalso
          have h0 := s4 hop
          rw [h0] at hr
          rw [← hr] at hsp
          simp only [spl, List.cons.injEq] at hsp
          obtain ⟨e', m1, m2, m3, m4, m5⟩ := p_mnX F (a := z) (by omega)
          rw [r3] at m1
          exact m4 (by rw [← Option.some.inj m1]; exact hsp.1.symm)
      cases ok with
      | true =>
        simp only [if_true, contL, un3]
        rw [s2]
        simp only [Option.bind_some]
        by_cases hr : r = x
        · rw [if_pos hr]
          exact ⟨z, a, b, c, true, rfl, rfl, fun _ => ⟨(hrx hr).1, hr ▸ s1⟩, fun q => by cases q⟩
        · rw [if_neg hr]
          exact ⟨0, 0, 0, 0, false, rfl, rfl, fun q => (by cases q), fun _ => ⟨rfl, rfl, rfl, rfl⟩⟩
      | false =>
        have hr : ¬ r = x := fun hr => c3 rfl r (hrx hr)
        rw [if_neg hr]
        exact ⟨0, 0, 0, 0, false, rfl, rfl, fun q => (by cases q), fun _ => ⟨rfl, rfl, rfl, rfl⟩⟩
    · rw [if_neg (by omega), if_neg (by omega)]
      exact ⟨0, 0, 0, 0, false, rfl, rfl, fun q => (by cases q), fun _ => ⟨rfl, rfl, rfl, rfl⟩⟩
end Go.Proofs.Ytpbfppelmgjfpaa
