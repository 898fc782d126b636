/- Programs are read back. -/
import Derived.Test.YtpbfppelmgjfpaaPRprog
import Derived.Test.YtpbfppelmgjfpaaG4
namespace Go.Proofs.Ytpbfppelmgjfpaa
open Go Go.RowKit
set_option linter.unusedVariables false
set_option linter.unusedSimpArgs false
/-! Hexadecimal. -/
/-! Numbers of so many bytes. -/
/-! Numbers of seven bits a byte. -/
/-! Decimals of all numbers. -/
theorem decI_inj {u v : Int} (h : decI u = decI v) : u = v := by
  have key : ∀ w : Int, (if (decI w).head? = some 45 then 0 - dvl 0 ((decI w).drop 1) else dvl 0 (decI w)) = w := by
    intro w
    unfold decI
    by_cases h0 : w = 0
    · subst h0; decide
    · rw [if_neg h0]
      have hd := dvl_digs w.natAbs
      by_cases hn : w < 0
      · rw [if_pos hn, if_pos (show (45 :: (digs w.natAbs).reverse).head? = some 45 from rfl)]; show 0 - dvl 0 (digs w.natAbs).reverse = w; omega
      · rw [if_neg hn, if_neg]
        · omega
        · intro hq
          have : (45 : UInt8) ∈ (digs w.natAbs).reverse := List.mem_of_head? hq
          have := digs_isD _ 45 (List.mem_reverse.1 this)
          simp [isD] at this
  rw [← key u, ← key v, h]
/-! The draws. -/
section
variable (F : Nat) (x : List UInt8) (hl : x.length ≤ 1048576)
include hl
end

/-! An operation is read back. -/
theorem decS_len5 {x : Int} (h : 0 ≤ x ∧ x ≤ 65535) : (decS x).length ≤ 5 := by
  unfold decS
  split
  · exact (by decide : (1 : Nat) ≤ 5)
  · rw [List.length_reverse]
    exact digs_lenP 5 _ (by show (x.toNat : Int) < 100000; omega)
theorem app_len6 {z : Str} {e : Int} (h : 0 ≤ e ∧ e ≤ 65535) : (app z e).length ≤ z.length + 6 := by
  have := decS_len5 h
  unfold app
  rw [List.length_append, List.length_append, List.length_singleton]; omega
theorem foldl_len6 : ∀ (es : List Int) (z : Str), (∀ e ∈ es, 0 ≤ e ∧ e ≤ 65535) → (es.foldl app z).length ≤ z.length + 6 * es.length
  | [], z, _ => Nat.le_refl _
  | e :: es, z, h => by
    have h1 := foldl_len6 es (app z e) (fun a ha => h a (List.mem_cons_of_mem _ ha))
    have h2 := app_len6 (z := z) (h e (List.mem_cons_self ..))
    rw [List.foldl_cons, List.length_cons]; omega
theorem es_rng {a b c d : Int} (h : opB a b c d = true) : ∀ e ∈ ([b, c, d] : List Int).take (nF a).toNat, 0 ≤ e ∧ e ≤ 65535 := fun u hu => by
  obtain ⟨_, ra, rb, rc⟩ := opB_rng h
  have := List.mem_of_mem_take hu
  simp only [List.mem_cons, List.not_mem_nil, or_false] at this
  rcases this with rfl | rfl | rfl
  · exact ra
  · exact rb
  · exact rc
/-- What is shown of an operation. -/
theorem show_op (F : Nat) {a b c d : Int} (h : opB a b c d = true) (hf : 65536 < F) : ∃ e : SE, m_impl_mnemonic F a = some e.s ∧ m_impl_ShowOp F a b c d = some ((([b, c, d] : List Int).take (nF a).toNat).foldl app e.s) ∧ e.s.length ≤ 5 ∧ e.s ≠ [] ∧ (∀ c ∈ e.s, 97 ≤ c.toNat) := by
  obtain ⟨r, e1, _, _, _, e5⟩ := s_ShowOpX F a b c d hf
  obtain ⟨e, g1, g2⟩ := e5 h
  obtain ⟨e', m1, _, m3, m4, m5⟩ := p_mnX F (opB_rng h).1
  have : e' = e := by rw [g1] at m1; cases e; cases e'; cases m1; rfl
  subst this
  exact ⟨e', g1, by rw [e1, g2], m3, m4, m5⟩
def wordsL : List Str := [[115, 101, 116], [97, 100, 100], [115, 117, 98], [108, 101, 115, 115], [114, 101, 97, 100], [119, 114, 105, 116, 101], [115, 107, 105, 112], [98, 101, 103, 105, 110], [101, 110, 100], [97, 98, 111, 114, 116], [102, 111, 114, 107], [112, 117, 116], [103, 101, 116], [100, 114, 111, 112], [98, 117, 109, 112], [99, 111, 117, 110, 116]]
set_option maxRecDepth 100000 in
theorem mn_ix (F : Nat) {a : Int} {s : Str} (h : 1 ≤ a ∧ a ≤ 16) (hs : m_impl_mnemonic F a = some s) : (wordsL.idxOf s : Int) + 1 = a ∧ s ≠ [107, 105, 100] := by
  unfold m_impl_mnemonic at hs
  rw [p_within, Option.bind_some, inB_true.2 h, if_pos rfl] at hs
  simp only [if_pos (show in64 (a - 1) from in64_of (by omega) (by omega))] at hs
  have : a = 1 ∨ a = 2 ∨ a = 3 ∨ a = 4 ∨ a = 5 ∨ a = 6 ∨ a = 7 ∨ a = 8 ∨ a = 9 ∨ a = 10 ∨ a = 11 ∨ a = 12 ∨ a = 13 ∨ a = 14 ∨ a = 15 ∨ a = 16 := by omega
  rcases this with rfl | rfl | rfl | rfl | rfl | rfl | rfl | rfl | rfl | rfl | rfl | rfl | rfl | rfl | rfl | rfl <;> (have hs' := Option.some.inj hs; subst hs'; decide)
theorem mn_inj (F : Nat) {a a' : Int} {s : Str} (h : 1 ≤ a ∧ a ≤ 16) (h' : 1 ≤ a' ∧ a' ≤ 16) (hs : m_impl_mnemonic F a = some s) (hs' : m_impl_mnemonic F a' = some s) : a = a' := by
  have := (mn_ix F h hs).1
  have := (mn_ix F h' hs').1
  omega
theorem dec_read (F : Nat) {u : Int} (h : 0 ≤ u ∧ u ≤ 65535) (hf : 1000000001 < F) : m_impl_ReadDec F (decI u) = some (u, true) := by
  have hl : (decI u).length ≤ 1048576 := by rw [← decS_I h.1]; have := decS_len5 h; omega
  obtain ⟨v, b, q1, q2, q3, q4, q5⟩ := s_ReadDecX F (decI u) hl hf
  have hb := q5 u (by omega) (by omega) rfl
  subst hb
  obtain ⟨p1, p2, p3⟩ := q3 rfl
  have : u = v := decI_inj p1
  rw [q1, this]
theorem opB_zero {a b c d : Int} (h : opB a b c d = true) : (nF a = 0 → b = 0 ∧ c = 0 ∧ d = 0) ∧ (nF a = 1 → c = 0 ∧ d = 0) ∧ (nF a = 2 → d = 0) := by
  unfold opB at h
  unfold nF
  repeat' split at h
  all_goals first
    | (cases h; done)
    | (simp only [Bool.and_eq_true, inB_true, decide_eq_true_eq] at h
       refine ⟨fun q => ?_, fun q => ?_, fun q => ?_⟩ <;> (repeat' split at q) <;> first | omega | (exfalso; omega))
theorem p_RL1 (F : Nat) (e : SE) (hf : 1000000001 < F) (es : List Int) (hl : es.length ≤ 3) (hr : ∀ u ∈ es, 0 ≤ u ∧ u ≤ 65535) : m_impl_ReadOp_L1 F (e :: mk1 (es.map decI)) F 0 0 0 0 = some (es.getD 0 0, es.getD 1 0, es.getD 2 0) := by
  have core : ∀ K, 5 < K → m_impl_ReadOp_L1 F (e :: mk1 (es.map decI)) K 0 0 0 0 = some (es.getD 0 0, es.getD 1 0, es.getD 2 0) := by
    intro K hK
    obtain ⟨k, rfl⟩ : ∃ k, K = k + 5 := ⟨K - 5, by omega⟩
    have hsub : ∀ ws' : List SE, subl (e :: ws') 1 (((e :: ws').length : Nat) : Int) = ws' := fun ws' => subl_one _ _
    have at1 : ∀ (u : SE) (l : List SE), at? (u :: l) 0 = some u := fun _ _ => rfl
    have at2 : ∀ (u v : SE) (l : List SE), at? (u :: v :: l) 1 = some v := fun _ _ _ => rfl
    have at3 : ∀ (u v w : SE) (l : List SE), at? (u :: v :: w :: l) 2 = some w := fun _ _ _ _ => rfl
    match es, hl, hr with
    | [], _, _ => simp [m_impl_ReadOp_L1, hsub, mk1, subl]
    | [u], _, hr =>
      have q1 := dec_read F (hr u (by simp)) hf
      simp [m_impl_ReadOp_L1, hsub, at1, q1, bind2, subl, in64, mk1]
    | [u, v], _, hr =>
      have q1 := dec_read F (hr u (by simp)) hf
      have q2 := dec_read F (hr v (by simp)) hf
      simp [m_impl_ReadOp_L1, hsub, at1, at2, q1, q2, bind2, subl, in64, mk1]
    | [u, v, w], _, hr =>
      have q1 := dec_read F (hr u (by simp)) hf
      have q2 := dec_read F (hr v (by simp)) hf
      have q3 := dec_read F (hr w (by simp)) hf
      simp [m_impl_ReadOp_L1, hsub, at1, at2, at3, q1, q2, q3, bind2, subl, in64, mk1]
    | _ :: _ :: _ :: _ :: _, hl, _ => simp at hl
  exact core F (by omega)
theorem p_ReadOpY (F : Nat) {a b c d : Int} {x : Str} (h : opB a b c d = true) (hx : m_impl_ShowOp F a b c d = some x) (hf : 1000000001 < F) : m_impl_ReadOp F x = some (a, b, c, d, true) := by
  obtain ⟨e, g1, g2, g3, g4, g5⟩ := show_op F h (by omega)
  rw [hx] at g2
  have hxe := Option.some.inj g2
  have hrng := es_rng h
  have hfree : ∀ c ∈ e.s, ¬ c = 32 := fun c hc => by
    have := g5 c hc
    exact fun q => by subst q; exact absurd this (by decide)
  have hsp : spl 32 x = e.s :: (([b, c, d] : List Int).take (nF a).toNat).map decI := by rw [hxe]; exact spl_shown _ _ (fun u hu => (hrng u hu).1) hfree
  have hlen : x.length ≤ 1048576 := by
    have := foldl_len6 _ e.s hrng
    rw [← hxe, List.length_take] at this
    have h3 : ([b, c, d] : List Int).length = 3 := rfl
    omega
  obtain ⟨W, hW, hWl⟩ := words_len F
  have har := (opB_rng h).1
  obtain ⟨z, z1, _, z3⟩ := s_RL0 F e (mk1 ((([b, c, d] : List Int).take (nF a).toNat).map decI)) W hW hWl F 1 0 (by omega) (by omega) (by omega) (.inl ⟨rfl, fun k k1 k2 => by omega⟩)
  have hza : z = a := by
    rcases z3 with ⟨_, z4⟩ | ⟨z4, z5, z6⟩
    · exact absurd g1 (z4 a har.1 (by omega))
    · exact mn_inj F ⟨z4, by omega⟩ har z6 g1
  subst hza
  simp only [Int.natCast_one] at z1
  have hes : (([b, c, d] : List Int).take (nF z).toNat).length ≤ 3 := by rw [List.length_take]; have h3 : ([b, c, d] : List Int).length = 3 := rfl; omega
  have hL1 := p_RL1 F e hf (([b, c, d] : List Int).take (nF z).toNat) hes hrng
  have hnl : (((e :: mk1 ((([b, c, d] : List Int).take (nF z).toNat).map decI)).length : Nat) : Int) - 1 = nF z := by
    rw [List.length_cons]
    unfold mk1
    rw [List.length_map, List.length_map, List.length_take]
    have h3 : ([b, c, d] : List Int).length = 3 := rfl
    rcases nF_cases z with q | q | q | q <;> (rw [q]; omega)
  have hvals : (([b, c, d] : List Int).take (nF z).toNat).getD 0 0 = b ∧ (([b, c, d] : List Int).take (nF z).toNat).getD 1 0 = c ∧ (([b, c, d] : List Int).take (nF z).toNat).getD 2 0 = d := by
    obtain ⟨o1, o2, o3⟩ := opB_zero h
    rcases nF_cases z with q | q | q | q
    · obtain ⟨rfl, rfl, rfl⟩ := o1 q; rw [q]; exact ⟨rfl, rfl, rfl⟩
    · obtain ⟨rfl, rfl⟩ := o2 q; rw [q]; exact ⟨rfl, rfl, rfl⟩
    · have := o3 q; subst this; rw [q]; exact ⟨rfl, rfl, rfl⟩
    · rw [q]; exact ⟨rfl, rfl, rfl⟩
  unfold m_impl_ReadOp
  rw [p_split F x 32 hlen (by omega), Option.bind_some, hsp]
  have hmk : mk1 (e.s :: (([b, c, d] : List Int).take (nF z).toNat).map decI) = e :: mk1 ((([b, c, d] : List Int).take (nF z).toNat).map decI) := by cases e; rfl
  rw [hmk, z1, Option.bind_some, if_neg (by omega), hnl, if_pos (by rcases nF_cases z with q | q | q | q <;> (rw [q]; decide)), p_fieldsOf, Option.bind_some, if_pos rfl, if_pos ⟨by decide, by rw [List.length_cons]; omega, Int.le_refl _⟩, hL1, hvals.1, hvals.2.1, hvals.2.2]
  show (m_impl_ShowOp F z b c d).bind _ = _
  rw [hx, Option.bind_some, if_pos rfl]

/-! Lines. -/
def Ln (s : Str) : Prop := (∀ c ∈ s, ¬ c = 10) ∧ s ≠ kidW ∧ s.length ≤ 23
theorem foldl_no10 : ∀ (es : List Int) (z : Str), (∀ e ∈ es, 0 ≤ e ∧ e ≤ 65535) → (∀ c ∈ z, ¬ c = 10) → ∀ c ∈ es.foldl app z, ¬ c = 10
  | [], z, _, hz => hz
  | e :: es, z, h, hz => by
    rw [List.foldl_cons]
    refine foldl_no10 es _ (fun a ha => h a (List.mem_cons_of_mem _ ha)) (fun c hc => ?_)
    unfold app at hc
    rw [decS_I (h e (List.mem_cons_self ..)).1] at hc
    rcases List.mem_append.1 hc with hc | hc
    · rcases List.mem_append.1 hc with hc | hc
      · exact hz c hc
      · have := List.mem_singleton.1 hc; subst this; decide
    · have := decI_no32 e c hc
      exact fun q => by subst q; exact absurd this (by decide)
theorem op_line (F : Nat) {a b c d : Int} {x : Str} (h : opB a b c d = true) (hx : m_impl_ShowOp F a b c d = some x) (hf : 1000000001 < F) : Ln x := by
  obtain ⟨e, g1, g2, g3, g4, g5⟩ := show_op F h (by omega)
  rw [hx] at g2
  have hxe := Option.some.inj g2
  have hrng := es_rng h
  refine ⟨?_, fun hk => ?_, ?_⟩
  · rw [hxe]
    refine foldl_no10 _ _ hrng (fun c hc => ?_)
    have := g5 c hc
    exact fun q => by subst q; exact absurd this (by decide)
  · have hfree : ∀ c ∈ e.s, ¬ c = 32 := fun c hc => by
      have := g5 c hc
      exact fun q => by subst q; exact absurd this (by decide)
    have hsp : spl 32 x = e.s :: (([b, c, d] : List Int).take (nF a).toNat).map decI := by rw [hxe]; exact spl_shown _ _ (fun u hu => (hrng u hu).1) hfree
    rw [hk, show spl 32 kidW = [kidW] from by decide] at hsp
    have := (List.cons.inj hsp).1
    exact (mn_ix F (opB_rng h).1 g1).2 (by rw [← this]; rfl)
  · have := foldl_len6 _ e.s hrng
    rw [← hxe, List.length_take] at this
    have h3 : ([b, c, d] : List Int).length = 3 := rfl
    omega
theorem Sh_lines {F : Nat} (hf : 1000000001 < F) : ∀ {l : List I4} {ls : List Str}, Sh F l ls → (∀ s ∈ ls, Ln s) ∧ ls.length = l.length
  | [], [], _ => ⟨fun s hs => (by cases hs), rfl⟩
  | o :: l, s :: t, h => by
    obtain ⟨⟨h1, h2⟩, h3⟩ := h
    obtain ⟨g1, g2⟩ := Sh_lines hf h3
    refine ⟨fun s' hs' => ?_, by rw [List.length_cons, List.length_cons, g2]⟩
    rcases List.mem_cons.1 hs' with rfl | hs'
    · exact op_line F h1 h2 hf
    · exact g1 s' hs'
  | [], _ :: _, h => absurd h (by simp [Sh])
  | _ :: _, [], h => absurd h (by simp [Sh])
theorem Sh_ex (F : Nat) (hf : 65536 < F) : ∀ (l : List I4), (∀ o ∈ l, opC o = true) → ∃ ls, Sh F l ls
  | [], _ => ⟨[], trivial⟩
  | o :: l, h => by
    obtain ⟨ls, hs⟩ := Sh_ex F hf l (fun q hq => h q (List.mem_cons_of_mem _ hq))
    have ho := h o (List.mem_cons_self ..)
    obtain ⟨e, _, g2, _⟩ := show_op F (show opB o.a o.b o.c o.d = true from ho) hf
    exact ⟨_ :: ls, ⟨ho, g2⟩, hs⟩
theorem unl_app : ∀ a b : List Str, unl (a ++ b) = unl a ++ unl b
  | [], b => rfl
  | t :: a, b => by rw [List.cons_append, unl, unl, unl_app a b, List.append_assoc]; rfl
theorem unl_len : ∀ (ls : List Str) (k : Nat), (∀ s ∈ ls, s.length ≤ k) → (unl ls).length ≤ ls.length * (k + 1)
  | [], k, _ => by simp [unl]
  | t :: ls, k, h => by
    have h1 := unl_len ls k (fun s hs => h s (List.mem_cons_of_mem _ hs))
    have h2 := h t (List.mem_cons_self ..)
    rw [unl, List.length_append, List.length_cons, List.length_cons, Nat.add_mul]; omega
theorem spl_unl : ∀ (ls : List Str), (∀ t ∈ ls, ∀ c ∈ t, ¬ c = 10) → spl 10 (unl ls) = ls ++ [[]]
  | [], _ => rfl
  | t :: ls, h => by
    rw [unl, spl_app (fun c hc => h t (List.mem_cons_self ..) c hc), spl_unl ls (fun s hs => h s (List.mem_cons_of_mem _ hs))]; rfl
theorem linF_of {ls : List Str} (h : ∀ t ∈ ls, ∀ c ∈ t, ¬ c = 10) : linF (unl ls) = some ls := by
  rcases List.eq_nil_or_concat ls with rfl | ⟨l, p, rfl⟩
  · rfl
  · rw [List.concat_eq_append] at h ⊢
    have e : unl (l ++ [p]) = (unl l ++ p) ++ [10] := by rw [unl_snoc, List.append_assoc]
    have h1 := spl_unl (l ++ [p]) h
    rw [e, spl_snoc_eq] at h1
    have h2 := List.append_inj_left' h1 rfl
    unfold linF
    rw [e, if_neg (by simp), List.getLast?_concat, if_pos rfl, List.dropLast_concat, h2]

/-! Code. -/
theorem bL1 {α δ : Type} (a : α) (f : α → Option δ) : ((some (Lp.brk a)).bind <| contL <| un1 f) = f a := rfl
theorem bB5 {A B C D E δ : Type} (a : A) (b : B) (c : C) (d : D) (e : E) (f : A → B → C → D → E → Option δ) : bind5 (some (a, b, c, d, e)) f = f a b c d e := rfl
theorem p_Code_L2 (F : Nat) (l : List I4) (ls : List Str) (hS : Sh F l ls) (hl : l.length ≤ 24) (hf : 1000000001 < F) : ∀ (K n : Nat) (A : List I4), n ≤ ls.length → ls.length < n + K → A.length ≤ n → Sh F (l.drop n) (ls.drop n) →
    m_impl_ReadCode_L0 F (mk1 ls) K A (n : Int) = some (.brk (A ++ l.drop n)) := by
  have hll := (Sh_lines hf hS).2
  have hml : (mk1 ls).length = ls.length := by simp [mk1]
  intro K
  induction K with
  | zero => intro n A h1 h2; omega
  | succ K ih =>
    intro n A h1 h2 h3 h4
    rw [m_impl_ReadCode_L0]
    by_cases h : n < ls.length
    · have h' : n < l.length := by omega
      have hat : at? (mk1 ls) (n : Int) = some ⟨ls[n]⟩ := by rw [at?_lt (by omega)]; simp [mk1]
      have i1 : in64 ((n : Int) + 1) := in64_of (by omega) (by omega)
      rw [drop_cons h', drop_cons h] at h4
      obtain ⟨⟨g1, g2⟩, g3⟩ := h4
      rw [if_pos (by rw [hml]; exact lt_cast h), hat, Option.bind_some, p_ReadOpY F g1 g2 hf, bB5, if_pos rfl, if_pos (by omega), if_pos i1, cast_succ, ih (n + 1) _ (by omega) (by omega) (by rw [List.length_append, List.length_singleton]; omega) g3, drop_cons h', List.append_assoc]
      rfl
    · rw [if_neg (by rw [hml]; exact ge_cast h), drop_end (show ¬ n < l.length by omega), List.append_nil]
theorem p_ReadCodeY (F : Nat) {l : List I4} {ls : List Str} (hS : Sh F l ls) (hC : CodeP l) (hf : 1000000001 < F) : m_impl_ReadCode F (unl ls) = some (l, true) := by
  obtain ⟨hL, hll⟩ := Sh_lines hf hS
  have hl := hC.1
  have hlen := unl_len ls 23 (fun s hs => (hL s hs).2.2)
  have hml : (mk1 ls).length = ls.length := by simp [mk1]
  have h0 := p_Code_L2 F l ls hS hl hf F 0 [] (Nat.zero_le _) (by omega) (Nat.le_refl _) (by rw [List.drop_zero, List.drop_zero]; exact hS)
  simp only [List.drop_zero, List.nil_append, Int.natCast_zero] at h0
  unfold m_impl_ReadCode
  rw [p_lines F (unl ls) (by omega) (by omega), linF_of (fun t ht => (hL t ht).1)]
  dsimp only
  rw [bb2, if_pos rfl, if_neg (by omega), h0, bL1, p_CodeOk F l (by omega) (by omega), Option.bind_some, if_pos (by simpa using hC)]
theorem p_Show_L2 (F : Nat) (l : List I4) (ls : List Str) (hS : Sh F l ls) (hl : l.length ≤ 24) (hf : 1000000001 < F) : ∀ (K n : Nat) (z : Str), n ≤ l.length → l.length < n + K → z.length ≤ n * 24 → Sh F (l.drop n) (ls.drop n) →
    m_impl_ShowCode_L0 F l K z (n : Int) = some (z ++ unl (ls.drop n)) := by
  obtain ⟨hL, hll⟩ := Sh_lines hf hS
  intro K
  induction K with
  | zero => intro n A h1 h2; omega
  | succ K ih =>
    intro n z h1 h2 h3 h4
    rw [m_impl_ShowCode_L0]
    by_cases h : n < l.length
    · have h' : n < ls.length := by omega
      have i1 : in64 ((n : Int) + 1) := in64_of (by omega) (by omega)
      rw [drop_cons h, drop_cons h'] at h4
      obtain ⟨⟨g1, g2⟩, g3⟩ := h4
      have hsl := (hL _ (List.getElem_mem h')).2.2
      have i2 : ((z.length + (ls[n]).length : Nat) : Int) ≤ 9223372036854775807 := by omega
      have i3 : (((z ++ ls[n]).length + ([10] : List Nat).length : Nat) : Int) ≤ 9223372036854775807 := by rw [List.length_append, List.length_singleton]; omega
      rw [if_pos (lt_cast h), at?_lt h, Option.bind_some, g2, Option.bind_some, if_pos i2, if_pos i3, if_pos i1, cast_succ, ih (n + 1) _ (by omega) (by omega) (by rw [List.length_append, List.length_append, List.length_singleton]; omega) g3, drop_cons h', unl, List.append_assoc, List.append_assoc]
      rfl
    · rw [if_neg (ge_cast h), drop_end (show ¬ n < ls.length by omega), unl, List.append_nil]
theorem p_ShowCodeY (F : Nat) {l : List I4} {ls : List Str} (hS : Sh F l ls) (hC : CodeP l) (hf : 1000000001 < F) : m_impl_ShowCode F l = some (unl ls) := by
  have hl := hC.1
  have h0 := p_Show_L2 F l ls hS hl hf F 0 [] (Nat.zero_le _) (by omega) (by simp) (by rw [List.drop_zero, List.drop_zero]; exact hS)
  simp only [List.drop_zero, List.nil_append, Int.natCast_zero] at h0
  unfold m_impl_ShowCode
  rw [p_CodeOk F l (by omega) (by omega), Option.bind_some, if_pos (by simpa using hC), h0, Option.bind_some]
/-- What is read is what is shown. -/
theorem code_back (F : Nat) {s : Str} {l : List I4} (hs : s.length ≤ 1048576) (hf : 1000000001 < F) (h : m_impl_ReadCode F s = some (l, true)) : m_impl_ShowCode F l = some s := by
  obtain ⟨hC, ls, e1, e2, _⟩ := ReadCode_right hs hf h
  rw [p_ShowCodeY F e2 hC hf, (linF_unl e1).1]

/-! Programs. -/
def SC (F : Nat) : List KidD → List Str → Prop
  | [], [] => True
  | k :: C, s :: ps => m_impl_ShowCode F k.code = some s ∧ SC F C ps
  | _, _ => False
def joinK : List Str → Str
  | [] => []
  | s :: ps => ([107, 105, 100, 10] ++ s) ++ joinK ps
theorem SC_len {F : Nat} : ∀ {C : List KidD} {ps : List Str}, SC F C ps → ps.length = C.length
  | [], [], _ => rfl
  | _ :: C, _ :: ps, h => by rw [List.length_cons, List.length_cons, SC_len h.2]
  | [], _ :: _, h => absurd h (by simp [SC])
  | _ :: _, [], h => absurd h (by simp [SC])
theorem p_ShowP_L (F : Nat) (C : List KidD) (ps : List Str) (hS : SC F C ps) (hl : C.length ≤ 3) (hw : ∀ s ∈ ps, s.length ≤ 1048576) : ∀ (K n : Nat) (z : Str), n ≤ C.length → C.length < n + K → z.length ≤ (n + 1) * 2000000 → SC F (C.drop n) (ps.drop n) →
    m_impl_ShowProg_L0 F C K z (n : Int) = some (z ++ joinK (ps.drop n)) := by
  have hll := SC_len hS
  intro K
  induction K with
  | zero => intro n A h1 h2; omega
  | succ K ih =>
    intro n z h1 h2 h3 h4
    rw [m_impl_ShowProg_L0]
    by_cases h : n < C.length
    · have h' : n < ps.length := by omega
      have i1 : in64 ((n : Int) + 1) := in64_of (by omega) (by omega)
      rw [drop_cons h, drop_cons h'] at h4
      obtain ⟨g1, g2⟩ := h4
      have hsl := hw _ (List.getElem_mem h')
      have i2 : ((z.length + ([107, 105, 100, 10] : List Nat).length : Nat) : Int) ≤ 9223372036854775807 := by
        have : ([107, 105, 100, 10] : List Nat).length = 4 := rfl
        omega
      have hk4 : (z ++ ([107, 105, 100, 10] : Str)).length = z.length + 4 := by rw [List.length_append]; rfl
      have i3 : (((z ++ ([107, 105, 100, 10] : Str)).length + (ps[n]).length : Nat) : Int) ≤ 9223372036854775807 := by omega
      rw [if_pos (lt_cast h), at?_lt h, Option.bind_some, if_pos i2, g1, Option.bind_some, if_pos i3, if_pos i1, cast_succ, ih (n + 1) _ (by omega) (by omega) (by rw [List.length_append, hk4]; omega) g2, drop_cons h', joinK, List.append_assoc, List.append_assoc, List.append_assoc]
    · rw [if_neg (ge_cast h), drop_end (show ¬ n < ps.length by omega), joinK, List.append_nil]
theorem p_ShowProgY (F : Nat) {c : List I4} {C : List KidD} {s : Str} {ps : List Str} (hp : progB c C = true) (hc : c.length ≤ 24) (hK : KB F C) (hs : m_impl_ShowCode F c = some s) (hS : SC F C ps) (hsl : s.length ≤ 1048576) (hw : ∀ s ∈ ps, s.length ≤ 1048576) (hf : 1000000001 < F) : m_impl_ShowProg F c C = some (s ++ joinK ps) := by
  have hl := progB_len hp
  have h0 := p_ShowP_L F C ps hS hl hw F 0 s (Nat.zero_le _) (by omega) (by omega) (by rw [List.drop_zero, List.drop_zero]; exact hS)
  rw [List.drop_zero] at h0
  have h0' : m_impl_ShowProg_L0 F C F s 0 = some (s ++ joinK ps) := h0
  unfold m_impl_ShowProg
  rw [p_ProgOk F c C (by omega) (by omega) (by omega) hK (by omega), Option.bind_some, if_pos hp, hs, Option.bind_some, h0', Option.bind_some]
theorem p_ShowProgN (F : Nat) {c : List I4} {C : List KidD} (hp : ¬ progB c C = true) (hc : c.length ≤ 1048576) (hC : C.length ≤ 1048576) (hK : KB F C) (hf : 1000000001 < F) : m_impl_ShowProg F c C = some [] := by
  unfold m_impl_ShowProg
  rw [p_ProgOk F c C hc (by omega) hC hK (by omega), Option.bind_some, if_neg hp]
/-- The parts of a text, joined again. -/
theorem grp_join : ∀ (ls : List Str) (cur : Str) (p : Str) (ps : List Str), grp ls cur = p :: ps → p ++ joinK ps = cur ++ unl ls
  | [], cur, p, ps, h => by
    rw [grp] at h
    obtain ⟨rfl, rfl⟩ := List.cons.inj h
    rfl
  | t :: ls, cur, p, ps, h => by
    rw [grp] at h
    by_cases hk : t = kidW
    · rw [if_pos hk] at h
      obtain ⟨rfl, h2⟩ := List.cons.inj h
      cases ps with
      | nil => exact absurd h2 (grp_ne ls [])
      | cons q qs =>
        have := grp_join ls [] q qs h2
        rw [joinK, unl, List.append_assoc, this, hk]; rfl
    · rw [if_neg hk] at h
      rw [grp_join ls _ p ps h, unl, List.append_assoc, List.append_assoc]; rfl
theorem RC_SC {F : Nat} (hf : 1000000001 < F) : ∀ {C : List KidD} {ps : List Str}, RC F C ps → (∀ s ∈ ps, s.length ≤ 1048576) → SC F C ps
  | [], [], _, _ => trivial
  | k :: C, s :: ps, h, hw => ⟨code_back F (hw s (List.mem_cons_self ..)) hf h.1, RC_SC hf h.2 (fun t ht => hw t (List.mem_cons_of_mem _ ht))⟩
  | [], _ :: _, h, _ => absurd h (by simp [RC])
  | _ :: _, [], h, _ => absurd h (by simp [RC])
/-- A program that is read is shown as it was. -/
theorem prog_back (F : Nat) {x : Str} {c : List I4} {C : List KidD} (hx : x.length ≤ 1048576) (hf : 1000000001 < F) (h : m_impl_ReadProg F x = some (c, C, true)) : m_impl_ShowProg F c C = some x := by
  rcases s_ReadProg F x hx hf with ⟨c', C', ls, p, ps, e1, _, e3, e4, e5, e6, e7, e8, e9⟩ | ⟨e1, _⟩
  · rw [e1] at h
    simp only [Option.some.injEq, Prod.mk.injEq, and_true] at h
    obtain ⟨rfl, rfl⟩ := h
    have hul := (linF_unl e4).1
    have hg := (grp_len ls []).2
    rw [sumL_unl, hul] at hg
    have hg' : ∀ q ∈ p :: ps, q.length ≤ 1048576 := fun q hq => by
      have := hg q (by rw [e5]; exact hq)
      have h0 : ([] : Str).length = 0 := rfl
      omega
    have hw : ∀ s ∈ ps, s.length ≤ 1048576 := fun s hs => hg' s (List.mem_cons_of_mem _ hs)
    have hpl := hg' p (List.mem_cons_self ..)
    rw [p_ShowProgY F e3 e9 e8 (code_back F hpl hf e6) (RC_SC hf e7 hw) hpl hw hf, grp_join ls [] p ps e5, hul]
    rfl
  · rw [e1] at h; simp at h

/-! A program's own text. -/
def SK (F : Nat) : List KidD → List (List Str) → Prop
  | [], [] => True
  | k :: C, ls :: L => (CodeP k.code ∧ Sh F k.code ls) ∧ SK F C L
  | _, _ => False
def kl : List (List Str) → List Str
  | [] => []
  | ls :: L => kidW :: (ls ++ kl L)
theorem grp_ls : ∀ (ls rest : List Str) (cur : Str), (∀ t ∈ ls, t ≠ kidW) → grp (ls ++ rest) cur = grp rest (cur ++ unl ls)
  | [], rest, cur, _ => by rw [unl, List.append_nil]; rfl
  | t :: ls, rest, cur, h => by
    rw [List.cons_append, grp, if_neg (h t (List.mem_cons_self ..)), grp_ls ls rest _ (fun s hs => h s (List.mem_cons_of_mem _ hs)), unl, List.append_assoc, List.append_assoc]; rfl
theorem grp_kl : ∀ (L : List (List Str)) (cur : Str), (∀ ls ∈ L, ∀ t ∈ ls, t ≠ kidW) → grp (kl L) cur = cur :: L.map unl
  | [], cur, _ => rfl
  | ls :: L, cur, h => by
    rw [kl, grp, if_pos rfl, grp_ls ls (kl L) [] (h ls (List.mem_cons_self ..)), grp_kl L _ (fun s hs => h s (List.mem_cons_of_mem _ hs))]; rfl
theorem joinK_kl : ∀ L : List (List Str), joinK (L.map unl) = unl (kl L)
  | [] => rfl
  | ls :: L => by rw [List.map_cons, joinK, kl, unl, unl_app, joinK_kl L, List.append_assoc]; rfl
theorem SK_ok {F : Nat} (hf : 1000000001 < F) : ∀ {C : List KidD} {L : List (List Str)}, SK F C L → L.length = C.length ∧ (∀ ls ∈ L, (∀ t ∈ ls, Ln t) ∧ ls.length ≤ 24) ∧ SC F C (L.map unl)
  | [], [], _ => ⟨rfl, fun ls h => (by cases h), trivial⟩
  | k :: C, ls :: L, h => by
    obtain ⟨⟨h1, h2⟩, h3⟩ := h
    obtain ⟨g1, g2, g3⟩ := SK_ok hf h3
    obtain ⟨l1, l2⟩ := Sh_lines hf h2
    refine ⟨by rw [List.length_cons, List.length_cons, g1], fun q hq => ?_, p_ShowCodeY F h2 h1 hf, g3⟩
    rcases List.mem_cons.1 hq with rfl | hq
    · exact ⟨l1, by have := h1.1; omega⟩
    · exact g2 q hq
  | [], _ :: _, h => absurd h (by simp [SK])
  | _ :: _, [], h => absurd h (by simp [SK])
theorem SK_ex (F : Nat) (hf : 65536 < F) : ∀ (C : List KidD), (∀ k ∈ C, CodeP k.code) → ∃ L, SK F C L
  | [], _ => ⟨[], trivial⟩
  | k :: C, h => by
    obtain ⟨L, hL⟩ := SK_ex F hf C (fun q hq => h q (List.mem_cons_of_mem _ hq))
    have hC := h k (List.mem_cons_self ..)
    obtain ⟨ls, hs⟩ := Sh_ex F hf k.code (fun o ho => by
      obtain ⟨i, hi, rfl⟩ := List.getElem_of_mem ho
      exact (hC.2.2 i (Nat.zero_le _) hi hi).1)
    exact ⟨ls :: L, ⟨hC, hs⟩, hL⟩
theorem kl_lines : ∀ (L : List (List Str)), (∀ ls ∈ L, (∀ t ∈ ls, Ln t) ∧ ls.length ≤ 24) → (∀ t ∈ kl L, (∀ c ∈ t, ¬ c = 10) ∧ t.length ≤ 23) ∧ (kl L).length ≤ L.length * 25
  | [], _ => ⟨fun t h => (by cases h), Nat.zero_le _⟩
  | ls :: L, h => by
    obtain ⟨g1, g2⟩ := kl_lines L (fun q hq => h q (List.mem_cons_of_mem _ hq))
    obtain ⟨k1, k2⟩ := h ls (List.mem_cons_self ..)
    refine ⟨fun t ht => ?_, by rw [kl, List.length_cons, List.length_append, List.length_cons]; omega⟩
    rw [kl] at ht
    rcases List.mem_cons.1 ht with rfl | ht
    · exact ⟨by decide, by decide⟩
    · rcases List.mem_append.1 ht with ht | ht
      · exact ⟨(k1 t ht).1, (k1 t ht).2.2⟩
      · exact g1 t ht
theorem p_PartsY_L (F : Nat) (c : List I4) (C : List KidD) (L : List (List Str)) (p : Str) (hS : SK F C L) (hl : C.length ≤ 3) (hf : 1000000001 < F) : ∀ (K n : Nat) (A : List KidD), n ≤ C.length → C.length < n + K → A.length ≤ n → SK F (C.drop n) (L.drop n) →
    m_impl_ReadProg_L1 F (mk1 (p :: L.map unl)) K c A ((n + 1 : Nat) : Int) = some (.brk (c, A ++ C.drop n)) := by
  have hll := (SK_ok hf hS).1
  have hml : (mk1 (p :: L.map unl)).length = L.length + 1 := by simp [mk1]
  intro K
  induction K with
  | zero => intro n A h1 h2; omega
  | succ K ih =>
    intro n A h1 h2 h3 h4
    rw [m_impl_ReadProg_L1]
    by_cases h : n < C.length
    · have h' : n < L.length := by omega
      have i1 : in64 (((n + 1 : Nat) : Int) + 1) := in64_of (by omega) (by omega)
      have hat : at? (mk1 (p :: L.map unl)) ((n + 1 : Nat) : Int) = some ⟨unl L[n]⟩ := by rw [at?_lt (by omega)]; simp [mk1]
      rw [drop_cons h, drop_cons h'] at h4
      obtain ⟨⟨g1, g2⟩, g3⟩ := h4
      rw [if_pos (by rw [hml]; omega), hat, Option.bind_some, p_ReadCodeY F g2 g1 hf, bb2, if_pos rfl, if_neg (by omega), if_pos (by omega), bM2, if_pos i1, cast_succ, ih (n + 1) _ (by omega) (by omega) (by rw [List.length_append, List.length_singleton]; omega) g3, drop_cons h, List.append_assoc]
      rfl
    · rw [if_neg (by rw [hml]; omega), drop_end h, List.append_nil]
open Classical in
theorem progB_all {c : List I4} {C : List KidD} (h : progB c C = true) : CodeP c ∧ C.length ≤ 3 ∧ ∀ k ∈ C, CodeP k.code := by
  simp only [progB, Bool.and_eq_true, decide_eq_true_eq, List.all_eq_true] at h
  obtain ⟨⟨⟨h1, h2⟩, h3⟩, h4⟩ := h
  refine ⟨h1, by omega, fun k hk => ?_⟩
  have := h4 k hk
  unfold kidB at this
  rw [Bool.and_eq_true, decide_eq_true_eq] at this
  exact this.1
/-- A program's text, and the program read from it. -/
theorem prog_text (F : Nat) {c : List I4} {C : List KidD} (hp : progB c C = true) (hf : 1000000001 < F) : ∃ s, m_impl_ShowProg F c C = some s ∧ s.length ≤ 3000 ∧ m_impl_ReadProg F s = some (c, C, true) := by
  obtain ⟨hC, h3, hK⟩ := progB_all hp
  have hc := hC.1
  obtain ⟨ls, hs⟩ := Sh_ex F (by omega) c (fun o ho => by
    obtain ⟨i, hi, rfl⟩ := List.getElem_of_mem ho
    exact (hC.2.2 i (Nat.zero_le _) hi hi).1)
  obtain ⟨L, hL⟩ := SK_ex F (by omega) C hK
  obtain ⟨g1, g2, g3⟩ := SK_ok hf hL
  obtain ⟨l1, l2⟩ := Sh_lines hf hs
  obtain ⟨k1, k2⟩ := kl_lines L g2
  have hKB : KB F C := fun k hk => by have := (hK k hk).1; exact ⟨by omega, by omega⟩
  have hu1 := unl_len ls 23 (fun s hs => (l1 s hs).2.2)
  have hall : ∀ t ∈ ls ++ kl L, (∀ c ∈ t, ¬ c = 10) ∧ t.length ≤ 23 := fun t ht => by
    rcases List.mem_append.1 ht with ht | ht
    · exact ⟨(l1 t ht).1, (l1 t ht).2.2⟩
    · exact k1 t ht
  have hu2 := unl_len (ls ++ kl L) 23 (fun s hs => (hall s hs).2)
  have hnl : (ls ++ kl L).length ≤ 24 + 3 * 25 := by
    have : L.length * 25 ≤ 3 * 25 := Nat.mul_le_mul_right 25 (by omega)
    rw [List.length_append]; omega
  have hwl : ∀ s ∈ L.map unl, s.length ≤ 1048576 := fun s hs => by
    obtain ⟨q, hq, rfl⟩ := List.mem_map.1 hs
    have := unl_len q 23 (fun s hs => ((g2 q hq).1 s hs).2.2)
    have := (g2 q hq).2
    omega
  refine ⟨unl (ls ++ kl L), ?_, by omega, ?_⟩
  · rw [p_ShowProgY F hp hc hKB (p_ShowCodeY F hs hC hf) g3 (by omega) hwl hf, joinK_kl, unl_app]
  · have hlin := linF_of (fun t ht => (hall t ht).1)
    have hG := p_Grp_L F (ls ++ kl L) (by omega) F 0 [] [] (Nat.zero_le _) (by omega) (Nat.le_refl _) (by rw [List.drop_zero, sumL_unl]; have h0 : ([] : Str).length = 0 := rfl; omega)
    rw [List.drop_zero, grp_ls ls (kl L) [] (fun t ht => (l1 t ht).2.1), grp_kl L _ (fun q hq t ht => ((g2 q hq).1 t ht).2.1)] at hG
    have hG' : m_impl_ReadProg_L0 F (mk1 (ls ++ kl L)) F ([(⟨[]⟩ : SE)] : List SE) 0 = some (mk1 (unl ls :: L.map unl)) := hG
    have hP := p_PartsY_L F c C L (unl ls) hL h3 hf
    obtain ⟨f, hF⟩ : ∃ f, F = f + 1 := ⟨F - 1, by omega⟩
    have hP0 := hP f 0 [] (Nat.zero_le _) (by omega) (Nat.le_refl _) (by rw [List.drop_zero, List.drop_zero]; exact hL)
    rw [List.drop_zero, List.nil_append] at hP0
    have hfirst : ∀ K, K = f + 1 → m_impl_ReadProg_L1 F (mk1 (unl ls :: L.map unl)) K ([] : List I4) ([] : List KidD) 0 = some (.brk (c, C)) := by
      intro K hK'
      subst hK'
      have hat : at? (mk1 (unl ls :: L.map unl)) 0 = some ⟨unl ls⟩ := rfl
      have hml : (mk1 (unl ls :: L.map unl)).length = L.length + 1 := by simp [mk1]
      rw [m_impl_ReadProg_L1, if_pos (by rw [hml]; omega), hat, Option.bind_some, p_ReadCodeY F hs hC hf, bb2, if_pos rfl, if_pos rfl, bM2, if_pos (by decide)]
      exact hP0
    unfold m_impl_ReadProg
    rw [p_lines F (unl (ls ++ kl L)) (by omega) (by omega), hlin]
    dsimp only
    rw [bb2, if_pos rfl, hG', Option.bind_some, hfirst F hF, bL2, p_ProgOk F c C (by omega) (by omega) (by omega) hKB (by omega), Option.bind_some, if_pos hp]
end Go.Proofs.Ytpbfppelmgjfpaa
