/- Whole runs. -/
import Derived.Test.YtknghnmcckjjbaaPSer
namespace Go.Proofs.Ytknghnmcckjjbaa
open Go Go.RowKit
set_option linter.unusedVariables false
set_option linter.unusedSimpArgs false
/-! Memories. -/
/-! A run ends. -/
def OutOk (st : List Int × List Int × Int) : Lp (List Int × List Int × List Int × Int) (Int × List Int × List Int × List Int × Int) → Prop
  | .brk q => VL 4 65535 q.1 ∧ VL 8 65535 q.2.1 ∧ VL 8 65536 q.2.2.1 ∧ 0 ≤ q.2.2.2 ∧ q.2.2.2 ≤ 65535
  | .ret q => q.1 = 2 ∧ VL 4 65535 q.2.1 ∧ q.2.2 = st
theorem runP_tot {x : List I4} {fk : List Int → List Int → List Int × List Int} (st : List Int × List Int × Int) (hC : CodeP x) (hfk : forkB x = true → ∀ r c, VL 4 65535 r → VL 8 65535 c → VL 4 65535 (fk r c).1 ∧ VL 8 65535 (fk r c).2) :
    ∀ K s, RInv x s → x.length < s.pc + K → ∃ r, runP x fk st K s = some r ∧ OutOk st r := by
  intro K
  induction K with
  | zero => intro s h h2; have := h.p; omega
  | succ K ih =>
    intro s h h2
    rw [runP]
    by_cases hp : s.pc < x.length
    · obtain ⟨o, ho, hop, hs⟩ := stp_ok hC hfk h hp
      rw [List.getElem?_eq_getElem hp, ho]
      dsimp only
      rcases hs with ⟨g1, _⟩ | ⟨t, g1, g2, g3⟩
      · rw [g1]; exact ⟨_, rfl, rfl, h.r, rfl⟩
      · rw [g1]; exact ih t g2 (by omega)
    · rw [List.getElem?_eq_none (by omega)]
      exact ⟨_, rfl, h.r, h.c, h.m, h.n⟩
theorem runP_mono {x : List I4} {fk : List Int → List Int → List Int × List Int} {st : List Int × List Int × Int} {r} : ∀ K s, runP x fk st K s = some r → ∀ K', K ≤ K' → runP x fk st K' s = some r := by
  intro K
  induction K with
  | zero => intro s h; cases h
  | succ K ih =>
    intro s h K' hK
    obtain ⟨k, rfl⟩ : ∃ k, K' = k + 1 := ⟨K' - 1, by omega⟩
    rw [runP] at h ⊢
    cases hx : x[s.pc]? with
    | none => rw [hx] at h; exact h
    | some o =>
      rw [hx] at h
      dsimp only at h ⊢
      cases ht : stp x fk s o with
      | none => rw [ht] at h; exact h
      | some t => rw [ht] at h; exact ih t h k (by omega)
def outL : Option (Lp (List Int × List Int × List Int × Int) (Int × List Int × List Int × List Int × Int)) → Int × List Int × List Int × List Int × Int
  | some (.brk q) => (1, q)
  | some (.ret q) => q
  | none => (0, [], [], [], 0)
noncomputable def runO (x : List I4) (fk : List Int → List Int → List Int × List Int) (r c m : List Int) (n : Int) : Int × List Int × List Int × List Int × Int :=
  outL (runP x fk (c, m, n) (x.length + 1) ⟨r, c, m, n, [], 0⟩)
theorem inv0' {x : List I4} {r c m : List Int} {n : Int} (hr : VL 4 65535 r) (hc : VL 8 65535 c) (hm : VL 8 65536 m) (hn : 0 ≤ n ∧ n ≤ 65535) : RInv x ⟨r, c, m, n, [], 0⟩ :=
  ⟨Nat.zero_le _, hr, hc, hm, hn, rfl, fun j hj => by cases hj⟩
theorem runO_ok {x : List I4} {fk : List Int → List Int → List Int × List Int} (hC : CodeP x) (hfk : forkB x = true → ∀ r c, VL 4 65535 r → VL 8 65535 c → VL 4 65535 (fk r c).1 ∧ VL 8 65535 (fk r c).2)
    {r c m : List Int} {n : Int} (hr : VL 4 65535 r) (hc : VL 8 65535 c) (hm : VL 8 65536 m) (hn : 0 ≤ n ∧ n ≤ 65535) :
    ((runO x fk r c m n).1 = 1 ∨ ((runO x fk r c m n).1 = 2 ∧ (runO x fk r c m n).2.2 = (c, m, n))) ∧ VL 4 65535 (runO x fk r c m n).2.1 ∧ VL 8 65535 (runO x fk r c m n).2.2.1 ∧ VL 8 65536 (runO x fk r c m n).2.2.2.1 ∧ 0 ≤ (runO x fk r c m n).2.2.2.2 ∧ (runO x fk r c m n).2.2.2.2 ≤ 65535 := by
  obtain ⟨q, h1, h2⟩ := runP_tot (fk := fk) (c, m, n) hC hfk (x.length + 1) _ (inv0' hr hc hm hn) (by show x.length < 0 + (x.length + 1); omega)
  unfold runO
  rw [h1]
  cases q with
  | brk q => exact ⟨.inl rfl, h2⟩
  | ret q =>
    obtain ⟨a1, a2, a3⟩ := h2
    refine ⟨.inr ⟨a1, a3⟩, a2, ?_⟩
    show VL 8 65535 q.2.2.1 ∧ VL 8 65536 q.2.2.2.1 ∧ 0 ≤ q.2.2.2.2 ∧ q.2.2.2.2 ≤ 65535
    rw [a3]; exact ⟨hc, hm, hn⟩
theorem bL4 {A B C D δ : Type} (q : A × B × C × D) (f : A → B → C → D → Option δ) : ((some (Lp.brk q)).bind <| contL <| un4 f) = f q.1 q.2.1 q.2.2.1 q.2.2.2 := rfl
theorem bL4r {A B C D δ : Type} (q : δ) (f : A → B → C → D → Option δ) : ((some (Lp.ret q)).bind <| contL <| un4 f) = some q := rfl
theorem p_serial_S {F : Nat} {x : List I4} {kids : List KidD} {ord : List Int} {rcf : List I4 → List KidD → List Int → List Int → List Int → List Int → Int → Option (Int × List Int × List Int × List Int × Int)}
    {fk : List Int → List Int → List Int × List Int} (hC : CodeP x) (hF : 24 < F)
    (hfk : forkB x = true → ∀ r c, VL 4 65535 r → VL 8 65535 c → VL 4 65535 (fk r c).1 ∧ VL 8 65535 (fk r c).2)
    (HF : forkB x = true → ∀ r c m n q pc, VL 4 65535 r → VL 8 65535 c → ((m_impl_fullOrder F ord (kids.length : Int)).bind fun y16 => m_impl_serial_L1 F kids rcf r y16 r c m n q pc F r c 0) = some (.brk ((fk r c).1, (fk r c).2, m, n, q, pc)))
    {r c m : List Int} {n : Int} (hr : VL 4 65535 r) (hc : VL 8 65535 c) (hm : VL 8 65536 m) (hn : 0 ≤ n ∧ n ≤ 65535) :
    m_impl_serial_S rcf F x kids ord r c m n = some (runO x fk r c m n) := by
  have r1 := hr.1
  have c1 := hc.1
  have m1 := hm.1
  have hl := hC.1
  obtain ⟨q, h1, h2⟩ := runP_tot (fk := fk) (c, m, n) hC hfk (x.length + 1) _ (inv0' hr hc hm hn) (by show x.length < 0 + (x.length + 1); omega)
  have hL := p_run_L F x kids ord c m n rcf m n fk hC hF c1 m1 hfk HF F _ (inv0' hr hc hm hn)
  rw [runP_mono _ _ h1 F (by omega)] at hL
  unfold m_impl_serial_S
  rw [p_copyInts F r (by omega), Option.bind_some, p_copyThings F c m n (by omega) (by omega), bB3]
  have hL' : m_impl_serial_L0 F x kids ord c m n rcf m n F r c m n ([] : List MarkD) 0 = some q := hL
  rw [hL']
  unfold runO
  rw [h1]
  cases q with
  | brk q => exact bL4 _ _
  | ret q => exact bL4r _ _
theorem s_walk_S {F : Nat} {x : List I4} {kids : List KidD} {ord : List Int} {rcf : List I4 → List KidD → List Int → List Int → List Int → List Int → Int → Option (Int × List Int × List Int × List Int × Int)}
    {fk : List Int → List Int → List Int × List Int} (hC : CodeP x) (hF : 24 < F)
    (hfk : forkB x = true → ∀ r c, VL 4 65535 r → VL 8 65535 c → VL 4 65535 (fk r c).1 ∧ VL 8 65535 (fk r c).2)
    (HF : forkB x = true → kids.length ≤ 1048576 ∧ ∀ r c m n q pc, VL 4 65535 r → VL 8 65535 c → VL 8 65536 m → 0 ≤ n ∧ n ≤ 65535 → (bind4 (m_spec_l7Walk_L1 F kids ord rcf r q pc F c m n (List.replicate ((kids.length : Int) : Int).toNat (0 : Int)) 0) fun z17 z18 z19 z20 => m_spec_l7Walk_L2 F kids r c q pc z17 z18 z19 z20 F r 0) = some (.brk ((fk r c).1, (fk r c).2, m, n, q, pc + 1)))
    {r c m : List Int} {n : Int} (hr : VL 4 65535 r) (hc : VL 8 65535 c) (hm : VL 8 65536 m) (hn : 0 ≤ n ∧ n ≤ 65535) :
    m_spec_l7Walk_S rcf F x kids ord r c m n = some (runO x fk r c m n) := by
  have r1 := hr.1
  have c1 := hc.1
  have m1 := hm.1
  have hl := hC.1
  obtain ⟨q, h1, h2⟩ := runP_tot (fk := fk) (c, m, n) hC hfk (x.length + 1) _ (inv0' hr hc hm hn) (by show x.length < 0 + (x.length + 1); omega)
  have hL := s_run_L F x kids ord r c m n rcf fk hC hF hfk HF F _ (inv0' hr hc hm hn)
  rw [runP_mono _ _ h1 F (by omega)] at hL
  unfold m_spec_l7Walk_S
  rw [p_l7Copy F c m n (by omega) (by omega), bB3, if_pos (by rw [List.length_nil]; omega), bB3, List.nil_append]
  have hL' : m_spec_l7Walk_L0 F x kids ord r rcf c m n F r c m n ([] : List MarkD) 0 = some q := hL
  rw [hL']
  unfold runO
  rw [h1]
  cases q with
  | brk q => exact bL4 _ _
  | ret q => exact bL4r _ _

/-! A kid's run: it does not look at the map and the count. -/
open Classical in
theorem kid_ops {x : List I4} (h : kidB x = true) : CodeP x ∧ forkB x = false ∧ ∀ o ∈ x, o.a ≤ 10 := by
  unfold kidB at h
  rw [Bool.and_eq_true, decide_eq_true_eq] at h
  obtain ⟨hC, hk⟩ := h
  have hk := List.all_eq_true.1 hk
  have h11 : ∀ o ∈ x, o.a ≤ 10 := fun o ho => by
    have h1 := hk o ho
    unfold kidO at h1
    simp only [Bool.and_eq_true, Bool.not_eq_true', decide_eq_false_iff_not] at h1
    obtain ⟨i, hi, he⟩ := List.getElem_of_mem ho
    have hop := hC.op hi
    rw [he] at hop
    have ht : tchF o.a o.b o.c o.d = if o.a = 5 ∨ o.a = 6 then 1 else if o.a = 12 ∨ o.a = 13 ∨ o.a = 14 ∨ o.a = 15 ∨ o.a = 16 then 2 else 0 := by
      unfold tchF; rw [if_pos (show opB o.a o.b o.c o.d = true from hop)]
    have h2 := h1.2
    rw [ht] at h2
    rcases opC_cases hop with g | g | g | g | g | g | g | g | g | g | g | g | g | g
    all_goals first
      | omega
      | (rw [if_neg (by omega), if_pos (by omega)] at h2; exact absurd rfl h2)
  refine ⟨hC, ?_, h11⟩
  unfold forkB
  rw [Bool.not_eq_false', List.all_eq_true]
  intro o ho
  have := h11 o ho
  simp; omega
def reM (m : List Int) (n : Int) (q : MarkD) : MarkD := ⟨q.at_, q.regs, q.cells, m, n⟩
def reS (m : List Int) (n : Int) (s : RS) : RS := ⟨s.regs, s.cells, m, n, s.marks.map (reM m n), s.pc⟩
theorem stp_re {x : List I4} {fk : List Int → List Int → List Int × List Int} {m : List Int} {n : Int} {s : RS} {o : I4} (h : o.a ≤ 10) : stp x fk (reS m n s) o = (stp x fk s o).map (reS m n) := by
  unfold stp
  have e1 : (reS m n s).regs = s.regs := rfl
  have e2 : (reS m n s).cells = s.cells := rfl
  have e3 : (reS m n s).pc = s.pc := rfl
  have e4 : (reS m n s).marks = s.marks.map (reM m n) := rfl
  have e5 : (reS m n s).map = m := rfl
  have e6 : (reS m n s).count = n := rfl
  rw [e1, e2, e3, e4, e5, e6, List.getLast?_map]
  by_cases h5 : o.a = 5
  · rw [if_pos h5, if_pos h5]; rfl
  rw [if_neg h5, if_neg h5]
  by_cases h6 : o.a = 6
  · rw [if_pos h6, if_pos h6]; rfl
  rw [if_neg h6, if_neg h6]
  by_cases h7 : o.a = 7
  · rw [if_pos h7, if_pos h7]; rfl
  rw [if_neg h7, if_neg h7]
  by_cases h8 : o.a = 8
  · rw [if_pos h8, if_pos h8]
    simp only [Option.map_some, reS, List.map_append, List.map_cons, List.map_nil, reM]
  rw [if_neg h8, if_neg h8]
  by_cases h9 : o.a = 9
  · rw [if_pos h9, if_pos h9]
    cases s.marks.getLast? with
    | none => rfl
    | some q => simp only [Option.map_some, reS, List.map_dropLast, reM]
  rw [if_neg h9, if_neg h9]
  by_cases h10 : o.a = 10
  · rw [if_pos h10, if_pos h10]
    cases s.marks.getLast? with
    | none => rfl
    | some q => simp only [Option.map_some, reS, List.map_dropLast, reM]
  rw [if_neg h10, if_neg h10]
  rw [if_neg (by omega), if_neg (by omega), if_neg (by omega), if_neg (by omega), if_neg (by omega), if_neg (by omega), if_neg (by omega), if_neg (by omega), if_neg (by omega), if_neg (by omega), if_neg (by omega), if_neg (by omega)]
  rfl
def reL (m : List Int) (n : Int) : Lp (List Int × List Int × List Int × Int) (Int × List Int × List Int × List Int × Int) → Lp (List Int × List Int × List Int × Int) (Int × List Int × List Int × List Int × Int)
  | .brk q => .brk (q.1, q.2.1, m, n)
  | .ret q => .ret (q.1, q.2.1, q.2.2.1, m, n)
theorem runP_re {x : List I4} {fk : List Int → List Int → List Int × List Int} {c0 m0 m : List Int} {n0 n : Int} (hx : ∀ o ∈ x, o.a ≤ 10) : ∀ K s, runP x fk (c0, m, n) K (reS m n s) = (runP x fk (c0, m0, n0) K s).map (reL m n) := by
  intro K
  induction K with
  | zero => intro s; rfl
  | succ K ih =>
    intro s
    rw [runP, runP]
    show (match x[s.pc]? with | none => _ | some o => _) = _
    cases ho : x[s.pc]? with
    | none => rfl
    | some o =>
      dsimp only
      rw [stp_re (hx o (List.mem_of_getElem? ho))]
      cases stp x fk s o with
      | none => rfl
      | some t => exact ih t
/-- What a kid does to registers and cells. -/
noncomputable def kidQ (x : List I4) (r c : List Int) : Int × List Int × List Int := ((runO x (fun r c => (r, c)) r c (List.replicate 8 0) 0).1, (runO x (fun r c => (r, c)) r c (List.replicate 8 0) 0).2.1, (runO x (fun r c => (r, c)) r c (List.replicate 8 0) 0).2.2.1)
theorem kid_run {x : List I4} (h : kidB x = true) {r c m : List Int} {n : Int} (hr : VL 4 65535 r) (hc : VL 8 65535 c) (hm : VL 8 65536 m) (hn : 0 ≤ n ∧ n ≤ 65535) :
    runO x (fun r c => (r, c)) r c m n = ((kidQ x r c).1, (kidQ x r c).2.1, (kidQ x r c).2.2, m, n) := by
  obtain ⟨hC, hf, hx⟩ := kid_ops h
  have hf' : forkB x = true → ∀ r c : List Int, VL 4 65535 r → VL 8 65535 c → VL 4 65535 ((fun r c => (r, c)) r c : List Int × List Int).1 ∧ VL 8 65535 ((fun r c => (r, c)) r c : List Int × List Int).2 := fun q => by rw [hf] at q; cases q
  have h8 := VL.rep 8 (b := 65536) (by decide)
  obtain ⟨q, h1, h2⟩ := runP_tot (fk := fun r c => (r, c)) (c, List.replicate 8 0, 0) hC hf' (x.length + 1) _ (inv0' hr hc h8 (n := 0) (by decide)) (by show x.length < 0 + (x.length + 1); omega)
  have hre := runP_re (x := x) (fk := fun r c => (r, c)) (c0 := c) (m0 := List.replicate 8 0) (n0 := 0) (m := m) (n := n) hx (x.length + 1) ⟨r, c, List.replicate 8 0, 0, [], 0⟩
  have hre' : runP x (fun r c => (r, c)) (c, m, n) (x.length + 1) ⟨r, c, m, n, [], 0⟩ = _ := hre
  unfold kidQ runO
  rw [hre', h1]
  cases q with
  | brk q => rfl
  | ret q => rfl
theorem kidQ_ok {x : List I4} (h : kidB x = true) {r c : List Int} (hr : VL 4 65535 r) (hc : VL 8 65535 c) : ((kidQ x r c).1 = 1 ∨ ((kidQ x r c).1 = 2 ∧ (kidQ x r c).2.2 = c)) ∧ VL 4 65535 (kidQ x r c).2.1 ∧ VL 8 65535 (kidQ x r c).2.2 := by
  obtain ⟨hC, hf, hx⟩ := kid_ops h
  have h8 := VL.rep 8 (b := 65536) (by decide)
  obtain ⟨a1, a2, a3, _⟩ := runO_ok (fk := fun r c => (r, c)) hC (fun q => by rw [hf] at q; cases q) hr hc h8 (n := 0) (by decide)
  refine ⟨?_, a2, a3⟩
  rcases a1 with a1 | ⟨a1, a4⟩
  · exact .inl a1
  · refine .inr ⟨a1, ?_⟩
    show (runO x (fun r c => (r, c)) r c (List.replicate 8 0) 0).2.2.1 = c
    rw [a4]
theorem p_kid {F : Nat} {x : List I4} {rcf} (h : kidB x = true) (hF : 24 < F) {r c m : List Int} {n : Int} (hr : VL 4 65535 r) (hc : VL 8 65535 c) (hm : VL 8 65536 m) (hn : 0 ≤ n ∧ n ≤ 65535) :
    m_impl_serial_S rcf F x [] [] r c m n = some ((kidQ x r c).1, (kidQ x r c).2.1, (kidQ x r c).2.2, m, n) := by
  obtain ⟨hC, hf, _⟩ := kid_ops h
  rw [p_serial_S (fk := fun r c => (r, c)) hC hF (fun q => by rw [hf] at q; cases q) (fun q => by rw [hf] at q; cases q) hr hc hm hn, kid_run h hr hc hm hn]
theorem s_kid {F : Nat} {x : List I4} {rcf} (h : kidB x = true) (hF : 24 < F) {r c m : List Int} {n : Int} (hr : VL 4 65535 r) (hc : VL 8 65535 c) (hm : VL 8 65536 m) (hn : 0 ≤ n ∧ n ≤ 65535) :
    m_spec_l7Walk_S rcf F x [] [] r c m n = some ((kidQ x r c).1, (kidQ x r c).2.1, (kidQ x r c).2.2, m, n) := by
  obtain ⟨hC, hf, _⟩ := kid_ops h
  rw [s_walk_S (fk := fun r c => (r, c)) hC hF (fun q => by rw [hf] at q; cases q) (fun q => by rw [hf] at q; cases q) hr hc hm hn, kid_run h hr hc hm hn]

/-! Runs of a kid alone. -/
theorem bB5 {A B C D E δ : Type} (a : A) (b : B) (c : C) (d : D) (e : E) (f : A → B → C → D → E → Option δ) : bind5 (some (a, b, c, d, e)) f = f a b c d e := rfl
end Go.Proofs.Ytknghnmcckjjbaa
