/- Both runs are the plain one. -/
import Derived.Test.YtknghnmcckjjbaaPRun
namespace Go.Proofs.Ytknghnmcckjjbaa
open Go Go.RowKit
set_option linter.unusedVariables false
set_option linter.unusedSimpArgs false

theorem tm_b {n : Int} (h : 0 ≤ n) : 0 ≤ n.tmod 65536 ∧ n.tmod 65536 ≤ 65535 := by
  have := Int.tmod_nonneg 65536 h
  have := Int.tmod_lt_of_pos n (show (0 : Int) < 65536 by decide)
  omega
theorem calcV_b {o : I4} {r : List Int} (hr : VL 4 65535 r) (h : opC o = true) (h4 : 1 ≤ o.a ∧ o.a ≤ 4) : 0 ≤ calcV o r ∧ calcV o r ≤ 65535 := by
  rcases opC_cases h with ⟨h1, _, h3⟩ | ⟨h1, _, h3, h4⟩ | h1 | h1 | h1 | h1 | h1 | h1 | h1 | h1 | h1 | h1 | h1 | h1
  · unfold calcV; rw [if_pos h1]; exact h3
  · have b1 := (hr.gt h3.1 h3.2).2
    have b2 := (hr.gt h4.1 h4.2).2
    unfold calcV
    rw [if_neg (by omega)]
    split
    · exact tm_b (by omega)
    · split
      · exact tm_b (by omega)
      · split <;> omega
  all_goals omega
theorem CodeP.op {x : List I4} (hC : CodeP x) {i : Nat} (hi : i < x.length) : opC x[i] = true := (hC.2.2 i (Nat.zero_le _) hi hi).1
theorem last_ok {x : List I4} {s : RS} (h : RInv x s) {q : MarkD} (hq : s.marks.getLast? = some q) : MkOk x s.pc (s.marks.length - 1) q := by
  obtain ⟨h1, h2⟩ := last_at hq
  rw [show ((s.marks.length : Int) - 1) = ((s.marks.length - 1 : Nat) : Int) by omega, at?_nat] at h1
  have := h.k (s.marks.length - 1) (by omega)
  rw [List.getElem_eq_iff (by omega) |>.2 h1] at this
  exact this
/-- The block that a mark names. -/
theorem mark_b {x : List I4} (hC : CodeP x) {pc j : Nat} {q : MarkD} (h : MkOk x pc j q) : ∃ o : I4, at? x q.at_ = some o ∧ bAt x q.at_ = o.b ∧ 0 ≤ o.b ∧ o.b < 4 := by
  obtain ⟨i, e, _, ⟨hi, h8⟩, _⟩ := h.ix
  have h1 : at? x q.at_ = some x[i] := by rw [e]; exact at?_lt hi
  refine ⟨x[i], h1, by unfold bAt; rw [h1], ?_⟩
  have := opC_cases (hC.op hi)
  omega
theorem mark_e {x : List I4} (hC : CodeP x) {F pc j : Nat} (hF : 24 < F) (hpc : pc ≤ x.length) {q : MarkD} (h : MkOk x pc j q) :
    ∃ e : Nat, m_impl_EndOf F x q.at_ = some (e : Int) ∧ IsEnd x q.at_.toNat e ∧ pc ≤ e ∧ endP x q.at_.toNat = e ∧ dF x (e + 1) = (j : Int) ∧ ∀ k, pc < k → k ≤ e → (j : Int) < dF x k := by
  obtain ⟨i, e, h1, ⟨hi, h8⟩, h3, h4⟩ := h.ix
  have hl := hC.1
  obtain ⟨n, n1, n2⟩ := p_EndI F x (by omega) (by omega) i hi h8 (bal_pos hC.2.1 i (by omega)) hC.2.1.2
  obtain ⟨m1, m2, m3, m4⟩ := n2
  have hpe : pc ≤ n := by
    rcases Nat.lt_or_ge n pc with g | g
    · have := h4 (n + 1) (by omega) (by omega); omega
    · exact g
  have et : q.at_.toNat = i := by rw [e]; simp
  exact ⟨n, by rw [e]; exact n1, by rw [et]; exact ⟨m1, m2, m3, m4⟩, hpe, by rw [et]; exact endP_eq ⟨m1, m2, m3, m4⟩, by omega, fun k k1 k2 => by have := m4 k (by omega) k2; omega⟩
theorem fork_of {x : List I4} {n : Nat} (hn : n < x.length) (h : x[n].a = 11) : forkB x = true := by
  unfold forkB
  rw [Bool.not_eq_true', List.all_eq_false]
  exact ⟨x[n], List.getElem_mem hn, by simp [h]⟩

/-! One step, by the operation. -/
theorem stpC {x : List I4} {fk : List Int → List Int → List Int × List Int} {s : RS} {o : I4} (h : 1 ≤ o.a ∧ o.a ≤ 4) : stp x fk s o = some ⟨s.regs.set o.b.toNat (calcV o s.regs), s.cells, s.map, s.count, s.marks, s.pc + 1⟩ := by
  unfold stp
  rw [if_neg (by omega), if_neg (by omega), if_neg (by omega), if_neg (by omega), if_neg (by omega), if_neg (by omega), if_neg (by omega), if_neg (by omega), if_neg (by omega), if_neg (by omega), if_neg (by omega), if_neg (by omega)]
theorem stp5 {x : List I4} {fk : List Int → List Int → List Int × List Int} {s : RS} {o : I4} (h : o.a = 5) : stp x fk s o = some ⟨s.regs.set o.b.toNat (gI s.cells o.c), s.cells, s.map, s.count, s.marks, s.pc + 1⟩ := by simp only [stp, h, Int.reduceEq, ↓reduceIte]
theorem stp6 {x : List I4} {fk : List Int → List Int → List Int × List Int} {s : RS} {o : I4} (h : o.a = 6) : stp x fk s o = some ⟨s.regs, s.cells.set o.b.toNat (gI s.regs o.c), s.map, s.count, s.marks, s.pc + 1⟩ := by simp only [stp, h, Int.reduceEq, ↓reduceIte]
theorem stp7z {x : List I4} {fk : List Int → List Int → List Int × List Int} {s : RS} {o : I4} (h : o.a = 7) (hz : gI s.regs o.b = 0) : stp x fk s o = some ⟨s.regs, s.cells, s.map, s.count, s.marks, s.pc + 1 + o.c.toNat⟩ := by simp only [stp, h, Int.reduceEq, ↓reduceIte, hz]
theorem stp7n {x : List I4} {fk : List Int → List Int → List Int × List Int} {s : RS} {o : I4} (h : o.a = 7) (hz : ¬ gI s.regs o.b = 0) : stp x fk s o = some ⟨s.regs, s.cells, s.map, s.count, s.marks, s.pc + 1⟩ := by simp only [stp, h, Int.reduceEq, ↓reduceIte, hz]
theorem stp8 {x : List I4} {fk : List Int → List Int → List Int × List Int} {s : RS} {o : I4} (h : o.a = 8) : stp x fk s o = some ⟨s.regs, s.cells, s.map, s.count, s.marks ++ [⟨(s.pc : Int), s.regs, s.cells, s.map, s.count⟩], s.pc + 1⟩ := by simp only [stp, h, Int.reduceEq, ↓reduceIte]
theorem stp9 {x : List I4} {fk : List Int → List Int → List Int × List Int} {s : RS} {o : I4} (h : o.a = 9) {q : MarkD} (hq : s.marks.getLast? = some q) : stp x fk s o = some ⟨s.regs.set (bAt x q.at_).toNat 1, s.cells, s.map, s.count, s.marks.dropLast, s.pc + 1⟩ := by simp only [stp, h, Int.reduceEq, ↓reduceIte, hq]
theorem stp10 {x : List I4} {fk : List Int → List Int → List Int × List Int} {s : RS} {o : I4} (h : o.a = 10) {q : MarkD} (hq : s.marks.getLast? = some q) : stp x fk s o = some ⟨q.regs.set (bAt x q.at_).toNat 0, q.cells, q.map, q.count, s.marks.dropLast, endP x q.at_.toNat + 1⟩ := by simp only [stp, h, Int.reduceEq, ↓reduceIte, hq]
theorem stp10n {x : List I4} {fk : List Int → List Int → List Int × List Int} {s : RS} {o : I4} (h : o.a = 10) (hq : s.marks.getLast? = none) : stp x fk s o = none := by simp only [stp, h, Int.reduceEq, ↓reduceIte, hq]
theorem stp11 {x : List I4} {fk : List Int → List Int → List Int × List Int} {s : RS} {o : I4} (h : o.a = 11) : stp x fk s o = some ⟨(fk s.regs s.cells).1, (fk s.regs s.cells).2, s.map, s.count, s.marks, s.pc + 1⟩ := by simp only [stp, h, Int.reduceEq, ↓reduceIte]
theorem stp12 {x : List I4} {fk : List Int → List Int → List Int × List Int} {s : RS} {o : I4} (h : o.a = 12) : stp x fk s o = some ⟨s.regs.set o.d.toNat ((gI s.map o.b).tmod 65536), s.cells, s.map.set o.b.toNat (gI s.regs o.c + 1), s.count, s.marks, s.pc + 1⟩ := by simp only [stp, h, Int.reduceEq, ↓reduceIte]
theorem stp13 {x : List I4} {fk : List Int → List Int → List Int × List Int} {s : RS} {o : I4} (h : o.a = 13) : stp x fk s o = some ⟨s.regs.set o.b.toNat ((gI s.map o.c).tmod 65536), s.cells, s.map, s.count, s.marks, s.pc + 1⟩ := by simp only [stp, h, Int.reduceEq, ↓reduceIte]
theorem stp14 {x : List I4} {fk : List Int → List Int → List Int × List Int} {s : RS} {o : I4} (h : o.a = 14) : stp x fk s o = some ⟨s.regs.set o.c.toNat ((gI s.map o.b).tmod 65536), s.cells, s.map.set o.b.toNat 0, s.count, s.marks, s.pc + 1⟩ := by simp only [stp, h, Int.reduceEq, ↓reduceIte]
theorem stp15 {x : List I4} {fk : List Int → List Int → List Int × List Int} {s : RS} {o : I4} (h : o.a = 15) : stp x fk s o = some ⟨s.regs, s.cells, s.map, (s.count + gI s.regs o.b).tmod 65536, s.marks, s.pc + 1⟩ := by simp only [stp, h, Int.reduceEq, ↓reduceIte]
theorem stp16 {x : List I4} {fk : List Int → List Int → List Int × List Int} {s : RS} {o : I4} (h : o.a = 16) : stp x fk s o = some ⟨s.regs.set o.b.toNat s.count, s.cells, s.map, s.count, s.marks, s.pc + 1⟩ := by simp only [stp, h, Int.reduceEq, ↓reduceIte]
/-- A step keeps what holds, and goes on in the code. -/
theorem stp_ok {x : List I4} {fk : List Int → List Int → List Int × List Int} (hC : CodeP x) (hfk : forkB x = true → ∀ r c, VL 4 65535 r → VL 8 65535 c → VL 4 65535 (fk r c).1 ∧ VL 8 65535 (fk r c).2) {s : RS} (h : RInv x s) (hp : s.pc < x.length) :
    ∃ o, x[s.pc] = o ∧ opC o = true ∧ ((stp x fk s o = none ∧ o.a = 10 ∧ s.marks = []) ∨ ∃ s', stp x fk s o = some s' ∧ RInv x s' ∧ s.pc < s'.pc) := by
  have hS := hC.2.2 s.pc (Nat.zero_le _) hp hp
  have hs := dF_succ hp
  have hl := hC.1
  have hd0 := bal_pos hC.2.1 (s.pc + 1) (by omega)
  have hk7 : x[s.pc].a = 7 → _ := fun h7 => skip_go hp h7 (by have := opC_cases hS.1; omega) (hS.2.1 h7)
  have hkf : x[s.pc].a = 11 → forkB x = true := fun h11 => fork_of hp h11
  refine ⟨x[s.pc], rfl, hS.1, ?_⟩
  generalize ho : x[s.pc] = o at *
  have hop := hS.1
  have adv : opn o = 0 → ∀ {r c m : List Int} {n : Int}, VL 4 65535 r → VL 8 65535 c → VL 8 65536 m → 0 ≤ n ∧ n ≤ 65535 → RInv x ⟨r, c, m, n, s.marks, s.pc + 1⟩ := fun h0 {r c m n} hr hc hm hn =>
    h.go (by omega) (by omega) (by omega) (fun k k1 k2 => by
      have : k = s.pc + 1 := by omega
      subst this; omega) hr hc hm hn
  have op0 : o.a ≠ 8 → o.a ≠ 9 → opn o = 0 := fun h8 h9 => by unfold opn; rw [if_neg h8, if_neg h9]
  rcases opC_cases hop with ⟨h1, h2, h3⟩ | ⟨h1, h2, h3, h4⟩ | ⟨h1, h2, h3⟩ | ⟨h1, h2, h3⟩ | ⟨h1, h2, h3⟩ | ⟨h1, h2⟩ | h1 | h1 | h1 | ⟨h1, h2, h3, h4⟩ | ⟨h1, h2, h3⟩ | ⟨h1, h2, h3⟩ | ⟨h1, h2⟩ | ⟨h1, h2⟩
  · have hc := calcV_b h.r hop (by omega)
    exact .inr ⟨_, stpC (by omega), adv (op0 (by omega) (by omega)) (h.r.st _ hc.1 hc.2) h.c h.m h.n, Nat.lt_succ_self _⟩
  · have hc := calcV_b h.r hop (by omega)
    exact .inr ⟨⟨s.regs.set o.b.toNat (calcV o s.regs), s.cells, s.map, s.count, s.marks, s.pc + 1⟩, stpC (by omega), adv (op0 (by omega) (by omega)) (h.r.st _ hc.1 hc.2) h.c h.m h.n, Nat.lt_succ_self _⟩
  · have hc := (h.c.gt h3.1 h3.2).2
    exact .inr ⟨_, stp5 h1, adv (op0 (by omega) (by omega)) (h.r.st _ hc.1 hc.2) h.c h.m h.n, Nat.lt_succ_self _⟩
  · have hc := (h.r.gt h3.1 h3.2).2
    exact .inr ⟨_, stp6 h1, adv (op0 (by omega) (by omega)) h.r (h.c.st _ hc.1 hc.2) h.m h.n, Nat.lt_succ_self _⟩
  · have hk := hk7 h1
    by_cases hz : gI s.regs o.b = 0
    · exact .inr ⟨_, stp7z h1 hz, h.go (by omega) hk.1 hk.2.1 hk.2.2 h.r h.c h.m h.n, by show s.pc < s.pc + 1 + o.c.toNat; omega⟩
    · exact .inr ⟨_, stp7n h1 hz, adv (op0 (by omega) (by omega)) h.r h.c h.m h.n, Nat.lt_succ_self _⟩
  · have h1n : opn o = 1 := by unfold opn; rw [if_pos h1]
    have hd := h.d
    refine .inr ⟨_, stp8 h1, ⟨by show s.pc + 1 ≤ x.length; omega, h.r, h.c, h.m, h.n, ?_, ?_⟩, Nat.lt_succ_self _⟩
    · show (((s.marks ++ [_]).length : Nat) : Int) = dF x (s.pc + 1)
      rw [List.length_append, List.length_singleton]; omega
    · intro j hj
      have hj' : j < s.marks.length + 1 := by simpa using hj
      by_cases hq : j < s.marks.length
      · have := (h.k j hq).up (pc' := s.pc + 1) (by omega) (fun k k1 k2 => by
          have : k = s.pc + 1 := by omega
          subst this; omega)
        show MkOk x (s.pc + 1) j ((s.marks ++ [_])[j])
        rw [List.getElem_append_left hq]; exact this
      · have : j = s.marks.length := by omega
        subst this
        show MkOk x (s.pc + 1) s.marks.length ((s.marks ++ [_])[s.marks.length])
        rw [List.getElem_append_right (by omega)]
        simp only [Nat.sub_self, List.getElem_cons_zero]
        exact ⟨⟨s.pc, rfl, by omega, ⟨hp, by rw [ho]; exact h1⟩, by omega, fun k k1 k2 => by
          have : k = s.pc + 1 := by omega
          subst this; omega⟩, h.r, h.c, h.m, h.n⟩
  · have h1n : opn o = -1 := by unfold opn; rw [if_neg (by omega), if_pos h1]
    have hd := h.d
    cases hq : s.marks.getLast? with
    | none => have := List.getLast?_eq_none_iff.1 hq; rw [this] at hd; simp at hd; omega
    | some q =>
      refine .inr ⟨_, stp9 h1 hq, ⟨by show s.pc + 1 ≤ x.length; omega, h.r.st _ (by decide) (by decide), h.c, h.m, h.n, ?_, ?_⟩, Nat.lt_succ_self _⟩
      · show ((s.marks.dropLast.length : Nat) : Int) = dF x (s.pc + 1)
        rw [List.length_dropLast]; omega
      · intro j hj
        have hj' : j < s.marks.length - 1 := by simpa using hj
        show MkOk x (s.pc + 1) j (s.marks.dropLast[j])
        rw [List.getElem_dropLast]
        exact (h.k j (by omega)).up (by omega) (fun k k1 k2 => by
          have : k = s.pc + 1 := by omega
          subst this; omega)
  · cases hq : s.marks.getLast? with
    | none => exact .inl ⟨stp10n h1 hq, h1, List.getLast?_eq_none_iff.1 hq⟩
    | some q =>
      have hm := last_ok h hq
      obtain ⟨e, e1, e2, e3, e4, e5, e6⟩ := mark_e hC (F := 25) (by omega) h.p hm
      have hlt := e2.2.1
      have hp0 := (last_at hq).2
      refine .inr ⟨⟨q.regs.set (bAt x q.at_).toNat 0, q.cells, q.map, q.count, s.marks.dropLast, e + 1⟩, (stp10 h1 hq).trans (by rw [e4]), ⟨by show e + 1 ≤ x.length; omega, hm.r.st _ (Int.le_refl _) (by decide), hm.c, hm.m, hm.n, ?_, ?_⟩, by show s.pc < e + 1; omega⟩
      · show ((s.marks.dropLast.length : Nat) : Int) = dF x (e + 1)
        rw [List.length_dropLast]; omega
      · intro j hj
        have hj' : j < s.marks.length - 1 := by simpa using hj
        show MkOk x (e + 1) j (s.marks.dropLast[j])
        rw [List.getElem_dropLast]
        exact (h.k j (by omega)).up (by omega) (fun k k1 k2 => by
          by_cases hk : k ≤ e
          · have := e6 k k1 hk; omega
          · have : k = e + 1 := by omega
            subst this; omega)
  · have hf := hfk (hkf h1) s.regs s.cells h.r h.c
    exact .inr ⟨_, stp11 h1, adv (op0 (by omega) (by omega)) hf.1 hf.2 h.m h.n, Nat.lt_succ_self _⟩
  · have hc := tm_b (h.m.gt h2.1 h2.2).2.1
    have hv := (h.r.gt h3.1 h3.2).2
    exact .inr ⟨_, stp12 h1, adv (op0 (by omega) (by omega)) (h.r.st _ hc.1 hc.2) h.c (h.m.st _ (by omega) (by omega)) h.n, Nat.lt_succ_self _⟩
  · have hc := tm_b (h.m.gt h3.1 h3.2).2.1
    exact .inr ⟨_, stp13 h1, adv (op0 (by omega) (by omega)) (h.r.st _ hc.1 hc.2) h.c h.m h.n, Nat.lt_succ_self _⟩
  · have hc := tm_b (h.m.gt h2.1 h2.2).2.1
    exact .inr ⟨_, stp14 h1, adv (op0 (by omega) (by omega)) (h.r.st _ hc.1 hc.2) h.c (h.m.st _ (by omega) (by omega)) h.n, Nat.lt_succ_self _⟩
  · have hv := (h.r.gt h2.1 h2.2).2
    have hn := h.n
    exact .inr ⟨_, stp15 h1, adv (op0 (by omega) (by omega)) h.r h.c h.m (tm_b (by omega)), Nat.lt_succ_self _⟩
  · exact .inr ⟨_, stp16 h1, adv (op0 (by omega) (by omega)) (h.r.st _ h.n.1 h.n.2) h.c h.m h.n, Nat.lt_succ_self _⟩

/-! The implementation's loop. -/
theorem p_copyInts (F : Nat) (x : List Int) (h : x.length ≤ 17179869184) : m_impl_copyInts F x = some x := by
  unfold m_impl_copyInts
  rw [if_pos (by simpa using h), List.nil_append]
theorem p_copyThings (F : Nat) (x y : List Int) (n : Int) (h : x.length ≤ 17179869184) (h2 : y.length ≤ 17179869184) : m_impl_copyThings F x y n = some (x, y, n) := by
  unfold m_impl_copyThings
  rw [p_copyInts F x h, p_copyInts F y h2]; rfl
theorem p_l7Copy (F : Nat) (x y : List Int) (n : Int) (h : x.length ≤ 17179869184) (h2 : y.length ≤ 17179869184) : m_spec_l7Copy F x y n = some (x, y, n) := by
  unfold m_spec_l7Copy
  rw [if_pos (by simpa using h), if_pos (by simpa using h2), List.nil_append, List.nil_append]; rfl
theorem r_Calc {F : Nat} (hF : 4 < F) {o : I4} {r : List Int} (hr : VL 4 65535 r) (h : opC o = true) (h4 : 1 ≤ o.a ∧ o.a ≤ 4) :
    m_impl_Calc F o.a o.b o.c o.d r = some (r.set o.b.toNat (calcV o r), true) := by
  have hl := hr.1
  unfold m_impl_Calc
  rw [p_copyInts F r (by omega), Option.bind_some, p_OpOk, Option.bind_some, if_pos (show opB o.a o.b o.c o.d = true from h), if_neg (by omega), p_areValues F r 4 (by omega) (by omega), Option.bind_some, hr.valsB, if_pos (by rw [hl]; rfl)]
  rcases opC_cases h with ⟨h1, h2, h3⟩ | ⟨h1, h2, h3, h4⟩ | h1 | h1 | h1 | h1 | h1 | h1 | h1 | h1 | h1 | h1 | h1 | h1
  · rw [if_pos h1, (hr.gt h2.1 h2.2).1]
    unfold calcV; rw [if_pos h1]; rfl
  · have g1 := hr.gt h2.1 h2.2
    have g2 := hr.gt h3.1 h3.2
    have g3 := hr.gt h4.1 h4.2
    have hz : at? (r.set o.b.toNat 0) o.b = some 0 := at_setI g1.1
    have i1 : in64 (gI r o.c + gI r o.d) := in64_of (by omega) (by omega)
    have i2 : in64 (gI r o.c - gI r o.d) := in64_of (by omega) (by omega)
    have i3 : in64 (gI r o.c - gI r o.d + 65536) := in64_of (by omega) (by omega)
    have n6 : (65536 : Int) ≠ 0 := by decide
    rcases h1 with h1 | h1 | h1
    · rw [if_neg (by omega), if_pos h1, g2.1, g3.1]
      simp only [Option.bind_some, if_pos i1, if_pos n6, g1.1]
      unfold calcV; rw [if_neg (by omega), if_pos h1]
    · rw [if_neg (by omega), if_neg (by omega), if_pos h1, g2.1, g3.1]
      simp only [Option.bind_some, if_pos i2, if_pos i3, if_pos n6, g1.1]
      unfold calcV; rw [if_neg (by omega), if_neg (by omega), if_pos h1]
    · rw [if_neg (by omega), if_neg (by omega), if_neg (by omega), g1.1, g2.1, g3.1]
      have hv : calcV o r = if gI r o.c < gI r o.d then 1 else 0 := by unfold calcV; rw [if_neg (by omega), if_neg (by omega), if_neg (by omega)]
      rw [hv]
      simp only [Option.bind_some, hz]
      by_cases hc : gI r o.c < gI r o.d
      · simp only [if_pos hc, Option.bind_some, List.set_set]
      · simp only [if_neg hc, Option.bind_some]
  all_goals omega
theorem bM6 {A B C D E G γ δ : Type} (a : A) (b : B) (c : C) (d : D) (e : E) (g : G) (f : A → B → C → D → E → G → Option (Lp γ δ)) : ((some (Lp.brk (a, b, c, d, e, g))).bind <| contM <| un6 f) = f a b c d e g := rfl
theorem p_run_L (F : Nat) (x : List I4) (kids : List KidD) (ord : List Int) (c0 m0 : List Int) (n0 : Int) (rcf : List I4 → List KidD → List Int → List Int → List Int → List Int → Int → Option (Int × List Int × List Int × List Int × Int)) (y3 : List Int) (y4 : Int)
    (fk : List Int → List Int → List Int × List Int) (hC : CodeP x) (hF : 24 < F) (hc0 : c0.length = 8) (hm0 : m0.length = 8)
    (hfk : forkB x = true → ∀ r c, VL 4 65535 r → VL 8 65535 c → VL 4 65535 (fk r c).1 ∧ VL 8 65535 (fk r c).2)
    (HF : forkB x = true → ∀ r c m n q pc, VL 4 65535 r → VL 8 65535 c → ((m_impl_fullOrder F ord (kids.length : Int)).bind fun y16 => m_impl_serial_L1 F kids rcf r y16 r c m n q pc F r c 0) = some (.brk ((fk r c).1, (fk r c).2, m, n, q, pc))) :
    ∀ K s, RInv x s → m_impl_serial_L0 F x kids ord c0 m0 n0 rcf y3 y4 K s.regs s.cells s.map s.count s.marks (s.pc : Int) = runP x fk (c0, m0, n0) K s := by
  intro K
  induction K with
  | zero => intro s h; rfl
  | succ K ih =>
    intro s h
    rw [m_impl_serial_L0, runP]
    by_cases hp : s.pc < x.length
    · obtain ⟨o, ho, hop, hs⟩ := stp_ok hC hfk h hp
      have hkf : o.a = 11 → forkB x = true := fun h11 => fork_of hp (by rw [ho]; exact h11)
      have hl := hC.1
      have hd := h.d
      have hdb := dF_b x s.pc
      have rl := h.r.1
      have cl := h.c.1
      have ml := h.m.1
      rw [if_pos (lt_cast hp), at?_lt hp, List.getElem?_eq_getElem hp, ho, Option.bind_some]
      have key : ∀ (s' : RS) (p : Int) (body : Option (Lp (List Int × List Int × List Int × Int × List MarkD × Int) (Int × List Int × List Int × List Int × Int))), stp x fk s o = some s' → p + 1 = (s'.pc : Int) → body = some (.brk (s'.regs, s'.cells, s'.map, s'.count, s'.marks, p)) →
          (body.bind <| contM <| un6 fun z11 z12 z13 z14 z15 z16 => if in64 (z16 + 1) then m_impl_serial_L0 F x kids ord c0 m0 n0 rcf y3 y4 K z11 z12 z13 z14 z15 (z16 + 1) else none) =
          (match stp x fk s o with | none => some (.ret (2, s.regs, (c0, m0, n0).1, (c0, m0, n0).2.1, (c0, m0, n0).2.2)) | some s' => runP x fk (c0, m0, n0) K s') := by
        intro s' p body e1 e2 e3
        rcases hs with ⟨g1, _⟩ | ⟨t, g1, g2, g3⟩
        · rw [e1] at g1; cases g1
        · rw [e1] at g1; cases g1
          have hpl := g2.p
          rw [e3, bM6, e1, e2, if_pos (in64_of (by omega) (by omega))]
          exact ih s' g2
      have hx : ∀ {q : MarkD}, s.marks.getLast? = some q → in64 ((s.marks.length : Int) - 1) ∧ at? s.marks ((s.marks.length : Int) - 1) = some q ∧ subl s.marks 0 ((s.marks.length : Int) - 1) = s.marks.dropLast ∧ ¬ (s.marks.length : Int) = 0 := fun hq => by
        have := last_at hq
        exact ⟨in64_of (by omega) (by omega), this.1, subl_last this.2, by omega⟩
      have n6 : (65536 : Int) ≠ 0 := by decide
      rcases opC_cases hop with ⟨h1, h2, h3⟩ | ⟨h1, h2, h3, h4⟩ | ⟨h1, h2, h3⟩ | ⟨h1, h2, h3⟩ | ⟨h1, h2, h3⟩ | ⟨h1, h2⟩ | h1 | h1 | h1 | ⟨h1, h2, h3, h4⟩ | ⟨h1, h2, h3⟩ | ⟨h1, h2, h3⟩ | ⟨h1, h2⟩ | ⟨h1, h2⟩
      · have hk := r_Calc (F := F) (by omega) h.r hop (by omega)
        refine key _ (s.pc : Int) _ (stpC (by omega)) rfl ?_
        rw [h1] at hk
        simp only [h1, Int.reduceEq, ↓reduceIte, decide_true, Option.bind_some, hk, bind2]
      · have hk := r_Calc (F := F) (by omega) h.r hop (by omega)
        rcases h1 with h1 | h1 | h1
        all_goals
          refine key _ (s.pc : Int) _ (stpC (by omega)) rfl ?_
          rw [h1] at hk
          simp only [h1, Int.reduceEq, ↓reduceIte, decide_true, Option.bind_some, hk, bind2]
      · refine key _ (s.pc : Int) _ (stp5 h1) rfl ?_
        simp only [h1, Int.reduceEq, ↓reduceIte, decide_false, Bool.false_eq_true, Option.bind_some, m_impl_touch, (h.c.gt h3.1 h3.2).1, (h.r.gt h2.1 h2.2).1, bind4]
      · refine key _ (s.pc : Int) _ (stp6 h1) rfl ?_
        simp only [h1, Int.reduceEq, ↓reduceIte, decide_false, Bool.false_eq_true, Option.bind_some, m_impl_touch, (h.r.gt h3.1 h3.2).1, (h.c.gt h2.1 h2.2).1, bind4]
      · by_cases hz : gI s.regs o.b = 0
        · refine key _ ((s.pc : Int) + o.c) _ (stp7z h1 hz) (by show (s.pc : Int) + o.c + 1 = ((s.pc + 1 + o.c.toNat : Nat) : Int); omega) ?_
          simp only [h1, Int.reduceEq, ↓reduceIte, decide_false, Bool.false_eq_true, Option.bind_some, (h.r.gt h2.1 h2.2).1, hz, if_pos (in64_of (show -4611686018427387904 ≤ (s.pc : Int) + o.c by omega) (by omega))]
        · refine key _ (s.pc : Int) _ (stp7n h1 hz) rfl ?_
          simp only [h1, Int.reduceEq, ↓reduceIte, decide_false, Bool.false_eq_true, Option.bind_some, (h.r.gt h2.1 h2.2).1, if_neg hz]
      · refine key _ (s.pc : Int) _ (stp8 h1) rfl ?_
        simp only [h1, Int.reduceEq, ↓reduceIte, decide_false, Bool.false_eq_true, Option.bind_some, p_copyInts F s.regs (by omega), p_copyThings F s.cells s.map s.count (by omega) (by omega), bind3, if_pos (show s.marks.length + 1 ≤ 17179869184 by omega)]
      · cases hq : s.marks.getLast? with
        | none => 
          rcases hs with ⟨_, g1, _⟩ | ⟨t, g1, _⟩
          · omega
          · unfold stp at g1; simp only [h1, Int.reduceEq, ↓reduceIte, hq] at g1; cases g1
        | some q =>
          obtain ⟨u1, u2, u3, _⟩ := hx hq
          obtain ⟨b, b1, b2, b3⟩ := mark_b hC (last_ok h hq)
          refine key _ (s.pc : Int) _ (stp9 h1 hq) rfl ?_
          simp only [h1, Int.reduceEq, ↓reduceIte, decide_false, Bool.false_eq_true, Option.bind_some, if_pos u1, u2, b1, b2, (h.r.gt b3.1 b3.2).1, u3]
      · cases hq : s.marks.getLast? with
        | none =>
          have hm := List.getLast?_eq_none_iff.1 hq
          have e0 : stp x fk s o = none := stp10n h1 hq
          show _ = (match stp x fk s o with | none => some (Lp.ret (2, s.regs, (c0, m0, n0).1, (c0, m0, n0).2.1, (c0, m0, n0).2.2)) | some s' => runP x fk (c0, m0, n0) K s')
          rw [e0]
          simp only [h1, Int.reduceEq, ↓reduceIte, decide_false, Bool.false_eq_true, Option.bind_some, hm, List.length_nil, Int.natCast_zero, p_copyThings F c0 m0 n0 (by omega) (by omega), bind3]
          rfl
        | some q =>
          obtain ⟨u1, u2, u3, u4⟩ := hx hq
          have hm := last_ok h hq
          obtain ⟨b, b1, b2, b3⟩ := mark_b hC hm
          obtain ⟨e, e1, _, _, e4, _⟩ := mark_e hC (F := F) hF h.p hm
          refine key _ (e : Int) _ (stp10 h1 hq) (by show (e : Int) + 1 = ((endP x q.at_.toNat + 1 : Nat) : Int); omega) ?_
          simp only [h1, Int.reduceEq, ↓reduceIte, decide_false, Bool.false_eq_true, Option.bind_some, if_pos u1, if_neg u4, u2, b1, b2, (hm.r.gt b3.1 b3.2).1, u3, e1]
      · refine key _ (s.pc : Int) _ (stp11 h1) rfl ?_
        simp only [h1, Int.reduceEq, ↓reduceIte, decide_false, Bool.false_eq_true, Option.bind_some, p_copyInts F s.regs (by omega)]
        exact HF (hkf h1) s.regs s.cells s.map s.count s.marks (s.pc : Int) h.r h.c
      · have g1 := h.m.gt h2.1 h2.2
        have g2 := h.r.gt h3.1 h3.2
        refine key _ (s.pc : Int) _ (stp12 h1) rfl ?_
        simp only [h1, Int.reduceEq, ↓reduceIte, decide_false, Bool.false_eq_true, Option.bind_some, m_impl_touch, g1.1, g2.1, (h.r.gt h4.1 h4.2).1, bind4, if_pos n6, if_pos (in64_of (show -4611686018427387904 ≤ gI s.regs o.c + 1 by omega) (by omega))]
      · refine key _ (s.pc : Int) _ (stp13 h1) rfl ?_
        simp only [h1, Int.reduceEq, ↓reduceIte, decide_false, Bool.false_eq_true, Option.bind_some, m_impl_touch, (h.m.gt h3.1 h3.2).1, (h.r.gt h2.1 h2.2).1, bind4, if_pos n6]
      · refine key _ (s.pc : Int) _ (stp14 h1) rfl ?_
        simp only [h1, Int.reduceEq, ↓reduceIte, decide_false, Bool.false_eq_true, Option.bind_some, m_impl_touch, (h.m.gt h2.1 h2.2).1, (h.r.gt h3.1 h3.2).1, bind4, if_pos n6]
      · have g1 := h.r.gt h2.1 h2.2
        have g2 := h.n
        refine key _ (s.pc : Int) _ (stp15 h1) rfl ?_
        simp only [h1, Int.reduceEq, ↓reduceIte, decide_false, Bool.false_eq_true, Option.bind_some, m_impl_touch, g1.1, bind4, if_pos n6, if_pos (in64_of (show -4611686018427387904 ≤ s.count + gI s.regs o.b by omega) (by omega))]
      · refine key _ (s.pc : Int) _ (stp16 h1) rfl ?_
        simp only [h1, Int.reduceEq, ↓reduceIte, decide_false, Bool.false_eq_true, Option.bind_some, m_impl_touch, (h.r.gt h2.1 h2.2).1, bind4]
    · rw [if_neg (ge_cast hp), List.getElem?_eq_none (by omega)]

/-! The reference's loop. -/
theorem s_EndI (F : Nat) (x : List I4) (i : Int) (hl : x.length ≤ 1048576) (hf : x.length < F) {e : Int} (h : m_impl_EndOf F x i = some e) : m_spec_EndOf F x i = some e := by
  obtain ⟨r, h1, h2⟩ := s_EndOf F x i hl hf
  rw [h1] at h; cases h; exact h2
theorem s_CalcI {F : Nat} (hF : 4 < F) {o : I4} {r : List Int} (hr : VL 4 65535 r) (h : opC o = true) (h4 : 1 ≤ o.a ∧ o.a ≤ 4) :
    m_spec_Calc F o.a o.b o.c o.d r = some (r.set o.b.toNat (calcV o r), true) := by
  have hl := hr.1
  obtain ⟨l', b, h1, h2, _⟩ := s_Calc F o.a o.b o.c o.d r (by omega) (by omega)
  rw [r_Calc hF hr h h4] at h1; cases h1; exact h2
theorem bB3 {A B C δ : Type} (a : A) (b : B) (c : C) (f : A → B → C → Option δ) : bind3 (some (a, b, c)) f = f a b c := rfl
theorem s_run_L (F : Nat) (x : List I4) (kids : List KidD) (ord r0 : List Int) (c0 m0 : List Int) (n0 : Int) (rcf : List I4 → List KidD → List Int → List Int → List Int → List Int → Int → Option (Int × List Int × List Int × List Int × Int))
    (fk : List Int → List Int → List Int × List Int) (hC : CodeP x) (hF : 24 < F)
    (hfk : forkB x = true → ∀ r c, VL 4 65535 r → VL 8 65535 c → VL 4 65535 (fk r c).1 ∧ VL 8 65535 (fk r c).2)
    (HF : forkB x = true → kids.length ≤ 1048576 ∧ ∀ r c m n q pc, VL 4 65535 r → VL 8 65535 c → VL 8 65536 m → 0 ≤ n ∧ n ≤ 65535 → (bind4 (m_spec_l7Walk_L1 F kids ord rcf r q pc F c m n (List.replicate ((kids.length : Int) : Int).toNat (0 : Int)) 0) fun z17 z18 z19 z20 => m_spec_l7Walk_L2 F kids r c q pc z17 z18 z19 z20 F r 0) = some (.brk ((fk r c).1, (fk r c).2, m, n, q, pc + 1))) :
    ∀ K s, RInv x s → m_spec_l7Walk_L0 F x kids ord r0 rcf c0 m0 n0 K s.regs s.cells s.map s.count s.marks (s.pc : Int) = runP x fk (c0, m0, n0) K s := by
  intro K
  induction K with
  | zero => intro s h; rfl
  | succ K ih =>
    intro s h
    rw [m_spec_l7Walk_L0, runP]
    by_cases hp : s.pc < x.length
    · obtain ⟨o, ho, hop, hs⟩ := stp_ok hC hfk h hp
      have hkf : o.a = 11 → forkB x = true := fun h11 => fork_of hp (by rw [ho]; exact h11)
      have hl := hC.1
      have hd := h.d
      have hdb := dF_b x s.pc
      have rl := h.r.1
      have cl := h.c.1
      have ml := h.m.1
      rw [if_pos (lt_cast hp), at?_lt hp, List.getElem?_eq_getElem hp, ho, Option.bind_some, if_pos (in64_of (by omega) (by omega))]
      have key : ∀ (s' : RS) (p : Int) (body : Option (Lp (List Int × List Int × List Int × Int × List MarkD × Int) (Int × List Int × List Int × List Int × Int))), stp x fk s o = some s' → p = (s'.pc : Int) → body = some (.brk (s'.regs, s'.cells, s'.map, s'.count, s'.marks, p)) →
          (body.bind <| contM <| un6 fun z11 z12 z13 z14 z15 z16 => m_spec_l7Walk_L0 F x kids ord r0 rcf c0 m0 n0 K z11 z12 z13 z14 z15 z16) =
          (match stp x fk s o with | none => some (.ret (2, s.regs, (c0, m0, n0).1, (c0, m0, n0).2.1, (c0, m0, n0).2.2)) | some s' => runP x fk (c0, m0, n0) K s') := by
        intro s' p body e1 e2 e3
        rcases hs with ⟨g1, _⟩ | ⟨t, g1, g2, g3⟩
        · rw [e1] at g1; cases g1
        · rw [e1] at g1; cases g1
          have hpl := g2.p
          rw [e3, bM6, e1, e2]
          exact ih s' g2
      have hx : ∀ {q : MarkD}, s.marks.getLast? = some q → in64 ((s.marks.length : Int) - 1) ∧ at? s.marks ((s.marks.length : Int) - 1) = some q ∧ subl s.marks 0 ((s.marks.length : Int) - 1) = s.marks.dropLast ∧ ¬ (s.marks.length : Int) = 0 := fun hq => by
        have := last_at hq
        exact ⟨in64_of (by omega) (by omega), this.1, subl_last this.2, by omega⟩
      have n6 : (65536 : Int) ≠ 0 := by decide
      have hpc : (s.pc : Int) + 1 = ((s.pc + 1 : Nat) : Int) := rfl
      rcases opC_cases hop with ⟨h1, h2, h3⟩ | ⟨h1, h2, h3, h4⟩ | ⟨h1, h2, h3⟩ | ⟨h1, h2, h3⟩ | ⟨h1, h2, h3⟩ | ⟨h1, h2⟩ | h1 | h1 | h1 | ⟨h1, h2, h3, h4⟩ | ⟨h1, h2, h3⟩ | ⟨h1, h2, h3⟩ | ⟨h1, h2⟩ | ⟨h1, h2⟩
      · have hk := s_CalcI (F := F) (by omega) h.r hop (by omega)
        refine key _ ((s.pc : Int) + 1) _ (stpC (by omega)) rfl ?_
        rw [h1] at hk
        simp only [h1, Int.reduceEq, ↓reduceIte, decide_true, Option.bind_some, hk, bind2]
      · have hk := s_CalcI (F := F) (by omega) h.r hop (by omega)
        rcases h1 with h1 | h1 | h1
        all_goals
          refine key _ ((s.pc : Int) + 1) _ (stpC (by omega)) rfl ?_
          rw [h1] at hk
          simp only [h1, Int.reduceEq, ↓reduceIte, decide_true, Option.bind_some, hk, bind2]
      · refine key _ ((s.pc : Int) + 1) _ (stp5 h1) rfl ?_
        simp only [h1, Int.reduceEq, ↓reduceIte, Option.bind_some, (h.c.gt h3.1 h3.2).1, (h.r.gt h2.1 h2.2).1]
      · refine key _ ((s.pc : Int) + 1) _ (stp6 h1) rfl ?_
        simp only [h1, Int.reduceEq, ↓reduceIte, Option.bind_some, (h.r.gt h3.1 h3.2).1, (h.c.gt h2.1 h2.2).1]
      · by_cases hz : gI s.regs o.b = 0
        · refine key _ ((s.pc : Int) + 1 + o.c) _ (stp7z h1 hz) (by show (s.pc : Int) + 1 + o.c = ((s.pc + 1 + o.c.toNat : Nat) : Int); omega) ?_
          simp only [h1, Int.reduceEq, ↓reduceIte, Option.bind_some, (h.r.gt h2.1 h2.2).1, hz, if_pos (in64_of (show -4611686018427387904 ≤ (s.pc : Int) + 1 + o.c by omega) (by omega))]
        · refine key _ ((s.pc : Int) + 1) _ (stp7n h1 hz) rfl ?_
          simp only [h1, Int.reduceEq, ↓reduceIte, Option.bind_some, (h.r.gt h2.1 h2.2).1, if_neg hz]
      · refine key _ ((s.pc : Int) + 1) _ (stp8 h1) rfl ?_
        simp only [h1, Int.reduceEq, ↓reduceIte, Option.bind_some, List.nil_append, if_pos (show ([] : List Int).length + s.regs.length ≤ 17179869184 by rw [List.length_nil]; omega), p_l7Copy F s.cells s.map s.count (by omega) (by omega), bind3, if_pos (show s.marks.length + 1 ≤ 17179869184 by omega)]
      · cases hq : s.marks.getLast? with
        | none =>
          rcases hs with ⟨_, g1, _⟩ | ⟨t, g1, _⟩
          · omega
          · unfold stp at g1; simp only [h1, Int.reduceEq, ↓reduceIte, hq] at g1; cases g1
        | some q =>
          obtain ⟨u1, u2, u3, _⟩ := hx hq
          obtain ⟨b, b1, b2, b3⟩ := mark_b hC (last_ok h hq)
          refine key _ ((s.pc : Int) + 1) _ (stp9 h1 hq) rfl ?_
          simp only [h1, Int.reduceEq, ↓reduceIte, Option.bind_some, if_pos u1, u2, b1, b2, (h.r.gt b3.1 b3.2).1, u3]
      · cases hq : s.marks.getLast? with
        | none =>
          have hm := List.getLast?_eq_none_iff.1 hq
          have e0 : stp x fk s o = none := stp10n h1 hq
          show _ = (match stp x fk s o with | none => some (Lp.ret (2, s.regs, (c0, m0, n0).1, (c0, m0, n0).2.1, (c0, m0, n0).2.2)) | some s' => runP x fk (c0, m0, n0) K s')
          have h0 : (s.marks.length : Int) = 0 := by rw [hm]; rfl
          rw [e0]
          simp only [h1, Int.reduceEq, ↓reduceIte, Option.bind_some, if_pos h0]
          rfl
        | some q =>
          obtain ⟨u1, u2, u3, u4⟩ := hx hq
          have hm := last_ok h hq
          have q1 := hm.r.1
          have q2 := hm.c.1
          have q3 := hm.m.1
          obtain ⟨b, b1, b2, b3⟩ := mark_b hC hm
          obtain ⟨e, e1, e2, _, e4, _⟩ := mark_e hC (F := F) hF h.p hm
          have e9 := s_EndI F x q.at_ (by omega) (by omega) e1
          have hlt := e2.2.1
          refine key _ ((e : Int) + 1) _ (stp10 h1 hq) (by show (e : Int) + 1 = ((endP x q.at_.toNat + 1 : Nat) : Int); omega) ?_
          rw [if_neg (by omega), if_neg (by omega), if_neg (by omega), if_neg (by omega), if_neg (by omega), if_pos h1, if_neg u4, if_pos u1, u2, Option.bind_some, if_pos u1, if_pos (by rw [List.length_nil]; omega), p_l7Copy F q.cells q.map q.count (by omega) (by omega), bB3, b1, Option.bind_some, List.nil_append, (hm.r.gt b3.1 b3.2).1, Option.bind_some, e9, Option.bind_some, if_pos (in64_of (by omega) (by omega)), b2, u3]
      · obtain ⟨k1, k2⟩ := HF (hkf h1)
        refine key _ ((s.pc : Int) + 1) _ (stp11 h1) rfl ?_
        simp only [h1, Int.reduceEq, ↓reduceIte, Option.bind_some]
        rw [if_pos (by omega)]
        exact k2 s.regs s.cells s.map s.count s.marks (s.pc : Int) h.r h.c h.m h.n
      · have g1 := h.m.gt h2.1 h2.2
        have g2 := h.r.gt h3.1 h3.2
        refine key _ ((s.pc : Int) + 1) _ (stp12 h1) rfl ?_
        simp only [h1, Int.reduceEq, ↓reduceIte, Option.bind_some, g1.1, g2.1, (h.r.gt h4.1 h4.2).1, if_pos n6, show 1 + gI s.regs o.c = gI s.regs o.c + 1 from Int.add_comm _ _, if_pos (in64_of (show -4611686018427387904 ≤ gI s.regs o.c + 1 by omega) (by omega))]
      · refine key _ ((s.pc : Int) + 1) _ (stp13 h1) rfl ?_
        simp only [h1, Int.reduceEq, ↓reduceIte, Option.bind_some, (h.m.gt h3.1 h3.2).1, (h.r.gt h2.1 h2.2).1, if_pos n6]
      · refine key _ ((s.pc : Int) + 1) _ (stp14 h1) rfl ?_
        simp only [h1, Int.reduceEq, ↓reduceIte, Option.bind_some, (h.m.gt h2.1 h2.2).1, (h.r.gt h3.1 h3.2).1, if_pos n6]
      · have g1 := h.r.gt h2.1 h2.2
        have g2 := h.n
        refine key _ ((s.pc : Int) + 1) _ (stp15 h1) rfl ?_
        simp only [h1, Int.reduceEq, ↓reduceIte, Option.bind_some, g1.1, if_pos n6, if_pos (in64_of (show -4611686018427387904 ≤ s.count + gI s.regs o.b by omega) (by omega))]
      · refine key _ ((s.pc : Int) + 1) _ (stp16 h1) rfl ?_
        simp only [h1, Int.reduceEq, ↓reduceIte, Option.bind_some, (h.r.gt h2.1 h2.2).1]
    · rw [if_neg (ge_cast hp), List.getElem?_eq_none (by omega)]
end Go.Proofs.Ytknghnmcckjjbaa
