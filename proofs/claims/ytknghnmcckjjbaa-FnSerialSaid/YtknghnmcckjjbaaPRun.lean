/- Runs of code, in plain Lean. -/
import Derived.Test.YtknghnmcckjjbaaPB
namespace Go.Proofs.Ytknghnmcckjjbaa
open Go Go.RowKit
set_option linter.unusedVariables false
set_option linter.unusedSimpArgs false

/-! Rows of bounded numbers. -/
def gI (l : List Int) (i : Int) : Int := l.getD i.toNat 0
def VL (k : Nat) (b : Int) (l : List Int) : Prop := l.length = k ∧ ∀ v ∈ l, 0 ≤ v ∧ v ≤ b
theorem VL.gt {k : Nat} {b : Int} {l : List Int} (h : VL k b l) {i : Int} (h0 : 0 ≤ i) (h1 : i < (k : Int)) : at? l i = some (gI l i) ∧ 0 ≤ gI l i ∧ gI l i ≤ b := by
  obtain ⟨v, hv⟩ := at?_some_iff (l := l) (i := i) (by have := h.1; omega)
  obtain ⟨_, h3⟩ := at?_some hv
  have hg : gI l i = v := by unfold gI; rw [List.getD_eq_getElem?_getD, h3]; rfl
  rw [hg]
  exact ⟨hv, h.2 v (List.mem_of_getElem? h3)⟩
theorem VL.st {k : Nat} {b : Int} {l : List Int} (h : VL k b l) (i : Nat) {v : Int} (h0 : 0 ≤ v) (h1 : v ≤ b) : VL k b (l.set i v) :=
  ⟨by rw [List.length_set]; exact h.1, fun w hw => by
    rcases List.mem_or_eq_of_mem_set hw with h2 | h2
    · exact h.2 w h2
    · subst h2; exact ⟨h0, h1⟩⟩
theorem VL.valsB {k : Nat} {l : List Int} (h : VL k 65535 l) : valsB l = true := List.all_eq_true.2 fun v hv => inB_true.2 (h.2 v hv)
theorem VL.of {k : Nat} {l : List Int} (h : Go.Proofs.Ytknghnmcckjjbaa.valsB l = true) (hk : l.length = k) : VL k 65535 l := ⟨hk, fun v hv => inB_true.1 (List.all_eq_true.1 h v hv)⟩
theorem VL.rep (k : Nat) {b : Int} (hb : 0 ≤ b) : VL k b (List.replicate k (0 : Int)) := ⟨by simp, fun v hv => by rw [List.eq_of_mem_replicate hv]; omega⟩

/-! What an operation's numbers can be. -/
theorem opC_cases {o : I4} (h : opC o = true) :
    (o.a = 1 ∧ (0 ≤ o.b ∧ o.b < 4) ∧ (0 ≤ o.c ∧ o.c ≤ 65535)) ∨ ((o.a = 2 ∨ o.a = 3 ∨ o.a = 4) ∧ (0 ≤ o.b ∧ o.b < 4) ∧ (0 ≤ o.c ∧ o.c < 4) ∧ (0 ≤ o.d ∧ o.d < 4)) ∨
    (o.a = 5 ∧ (0 ≤ o.b ∧ o.b < 4) ∧ (0 ≤ o.c ∧ o.c < 8)) ∨ (o.a = 6 ∧ (0 ≤ o.b ∧ o.b < 8) ∧ (0 ≤ o.c ∧ o.c < 4)) ∨ (o.a = 7 ∧ (0 ≤ o.b ∧ o.b < 4) ∧ (1 ≤ o.c ∧ o.c ≤ 20)) ∨
    (o.a = 8 ∧ (0 ≤ o.b ∧ o.b < 4)) ∨ o.a = 9 ∨ o.a = 10 ∨ o.a = 11 ∨
    (o.a = 12 ∧ (0 ≤ o.b ∧ o.b < 8) ∧ (0 ≤ o.c ∧ o.c < 4) ∧ (0 ≤ o.d ∧ o.d < 4)) ∨ (o.a = 13 ∧ (0 ≤ o.b ∧ o.b < 4) ∧ (0 ≤ o.c ∧ o.c < 8)) ∨ (o.a = 14 ∧ (0 ≤ o.b ∧ o.b < 8) ∧ (0 ≤ o.c ∧ o.c < 4)) ∨
    (o.a = 15 ∧ (0 ≤ o.b ∧ o.b < 4)) ∨ (o.a = 16 ∧ (0 ≤ o.b ∧ o.b < 4)) := by
  unfold opC opB at h
  repeat' split at h
  all_goals first | (cases h; done) | (simp only [Bool.and_eq_true, inB_true, decide_eq_true_eq] at h; omega)

/-! Where a block ends: one place only. -/
def IsEnd (x : List I4) (i e : Nat) : Prop := i < e ∧ e < x.length ∧ dF x (e + 1) = dF x i ∧ ∀ k, i < k → k ≤ e → dF x i < dF x k
theorem isEnd_uniq {x : List I4} {i e e' : Nat} (h : IsEnd x i e) (h' : IsEnd x i e') : e = e' := by
  obtain ⟨a1, a2, a3, a4⟩ := h; obtain ⟨b1, b2, b3, b4⟩ := h'
  rcases Nat.lt_trichotomy e e' with h | h | h
  · have := b4 (e + 1) (by omega) (by omega); omega
  · exact h
  · have := a4 (e' + 1) (by omega) (by omega); omega
open Classical in
noncomputable def endP (x : List I4) (i : Nat) : Nat := if h : ∃ e, IsEnd x i e then h.choose else 0
open Classical in
theorem endP_eq {x : List I4} {i e : Nat} (h : IsEnd x i e) : endP x i = e := by
  have hx : ∃ e, IsEnd x i e := ⟨e, h⟩
  unfold endP; rw [dif_pos hx]; exact isEnd_uniq hx.choose_spec h
theorem p_EndI_L (F : Nat) (x : List I4) (hl : x.length ≤ 1048576) (i : Nat) (h0 : 0 ≤ dF x i) (hz : dF x x.length = 0) : ∀ (K n : Nat), n ≤ x.length → x.length < n + K → i < n → (∀ k, i < k → k ≤ n → dF x i < dF x k) →
    ∃ e : Nat, m_impl_EndOf_L0 F x K (dF x n - dF x i) (n : Int) = some (.ret (e : Int)) ∧ IsEnd x i e := by
  intro K
  induction K with
  | zero => intro n h1 h2; omega
  | succ K ih =>
    intro n h1 h2 h3 h4
    have h4n := h4 n h3 (Nat.le_refl _)
    rw [m_impl_EndOf_L0]
    by_cases h : n < x.length
    · have hb := dF_b x n
      have hb2 := dF_b x i
      have ho := opn_b x[n]
      have i1 : in64 (dF x n - dF x i + opn x[n]) := in64_of (by omega) (by omega)
      have i2 : in64 ((n : Int) + 1) := in64_of (by omega) (by omega)
      rw [if_pos (lt_cast h), at?_lt h, Option.bind_some, p_opens, Option.bind_some, if_pos i1]
      have hs := dF_succ h
      by_cases hq : dF x n - dF x i + opn x[n] = 0
      · rw [if_pos hq]
        exact ⟨n, rfl, h3, h, by omega, h4⟩
      · rw [if_neg hq, if_pos i2, cast_succ]
        obtain ⟨e, e1, e2⟩ := ih (n + 1) (by omega) (by omega) (by omega) (fun k k1 k2 => by
          by_cases hk : k ≤ n
          · exact h4 k k1 hk
          · have : k = n + 1 := by omega
            subst this; omega)
        refine ⟨e, ?_, e2⟩
        rw [show dF x n - dF x i + opn x[n] = dF x (n + 1) - dF x i by omega]
        exact e1
    · have : n = x.length := by omega
      subst this
      omega
theorem p_EndI (F : Nat) (x : List I4) (hl : x.length ≤ 1048576) (hf : x.length < F) (i : Nat) (hi : i < x.length) (h8 : x[i].a = 8) (h0 : 0 ≤ dF x i) (hz : dF x x.length = 0) :
    ∃ e : Nat, m_impl_EndOf F x (i : Int) = some (e : Int) ∧ IsEnd x i e := by
  have hb := dF_b x i
  have hs := dF_succ hi
  have ho : opn x[i] = 1 := by unfold opn; rw [if_pos h8]
  obtain ⟨k, rfl⟩ : ∃ k, F = k + 1 := ⟨F - 1, by omega⟩
  have hL := p_EndI_L (k + 1) x hl i h0 hz k (i + 1) (by omega) (by omega) (by omega) (fun k k1 k2 => by
    have : k = i + 1 := by omega
    subst this; omega)
  obtain ⟨e, e1, e2⟩ := hL
  refine ⟨e, ?_, e2⟩
  unfold m_impl_EndOf
  have hw : inB (i : Int) 0 ((x.length : Int) - 1) = true := inB_true.2 (by omega)
  have i1 : in64 (0 + opn x[i]) := by rw [ho]; decide
  have i2 : in64 ((i : Int) + 1) := in64_of (by omega) (by omega)
  have hne : ¬ (0 + opn x[i] = 0) := by omega
  rw [if_pos (in64_of (by omega) (by omega)), p_within, Option.bind_some, if_pos hw, at?_lt hi, Option.bind_some, if_pos h8, m_impl_EndOf_L0, if_pos (lt_cast hi), at?_lt hi, Option.bind_some, p_opens, Option.bind_some, if_pos i1, if_neg hne, if_pos i2, cast_succ,
    show 0 + opn x[i] = dF x (i + 1) - dF x i by omega, e1, bL1r]

/-! One step. -/
structure RS where
  regs : List Int
  cells : List Int
  map : List Int
  count : Int
  marks : List MarkD
  pc : Nat
def calcV (o : I4) (r : List Int) : Int :=
  if o.a = 1 then o.c
  else if o.a = 2 then (gI r o.c + gI r o.d).tmod 65536
  else if o.a = 3 then (gI r o.c - gI r o.d + 65536).tmod 65536
  else if gI r o.c < gI r o.d then 1 else 0
/-- The register of the block that begins at a place. -/
def bAt (x : List I4) (i : Int) : Int := match at? x i with | some o => o.b | none => 0
noncomputable def stp (x : List I4) (fk : List Int → List Int → List Int × List Int) (s : RS) (o : I4) : Option RS :=
  if o.a = 5 then some ⟨s.regs.set o.b.toNat (gI s.cells o.c), s.cells, s.map, s.count, s.marks, s.pc + 1⟩
  else if o.a = 6 then some ⟨s.regs, s.cells.set o.b.toNat (gI s.regs o.c), s.map, s.count, s.marks, s.pc + 1⟩
  else if o.a = 7 then some ⟨s.regs, s.cells, s.map, s.count, s.marks, if gI s.regs o.b = 0 then s.pc + 1 + o.c.toNat else s.pc + 1⟩
  else if o.a = 8 then some ⟨s.regs, s.cells, s.map, s.count, s.marks ++ [⟨(s.pc : Int), s.regs, s.cells, s.map, s.count⟩], s.pc + 1⟩
  else if o.a = 9 then (match s.marks.getLast? with
    | some q => some ⟨s.regs.set (bAt x q.at_).toNat 1, s.cells, s.map, s.count, s.marks.dropLast, s.pc + 1⟩
    | none => none)
  else if o.a = 10 then (match s.marks.getLast? with
    | some q => some ⟨q.regs.set (bAt x q.at_).toNat 0, q.cells, q.map, q.count, s.marks.dropLast, endP x q.at_.toNat + 1⟩
    | none => none)
  else if o.a = 11 then some ⟨(fk s.regs s.cells).1, (fk s.regs s.cells).2, s.map, s.count, s.marks, s.pc + 1⟩
  else if o.a = 12 then some ⟨s.regs.set o.d.toNat ((gI s.map o.b).tmod 65536), s.cells, s.map.set o.b.toNat (gI s.regs o.c + 1), s.count, s.marks, s.pc + 1⟩
  else if o.a = 13 then some ⟨s.regs.set o.b.toNat ((gI s.map o.c).tmod 65536), s.cells, s.map, s.count, s.marks, s.pc + 1⟩
  else if o.a = 14 then some ⟨s.regs.set o.c.toNat ((gI s.map o.b).tmod 65536), s.cells, s.map.set o.b.toNat 0, s.count, s.marks, s.pc + 1⟩
  else if o.a = 15 then some ⟨s.regs, s.cells, s.map, (s.count + gI s.regs o.b).tmod 65536, s.marks, s.pc + 1⟩
  else if o.a = 16 then some ⟨s.regs.set o.b.toNat s.count, s.cells, s.map, s.count, s.marks, s.pc + 1⟩
  else some ⟨s.regs.set o.b.toNat (calcV o s.regs), s.cells, s.map, s.count, s.marks, s.pc + 1⟩
noncomputable def runP (x : List I4) (fk : List Int → List Int → List Int × List Int) (st : List Int × List Int × Int) : Nat → RS → Option (Lp (List Int × List Int × List Int × Int) (Int × List Int × List Int × List Int × Int))
  | 0, _ => none
  | n + 1, s => match x[s.pc]? with
    | none => some (.brk (s.regs, s.cells, s.map, s.count))
    | some o => match stp x fk s o with
      | none => some (.ret (2, s.regs, st.1, st.2.1, st.2.2))
      | some s' => runP x fk st n s'

/-! What holds between the steps. -/
structure MkOk (x : List I4) (pc j : Nat) (q : MarkD) : Prop where
  ix : ∃ i : Nat, q.at_ = (i : Int) ∧ i < pc ∧ (∃ h : i < x.length, x[i].a = 8) ∧ dF x i = (j : Int) ∧ ∀ k, i < k → k ≤ pc → (j : Int) < dF x k
  r : VL 4 65535 q.regs
  c : VL 8 65535 q.cells
  m : VL 8 65536 q.map
  n : 0 ≤ q.count ∧ q.count ≤ 65535
structure RInv (x : List I4) (s : RS) : Prop where
  p : s.pc ≤ x.length
  r : VL 4 65535 s.regs
  c : VL 8 65535 s.cells
  m : VL 8 65536 s.map
  n : 0 ≤ s.count ∧ s.count ≤ 65535
  d : (s.marks.length : Int) = dF x s.pc
  k : ∀ j (h : j < s.marks.length), MkOk x s.pc j s.marks[j]
theorem MkOk.up {x : List I4} {pc pc' j : Nat} {q : MarkD} (h : MkOk x pc j q) (hp : pc ≤ pc') (hk : ∀ k, pc < k → k ≤ pc' → (j : Int) < dF x k) : MkOk x pc' j q :=
  ⟨by obtain ⟨i, a1, a2, a3, a4, a5⟩ := h.ix
      exact ⟨i, a1, by omega, a3, a4, fun k k1 k2 => by
        by_cases hq : k ≤ pc
        · exact a5 k k1 hq
        · exact hk k (by omega) k2⟩, h.r, h.c, h.m, h.n⟩
/-- A step that opens and closes nothing. -/
theorem RInv.go {x : List I4} {s : RS} (h : RInv x s) {pc' : Nat} (hp : s.pc ≤ pc') (hl : pc' ≤ x.length) (hd : dF x pc' = dF x s.pc) (hk : ∀ k, s.pc < k → k ≤ pc' → dF x s.pc ≤ dF x k) {r c m n} (hr : VL 4 65535 r) (hc : VL 8 65535 c) (hm : VL 8 65536 m) (hn : 0 ≤ n ∧ n ≤ 65535) : RInv x ⟨r, c, m, n, s.marks, pc'⟩ :=
  ⟨hl, hr, hc, hm, hn, by show (s.marks.length : Int) = dF x pc'; rw [hd]; exact h.d, fun j hj => (h.k j hj).up hp (fun k k1 k2 => by
    have := hk k k1 k2; have := h.d; have hj' : j < s.marks.length := hj; omega)⟩
theorem dF_subl {x : List I4} {i j : Nat} (hj : j ≤ x.length) : ∀ k, i + k ≤ j → dF x (i + k) = dF x i + dF (subl x (i : Int) (j : Int)) k := by
  intro k
  induction k with
  | zero => intro _; simp [dF]
  | succ k ih =>
    intro h
    have h1 := ih (by omega)
    show dF x (i + k + 1) = _
    have e1 : dF x (i + k + 1) = dF x (i + k) + (match x[i + k]? with | some o => opn o | none => 0) := rfl
    have e2 : dF (subl x (i : Int) (j : Int)) (k + 1) = dF (subl x (i : Int) (j : Int)) k + (match (subl x (i : Int) (j : Int))[k]? with | some o => opn o | none => 0) := rfl
    rw [e1, e2, h1, subl_at hj (by omega)]; omega
theorem skip_go {x : List I4} {n : Nat} {c : Int} (h0 : n < x.length) (h7 : x[n].a = 7) (hc : 1 ≤ c) (h : SkipOk x n c) :
    n + 1 + c.toNat ≤ x.length ∧ dF x (n + 1 + c.toNat) = dF x n ∧ ∀ k, n < k → k ≤ n + 1 + c.toNat → dF x n ≤ dF x k := by
  obtain ⟨hL, hB⟩ := h
  have hs := dF_succ h0
  have ho : opn x[n] = 0 := by unfold opn; rw [if_neg (by omega), if_neg (by omega)]
  have ej : ((n : Int) + 1 + c) = ((n + 1 + c.toNat : Nat) : Int) := by omega
  rw [ej] at hB
  have hle : n + 1 + c.toNat ≤ x.length := by omega
  have hlen := subl_len (x := x) (i := n + 1) (j := n + 1 + c.toNat) (by omega) hle
  have hcl : (subl x ((n + 1 : Nat) : Int) ((n + 1 + c.toNat : Nat) : Int)).length = c.toNat := by omega
  have key := dF_subl (x := x) (i := n + 1) (j := n + 1 + c.toNat) hle
  refine ⟨hle, ?_, fun k k1 k2 => ?_⟩
  · have := key c.toNat (by omega)
    have hz := hB.2
    rw [hcl] at hz
    omega
  · obtain ⟨t, rfl⟩ : ∃ t, k = n + 1 + t := ⟨k - (n + 1), by omega⟩
    have h1 := key t (by omega)
    cases t with
    | zero => simp only [Nat.add_zero] at *; omega
    | succ t =>
      have h2 := hB.1 t (Nat.zero_le _) (by omega)
      omega
theorem last_at {s : List MarkD} {q : MarkD} (h : s.getLast? = some q) : at? s ((s.length : Int) - 1) = some q ∧ 0 < s.length := by
  have hp : 0 < s.length := by
    cases s with
    | nil => cases h
    | cons a l => simp
  refine ⟨?_, hp⟩
  rw [show ((s.length : Int) - 1) = ((s.length - 1 : Nat) : Int) by omega, at?_nat, ← List.getLast?_eq_getElem?, h]
theorem subl_last {s : List MarkD} (hp : 0 < s.length) : subl s 0 ((s.length : Int) - 1) = s.dropLast := by
  rw [List.dropLast_eq_take]
  unfold subl
  rw [show ((s.length : Int) - 1).toNat = s.length - 1 by omega]
  simp
end Go.Proofs.Ytknghnmcckjjbaa
