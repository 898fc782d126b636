/- A block around a kid. -/
import Derived.Test.YtknghnmcckjjbaaPSer2
namespace Go.Proofs.Ytknghnmcckjjbaa
open Go Go.RowKit
set_option linter.unusedVariables false
set_option linter.unusedSimpArgs false

def emb (l t : List I4) : List I4 := ([(⟨8, 2, 0, 0⟩ : I4)] ++ l) ++ t
theorem emb_cons (l t : List I4) : emb l t = (⟨8, 2, 0, 0⟩ : I4) :: (l ++ t) := rfl
theorem emb_len (l t : List I4) : (emb l t).length = l.length + t.length + 1 := by rw [emb_cons, List.length_cons, List.length_append]
theorem emb_s (l t : List I4) (i : Nat) : (emb l t)[i + 1]? = (l ++ t)[i]? := by rw [emb_cons, List.getElem?_cons_succ]
theorem emb_l {l : List I4} (t : List I4) {i : Nat} (h : i < l.length) : (emb l t)[i + 1]? = l[i]? := by rw [emb_s, List.getElem?_append_left h]
theorem dF_step (x : List I4) (n : Nat) : dF x (n + 1) = dF x n + (match x[n]? with | some o => opn o | none => 0) := rfl
theorem emb_dF (l t : List I4) : ∀ i, i ≤ l.length → dF (emb l t) (i + 1) = 1 + dF l i := by
  intro i
  induction i with
  | zero => intro _; rfl
  | succ i ih =>
    intro h
    rw [dF_step, emb_l t (by omega), ih (by omega), dF_step l i]; omega
theorem emb_dF2 {l : List I4} (t : List I4) (hz : dF l l.length = 0) : ∀ j, j ≤ t.length → dF (emb l t) (l.length + 1 + j) = 1 + dF t j := by
  intro j
  induction j with
  | zero => intro _; rw [Nat.add_zero, emb_dF l t l.length (Nat.le_refl _), hz]; rfl
  | succ j ih =>
    intro h
    rw [← Nat.add_assoc, dF_step, ih (by omega), dF_step t j, show l.length + 1 + j = (l.length + j) + 1 by omega, emb_s, List.getElem?_append_right (by omega), show l.length + j - l.length = j by omega]; omega
def tEnd : List I4 := [⟨9, 0, 0, 0⟩]
def tAb : List I4 := [⟨10, 0, 0, 0⟩, ⟨9, 0, 0, 0⟩]
def TOk (t : List I4) : Prop := t = tEnd ∨ t = tAb
theorem TOk.dF {t : List I4} (h : TOk t) : Go.Proofs.Ytknghnmcckjjbaa.dF t t.length = -1 ∧ ∀ j, j < t.length → Go.Proofs.Ytknghnmcckjjbaa.dF t j = 0 := by
  rcases h with rfl | rfl
  · exact ⟨rfl, fun j hj => by
      have : j = 0 := by have : tEnd.length = 1 := rfl; omega
      subst this; rfl⟩
  · refine ⟨rfl, fun j hj => ?_⟩
    have h2 : tAb.length = 2 := rfl
    have : j = 0 ∨ j = 1 := by omega
    rcases this with rfl | rfl <;> rfl
theorem TOk.mem {t : List I4} (h : TOk t) {o : I4} (ho : o ∈ t) : opC o = true ∧ kidO o = true ∧ o.a ≠ 7 ∧ o.a ≠ 11 := by
  have : o = ⟨9, 0, 0, 0⟩ ∨ o = ⟨10, 0, 0, 0⟩ := by
    rcases h with rfl | rfl
    · exact .inl (List.mem_singleton.1 ho)
    · rcases List.mem_cons.1 ho with h | h
      · exact .inr h
      · exact .inl (List.mem_singleton.1 h)
  rcases this with rfl | rfl <;> exact ⟨by decide, by decide, by decide, by decide⟩
theorem TOk.len {t : List I4} (h : TOk t) : 1 ≤ t.length ∧ t.length ≤ 2 := by rcases h with rfl | rfl <;> decide
theorem emb_bal {l t : List I4} (hB : Bal l) (ht : TOk t) : Bal (emb l t) := by
  have hz := hB.2
  refine ⟨fun m _ h => ?_, ?_⟩
  · rw [emb_len] at h
    by_cases hm : m ≤ l.length
    · rw [emb_dF l t m hm]; have := bal_pos hB m hm; omega
    · obtain ⟨j, rfl⟩ : ∃ j, m = l.length + 1 + j := ⟨m - (l.length + 1), by omega⟩
      rw [Nat.add_assoc, emb_dF2 t hz (j + 1) (by omega)]
      by_cases hj : j + 1 < t.length
      · rw [ht.dF.2 _ hj]; omega
      · rw [show j + 1 = t.length by omega, ht.dF.1]; omega
  · rw [emb_len, show l.length + t.length + 1 = l.length + 1 + t.length by omega, emb_dF2 t hz _ (Nat.le_refl _), ht.dF.1]; rfl
theorem subl_emb {l t : List I4} {i : Nat} {c : Int} (hc : 1 ≤ c) (h : (i : Int) + 1 + c ≤ (l.length : Int)) : subl (emb l t) ((i + 1 + 1 : Nat) : Int) (((i + 1 : Nat) : Int) + 1 + c) = subl l ((i + 1 : Nat) : Int) ((i : Int) + 1 + c) := by
  unfold subl
  rw [emb_cons, Int.toNat_natCast, List.drop_succ_cons, Int.toNat_natCast, List.drop_append_of_le_length (by omega), List.take_append_of_le_length (by rw [List.length_drop]; omega)]
  congr 1; omega
open Classical in
theorem emb_kidB {l t : List I4} (h : kidB l = true) (hl : l.length ≤ 21) (ht : TOk t) : kidB (emb l t) = true := by
  obtain ⟨hC, hf, hO⟩ := kid_ops h
  have hk : l.all kidO = true := by unfold kidB at h; rw [Bool.and_eq_true] at h; exact h.2
  have htl := ht.len
  unfold kidB
  rw [Bool.and_eq_true, decide_eq_true_eq]
  refine ⟨⟨by rw [emb_len]; omega, emb_bal hC.2.1 ht, fun m _ hm h' => ?_⟩, List.all_eq_true.2 fun o ho => ?_⟩
  · rw [emb_len] at hm
    cases m with
    | zero => exact ⟨by show opC (⟨8, 2, 0, 0⟩ : I4) = true; decide, fun q => absurd (show (8 : Int) = 7 from q) (by decide), fun q => absurd (show (8 : Int) = 11 from q) (by decide)⟩
    | succ i =>
      by_cases hi : i < l.length
      · have e : (emb l t)[i + 1] = l[i] := by
          have := emb_l t hi
          rw [List.getElem?_eq_getElem h', List.getElem?_eq_getElem hi] at this
          exact Option.some.inj this
        have hS := hC.2.2 i (Nat.zero_le _) hi hi
        have hmem := hO l[i] (List.getElem_mem hi)
        rw [e]
        refine ⟨hS.1, fun q => ?_, fun q => by omega⟩
        have hc := opC_cases hS.1
        obtain ⟨s1, s2⟩ := hS.2.1 q
        refine ⟨by rw [emb_len]; omega, ?_⟩
        rw [subl_emb (by omega) s1]; exact s2
      · have e : (emb l t)[i + 1] ∈ t := by
          have h2 : (emb l t)[i + 1]? = some (emb l t)[i + 1] := List.getElem?_eq_getElem h'
          rw [emb_s, List.getElem?_append_right (by omega)] at h2
          exact List.mem_of_getElem? h2
        obtain ⟨a1, a2, a3, a4⟩ := ht.mem e
        exact ⟨a1, fun q => absurd q a3, fun q => absurd q a4⟩
  · rw [emb_cons] at ho
    rcases List.mem_cons.1 ho with rfl | ho
    · decide
    · rcases List.mem_append.1 ho with ho | ho
      · exact List.all_eq_true.1 hk o ho
      · exact (ht.mem ho).2.1

/-! The run inside the block. -/
def upM (q : MarkD) : MarkD := ⟨q.at_ + 1, q.regs, q.cells, q.map, q.count⟩
def upS (q0 : MarkD) (s : RS) : RS := ⟨s.regs, s.cells, s.map, s.count, q0 :: s.marks.map upM, s.pc + 1⟩
theorem bAt_up {l : List I4} (t : List I4) {i : Nat} (h : i < l.length) : bAt (emb l t) ((i : Int) + 1) = bAt l (i : Int) := by
  unfold bAt; rw [cast_succ, at?_nat, at?_nat, emb_l t h]
theorem isEnd_up {l : List I4} (t : List I4) {i e : Nat} (h : IsEnd l i e) : IsEnd (emb l t) (i + 1) (e + 1) := by
  obtain ⟨a1, a2, a3, a4⟩ := h
  refine ⟨by omega, by rw [emb_len]; omega, ?_, fun k k1 k2 => ?_⟩
  · rw [emb_dF l t (e + 1) (by omega), emb_dF l t i (by omega), a3]
  · obtain ⟨k', rfl⟩ : ∃ k', k = k' + 1 := ⟨k - 1, by omega⟩
    have := a4 k' (by omega) (by omega)
    rw [emb_dF l t k' (by omega), emb_dF l t i (by omega)]; omega
theorem isEnd_0 {l t : List I4} (hB : Bal l) (ht : TOk t) : IsEnd (emb l t) 0 (l.length + t.length) := by
  have htl := ht.len
  refine ⟨by omega, by rw [emb_len]; omega, ?_, fun k k1 k2 => ?_⟩
  · have := (emb_bal hB ht).2
    rw [emb_len] at this; rw [this]; rfl
  · show (0 : Int) < _
    by_cases hk : k ≤ l.length + 1
    · obtain ⟨k', rfl⟩ : ∃ k', k = k' + 1 := ⟨k - 1, by omega⟩
      rw [emb_dF l t k' (by omega)]; have := bal_pos hB k' (by omega); omega
    · obtain ⟨j, rfl⟩ : ∃ j, k = l.length + 1 + j := ⟨k - (l.length + 1), by omega⟩
      rw [emb_dF2 t hB.2 j (by omega), ht.dF.2 j (by omega)]; omega
theorem stp_emb {l t : List I4} {fk : List Int → List Int → List Int × List Int} (hC : CodeP l) {s : RS} (h : RInv l s) {o : I4} (ho : o.a ≤ 10) (q0 : MarkD) :
    (∀ s', stp l fk s o = some s' → stp (emb l t) fk (upS q0 s) o = some (upS q0 s')) ∧
    (stp l fk s o = none → o.a = 10 → stp (emb l t) fk (upS q0 s) o = some ⟨q0.regs.set (bAt (emb l t) q0.at_).toNat 0, q0.cells, q0.map, q0.count, [], endP (emb l t) q0.at_.toNat + 1⟩) := by
  have e1 : (upS q0 s).regs = s.regs := rfl
  have e2 : (upS q0 s).cells = s.cells := rfl
  have e3 : (upS q0 s).pc = s.pc + 1 := rfl
  have e4 : (upS q0 s).marks = q0 :: s.marks.map upM := rfl
  have e5 : (upS q0 s).map = s.map := rfl
  have e6 : (upS q0 s).count = s.count := rfl
  have hlast : ∀ q, s.marks.getLast? = some q → (q0 :: s.marks.map upM).getLast? = some (upM q) ∧ (q0 :: s.marks.map upM).dropLast = q0 :: (s.marks.dropLast).map upM ∧ bAt (emb l t) (upM q).at_ = bAt l q.at_ ∧ endP (emb l t) (upM q).at_.toNat = endP l q.at_.toNat + 1 := fun q hq => by
    have hm := last_ok h hq
    obtain ⟨i, a1, a2, ⟨hi, a3⟩, a4, a5⟩ := hm.ix
    obtain ⟨e, b1, b2, b3, b4, _⟩ := mark_e hC (F := 25) (by omega) h.p hm
    have hne : s.marks.map upM ≠ [] := fun q' => by
      have := List.map_eq_nil_iff.1 q'; rw [this] at hq; cases hq
    refine ⟨by rw [List.getLast?_cons, List.getLast?_map, hq]; rfl, by rw [List.dropLast_cons_of_ne_nil hne, List.map_dropLast], ?_, ?_⟩
    · show bAt (emb l t) (q.at_ + 1) = _
      rw [a1]; exact bAt_up t hi
    · have et : q.at_.toNat = i := by rw [a1]; simp
      have et2 : (upM q).at_.toNat = i + 1 := by show (q.at_ + 1).toNat = i + 1; rw [a1]; omega
      rw [et2, b4]
      rw [et] at b2
      exact endP_eq (isEnd_up t b2)
  unfold stp
  rw [e1, e2, e3, e4, e5, e6]
  by_cases h5 : o.a = 5
  · rw [if_pos h5, if_pos h5]; exact ⟨fun s' q => by cases q; rfl, fun q => by cases q⟩
  rw [if_neg h5, if_neg h5]
  by_cases h6 : o.a = 6
  · rw [if_pos h6, if_pos h6]; exact ⟨fun s' q => by cases q; rfl, fun q => by cases q⟩
  rw [if_neg h6, if_neg h6]
  by_cases h7 : o.a = 7
  · rw [if_pos h7, if_pos h7]
    refine ⟨fun s' q => ?_, fun q => by cases q⟩
    cases q
    unfold upS
    by_cases hz : gI s.regs o.b = 0
    · simp only [if_pos hz]; congr 2; omega
    · simp only [if_neg hz]
  rw [if_neg h7, if_neg h7]
  by_cases h8 : o.a = 8
  · rw [if_pos h8, if_pos h8]
    refine ⟨fun s' q => ?_, fun q => by cases q⟩
    cases q
    unfold upS
    simp only [List.map_append, List.map_cons, List.map_nil, List.cons_append]
    rfl
  rw [if_neg h8, if_neg h8]
  by_cases h9 : o.a = 9
  · rw [if_pos h9, if_pos h9]
    refine ⟨fun s' q => ?_, fun _ q => by omega⟩
    cases hq : s.marks.getLast? with
    | none => rw [hq] at q; cases q
    | some m =>
      rw [hq] at q; cases q
      obtain ⟨g1, g2, g3, _⟩ := hlast m hq
      rw [g1, g2]; dsimp only; rw [g3]; rfl
  rw [if_neg h9, if_neg h9]
  by_cases h10 : o.a = 10
  · rw [if_pos h10, if_pos h10]
    cases hq : s.marks.getLast? with
    | none =>
      have hn := List.getLast?_eq_none_iff.1 hq
      rw [hn]
      exact ⟨fun s' q => (by cases q), fun _ _ => rfl⟩
    | some m =>
      obtain ⟨g1, g2, g3, g4⟩ := hlast m hq
      rw [g1, g2]; dsimp only; rw [g3, g4]
      exact ⟨fun s' q => by cases q; rfl, fun q => by cases q⟩
  rw [if_neg h10, if_neg h10]
  rw [if_neg (by omega), if_neg (by omega), if_neg (by omega), if_neg (by omega), if_neg (by omega), if_neg (by omega), if_neg (by omega), if_neg (by omega), if_neg (by omega), if_neg (by omega), if_neg (by omega), if_neg (by omega)]
  exact ⟨fun s' q => by cases q; rfl, fun q => by cases q⟩
theorem emb_run {l t : List I4} {fk : List Int → List Int → List Int × List Int} {st st' : List Int × List Int × Int} (hC : CodeP l) (hf : forkB l = false) (hO : ∀ o ∈ l, o.a ≤ 10) (q0 : MarkD) : ∀ K s o, RInv l s → runP l fk st K s = some o →
    ∃ k, ∀ j, runP (emb l t) fk st' (j + k) (upS q0 s) = runP (emb l t) fk st' j (match o with
      | .ret _ => ⟨q0.regs.set (bAt (emb l t) q0.at_).toNat 0, q0.cells, q0.map, q0.count, [], endP (emb l t) q0.at_.toNat + 1⟩
      | .brk q => ⟨q.1, q.2.1, q.2.2.1, q.2.2.2, [q0], l.length + 1⟩) := by
  intro K
  induction K with
  | zero => intro s o _ h; cases h
  | succ K ih =>
    intro s r h hr
    rw [runP] at hr
    by_cases hp : s.pc < l.length
    · obtain ⟨o, ho, hop, hs⟩ := stp_ok (fk := fk) hC (fun q => by rw [hf] at q; cases q) h hp
      have hox : l[s.pc]? = some o := by rw [List.getElem?_eq_getElem hp, ho]
      have hoe : (emb l t)[s.pc + 1]? = some o := by rw [emb_l t hp, hox]
      have h10 := hO o (List.mem_of_getElem? hox)
      obtain ⟨m1, m2⟩ := stp_emb (t := t) (fk := fk) hC h h10 q0
      have one : ∀ j, runP (emb l t) fk st' (j + 1) (upS q0 s) = (match stp (emb l t) fk (upS q0 s) o with | none => some (.ret (2, (upS q0 s).regs, st'.1, st'.2.1, st'.2.2)) | some s' => runP (emb l t) fk st' j s') := fun j => by
        rw [runP]
        show (match (emb l t)[s.pc + 1]? with | none => _ | some o => _) = _
        rw [hoe]
        rfl
      rw [hox] at hr
      dsimp only at hr
      rcases hs with ⟨g1, g2, _⟩ | ⟨s', g1, g2, _⟩
      · rw [g1] at hr
        dsimp only at hr
        cases hr
        exact ⟨1, fun j => by rw [one, m2 g1 g2]⟩
      · rw [g1] at hr
        obtain ⟨k, hk⟩ := ih s' r g2 hr
        exact ⟨k + 1, fun j => by rw [← Nat.add_assoc, one, m1 s' g1]; exact hk j⟩
    · rw [List.getElem?_eq_none (by omega)] at hr
      cases hr
      have hpl : s.pc = l.length := by have := h.p; omega
      have hmk : s.marks = [] := by
        have := h.d; rw [hpl, hC.2.1.2] at this
        exact List.eq_nil_of_length_eq_zero (by omega)
      refine ⟨0, fun j => ?_⟩
      unfold upS
      rw [hmk, hpl]; rfl
theorem kidQ_of {x : List I4} (h : kidB x = true) {r c : List Int} (hr : VL 4 65535 r) (hc : VL 8 65535 c) {K : Nat} {o} (hk : runP x (fun r c => (r, c)) (c, List.replicate 8 0, 0) K ⟨r, c, List.replicate 8 0, 0, [], 0⟩ = some o) :
    kidQ x r c = ((outL (some o)).1, (outL (some o)).2.1, (outL (some o)).2.2.1) := by
  obtain ⟨hC, hf, _⟩ := kid_ops h
  have h8 := VL.rep 8 (b := 65536) (by decide)
  obtain ⟨q, h1, _⟩ := runP_tot (fk := fun r c => (r, c)) (c, List.replicate 8 0, 0) hC (fun q => by rw [hf] at q; cases q) (x.length + 1) _ (inv0' hr hc h8 (n := 0) (by decide)) (by show x.length < 0 + (x.length + 1); omega)
  have e : q = o := by
    have a := runP_mono _ _ h1 (x.length + 1 + K) (by omega)
    have b := runP_mono _ _ hk (x.length + 1 + K) (by omega)
    rw [a] at b; exact Option.some.inj b
  subst e
  unfold kidQ runO
  rw [h1]
theorem emb_first {l t : List I4} {fk : List Int → List Int → List Int × List Int} {st : List Int × List Int × Int} {r c m : List Int} {n : Int} (j : Nat) : runP (emb l t) fk st (j + 1) ⟨r, c, m, n, [], 0⟩ = runP (emb l t) fk st j (upS ⟨0, r, c, m, n⟩ ⟨r, c, m, n, [], 0⟩) := by
  rw [runP]; rfl
theorem emb_done {x : List I4} {fk : List Int → List Int → List Int × List Int} {st : List Int × List Int × Int} {s : RS} (h : x.length ≤ s.pc) (j : Nat) : runP x fk st (j + 1) s = some (.brk (s.regs, s.cells, s.map, s.count)) := by
  rw [runP, List.getElem?_eq_none h]
theorem emb_end0 {l t : List I4} (hB : Bal l) (ht : TOk t) : endP (emb l t) (0 : Int).toNat + 1 = (emb l t).length := by
  rw [show (0 : Int).toNat = 0 from rfl, endP_eq (isEnd_0 hB ht), emb_len]
theorem emb_res {l t : List I4} (h : kidB l = true) (hl : l.length ≤ 21) (ht : TOk t) {r c : List Int} (hr : VL 4 65535 r) (hc : VL 8 65535 c) :
    (kidQ (emb l t) r c = (1, r.set 2 0, c) ∧ (kidQ l r c).2.2 = c) ∨
    (∃ R C M n K, (kidQ l r c).2.2 = C ∧ ∀ j, runP (emb l t) (fun r c => (r, c)) (c, List.replicate 8 0, 0) (j + K) ⟨r, c, List.replicate 8 0, 0, [], 0⟩ = runP (emb l t) (fun r c => (r, c)) (c, List.replicate 8 0, 0) j ⟨R, C, M, n, [⟨0, r, c, List.replicate 8 0, 0⟩], l.length + 1⟩) := by
  obtain ⟨hC, hf, hO⟩ := kid_ops h
  have hE := emb_kidB h hl ht
  have h8 := VL.rep 8 (b := 65536) (by decide)
  obtain ⟨q, h1, h2⟩ := runP_tot (fk := fun r c => (r, c)) (c, List.replicate 8 0, 0) hC (fun q => by rw [hf] at q; cases q) (l.length + 1) _ (inv0' hr hc h8 (n := 0) (by decide)) (by show l.length < 0 + (l.length + 1); omega)
  obtain ⟨k, hk⟩ := emb_run (t := t) (st' := (c, List.replicate 8 0, 0)) hC hf hO ⟨0, r, c, List.replicate 8 0, 0⟩ _ _ _ (inv0' hr hc h8 (n := 0) (by decide)) h1
  have hq := kidQ_of h hr hc h1
  cases q with
  | ret q =>
    refine .inl ⟨?_, ?_⟩
    · have hrun : runP (emb l t) (fun r c => (r, c)) (c, List.replicate 8 0, 0) (0 + 1 + k + 1) ⟨r, c, List.replicate 8 0, 0, [], 0⟩ = _ := (emb_first _).trans ((hk (0 + 1)).trans (emb_done (by
        show (emb l t).length ≤ endP (emb l t) (0 : Int).toNat + 1
        rw [emb_end0 hC.2.1 ht]; exact Nat.le_refl _) 0))
      rw [kidQ_of hE hr hc hrun]; rfl
    · rw [hq]
      obtain ⟨_, _, h3⟩ := h2
      show q.2.2.1 = c
      rw [h3]
  | brk q =>
    refine .inr ⟨q.1, q.2.1, q.2.2.1, q.2.2.2, k + 1, by rw [hq]; rfl, fun j => ?_⟩
    rw [← Nat.add_assoc, emb_first, hk j]
theorem emb_ab {l : List I4} (h : kidB l = true) (hl : l.length ≤ 21) {r c : List Int} (hr : VL 4 65535 r) (hc : VL 8 65535 c) : kidQ (emb l tAb) r c = (1, r.set 2 0, c) := by
  obtain ⟨hC, hf, hO⟩ := kid_ops h
  have ht : TOk tAb := .inr rfl
  have hE := emb_kidB h hl ht
  rcases emb_res h hl ht hr hc with ⟨e, _⟩ | ⟨R, C, M, n, K, _, e⟩
  · exact e
  · have hx : (emb l tAb)[l.length + 1]? = some ⟨10, 0, 0, 0⟩ := by rw [emb_s, List.getElem?_append_right (Nat.le_refl _), Nat.sub_self]; rfl
    have h2 : ∀ st, runP (emb l tAb) (fun r c => (r, c)) st (0 + 1 + 1) ⟨R, C, M, n, [⟨0, r, c, List.replicate 8 0, 0⟩], l.length + 1⟩ = some (.brk (r.set 2 0, c, List.replicate 8 0, 0)) := fun st => by
      rw [runP]
      show (match (emb l tAb)[l.length + 1]? with | none => _ | some o => _) = _
      rw [hx]
      show runP (emb l tAb) (fun r c => (r, c)) st (0 + 1) ⟨r.set 2 0, c, List.replicate 8 0, 0, [], endP (emb l tAb) (0 : Int).toNat + 1⟩ = _
      exact emb_done (by show (emb l tAb).length ≤ endP (emb l tAb) (0 : Int).toNat + 1; rw [emb_end0 hC.2.1 ht]; exact Nat.le_refl _) 0
    rw [kidQ_of hE hr hc ((e (0 + 1 + 1)).trans (h2 _))]; rfl
theorem emb_en {l : List I4} (h : kidB l = true) (hl : l.length ≤ 21) {r c : List Int} (hr : VL 4 65535 r) (hc : VL 8 65535 c) : ∃ R, kidQ (emb l tEnd) r c = (1, R, (kidQ l r c).2.2) := by
  have ht : TOk tEnd := .inl rfl
  have hE := emb_kidB h hl ht
  rcases emb_res h hl ht hr hc with ⟨e, e'⟩ | ⟨R, C, M, n, K, e', e⟩
  · exact ⟨_, by rw [e, e']⟩
  · have hx : (emb l tEnd)[l.length + 1]? = some ⟨9, 0, 0, 0⟩ := by rw [emb_s, List.getElem?_append_right (Nat.le_refl _), Nat.sub_self]; rfl
    have h2 : ∀ st, runP (emb l tEnd) (fun r c => (r, c)) st (0 + 1 + 1) ⟨R, C, M, n, [⟨0, r, c, List.replicate 8 0, 0⟩], l.length + 1⟩ = some (.brk (R.set 2 1, C, M, n)) := fun st => by
      rw [runP]
      show (match (emb l tEnd)[l.length + 1]? with | none => _ | some o => _) = _
      rw [hx]
      show runP (emb l tEnd) (fun r c => (r, c)) st (0 + 1) ⟨R.set 2 1, C, M, n, [], l.length + 1 + 1⟩ = _
      exact emb_done (by show (emb l tEnd).length ≤ l.length + 1 + 1; rw [emb_len]; exact Nat.le_refl _) 0
    exact ⟨R.set 2 1, by rw [kidQ_of hE hr hc ((e (0 + 1 + 1)).trans (h2 _)), e']; rfl⟩
end Go.Proofs.Ytknghnmcckjjbaa
