/- A drawn region carried out in one order (second form): what must hold between the operations is asked only behind those that may come up ahead of a load. Generic: no program is named. -/
import Derived.Test.YtpbfppelmgjfpaaCanon
namespace Go.Proofs.Ytpbfppelmgjfpaa
open Go
section
variable {P : Program} {ops : Array Oper} {Q : Exit → Act → World → Prop} {S : World → Prop}
/-- Whatever order is picked from here on; an early operation leaves the world as it is; S holds behind each of the others. -/
def wpY (P : Program) (ops : Array Oper) (Q : Exit → Act → World → Prop) (S : World → Prop) (nd : Nat → Bool) : Nat → Array Bool → Act → World → Prop
  | 0, listed, a, w => Region.ready .any ops listed = [] ∧ Q .normal a w
  | fuel + 1, listed, a, w =>
    (Region.ready .any ops listed = [] → Q .normal a w) ∧
    ∀ i ∈ Region.ready .any ops listed,
      if earlyI ops i = true then stOp P ops w i (fun a' => wpY P ops Q S nd fuel (listed.setIfInBounds i true) a' w) a
      else wpOp P ops Q i (fun a' w' => (nd i = true → S w') ∧ wpY P ops Q S nd fuel (listed.setIfInBounds i true) a' w') a w

theorem wpAny_of_wpY {nd : Nat → Bool} : ∀ (fuel : Nat) (listed : Array Bool) (a : Act) (w : World), wpY P ops Q S nd fuel listed a w → wpAny P .any ops Q fuel listed a w
  | 0, _, _, _, h => h
  | fuel + 1, listed, a, w, h => ⟨h.1, fun i hi => by
      have := h.2 i hi
      split at this
      · exact wpOp_of_stOp (fun a' h' => wpAny_of_wpY fuel _ a' w h') this
      · exact wpOp_mono (fun a' w' h' => wpAny_of_wpY fuel _ a' w' h'.2) this⟩

/-- An early operation that may come up may be taken first: its value is the same in every world that meets Φ; Φ follows from S, or none of the others comes up before it. -/
theorem wpY_first {nd : Nat → Bool} {L0 : Array Bool} {Φ : World → Prop} {i : Nat} {oi : Oper} {v : Value} (hi : ops[i]? = some oi) (hei : earlyI ops i = true) (hsel : ∀ (j : Nat) (o : Oper) cs b, ops[j]? = some o → o.op ≠ .select cs b)
    (hQ : ∀ c a w, Q (.panic c) (a.put oi.dst v) w → Q (.panic c) a w)
    (hS : ((∀ w', S w' → Φ w') ∧ ∀ listed, Inv ops listed → listed.getD i true = false → ∀ j, j ∈ Region.ready .any ops listed → earlyI ops j = true ∨ j = i ∨ nd j = true) ∨ (∀ listed, Inv ops listed → (∀ j, L0.getD j false = true → listed.getD j false = true) → listed.getD i true = false → ∀ j, j ∈ Region.ready .any ops listed → earlyI ops j = true ∨ j = i)) :
    ∀ (fuel : Nat) (listed : Array Bool) (a : Act) (w : World), Inv ops listed → (∀ j, L0.getD j false = true → listed.getD j false = true) →
      (∀ j oj, ops[j]? = some oj → j ≠ i → listed.getD j true = false → (∀ e ∈ oj.after, Region.binds .any e = true → e.on ≠ i) → oi.apart ops oj = true) →
      i ∈ Region.ready .any ops listed → YieldsIf P ops Φ oi v a → Φ w →
      wpY P ops Q S nd fuel (listed.setIfInBounds i true) (a.put oi.dst v) w → wpY P ops Q S nd (fuel + 1) listed a w := by
  intro fuel
  induction fuel with
  | zero =>
    intro listed a w inv hsup hfree hr hy hw H
    refine ⟨fun h => (by rw [h] at hr; cases hr), fun j hj => ?_⟩
    by_cases hji : j = i
    · subst hji; rw [if_pos hei]; exact yi_stOp hi hy hw H
    · have := ready_mono hj hji
      rw [H.1] at this
      cases this
  | succ fuel ih =>
    intro listed a w inv hsup hfree hr hy hw H
    refine ⟨fun h => (by rw [h] at hr; cases hr), fun j hj => ?_⟩
    by_cases hji : j = i
    · subst hji; rw [if_pos hei]; exact yi_stOp hi hy hw H
    · have h1 := H.2 j (ready_mono hj hji)
      obtain ⟨hjun, oj, hoj, hall⟩ := mem_ready.1 hj
      have hnot : ∀ e ∈ oj.after, Region.binds .any e = true → e.on ≠ i := fun e he hb heq => by
        have h1 := hall e he hb
        have h0 := (mem_ready.1 hr).1
        rw [heq, getD_both h0] at h1
        cases h1
      have hfree' : ∀ k ok, ops[k]? = some ok → k ≠ i → (listed.setIfInBounds j true).getD k true = false →
          (∀ e ∈ ok.after, Region.binds .any e = true → e.on ≠ i) → oi.apart ops ok = true := fun k ok hk hki hun hno => by
        refine hfree k ok hk hki ?_ hno
        by_cases hjk : j = k
        · subst hjk; exact hjun
        · rw [getD_set_ne true hjk] at hun; exact hun
      by_cases hej : earlyI ops j = true
      · rw [if_pos hej] at h1 ⊢
        have h2 := stOp_putIf hoj (hfree j oj hoj hji hjun hnot) (fun cs b => hsel i oi cs b hi) (fun cs b => hsel j oj cs b hoj) hy h1
        refine stOp_mono (fun a' h3 => ih (listed.setIfInBounds j true) a' w (inv.set hj) (fun k hk => getD_set_true (hsup k hk)) hfree' (ready_mono hr (Ne.symm hji)) h3.1 hw ?_) h2
        rw [Array.setIfInBounds_comm _ _ hji]
        exact h3.2
      · rcases hS with hS | hS
        case inr =>
          rcases hS listed inv hsup (mem_ready.1 hr).1 j hj with h | h
          · exact absurd h hej
          · exact absurd h hji
        have hnd : nd j = true := by
          rcases hS.2 listed inv (mem_ready.1 hr).1 j hj with h | h | h
          · exact absurd h hej
          · exact absurd h hji
          · exact h
        rw [if_neg hej] at h1 ⊢
        have h2 := wpOp_putIf hoj (hfree j oj hoj hji hjun hnot) (fun cs b => hsel i oi cs b hi) (fun cs b => hsel j oj cs b hoj) hQ hy h1
        refine wpOp_mono (fun a' w' h3 => ⟨h3.2.1, ih (listed.setIfInBounds j true) a' w' (inv.set hj) (fun k hk => getD_set_true (hsup k hk)) hfree' (ready_mono hr (Ne.symm hji)) h3.1 (hS.1 w' (h3.2.1 hnd)) ?_⟩) h2
        rw [Array.setIfInBounds_comm _ _ hji]
        exact h3.2.2

/-- Every operation that may come up ahead of number i, and turns the world, is one behind which S is asked. -/
def soonOk (ops : Array Oper) (nd : Nat → Bool) (i : Nat) : Bool :=
  let W := closureB ops i
  checkW ops i W && (List.range ops.size).all fun j => earlyI ops j || W.getD j false || nd j
/-- The operations in an order. 'true': what it yields at the world as it is; 'false': in every world that meets S. -/
def wpD (P : Program) (ops : Array Oper) (Q : Exit → Act → World → Prop) (S : World → Prop) : List (Bool × Oper) → Act → World → Prop
  | [], a, w => Q .normal a w
  | (c, o) :: rest, a, w =>
    if isEarly o.op = true then
      (if c = true then ∃ v, YR P ops o a w v ∧ wpD P ops Q S rest (a.put o.dst v) w
       else S w ∧ ∃ v, (∀ w', S w' → YR P ops o a w' v) ∧ wpD P ops Q S rest (a.put o.dst v) w)
    else if Region.wanted o (yielded ops a.tmps) = true then o.wp P a w (fun a' w' => (c = false → S w') ∧ wpD P ops Q S rest a' w') Q
    else (c = false → S w) ∧ wpD P ops Q S rest (a.put o.dst undef) w

/-- The kernel's look at an order. -/
def canonG (ops : Array Oper) (nd : Nat → Bool) : List (Nat × Bool) → Array Bool → Bool
  | [], listed => (Region.ready .any ops listed).isEmpty
  | (k, c) :: ks, listed =>
    match ops[k]? with
    | none => false
    | some o =>
      (if isEarly o.op then (Region.ready .any ops listed).contains k && Region.free .any ops listed k && (if c then allWait ops listed k else soonOk ops nd k)
       else decide (Region.ready .any ops listed = [k]) && (!c || !nd k)) &&
        canonG ops nd ks (listed.setIfInBounds k true)

theorem wpY_of_wpD {nd : Nat → Bool} (hsel : Region.noSelect ops = true) (hQ : ∀ c a d v w, Q (.panic c) (Act.put a d v) w → Q (.panic c) a w) :
    ∀ (ks : List (Nat × Bool)) (listed : Array Bool) (a : Act) (w : World), Inv ops listed →
      canonG ops nd ks listed = true → wpD P ops Q S (ks.map fun k => (k.2, ops.getD k.1 default)) a w → wpY P ops Q S nd ks.length listed a w
  | [], listed, a, w, _, hB, h => by
    refine ⟨?_, h⟩
    simpa [canonG] using hB
  | (k, c) :: ks, listed, a, w, inv, hB, h => by
    simp only [canonG] at hB
    cases h0 : ops[k]? with
    | none => rw [h0] at hB; cases hB
    | some o =>
    rw [h0] at hB
    simp only [Bool.and_eq_true] at hB
    obtain ⟨hB1, hB2⟩ := hB
    have ih := wpY_of_wpD (nd := nd) hsel hQ ks (listed.setIfInBounds k true)
    have hg : ops.getD k default = o := by simp [Array.getD_eq_getD_getElem?, h0]
    simp only [List.map_cons, wpD, hg] at h
    by_cases he : isEarly o.op = true
    · rw [if_pos he] at h hB1
      simp only [Bool.and_eq_true] at hB1
      obtain ⟨⟨hr, hf⟩, hc⟩ := hB1
      have hei : earlyI ops k = true := by simp [earlyI, h0, he]
      have hr' : k ∈ Region.ready .any ops listed := by simpa using hr
      cases c with
      | false =>
        simp only [Bool.false_eq_true, if_false] at h
        obtain ⟨hS, v, hy, hrest⟩ := h
        simp only [Bool.false_eq_true, if_false, soonOk, Bool.and_eq_true] at hc
        have hsoon : ∀ listed, Inv ops listed → listed.getD k true = false → ∀ j, j ∈ Region.ready .any ops listed → earlyI ops j = true ∨ j = k ∨ nd j = true := by
          intro listed' inv' hun j hj
          obtain ⟨hjun, oj, hoj, _⟩ := mem_ready.1 hj
          have hjlt : j < ops.size := (Array.getElem?_eq_some_iff.1 hoj).1
          have h1 := List.all_eq_true.1 hc.2 j (List.mem_range.2 hjlt)
          simp only [Bool.or_eq_true] at h1
          rcases h1 with (h1 | h1) | h1
          · exact .inl h1
          · by_cases hji : j = k
            · exact .inr (.inl hji)
            · exact absurd hj ((waits hc.1 inv' hun (j + 1) j (by omega) h1).2 hji)
          · exact .inr (.inr h1)
        exact wpY_first (L0 := listed) h0 hei (Region.noSelect_spec hsel) (fun c a w hq => hQ c a _ _ w hq) (.inl ⟨fun _ h => h, hsoon⟩) ks.length listed a w inv (fun _ h => h) (Region.free_spec h0 hf) hr' (yieldsIf_of hS hy) hS (ih _ _ (inv.set hr') hB2 hrest)
      | true =>
        simp only [if_true] at h
        obtain ⟨v, hy, hrest⟩ := h
        simp only [if_true, allWait, Bool.and_eq_true] at hc
        refine wpY_first (L0 := listed) (Φ := fun w' => w' = w) h0 hei (Region.noSelect_spec hsel) (fun c a w hq => hQ c a _ _ w hq) (.inr ?_) ks.length listed a w inv (fun _ h => h) (Region.free_spec h0 hf) hr' (yieldsIf_of rfl (fun w' hw' => by subst hw'; exact hy)) rfl (ih _ _ (inv.set hr') hB2 hrest)
        intro listed' inv' hsup hun j hj
        obtain ⟨hjun, oj, hoj, _⟩ := mem_ready.1 hj
        have hjlt : j < ops.size := (Array.getElem?_eq_some_iff.1 hoj).1
        have h1 := List.all_eq_true.1 hc.2 j (List.mem_range.2 hjlt)
        simp only [Bool.or_eq_true] at h1
        rcases h1 with (h1 | h1) | h1
        · have := hsup j h1
          rw [getD_both hjun] at this
          cases this
        · exact .inl h1
        · by_cases hji : j = k
          · exact .inr hji
          · exact absurd hj ((waits hc.1 inv' hun (j + 1) j (by omega) h1).2 hji)
    · rw [if_neg he] at h
      rw [if_neg (by simpa using he)] at hB1
      simp only [Bool.and_eq_true, decide_eq_true_eq] at hB1
      obtain ⟨hr, hnd⟩ := hB1
      have hnd' : nd k = true → c = false := by cases c <;> simp_all
      have hei : earlyI ops k = false := by simp [earlyI, h0, he]
      have inv' := inv.set (show k ∈ Region.ready .any ops listed by rw [hr]; simp)
      refine ⟨fun h1 => (by rw [hr] at h1; cases h1), fun i hi => ?_⟩
      rw [hr] at hi
      obtain rfl : i = k := by simpa using hi
      rw [if_neg (by simp [hei])]
      unfold wpOp
      simp only [h0]
      by_cases hw : Region.wanted o (yielded ops a.tmps) = true
      · rw [if_pos hw] at h ⊢
        exact .inl (Oper.wp_mono (fun a' w' h' => ⟨fun hk => h'.1 (hnd' hk), ih _ _ inv' hB2 h'.2⟩) h)
      · rw [if_neg hw] at h ⊢
        exact ⟨fun hk => h.1 (hnd' hk), ih _ _ inv' hB2 h.2⟩

/-- The law. -/
theorem wp_region_can {id : Nat} {l : List Oper} {a : Act} {w : World} (ks : List (Nat × Bool)) (S : World → Prop) (hm : P.follows .mixedOrders = true)
    (hB : (Region.noSelect l.toArray && decide (ks.length = l.length) && canonG l.toArray (fun j => ks.any fun p => p.1 == j && !p.2) ks (Array.replicate l.length false)) = true)
    (h : wpD P l.toArray (NoPanic Q) S (ks.map fun k => (k.2, l.getD k.1 default)) a w.drew) : (Code.region id l.toArray true).wp P Q a w := by
  simp only [Bool.and_eq_true, decide_eq_true_eq] at hB
  obtain ⟨⟨h1, h2⟩, h3⟩ := hB
  have inv0 : Inv l.toArray (Array.replicate l.length false) := ⟨by simp, fun j oj _ hl => by rw [getD_replicate_false] at hl; cases hl⟩
  refine wp_region_noPanic (wp_region_any hm (wpAny_of_wpY (S := S) (nd := fun j => ks.any fun p => p.1 == j && !p.2) _ _ _ _ ?_))
  have := wpY_of_wpD (Q := NoPanic Q) (P := P) (S := S) h1 (fun c a d v w hq => by cases hq) ks (Array.replicate l.length false) a w.drew inv0 h3 (by simpa [Array.getD_eq_getD_getElem?, List.getD] using h)
  rw [h2] at this
  simpa using this
end
end Go.Proofs.Ytpbfppelmgjfpaa
