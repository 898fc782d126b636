/- A drawn region carried out in one order: operations that only compute or load are taken as they come up, the others must come up one at a time. Generic: no program is named. -/
import Derived.OrdersHeld
import Derived.Tactics
import Derived.StillTail
import Derived.Deep.RegionHeld3
import Derived.KernelRfl
namespace Go.Proofs.Ytknghnmcckjjbaa
open Go

/-- Operations that leave the world as it is and yield a value. -/
def isEarly : Op → Bool
  | .move _ | .assign _ | .pick .. | .load .. | .nilCheck _ | .binOp .. | .unOp .. | .fieldAddr .. | .field .. | .indexAddr .. | .index .. | .slice .. | .extract .. | .build .. => true
  | .convert .. => true
  | .call { callee := .builtin .len, .. } => true
  | .call { callee := .builtin .min, .. } => true
  | _ => false

/-- What an operation yields at a world. -/
def YR (P : Program) (ops : Array Oper) (o : Oper) (a : Act) (w : World) (v : Value) : Prop :=
  if Region.wanted o (yielded ops a.tmps) = true then (execOp a.eval o).run P w = .ok (.value v) w else v = undef

def earlyI (ops : Array Oper) (j : Nat) : Bool := match ops[j]? with | some o => isEarly o.op | none => false

/-- The operations that wait for number i, i with them. -/
def closureB (ops : Array Oper) (i : Nat) : Array Bool :=
  (List.range ops.size).foldl (fun W j => W.push (j == i || match ops[j]? with | some o => o.after.any fun e => Region.binds .any e && decide (e.on < j) && W.getD e.on false | none => false)) #[]
def checkW (ops : Array Oper) (i : Nat) (W : Array Bool) : Bool :=
  (List.range ops.size).all fun j => !W.getD j false || j == i || match ops[j]? with | some o => o.after.any fun e => Region.binds .any e && decide (e.on < j) && W.getD e.on false | none => false
/-- Every operation that is no early one and has not come up waits for number i. -/
def allWait (ops : Array Oper) (listed : Array Bool) (i : Nat) : Bool :=
  let W := closureB ops i
  checkW ops i W && (List.range ops.size).all fun j => listed.getD j false || earlyI ops j || W.getD j false

section
variable {P : Program} {ops : Array Oper} {Q : Exit → Act → World → Prop} {S : World → Prop}

structure Inv (ops : Array Oper) (listed : Array Bool) : Prop where
  size : listed.size = ops.size
  closed : ∀ j oj, ops[j]? = some oj → listed.getD j false = true → ∀ e ∈ oj.after, Region.binds .any e = true → listed.getD e.on false = true

theorem Inv.set {listed : Array Bool} {i : Nat} (inv : Inv ops listed) (hi : i ∈ Region.ready .any ops listed) : Inv ops (listed.setIfInBounds i true) := by
  obtain ⟨_, oi, hoi, hall⟩ := mem_ready.1 hi
  refine ⟨by simp [inv.size], fun j oj hj hl e he hb => ?_⟩
  by_cases hij : i = j
  · subst hij
    have : oj = oi := Option.some.inj (hj.symm.trans hoi)
    subst this
    exact getD_set_true (hall e he hb)
  · rw [getD_set_ne false hij] at hl
    exact getD_set_true (inv.closed j oj hj hl e he hb)

/-- Who waits for i does not come up before i. -/
theorem waits {W : Array Bool} {i : Nat} (hW : checkW ops i W = true) {listed : Array Bool} (inv : Inv ops listed) (hun : listed.getD i true = false) :
    ∀ (n j : Nat), j < n → W.getD j false = true → listed.getD j false = false ∧ (j ≠ i → j ∉ Region.ready .any ops listed) := by
  intro n
  induction n with
  | zero => intro j hj; omega
  | succ n ih =>
    intro j _ hj
    by_cases hji : j = i
    · subst hji
      exact ⟨getD_both hun, fun h => absurd rfl h⟩
    have h1 : j < ops.size ∨ ops.size ≤ j := by omega
    rcases h1 with h1 | h1
    case inr => exact ⟨by simp [Array.getD_eq_getD_getElem?, Array.getElem?_eq_none (show listed.size ≤ j by rw [inv.size]; exact h1)], fun _ hr => by
      obtain ⟨_, o, ho, _⟩ := mem_ready.1 hr
      rw [Array.getElem?_eq_none h1] at ho; cases ho⟩
    have h2 := List.all_eq_true.1 hW j (List.mem_range.2 h1)
    simp only [hj, Bool.not_true, Bool.false_or, Bool.or_eq_true, beq_iff_eq, hji, false_or] at h2
    have ho : ops[j]? = some ops[j] := Array.getElem?_eq_getElem h1
    rw [ho] at h2
    obtain ⟨e, he, h3⟩ := Array.any_eq_true'.1 h2
    simp only [Bool.and_eq_true, decide_eq_true_eq] at h3
    obtain ⟨⟨hb, hlt⟩, hWe⟩ := h3
    have h4 := (ih e.on (by omega) hWe).1
    refine ⟨?_, fun _ hr => ?_⟩
    · cases hl : listed.getD j false with
      | false => rfl
      | true =>
        have := inv.closed j _ ho hl e he hb
        rw [h4] at this; cases this
    · obtain ⟨_, o, ho', hall⟩ := mem_ready.1 hr
      have : o = ops[j] := Option.some.inj (ho'.symm.trans ho)
      subst this
      have := hall e he hb
      rw [h4] at this; cases this

/-- Whatever order is picked from here on; an early operation leaves the world as it is; S holds behind each of the others. -/
def wpX (P : Program) (ops : Array Oper) (Q : Exit → Act → World → Prop) (S : World → Prop) : Nat → Array Bool → Act → World → Prop
  | 0, listed, a, w => Region.ready .any ops listed = [] ∧ Q .normal a w
  | fuel + 1, listed, a, w =>
    (Region.ready .any ops listed = [] → Q .normal a w) ∧
    ∀ i ∈ Region.ready .any ops listed,
      if earlyI ops i = true then stOp P ops w i (fun a' => wpX P ops Q S fuel (listed.setIfInBounds i true) a' w) a
      else wpOp P ops Q i (fun a' w' => S w' ∧ wpX P ops Q S fuel (listed.setIfInBounds i true) a' w') a w

theorem wpAny_of_wpX : ∀ (fuel : Nat) (listed : Array Bool) (a : Act) (w : World), wpX P ops Q S fuel listed a w → wpAny P .any ops Q fuel listed a w
  | 0, _, _, _, h => h
  | fuel + 1, listed, a, w, h => ⟨h.1, fun i hi => by
      have := h.2 i hi
      split at this
      · exact wpOp_of_stOp (fun a' h' => wpAny_of_wpX fuel _ a' w h') this
      · exact wpOp_mono (fun a' w' h' => wpAny_of_wpX fuel _ a' w' h'.2) this⟩

theorem yi_stOp {Φ : World → Prop} {i : Nat} {o : Oper} {v : Value} {a : Act} {w : World} (hi : ops[i]? = some o) (hy : YieldsIf P ops Φ o v a) (hw : Φ w) {K : Act → Prop} (h : K (a.put o.dst v)) : stOp P ops w i K a := by
  unfold Go.stOp
  simp only [hi]
  rcases hy with ⟨h1, hv⟩ | ⟨h1, rfl⟩
  · simp only [h1, if_true, Oper.still, hv w hw, Oper.stillUpon]; exact ⟨trivial, h⟩
  · simp only [h1, Bool.false_eq_true, if_false]; exact h

theorem stOp_putIf {Φ : World → Prop} {w : World} {j : Nat} {oi oj : Oper} {v : Value} (hj : ops[j]? = some oj) (hap : oi.apart ops oj = true)
    (hsi : ∀ cs b, oi.op ≠ .select cs b) (hsj : ∀ cs b, oj.op ≠ .select cs b) {K : Act → Prop} {a : Act}
    (hy : YieldsIf P ops Φ oi v a) (h : stOp P ops w j K (a.put oi.dst v)) :
    stOp P ops w j (fun a' => YieldsIf P ops Φ oi v a' ∧ K (a'.put oi.dst v)) a := by
  obtain ⟨h1, h2, h3⟩ := Oper.apart_spec hap
  have keep : ∀ (a : Act), YieldsIf P ops Φ oi v a → ∀ u, YieldsIf P ops Φ oi v (a.put oj.dst u) := fun a hy u =>
    hy.of_same (execOp_put oi hsi a oj.dst u h3) (wanted_put oi a oj.dst u h3)
  unfold stOp at *
  simp only [hj] at *
  rw [wanted_put oj a oi.dst v h1] at h
  split
  · rename_i hw
    simp only [hw, if_true] at h
    unfold Oper.still at *
    rw [execOp_put oj hsj a oi.dst v h1] at h
    generalize (execOp a.eval oj).run P w = r at *
    cases r with
    | ok n w' =>
      cases n <;> simp only [Oper.stillUpon] at h ⊢
      case value u => exact ⟨h.1, keep a hy u, by rw [← Act.put_comm a v u h2]; exact h.2⟩
      case skip => exact ⟨h.1, keep a hy _, by rw [← Act.put_comm a v undef h2]; exact h.2⟩
      case enter f args => obtain ⟨hw', u, hc, hn⟩ := h; exact ⟨hw', u, hc, keep a hy u, by rw [← Act.put_comm a v u h2]; exact hn⟩
    | halt x w' => simp only [Oper.stillUpon] at h
  · rename_i hw
    simp only [hw] at h
    exact ⟨keep a hy _, by rw [← Act.put_comm a v undef h2]; exact h⟩

/-- An early operation that may come up may be taken first: its value is the same in every world that meets Φ; Φ follows from S, or none of the others comes up before it. -/
theorem wpX_first {L0 : Array Bool} {Φ : World → Prop} {i : Nat} {oi : Oper} {v : Value} (hi : ops[i]? = some oi) (hei : earlyI ops i = true) (hsel : ∀ (j : Nat) (o : Oper) cs b, ops[j]? = some o → o.op ≠ .select cs b)
    (hQ : ∀ c a w, Q (.panic c) (a.put oi.dst v) w → Q (.panic c) a w)
    (hS : (∀ w', S w' → Φ w') ∨ (∀ listed, Inv ops listed → (∀ j, L0.getD j false = true → listed.getD j false = true) → listed.getD i true = false → ∀ j, j ∈ Region.ready .any ops listed → earlyI ops j = true ∨ j = i)) :
    ∀ (fuel : Nat) (listed : Array Bool) (a : Act) (w : World), Inv ops listed → (∀ j, L0.getD j false = true → listed.getD j false = true) →
      (∀ j oj, ops[j]? = some oj → j ≠ i → listed.getD j true = false → (∀ e ∈ oj.after, Region.binds .any e = true → e.on ≠ i) → oi.apart ops oj = true) →
      i ∈ Region.ready .any ops listed → YieldsIf P ops Φ oi v a → Φ w →
      wpX P ops Q S fuel (listed.setIfInBounds i true) (a.put oi.dst v) w → wpX P ops Q S (fuel + 1) listed a w := by
  intro fuel
  induction fuel with
  | zero =>
    intro listed a w inv hsup hfree hr hy hw H
    refine ⟨fun h => (by rw [h] at hr; cases hr), fun j hj => ?_⟩
    by_cases hji : j = i
    · subst hji; rw [if_pos hei]; exact yi_stOp hi hy hw H
    · have := ready_mono hj hji
      rw [H.1] at this
      cases this
  | succ fuel ih =>
    intro listed a w inv hsup hfree hr hy hw H
    refine ⟨fun h => (by rw [h] at hr; cases hr), fun j hj => ?_⟩
    by_cases hji : j = i
    · subst hji; rw [if_pos hei]; exact yi_stOp hi hy hw H
    · have h1 := H.2 j (ready_mono hj hji)
      obtain ⟨hjun, oj, hoj, hall⟩ := mem_ready.1 hj
      have hnot : ∀ e ∈ oj.after, Region.binds .any e = true → e.on ≠ i := fun e he hb heq => by
        have h1 := hall e he hb
        have h0 := (mem_ready.1 hr).1
        rw [heq, getD_both h0] at h1
        cases h1
      have hfree' : ∀ k ok, ops[k]? = some ok → k ≠ i → (listed.setIfInBounds j true).getD k true = false →
          (∀ e ∈ ok.after, Region.binds .any e = true → e.on ≠ i) → oi.apart ops ok = true := fun k ok hk hki hun hno => by
        refine hfree k ok hk hki ?_ hno
        by_cases hjk : j = k
        · subst hjk; exact hjun
        · rw [getD_set_ne true hjk] at hun; exact hun
      by_cases hej : earlyI ops j = true
      · rw [if_pos hej] at h1 ⊢
        have h2 := stOp_putIf hoj (hfree j oj hoj hji hjun hnot) (fun cs b => hsel i oi cs b hi) (fun cs b => hsel j oj cs b hoj) hy h1
        refine stOp_mono (fun a' h3 => ih (listed.setIfInBounds j true) a' w (inv.set hj) (fun k hk => getD_set_true (hsup k hk)) hfree' (ready_mono hr (Ne.symm hji)) h3.1 hw ?_) h2
        rw [Array.setIfInBounds_comm _ _ hji]
        exact h3.2
      · rcases hS with hS | hS
        case inr =>
          rcases hS listed inv hsup (mem_ready.1 hr).1 j hj with h | h
          · exact absurd h hej
          · exact absurd h hji
        rw [if_neg hej] at h1 ⊢
        have h2 := wpOp_putIf hoj (hfree j oj hoj hji hjun hnot) (fun cs b => hsel i oi cs b hi) (fun cs b => hsel j oj cs b hoj) hQ hy h1
        refine wpOp_mono (fun a' w' h3 => ⟨h3.2.1, ih (listed.setIfInBounds j true) a' w' (inv.set hj) (fun k hk => getD_set_true (hsup k hk)) hfree' (ready_mono hr (Ne.symm hji)) h3.1 (hS w' h3.2.1) ?_⟩) h2
        rw [Array.setIfInBounds_comm _ _ hji]
        exact h3.2.2

/-- The operations in an order. 'true': what it yields at the world as it is; 'false': in every world that meets S. -/
def wpC (P : Program) (ops : Array Oper) (Q : Exit → Act → World → Prop) (S : World → Prop) : List (Bool × Oper) → Act → World → Prop
  | [], a, w => Q .normal a w
  | (c, o) :: rest, a, w =>
    if isEarly o.op = true then
      (if c = true then ∃ v, YR P ops o a w v ∧ wpC P ops Q S rest (a.put o.dst v) w
       else S w ∧ ∃ v, (∀ w', S w' → YR P ops o a w' v) ∧ wpC P ops Q S rest (a.put o.dst v) w)
    else if Region.wanted o (yielded ops a.tmps) = true then o.wp P a w (fun a' w' => S w' ∧ wpC P ops Q S rest a' w') Q
    else S w ∧ wpC P ops Q S rest (a.put o.dst undef) w

/-- The kernel's look at an order. -/
def canonFrom (ops : Array Oper) : List (Nat × Bool) → Array Bool → Bool
  | [], listed => (Region.ready .any ops listed).isEmpty
  | (k, c) :: ks, listed =>
    match ops[k]? with
    | none => false
    | some o =>
      (if isEarly o.op then (Region.ready .any ops listed).contains k && Region.free .any ops listed k && (!c || allWait ops listed k)
       else decide (Region.ready .any ops listed = [k])) &&
        canonFrom ops ks (listed.setIfInBounds k true)

theorem yieldsIf_of {Φ : World → Prop} {o : Oper} {a : Act} {v : Value} {w : World} (hw : Φ w) (h : ∀ w', Φ w' → YR P ops o a w' v) : YieldsIf P ops Φ o v a := by
  by_cases hw' : Region.wanted o (yielded ops a.tmps) = true
  · exact .inl ⟨hw', fun w' hS' => by have := h w' hS'; unfold YR at this; rwa [if_pos hw'] at this⟩
  · refine .inr ⟨by simpa using hw', ?_⟩
    have := h w hw
    unfold YR at this
    rwa [if_neg hw'] at this

theorem wpX_of_wpC (hsel : Region.noSelect ops = true) (hQ : ∀ c a d v w, Q (.panic c) (Act.put a d v) w → Q (.panic c) a w) :
    ∀ (ks : List (Nat × Bool)) (listed : Array Bool) (a : Act) (w : World), Inv ops listed →
      canonFrom ops ks listed = true → wpC P ops Q S (ks.map fun k => (k.2, ops.getD k.1 default)) a w → wpX P ops Q S ks.length listed a w
  | [], listed, a, w, _, hB, h => by
    refine ⟨?_, h⟩
    simpa [canonFrom] using hB
  | (k, c) :: ks, listed, a, w, inv, hB, h => by
    simp only [canonFrom] at hB
    cases h0 : ops[k]? with
    | none => rw [h0] at hB; cases hB
    | some o =>
    rw [h0] at hB
    simp only [Bool.and_eq_true] at hB
    obtain ⟨hB1, hB2⟩ := hB
    have ih := wpX_of_wpC hsel hQ ks (listed.setIfInBounds k true)
    have hg : ops.getD k default = o := by simp [Array.getD_eq_getD_getElem?, h0]
    simp only [List.map_cons, wpC, hg] at h
    by_cases he : isEarly o.op = true
    · rw [if_pos he] at h hB1
      simp only [Bool.and_eq_true] at hB1
      obtain ⟨⟨hr, hf⟩, hc⟩ := hB1
      have hei : earlyI ops k = true := by simp [earlyI, h0, he]
      have hr' : k ∈ Region.ready .any ops listed := by simpa using hr
      cases c with
      | false =>
        simp only [Bool.false_eq_true, if_false] at h
        obtain ⟨hS, v, hy, hrest⟩ := h
        exact wpX_first (L0 := listed) h0 hei (Region.noSelect_spec hsel) (fun c a w hq => hQ c a _ _ w hq) (.inl fun _ h => h) ks.length listed a w inv (fun _ h => h) (Region.free_spec h0 hf) hr' (yieldsIf_of hS hy) hS (ih _ _ (inv.set hr') hB2 hrest)
      | true =>
        simp only [if_true] at h
        obtain ⟨v, hy, hrest⟩ := h
        simp only [Bool.not_true, Bool.false_or] at hc
        simp only [allWait, Bool.and_eq_true] at hc
        refine wpX_first (L0 := listed) (Φ := fun w' => w' = w) h0 hei (Region.noSelect_spec hsel) (fun c a w hq => hQ c a _ _ w hq) (.inr ?_) ks.length listed a w inv (fun _ h => h) (Region.free_spec h0 hf) hr' (yieldsIf_of rfl (fun w' hw' => by subst hw'; exact hy)) rfl (ih _ _ (inv.set hr') hB2 hrest)
        intro listed' inv' hsup hun j hj
        obtain ⟨hjun, oj, hoj, _⟩ := mem_ready.1 hj
        have hjlt : j < ops.size := (Array.getElem?_eq_some_iff.1 hoj).1
        have h1 := List.all_eq_true.1 hc.2 j (List.mem_range.2 hjlt)
        simp only [Bool.or_eq_true] at h1
        rcases h1 with (h1 | h1) | h1
        · have := hsup j h1
          rw [getD_both hjun] at this
          cases this
        · exact .inl h1
        · by_cases hji : j = k
          · exact .inr hji
          · exact absurd hj ((waits hc.1 inv' hun (j + 1) j (by omega) h1).2 hji)
    · rw [if_neg he] at h
      rw [if_neg (by simpa using he)] at hB1
      have hr : Region.ready .any ops listed = [k] := by simpa using hB1
      have hei : earlyI ops k = false := by simp [earlyI, h0, he]
      have inv' := inv.set (show k ∈ Region.ready .any ops listed by rw [hr]; simp)
      refine ⟨fun h1 => (by rw [hr] at h1; cases h1), fun i hi => ?_⟩
      rw [hr] at hi
      obtain rfl : i = k := by simpa using hi
      rw [if_neg (by simp [hei])]
      unfold wpOp
      simp only [h0]
      by_cases hw : Region.wanted o (yielded ops a.tmps) = true
      · rw [if_pos hw] at h ⊢
        exact .inl (Oper.wp_mono (fun a' w' h' => ⟨h'.1, ih _ _ inv' hB2 h'.2⟩) h)
      · rw [if_neg hw] at h ⊢
        exact ⟨h.1, ih _ _ inv' hB2 h.2⟩

/-- The law. -/
theorem wp_region_canon {id : Nat} {l : List Oper} {a : Act} {w : World} (ks : List (Nat × Bool)) (S : World → Prop) (hm : P.follows .mixedOrders = true)
    (hB : (Region.noSelect l.toArray && decide (ks.length = l.length) && canonFrom l.toArray ks (Array.replicate l.length false)) = true)
    (h : wpC P l.toArray (NoPanic Q) S (ks.map fun k => (k.2, l.getD k.1 default)) a w.drew) : (Code.region id l.toArray true).wp P Q a w := by
  simp only [Bool.and_eq_true, decide_eq_true_eq] at hB
  obtain ⟨⟨h1, h2⟩, h3⟩ := hB
  have inv0 : Inv l.toArray (Array.replicate l.length false) := ⟨by simp, fun j oj _ hl => by rw [getD_replicate_false] at hl; cases hl⟩
  refine wp_region_noPanic (wp_region_any hm (wpAny_of_wpX (S := S) _ _ _ _ ?_))
  have := wpX_of_wpC (Q := NoPanic Q) (P := P) (S := S) h1 (fun c a d v w hq => by cases hq) ks (Array.replicate l.length false) a w.drew inv0 h3 (by simpa [Array.getD_eq_getD_getElem?, List.getD] using h)
  rw [h2] at this
  simpa using this

theorem wpC_nil {a : Act} {w : World} (h : Q .normal a w) : wpC P ops Q S [] a w := h

/-- An early operation, at the world as it is. -/
theorem wpC_now {o : Oper} {rest : List (Bool × Oper)} {a : Act} {w : World} (he : isEarly o.op = true)
    (h : ∀ K : Act → Prop, (∀ a', wpC P ops Q S rest a' w → K a') → ∃ v, YR P ops o a w v ∧ K (a.put o.dst v)) : wpC P ops Q S ((true, o) :: rest) a w := by
  simp only [wpC]
  rw [if_pos he, if_pos trivial]
  exact h (fun a' => wpC P ops Q S rest a' w) (fun _ h => h)

/-- An early operation, in every world that meets S. -/
theorem wpC_any {o : Oper} {rest : List (Bool × Oper)} {a : Act} {w : World} (he : isEarly o.op = true) (hS : S w)
    (h : ∀ K : Act → Prop, (∀ a', wpC P ops Q S rest a' w → K a') → ∃ v, (∀ w', S w' → YR P ops o a w' v) ∧ K (a.put o.dst v)) : wpC P ops Q S ((false, o) :: rest) a w := by
  simp only [wpC]
  rw [if_pos he, if_neg (by simp)]
  exact ⟨hS, h (fun a' => wpC P ops Q S rest a' w) (fun _ h => h)⟩

theorem wpC_step {c : Bool} {o : Oper} {rest : List (Bool × Oper)} {a : Act} {w : World} (he : isEarly o.op = false) (hg : o.guard = none)
    (h : ∀ K : Act → World → Prop, (∀ a' w', S w' → wpC P ops Q S rest a' w' → K a' w') → o.wp P a w K Q) : wpC P ops Q S ((c, o) :: rest) a w := by
  simp only [wpC]
  rw [if_neg (by simp [he]), if_pos (by simp [Region.wanted, hg])]
  exact h _ (fun _ _ h1 h2 => ⟨h1, h2⟩)

theorem wpC_gstep {c : Bool} {o : Oper} {rest : List (Bool × Oper)} {a : Act} {w : World} (he : isEarly o.op = false)
    (h : ∀ K : Act → World → Prop, (∀ a' w', S w' → wpC P ops Q S rest a' w' → K a' w') →
      if Region.wanted o (yielded ops a.tmps) = true then o.wp P a w K Q else K (a.put o.dst undef) w) : wpC P ops Q S ((c, o) :: rest) a w := by
  simp only [wpC]
  rw [if_neg (by simp [he])]
  by_cases hw : Region.wanted o (yielded ops a.tmps) = true
  · rw [if_pos hw]
    have := h (fun a' w' => S w' ∧ wpC P ops Q S rest a' w') (fun _ _ h1 h2 => ⟨h1, h2⟩)
    rwa [if_pos hw] at this
  · rw [if_neg hw]
    have := h (fun a' w' => S w' ∧ wpC P ops Q S rest a' w') (fun _ _ h1 h2 => ⟨h1, h2⟩)
    rw [if_neg hw] at this
    exact this
end
end Go.Proofs.Ytknghnmcckjjbaa
