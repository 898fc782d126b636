/- Drawn regions in which several orders are open: a tree of orders. Generic: no program is named. -/
import Derived.Test.YtknghnmcckjjbaaSr
namespace Go.Proofs.Ytknghnmcckjjbaa
open Go Go.RowKit
set_option linter.unusedVariables false
set_option linter.unusedSimpArgs false

/-- A segment of one order; or one of several operations comes up next. -/
inductive Tr
  | stop
  | seg (ks : List (Nat × Bool)) (t : Tr)
  | alt (k : Nat) (c : Bool) (t u : Tr)
  | none

def onN (Q : Exit → Act → World → Prop) (K : Act → World → Prop) : Exit → Act → World → Prop
  | .normal, a, w => K a w
  | e, a, w => Q e a w

section
variable {P : Program} {ops : Array Oper} {Q : Exit → Act → World → Prop} {S : World → Prop}
theorem wp_onN {o : Oper} {a : Act} {w : World} {K K' : Act → World → Prop} (hh : o.wp P a w K' (onN Q K)) : o.wp P a w K' Q := by
  unfold Oper.wp at *
  generalize (execOp a.eval o).run P w = r at *
  cases r with
  | ok n w' =>
    cases n <;> simp only [Oper.upon] at hh ⊢ <;>
      first
        | exact hh
        | exact Calls.mono hh (fun e w'' he => by cases e <;> first | exact he | exact (let ⟨a, w, h⟩ := he; ⟨a, w, h⟩))
  | halt x w' => cases x <;> simp only [Oper.upon] at hh ⊢ <;> exact hh

def wpT (P : Program) (Q : Exit → Act → World → Prop) (S : World → Prop) (l : List Oper) : Tr → Act → World → Prop
  | .stop, a, w => Q .normal a w
  | .seg ks t, a, w => wpD P l.toArray (onN Q (wpT P Q S l t)) S (ks.map fun k => (k.2, l.getD k.1 default)) a w
  | .alt k c t u, a, w => wpD P l.toArray (onN Q (wpT P Q S l t)) S [(c, l.getD k default)] a w ∧ wpT P Q S l u a w
  | .none, _, _ => True

def segOk (ops : Array Oper) (nd : Nat → Bool) (k : Nat) (c : Bool) (listed : Array Bool) (o : Oper) : Bool :=
  if isEarly o.op then (Region.ready .any ops listed).contains k && Region.free .any ops listed k && (if c then allWait ops listed k else soonOk ops nd k)
  else decide (Region.ready .any ops listed = [k]) && (!c || !nd k)
/-- The kernel's look at a segment: what is listed behind it. -/
def canonS (ops : Array Oper) (nd : Nat → Bool) : List (Nat × Bool) → Array Bool → Option (Array Bool)
  | [], listed => some listed
  | (k, c) :: ks, listed =>
    match ops[k]? with
    | none => none
    | some o =>
      bif segOk ops nd k c listed o then canonS ops nd ks (listed.setIfInBounds k true) else none
/-- The look at a tree; n: so many operations are open. -/
def canonT (ops : Array Oper) (nd : Nat → Bool) : Tr → Array Bool → Nat → List Nat → Bool
  | .stop, listed, n, seen => decide (n = 0) && seen.isEmpty && (Region.ready .any ops listed).isEmpty
  | .seg ks t, listed, n, seen => seen.isEmpty && decide (ks.length ≤ n) && (match canonS ops nd ks listed with | some l' => canonT ops nd t l' (n - ks.length) [] | none => false)
  | .alt k c t u, listed, n, seen => decide (0 < n) && (Region.ready .any ops listed).contains k && !earlyI ops k && (!c || !nd k) && canonT ops nd t (listed.setIfInBounds k true) (n - 1) [] && canonT ops nd u listed n (k :: seen)
  | .none, listed, n, seen => decide (0 < n) && !seen.isEmpty && !(Region.ready .any ops listed).isEmpty && (Region.ready .any ops listed).all fun k => seen.contains k

theorem wpY_of_seg {nd : Nat → Bool} {K : Act → World → Prop} (hsel : Region.noSelect ops = true) (hQ : ∀ c a d v w, Q (.panic c) (Act.put a d v) w → Q (.panic c) a w) {n : Nat} {listed' : Array Bool}
    (hK : Inv ops listed' → ∀ a w, K a w → wpY P ops Q S nd n listed' a w) :
    ∀ (ks : List (Nat × Bool)) (listed : Array Bool) (a : Act) (w : World), Inv ops listed →
      canonS ops nd ks listed = some listed' → wpD P ops (onN Q K) S (ks.map fun k => (k.2, ops.getD k.1 default)) a w → wpY P ops Q S nd (ks.length + n) listed a w
  | [], listed, a, w, inv, hB, h => by
    simp only [canonS, Option.some.injEq] at hB
    subst hB
    rw [List.length_nil, Nat.zero_add]
    exact hK inv a w h
  | (k, c) :: ks, listed, a, w, inv, hB, h => by
    simp only [canonS] at hB
    cases h0 : ops[k]? with
    | none => rw [h0] at hB; cases hB
    | some o =>
    rw [h0] at hB
    cases hB1 : segOk ops nd k c listed o with
    | false => simp only [hB1, cond_false] at hB; cases hB
    | true =>
    simp only [hB1, cond_true] at hB
    have hB2 := hB
    unfold segOk at hB1
    have ih := wpY_of_seg (nd := nd) hsel hQ hK ks (listed.setIfInBounds k true)
    have hg : ops.getD k default = o := by simp [Array.getD_eq_getD_getElem?, h0]
    simp only [List.map_cons, wpD, hg] at h
    rw [List.length_cons, Nat.add_right_comm]
    by_cases he : isEarly o.op = true
    · rw [if_pos he] at h hB1
      simp only [Bool.and_eq_true] at hB1
      obtain ⟨⟨hr, hf⟩, hc⟩ := hB1
      have hei : earlyI ops k = true := by simp [earlyI, h0, he]
      have hr' : k ∈ Region.ready .any ops listed := by simpa using hr
      cases c with
      | false =>
        simp only [Bool.false_eq_true, if_false] at h
        obtain ⟨hS, v, hy, hrest⟩ := h
        simp only [Bool.false_eq_true, if_false, soonOk, Bool.and_eq_true] at hc
        have hsoon : ∀ listed, Inv ops listed → listed.getD k true = false → ∀ j, j ∈ Region.ready .any ops listed → earlyI ops j = true ∨ j = k ∨ nd j = true := by
          intro listed' inv' hun j hj
          obtain ⟨hjun, oj, hoj, _⟩ := mem_ready.1 hj
          have hjlt : j < ops.size := (Array.getElem?_eq_some_iff.1 hoj).1
          have h1 := List.all_eq_true.1 hc.2 j (List.mem_range.2 hjlt)
          simp only [Bool.or_eq_true] at h1
          rcases h1 with (h1 | h1) | h1
          · exact .inl h1
          · by_cases hji : j = k
            · exact .inr (.inl hji)
            · exact absurd hj ((waits hc.1 inv' hun (j + 1) j (by omega) h1).2 hji)
          · exact .inr (.inr h1)
        exact wpY_first (L0 := listed) h0 hei (Region.noSelect_spec hsel) (fun c a w hq => hQ c a _ _ w hq) (.inl ⟨fun _ h => h, hsoon⟩) (ks.length + n) listed a w inv (fun _ h => h) (Region.free_spec h0 hf) hr' (yieldsIf_of hS hy) hS (ih _ _ (inv.set hr') hB2 hrest)
      | true =>
        simp only [if_true] at h
        obtain ⟨v, hy, hrest⟩ := h
        simp only [if_true, allWait, Bool.and_eq_true] at hc
        refine wpY_first (L0 := listed) (Φ := fun w' => w' = w) h0 hei (Region.noSelect_spec hsel) (fun c a w hq => hQ c a _ _ w hq) (.inr ?_) (ks.length + n) listed a w inv (fun _ h => h) (Region.free_spec h0 hf) hr' (yieldsIf_of rfl (fun w' hw' => by subst hw'; exact hy)) rfl (ih _ _ (inv.set hr') hB2 hrest)
        intro listed' inv' hsup hun j hj
        obtain ⟨hjun, oj, hoj, _⟩ := mem_ready.1 hj
        have hjlt : j < ops.size := (Array.getElem?_eq_some_iff.1 hoj).1
        have h1 := List.all_eq_true.1 hc.2 j (List.mem_range.2 hjlt)
        simp only [Bool.or_eq_true] at h1
        rcases h1 with (h1 | h1) | h1
        · have := hsup j h1
          rw [getD_both hjun] at this
          cases this
        · exact .inl h1
        · by_cases hji : j = k
          · exact .inr hji
          · exact absurd hj ((waits hc.1 inv' hun (j + 1) j (by omega) h1).2 hji)
    · rw [if_neg he] at h
      rw [if_neg (by simpa using he)] at hB1
      simp only [Bool.and_eq_true, decide_eq_true_eq] at hB1
      obtain ⟨hr, hnd⟩ := hB1
      have hnd' : nd k = true → c = false := by cases c <;> simp_all
      have hei : earlyI ops k = false := by simp [earlyI, h0, he]
      have inv' := inv.set (show k ∈ Region.ready .any ops listed by rw [hr]; simp)
      refine ⟨fun h1 => (by rw [hr] at h1; cases h1), fun i hi => ?_⟩
      rw [hr] at hi
      obtain rfl : i = k := by simpa using hi
      rw [if_neg (by simp [hei])]
      unfold wpOp
      simp only [h0]
      by_cases hw : Region.wanted o (yielded ops a.tmps) = true
      · rw [if_pos hw] at h ⊢
        exact .inl (wp_onN (Oper.wp_mono (fun a' w' h' => ⟨fun hk => h'.1 (hnd' hk), ih _ _ inv' hB2 h'.2⟩) h))
      · rw [if_neg hw] at h ⊢
        exact ⟨fun hk => h.1 (hnd' hk), ih _ _ inv' hB2 h.2⟩

/-- Operation i comes up next. -/
def stepI (P : Program) (ops : Array Oper) (Q : Exit → Act → World → Prop) (S : World → Prop) (nd : Nat → Bool) (fuel : Nat) (listed : Array Bool) (a : Act) (w : World) (i : Nat) : Prop :=
  if earlyI ops i = true then stOp P ops w i (fun a' => wpY P ops Q S nd fuel (listed.setIfInBounds i true) a' w) a
  else wpOp P ops Q i (fun a' w' => (nd i = true → S w') ∧ wpY P ops Q S nd fuel (listed.setIfInBounds i true) a' w') a w

theorem wpY_of_wpT {l : List Oper} {nd : Nat → Bool} (hsel : Region.noSelect l.toArray = true) (hQ : ∀ c a d v w, Q (.panic c) (Act.put a d v) w → Q (.panic c) a w) :
    ∀ (t : Tr) (listed : Array Bool) (n : Nat) (seen : List Nat) (a : Act) (w : World), Inv l.toArray listed → canonT l.toArray nd t listed n seen = true → wpT P Q S l t a w →
      (∀ i ∈ seen, i ∈ Region.ready .any l.toArray listed → stepI P l.toArray Q S nd (n - 1) listed a w i) → wpY P l.toArray Q S nd n listed a w
  | .stop, listed, n, seen, a, w, inv, hB, h, hs => by
    simp only [canonT, Bool.and_eq_true, decide_eq_true_eq, List.isEmpty_iff] at hB
    obtain ⟨⟨rfl, _⟩, h2⟩ := hB
    exact ⟨h2, h⟩
  | .seg ks t, listed, n, seen, a, w, inv, hB, h, hs => by
    simp only [canonT, Bool.and_eq_true, decide_eq_true_eq] at hB
    obtain ⟨⟨_, h2⟩, h3⟩ := hB
    cases hc : canonS l.toArray nd ks listed with
    | none => rw [hc] at h3; cases h3
    | some l' =>
      rw [hc] at h3
      have hg : ∀ k : Nat, l.toArray.getD k default = l.getD k default := fun k => by simp [Array.getD_eq_getD_getElem?, List.getD]
      have := wpY_of_seg (P := P) (S := S) (K := wpT P Q S l t) (n := n - ks.length) (listed' := l') hsel hQ (fun inv' a w hk => wpY_of_wpT hsel hQ t l' (n - ks.length) [] a w inv' h3 hk (fun i hi => by cases hi)) ks listed a w inv hc (by simpa only [hg, wpT] using h)
      rwa [Nat.add_sub_cancel' h2] at this
  | .alt k c t u, listed, n, seen, a, w, inv, hB, h, hs => by
    simp only [canonT, Bool.and_eq_true, decide_eq_true_eq] at hB
    obtain ⟨⟨⟨⟨⟨h1, h2⟩, h3⟩, h4⟩, h5⟩, h6⟩ := hB
    obtain ⟨hk, hu⟩ := h
    have h2' : k ∈ Region.ready .any l.toArray listed := by simpa using h2
    refine wpY_of_wpT hsel hQ u listed n (k :: seen) a w inv h6 hu (fun i hi hr => ?_)
    rcases List.mem_cons.1 hi with rfl | hi
    · obtain ⟨hun, o, ho, _⟩ := mem_ready.1 h2'
      have hg : l.getD i default = o := by
        have : l[i]? = some o := by simpa using ho
        simp [List.getD, this]
      have he : ¬ isEarly o.op = true := by
        intro he; simp [earlyI, ho, he] at h3
      have hei : earlyI l.toArray i = false := by simpa using h3
      have hnd' : nd i = true → c = false := by cases c <;> simp_all
      have inv' := inv.set h2'
      have ih := fun a' w' (hk : wpT P Q S l t a' w') => wpY_of_wpT hsel hQ t (listed.setIfInBounds i true) (n - 1) [] a' w' inv' h5 hk (fun i hi => by cases hi)
      simp only [wpD, hg] at hk
      rw [if_neg he] at hk
      unfold stepI
      rw [if_neg (by simp [hei])]
      unfold wpOp
      simp only [ho]
      by_cases hw : Region.wanted o (yielded l.toArray a.tmps) = true
      · rw [if_pos hw] at hk ⊢
        exact .inl (wp_onN (Oper.wp_mono (fun a' w' h' => ⟨fun hk => h'.1 (hnd' hk), ih _ _ h'.2⟩) hk))
      · rw [if_neg hw] at hk ⊢
        exact ⟨fun hq => hk.1 (hnd' hq), ih _ _ hk.2⟩
    · exact hs i hi hr
  | .none, listed, n, seen, a, w, inv, hB, h, hs => by
    simp only [canonT, Bool.and_eq_true, decide_eq_true_eq] at hB
    obtain ⟨⟨⟨h1, _⟩, h2⟩, h3⟩ := hB
    obtain ⟨m, rfl⟩ : ∃ m, n = m + 1 := ⟨n - 1, by omega⟩
    refine ⟨fun h => (by rw [h] at h2; simp at h2), fun i hi => ?_⟩
    have := List.all_eq_true.1 h3 i hi
    exact hs i (by simpa using this) hi

def ndT : Tr → Nat → Bool
  | .stop, _ => false
  | .seg ks t, j => (ks.any fun p => p.1 == j && !p.2) || ndT t j
  | .alt k c t u, j => (k == j && !c) || ndT t j || ndT u j
  | .none, _ => false
/-- The law. -/
theorem wp_region_tree {id : Nat} {l : List Oper} {a : Act} {w : World} (t : Tr) (S : World → Prop) (hm : P.follows .mixedOrders = true)
    (hB : (Region.noSelect l.toArray && canonT l.toArray (ndT t) t (Array.replicate l.length false) l.length []) = true)
    (h : wpT P (NoPanic Q) S l t a w.drew) : (Code.region id l.toArray true).wp P Q a w := by
  simp only [Bool.and_eq_true] at hB
  obtain ⟨h1, h3⟩ := hB
  have inv0 : Inv l.toArray (Array.replicate l.length false) := ⟨by simp, fun j oj _ hl => by rw [getD_replicate_false] at hl; cases hl⟩
  refine wp_region_noPanic (wp_region_any hm (wpAny_of_wpY (S := S) (nd := ndT t) _ _ _ _ ?_))
  have := wpY_of_wpT (Q := NoPanic Q) (P := P) (S := S) h1 (fun c a d v w hq => by cases hq) t (Array.replicate l.length false) l.length [] a w.drew inv0 h3 h (fun i hi => by cases hi)
  simpa using this
variable {l : List Oper} {a : Act} {w : World} {ks : List (Nat × Bool)} {t u : Tr} {k : Nat} {c : Bool}
theorem wt_stop (h : Q .normal a w) : wpT P (NoPanic Q) S l .stop a w := NoPanic.normal h
theorem wt_seg (h : wpD P l.toArray (onN Q (wpT P Q S l t)) S (ks.map fun k => (k.2, l.getD k.1 default)) a w) : wpT P Q S l (.seg ks t) a w := h
theorem wt_alt (h : wpD P l.toArray (onN Q (wpT P Q S l t)) S [(c, l.getD k default)] a w) (h' : wpT P Q S l u a w) : wpT P Q S l (.alt k c t u) a w := ⟨h, h'⟩
theorem wt_none : wpT P Q S l .none a w := trivial
theorem wc_endT (h : wpT P Q S l t a w) : wpD P ops (onN Q (wpT P Q S l t)) S [] a w := h
end
end Go.Proofs.Ytknghnmcckjjbaa
