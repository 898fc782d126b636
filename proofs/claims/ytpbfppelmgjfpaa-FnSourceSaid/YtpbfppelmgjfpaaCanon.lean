/- A drawn region carried out in one order: operations that only compute or load are taken as they come up, the others must come up one at a time. Generic: no program is named. -/
import Derived.OrdersHeld
import Derived.Tactics
import Derived.StillTail
import Derived.Deep.RegionHeld3
import Derived.KernelRfl
namespace Go.Proofs.Ytpbfppelmgjfpaa
open Go

/-- Operations that leave the world as it is and yield a value. -/
def isEarly : Op → Bool
  | .move _ | .assign _ | .pick .. | .load .. | .nilCheck _ | .binOp .. | .unOp .. | .fieldAddr .. | .field .. | .indexAddr .. | .index .. | .slice .. | .extract .. | .build .. => true
  | .convert .. => true
  | .call { callee := .builtin .len, .. } => true
  | .call { callee := .builtin .min, .. } => true
  | _ => false

/-- What an operation yields at a world. -/
def YR (P : Program) (ops : Array Oper) (o : Oper) (a : Act) (w : World) (v : Value) : Prop :=
  if Region.wanted o (yielded ops a.tmps) = true then (execOp a.eval o).run P w = .ok (.value v) w else v = undef

def earlyI (ops : Array Oper) (j : Nat) : Bool := match ops[j]? with | some o => isEarly o.op | none => false

/-- The operations that wait for number i, i with them. -/
def closureB (ops : Array Oper) (i : Nat) : Array Bool :=
  (List.range ops.size).foldl (fun W j => W.push (j == i || match ops[j]? with | some o => o.after.any fun e => Region.binds .any e && decide (e.on < j) && W.getD e.on false | none => false)) #[]
def checkW (ops : Array Oper) (i : Nat) (W : Array Bool) : Bool :=
  (List.range ops.size).all fun j => !W.getD j false || j == i || match ops[j]? with | some o => o.after.any fun e => Region.binds .any e && decide (e.on < j) && W.getD e.on false | none => false
/-- Every operation that is no early one and has not come up waits for number i. -/
def allWait (ops : Array Oper) (listed : Array Bool) (i : Nat) : Bool :=
  let W := closureB ops i
  checkW ops i W && (List.range ops.size).all fun j => listed.getD j false || earlyI ops j || W.getD j false

section
variable {P : Program} {ops : Array Oper} {Q : Exit → Act → World → Prop} {S : World → Prop}

structure Inv (ops : Array Oper) (listed : Array Bool) : Prop where
  size : listed.size = ops.size
  closed : ∀ j oj, ops[j]? = some oj → listed.getD j false = true → ∀ e ∈ oj.after, Region.binds .any e = true → listed.getD e.on false = true

theorem Inv.set {listed : Array Bool} {i : Nat} (inv : Inv ops listed) (hi : i ∈ Region.ready .any ops listed) : Inv ops (listed.setIfInBounds i true) := by
  obtain ⟨_, oi, hoi, hall⟩ := mem_ready.1 hi
  refine ⟨by simp [inv.size], fun j oj hj hl e he hb => ?_⟩
  by_cases hij : i = j
  · subst hij
    have : oj = oi := Option.some.inj (hj.symm.trans hoi)
    subst this
    exact getD_set_true (hall e he hb)
  · rw [getD_set_ne false hij] at hl
    exact getD_set_true (inv.closed j oj hj hl e he hb)

/-- Who waits for i does not come up before i. -/
theorem waits {W : Array Bool} {i : Nat} (hW : checkW ops i W = true) {listed : Array Bool} (inv : Inv ops listed) (hun : listed.getD i true = false) :
    ∀ (n j : Nat), j < n → W.getD j false = true → listed.getD j false = false ∧ (j ≠ i → j ∉ Region.ready .any ops listed) := by
  intro n
  induction n with
  | zero => intro j hj; omega
  | succ n ih =>
    intro j _ hj
    by_cases hji : j = i
    · subst hji
      exact ⟨getD_both hun, fun h => absurd rfl h⟩
    have h1 : j < ops.size ∨ ops.size ≤ j := by omega
    rcases h1 with h1 | h1
    case inr => exact ⟨by simp [Array.getD_eq_getD_getElem?, Array.getElem?_eq_none (show listed.size ≤ j by rw [inv.size]; exact h1)], fun _ hr => by
      obtain ⟨_, o, ho, _⟩ := mem_ready.1 hr
      rw [Array.getElem?_eq_none h1] at ho; cases ho⟩
    have h2 := List.all_eq_true.1 hW j (List.mem_range.2 h1)
    simp only [hj, Bool.not_true, Bool.false_or, Bool.or_eq_true, beq_iff_eq, hji, false_or] at h2
    have ho : ops[j]? = some ops[j] := Array.getElem?_eq_getElem h1
    rw [ho] at h2
    obtain ⟨e, he, h3⟩ := Array.any_eq_true'.1 h2
    simp only [Bool.and_eq_true, decide_eq_true_eq] at h3
    obtain ⟨⟨hb, hlt⟩, hWe⟩ := h3
    have h4 := (ih e.on (by omega) hWe).1
    refine ⟨?_, fun _ hr => ?_⟩
    · cases hl : listed.getD j false with
      | false => rfl
      | true =>
        have := inv.closed j _ ho hl e he hb
        rw [h4] at this; cases this
    · obtain ⟨_, o, ho', hall⟩ := mem_ready.1 hr
      have : o = ops[j] := Option.some.inj (ho'.symm.trans ho)
      subst this
      have := hall e he hb
      rw [h4] at this; cases this

theorem yi_stOp {Φ : World → Prop} {i : Nat} {o : Oper} {v : Value} {a : Act} {w : World} (hi : ops[i]? = some o) (hy : YieldsIf P ops Φ o v a) (hw : Φ w) {K : Act → Prop} (h : K (a.put o.dst v)) : stOp P ops w i K a := by
  unfold Go.stOp
  simp only [hi]
  rcases hy with ⟨h1, hv⟩ | ⟨h1, rfl⟩
  · simp only [h1, if_true, Oper.still, hv w hw, Oper.stillUpon]; exact ⟨trivial, h⟩
  · simp only [h1, Bool.false_eq_true, if_false]; exact h

theorem stOp_putIf {Φ : World → Prop} {w : World} {j : Nat} {oi oj : Oper} {v : Value} (hj : ops[j]? = some oj) (hap : oi.apart ops oj = true)
    (hsi : ∀ cs b, oi.op ≠ .select cs b) (hsj : ∀ cs b, oj.op ≠ .select cs b) {K : Act → Prop} {a : Act}
    (hy : YieldsIf P ops Φ oi v a) (h : stOp P ops w j K (a.put oi.dst v)) :
    stOp P ops w j (fun a' => YieldsIf P ops Φ oi v a' ∧ K (a'.put oi.dst v)) a := by
  obtain ⟨h1, h2, h3⟩ := Oper.apart_spec hap
  have keep : ∀ (a : Act), YieldsIf P ops Φ oi v a → ∀ u, YieldsIf P ops Φ oi v (a.put oj.dst u) := fun a hy u =>
    hy.of_same (execOp_put oi hsi a oj.dst u h3) (wanted_put oi a oj.dst u h3)
  unfold stOp at *
  simp only [hj] at *
  rw [wanted_put oj a oi.dst v h1] at h
  split
  · rename_i hw
    simp only [hw, if_true] at h
    unfold Oper.still at *
    rw [execOp_put oj hsj a oi.dst v h1] at h
    generalize (execOp a.eval oj).run P w = r at *
    cases r with
    | ok n w' =>
      cases n <;> simp only [Oper.stillUpon] at h ⊢
      case value u => exact ⟨h.1, keep a hy u, by rw [← Act.put_comm a v u h2]; exact h.2⟩
      case skip => exact ⟨h.1, keep a hy _, by rw [← Act.put_comm a v undef h2]; exact h.2⟩
      case enter f args => obtain ⟨hw', u, hc, hn⟩ := h; exact ⟨hw', u, hc, keep a hy u, by rw [← Act.put_comm a v u h2]; exact hn⟩
    | halt x w' => simp only [Oper.stillUpon] at h
  · rename_i hw
    simp only [hw] at h
    exact ⟨keep a hy _, by rw [← Act.put_comm a v undef h2]; exact h⟩

theorem yieldsIf_of {Φ : World → Prop} {o : Oper} {a : Act} {v : Value} {w : World} (hw : Φ w) (h : ∀ w', Φ w' → YR P ops o a w' v) : YieldsIf P ops Φ o v a := by
  by_cases hw' : Region.wanted o (yielded ops a.tmps) = true
  · exact .inl ⟨hw', fun w' hS' => by have := h w' hS'; unfold YR at this; rwa [if_pos hw'] at this⟩
  · refine .inr ⟨by simpa using hw', ?_⟩
    have := h w hw
    unfold YR at this
    rwa [if_neg hw'] at this

end
end Go.Proofs.Ytpbfppelmgjfpaa
