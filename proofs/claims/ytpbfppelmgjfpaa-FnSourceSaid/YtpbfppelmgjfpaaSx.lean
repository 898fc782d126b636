/- Frames told slot by slot, and one law for each kind of operation. Generic: no program is named. -/
import Derived.Test.YtpbfppelmgjfpaaRd
import Derived.Test.YtpbfppelmgjfpaaCn
namespace Go.Proofs.Ytpbfppelmgjfpaa
open Go Go.RowKit
set_option linter.unusedVariables false
set_option linter.unusedSimpArgs false

/-- What the slots hold: the first row of a slot counts. -/
def lk : List (Nat × Value) → Nat → Option Value
  | [], _ => none
  | (d, v) :: L, i => bif Nat.beq i d then some v else lk L i

structure Fr (a : Act) (n : Nat) (L : List (Nat × Value)) : Prop where
  defers : a.defers = []
  size : a.tmps.size = n
  slot : ∀ i v, lk L i = some v → a.tmps[i]? = some v

/-- What an operand holds. -/
def ov (L : List (Nat × Value)) : Operand → Option Value
  | .tmp t => lk L t
  | .const v => some v
  | .global g => some (.pointer (some ⟨g, 0, none⟩))
  | .func f => some (.func (.func f) #[] #[])

section
variable {a : Act} {n : Nat} {L : List (Nat × Value)}
theorem Fr.put (h : Fr a n L) {d : Nat} (hd : Nat.blt d n = true) (v : Value) : Fr (a.put (some d) v) n ((d, v) :: L) := by
  have hd' : d < n := by simpa using hd
  refine ⟨h.defers, by simp [Act.put, h.size], fun i u hu => ?_⟩
  simp only [lk] at hu
  simp only [Act.put, Array.getElem?_setIfInBounds]
  cases hb : Nat.beq i d with
  | true =>
    have : i = d := Nat.eq_of_beq_eq_true hb
    subst this
    rw [hb] at hu
    simp only [cond_true] at hu
    rw [if_pos rfl, if_pos (by rw [h.size]; exact hd')]
    exact hu
  | false =>
    have : i ≠ d := Nat.ne_of_beq_eq_false hb
    rw [hb] at hu
    simp only [cond_false] at hu
    rw [if_neg (fun e => this e.symm)]
    exact h.slot i u hu
theorem Fr.ev (h : Fr a n L) {x : Operand} {v : Value} (hx : ov L x = some v) : a.eval x = v := by
  cases x with
  | tmp t => simp only [ov] at hx; have := h.slot t v hx; simp [Act.eval, this]
  | const u => simpa [ov, Act.eval] using hx
  | global g => simpa [ov, Act.eval] using hx
  | func f => simpa [ov, Act.eval] using hx
theorem Fr.sub (h : Fr a n L) {L' : List (Nat × Value)} (hs : ∀ i v, lk L' i = some v → lk L i = some v) : Fr a n L' :=
  ⟨h.defers, h.size, fun i v hv => h.slot i v (hs i v hv)⟩
theorem Fr.nil (h : Fr a n L) : Fr a n [] := ⟨h.defers, h.size, fun _ _ hv => by cases hv⟩
theorem Fr.keep (h : Fr a n L) {L' : List (Nat × Value)} (k : Fr a n L') {i : Nat} {v : Value} (hv : lk L i = some v) : Fr a n ((i, v) :: L') := by
  refine ⟨h.defers, h.size, fun j u hu => ?_⟩
  simp only [lk] at hu
  cases hb : Nat.beq j i with
  | true =>
    have : j = i := Nat.eq_of_beq_eq_true hb
    subst this
    rw [hb] at hu
    simp only [cond_true, Option.some.injEq] at hu
    subst hu
    exact h.slot _ _ hv
  | false => rw [hb] at hu; exact k.slot j u hu

/-- The slots of the arguments. -/
def en : Nat → List Value → List (Nat × Value)
  | _, [] => []
  | i, v :: l => (i, v) :: en (i + 1) l
theorem lk_en : ∀ (l : List Value) (i j : Nat) (v : Value), lk (en i l) j = some v → i ≤ j ∧ l[j - i]? = some v
  | [], _, _, _, h => by cases h
  | u :: l, i, j, v, h => by
    simp only [en, lk] at h
    cases hb : Nat.beq j i with
    | true =>
      have : j = i := Nat.eq_of_beq_eq_true hb
      subst this
      rw [hb] at h
      simp only [cond_true, Option.some.injEq] at h
      subst h
      simp
    | false =>
      have hne : j ≠ i := Nat.ne_of_beq_eq_false hb
      rw [hb] at h
      obtain ⟨h1, h2⟩ := lk_en l (i + 1) j v h
      refine ⟨by omega, ?_⟩
      obtain ⟨k, rfl⟩ : ∃ k, j = i + 1 + k := ⟨j - (i + 1), by omega⟩
      rw [show i + 1 + k - i = k + 1 from by omega]
      rw [show i + 1 + k - (i + 1) = k from by omega] at h2
      simpa using h2
theorem Fr.init (l : List Value) (n : Nat) (hl : l.length ≤ n) : Fr { tmps := l.toArray ++ Array.replicate (n - l.toArray.size) undef, defers := [] } n (en 0 l) := by
  refine ⟨rfl, by simp; omega, fun i v hv => ?_⟩
  obtain ⟨_, h⟩ := lk_en l 0 i v hv
  have hlt : i < l.length := (List.getElem?_eq_some_iff.1 (by simpa using h)).1
  simp only [Nat.sub_zero] at h
  simp only [Array.getElem?_append, List.size_toArray, hlt, if_true, List.getElem?_toArray, h]
end

/-- A call, by a walk of the body. -/
theorem calls_fr {P : Program} {f : FuncId} {fn : Func} {c : Code} (l : List Value) {w : World} {R : Ending → World → Prop} {n : Nat}
    (hf : P.funcs[f]? = some fn) (hb : fn.body = some c) (hn : fn.ntmps = n) (hl : Nat.ble l.length n = true)
    (h : ∀ a, Fr a n (en 0 l) → c.wp P (bodyPost P fn R) a w) : Calls P f l.toArray w R := by
  refine calls_of_wp hf hb ?_
  rw [hn]
  exact h _ (Fr.init l n (Nat.le_of_ble_eq_true hl))

/-! Binds of models. -/
section
universe u
def bind2 {α1 : Type} {α2 : Type} {β : Type} (x : Option (α1 × α2)) (f : α1 → α2 → Option β) : Option β := x.bind fun p => f (p.1) (p.2)
theorem obs2 {α1 : Type} {α2 : Type} {β : Type} {x : Option (α1 × α2)} {f : α1 → α2 → Option β} {r : β} (h : bind2 x f = some r) : ∃ y1 y2, x = some (y1, y2) ∧ f y1 y2 = some r := by
  obtain ⟨⟨y1, y2⟩, h1, h2⟩ := Option.bind_eq_some_iff.1 h
  exact ⟨y1, y2, h1, h2⟩
def bind3 {α1 : Type} {α2 : Type} {α3 : Type} {β : Type} (x : Option (α1 × α2 × α3)) (f : α1 → α2 → α3 → Option β) : Option β := x.bind fun p => f (p.1) (p.2.1) (p.2.2)
theorem obs3 {α1 : Type} {α2 : Type} {α3 : Type} {β : Type} {x : Option (α1 × α2 × α3)} {f : α1 → α2 → α3 → Option β} {r : β} (h : bind3 x f = some r) : ∃ y1 y2 y3, x = some (y1, y2, y3) ∧ f y1 y2 y3 = some r := by
  obtain ⟨⟨y1, y2, y3⟩, h1, h2⟩ := Option.bind_eq_some_iff.1 h
  exact ⟨y1, y2, y3, h1, h2⟩
def bind4 {α1 : Type} {α2 : Type} {α3 : Type} {α4 : Type} {β : Type} (x : Option (α1 × α2 × α3 × α4)) (f : α1 → α2 → α3 → α4 → Option β) : Option β := x.bind fun p => f (p.1) (p.2.1) (p.2.2.1) (p.2.2.2)
theorem obs4 {α1 : Type} {α2 : Type} {α3 : Type} {α4 : Type} {β : Type} {x : Option (α1 × α2 × α3 × α4)} {f : α1 → α2 → α3 → α4 → Option β} {r : β} (h : bind4 x f = some r) : ∃ y1 y2 y3 y4, x = some (y1, y2, y3, y4) ∧ f y1 y2 y3 y4 = some r := by
  obtain ⟨⟨y1, y2, y3, y4⟩, h1, h2⟩ := Option.bind_eq_some_iff.1 h
  exact ⟨y1, y2, y3, y4, h1, h2⟩
def bind5 {α1 : Type} {α2 : Type} {α3 : Type} {α4 : Type} {α5 : Type} {β : Type} (x : Option (α1 × α2 × α3 × α4 × α5)) (f : α1 → α2 → α3 → α4 → α5 → Option β) : Option β := x.bind fun p => f (p.1) (p.2.1) (p.2.2.1) (p.2.2.2.1) (p.2.2.2.2)
theorem obs5 {α1 : Type} {α2 : Type} {α3 : Type} {α4 : Type} {α5 : Type} {β : Type} {x : Option (α1 × α2 × α3 × α4 × α5)} {f : α1 → α2 → α3 → α4 → α5 → Option β} {r : β} (h : bind5 x f = some r) : ∃ y1 y2 y3 y4 y5, x = some (y1, y2, y3, y4, y5) ∧ f y1 y2 y3 y4 y5 = some r := by
  obtain ⟨⟨y1, y2, y3, y4, y5⟩, h1, h2⟩ := Option.bind_eq_some_iff.1 h
  exact ⟨y1, y2, y3, y4, y5, h1, h2⟩
def bind6 {α1 : Type} {α2 : Type} {α3 : Type} {α4 : Type} {α5 : Type} {α6 : Type} {β : Type} (x : Option (α1 × α2 × α3 × α4 × α5 × α6)) (f : α1 → α2 → α3 → α4 → α5 → α6 → Option β) : Option β := x.bind fun p => f (p.1) (p.2.1) (p.2.2.1) (p.2.2.2.1) (p.2.2.2.2.1) (p.2.2.2.2.2)
theorem obs6 {α1 : Type} {α2 : Type} {α3 : Type} {α4 : Type} {α5 : Type} {α6 : Type} {β : Type} {x : Option (α1 × α2 × α3 × α4 × α5 × α6)} {f : α1 → α2 → α3 → α4 → α5 → α6 → Option β} {r : β} (h : bind6 x f = some r) : ∃ y1 y2 y3 y4 y5 y6, x = some (y1, y2, y3, y4, y5, y6) ∧ f y1 y2 y3 y4 y5 y6 = some r := by
  obtain ⟨⟨y1, y2, y3, y4, y5, y6⟩, h1, h2⟩ := Option.bind_eq_some_iff.1 h
  exact ⟨y1, y2, y3, y4, y5, y6, h1, h2⟩
theorem obs {α β : Type} {x : Option α} {f : α → Option β} {r : β} (h : x.bind f = some r) : ∃ y, x = some y ∧ f y = some r := Option.bind_eq_some_iff.1 h
/-- What a loop or a branch ends in: it goes on, or the function returns. -/
inductive Lp (α β : Type) where
  | brk (a : α)
  | ret (b : β)
def contL {α β : Type} (f : α → Option β) : Lp α β → Option β | .brk a => f a | .ret b => some b
def contM {α β γ : Type} (f : α → Option (Lp γ β)) : Lp α β → Option (Lp γ β) | .brk a => f a | .ret b => some (.ret b)
theorem retL {α β : Type} {f : α → Option β} {b r : β} (h : contL f (.ret b) = some r) : some b = some r := h
theorem retM {α β γ : Type} {f : α → Option (Lp γ β)} {b : β} {r : Lp γ β} (h : contM f (.ret b) = some r) : some (.ret b) = some r := h
def un1 {α γ : Type} (f : α → γ) : α → γ := f
def un2 {α1 : Type} {α2 : Type} {γ : Type} (f : α1 → α2 → γ) : α1 × α2 → γ := fun p => f (p.1) (p.2)
theorem brkL2 {α1 : Type} {α2 : Type} {β : Type} {f : α1 → α2 → Option β} {y1 : α1} {y2 : α2} {r : β} (h : contL (un2 f) (.brk (y1, y2)) = some r) : f y1 y2 = some r := h
theorem brkM2 {α1 : Type} {α2 : Type} {β γ : Type} {f : α1 → α2 → Option (Lp γ β)} {y1 : α1} {y2 : α2} {r : Lp γ β} (h : contM (un2 f) (.brk (y1, y2)) = some r) : f y1 y2 = some r := h
def un3 {α1 : Type} {α2 : Type} {α3 : Type} {γ : Type} (f : α1 → α2 → α3 → γ) : α1 × α2 × α3 → γ := fun p => f (p.1) (p.2.1) (p.2.2)
theorem brkL3 {α1 : Type} {α2 : Type} {α3 : Type} {β : Type} {f : α1 → α2 → α3 → Option β} {y1 : α1} {y2 : α2} {y3 : α3} {r : β} (h : contL (un3 f) (.brk (y1, y2, y3)) = some r) : f y1 y2 y3 = some r := h
theorem brkM3 {α1 : Type} {α2 : Type} {α3 : Type} {β γ : Type} {f : α1 → α2 → α3 → Option (Lp γ β)} {y1 : α1} {y2 : α2} {y3 : α3} {r : Lp γ β} (h : contM (un3 f) (.brk (y1, y2, y3)) = some r) : f y1 y2 y3 = some r := h
theorem grd {p : Prop} [Decidable p] {α : Type} {x : Option α} {r : α} (h : (if p then x else none) = some r) : p ∧ x = some r := by
  split at h
  · exact ⟨‹_›, h⟩
  · cases h
theorem nS {p : Prop} (h : true = false) : p := by cases h
theorem notT {b : Bool} (h : b = true) : (!b) = false := by rw [h]; rfl
theorem notF {b : Bool} (h : b = false) : (!b) = true := by rw [h]; rfl
end

section
variable {P : Program} {ops : Array Oper} {Q : Exit → Act → World → Prop} {S : World → Prop} {a : Act} {w : World} {n : Nat} {L : List (Nat × Value)}
  {c : Bool} {rest : List (Bool × Oper)} {ty : TypeId} {pos : String} {aft : Array Edge} {gd : Option (Nat × Bool)} {d : Nat}

theorem Fr.wanted (HF : Fr a n L) {o oj : Oper} {j dj : Nat} {b b' : Bool} (hg : o.guard = some (j, b)) (hj : ops[j]? = some oj) (hd : oj.dst = some dj) (hv : lk L dj = some (.bool b')) :
    Region.wanted o (yielded ops a.tmps) = (b' == b) := by
  have := HF.slot _ _ hv
  simp only [Region.wanted, hg, yielded, hj, Option.bind_some, hd, this]
  cases b <;> cases b' <;> rfl
theorem Fr.wy (HF : Fr a n L) {o oj : Oper} {j dj : Nat} {b b' : Bool} (hg : o.guard = some (j, b)) (hj : ops[j]? = some oj) (hd : oj.dst = some dj) (hv : lk L dj = some (.bool b')) (hb : b' = b) :
    Region.wanted o (yielded ops a.tmps) = true := by rw [HF.wanted hg hj hd hv, hb]; simp
theorem Fr.wn (HF : Fr a n L) {o oj : Oper} {j dj : Nat} {b b' : Bool} (hg : o.guard = some (j, b)) (hj : ops[j]? = some oj) (hd : oj.dst = some dj) (hv : lk L dj = some (.bool b')) (hb : b' = !b) :
    Region.wanted o (yielded ops a.tmps) = false := by rw [HF.wanted hg hj hd hv, hb]; cases b <;> rfl
/-- What op j yielded was no bool: it was not wanted itself. -/
theorem Fr.unwanted (HF : Fr a n L) {o oj : Oper} {j dj : Nat} {b : Bool} (hg : o.guard = some (j, b)) (hj : ops[j]? = some oj) (hd : oj.dst = some dj) (hv : lk L dj = some undef) :
    Region.wanted o (yielded ops a.tmps) = false := by
  have := HF.slot _ _ hv
  simp only [Region.wanted, hg, yielded, hj, Option.bind_some, hd, this]
  cases b <;> rfl

/-- A region of which the order is the text's. -/
theorem wc_text {l : List Oper} (h : wpD P l.toArray Q (fun _ => True) (l.map fun o => (true, o)) a w) {id : Nat} : (Code.region id l.toArray false).wp P Q a w := by
  refine wp_region_lit ?_
  have key : ∀ (l' : List Oper) (a : Act) (w : World), wpD P l.toArray Q (fun _ => True) (l'.map fun o => (true, o)) a w → wpList P l.toArray Q l' a w := by
    intro l'
    induction l' with
    | nil => intro a w h; exact h
    | cons o l' ih =>
      intro a w h
      simp only [List.map_cons, wpD] at h
      unfold wpList
      by_cases he : isEarly o.op = true
      · rw [if_pos he, if_pos trivial] at h
        obtain ⟨v, hv, h⟩ := h
        unfold YR at hv
        by_cases hw : Region.wanted o (yielded l.toArray a.tmps) = true
        · rw [if_pos hw] at hv ⊢
          refine .inl ?_
          unfold Oper.wp
          rw [hv]
          exact ih _ _ h
        · rw [if_neg hw] at hv ⊢
          subst hv
          exact ih _ _ h
      · rw [if_neg he] at h
        by_cases hw : Region.wanted o (yielded l.toArray a.tmps) = true
        · rw [if_pos hw] at h ⊢
          exact .inl (Oper.wp_mono (fun a' w' h' => ih _ _ h'.2) h)
        · rw [if_neg hw] at h ⊢
          exact ih _ _ h.2
  exact key l a w h

/-- An operation that yields v at this world. -/
theorem wc_now {op : Op} {v : Value} (HF : Fr a n L) (he : isEarly op = true) (hw : Region.wanted ⟨some d, op, ty, pos, aft, gd⟩ (yielded ops a.tmps) = true) (hd : Nat.blt d n = true)
    (hx : (execOp a.eval ⟨some d, op, ty, pos, aft, gd⟩).run P w = .ok (.value v) w) (h : ∀ a', Fr a' n ((d, v) :: L) → wpD P ops Q S rest a' w) : wpD P ops Q S ((true, ⟨some d, op, ty, pos, aft, gd⟩) :: rest) a w := by
  simp only [wpD]
  rw [if_pos he, if_pos trivial]
  exact ⟨v, by unfold YR; rw [if_pos hw]; exact hx, h _ (HF.put hd v)⟩
/-- An operation that yields v in every world that meets S. -/
theorem wc_any {op : Op} {v : Value} (HF : Fr a n L) (hS : c = false → S w) (he : isEarly op = true) (hw : Region.wanted ⟨some d, op, ty, pos, aft, gd⟩ (yielded ops a.tmps) = true) (hd : Nat.blt d n = true)
    (hx : ∀ w, (c = false → S w) → (execOp a.eval ⟨some d, op, ty, pos, aft, gd⟩).run P w = .ok (.value v) w) (h : ∀ a', Fr a' n ((d, v) :: L) → wpD P ops Q S rest a' w) : wpD P ops Q S ((c, ⟨some d, op, ty, pos, aft, gd⟩) :: rest) a w := by
  simp only [wpD]
  rw [if_pos he]
  cases c with
  | true => exact ⟨v, by unfold YR; rw [if_pos hw]; exact hx w hS, h _ (HF.put hd v)⟩
  | false => exact ⟨hS rfl, v, fun w' hS' => by unfold YR; rw [if_pos hw]; exact hx w' (fun _ => hS'), h _ (HF.put hd v)⟩
/-- An operation that is not wanted. -/
theorem wc_skip {op : Op} (HF : Fr a n L) (hS : c = false → S w) (hw : Region.wanted ⟨some d, op, ty, pos, aft, gd⟩ (yielded ops a.tmps) = false) (hd : Nat.blt d n = true)
    (h : ∀ a', Fr a' n ((d, undef) :: L) → wpD P ops Q S rest a' w) : wpD P ops Q S ((c, ⟨some d, op, ty, pos, aft, gd⟩) :: rest) a w := by
  simp only [wpD]
  have hw' : ¬ Region.wanted ⟨some d, op, ty, pos, aft, gd⟩ (yielded ops a.tmps) = true := by simp [hw]
  by_cases he : isEarly op = true
  · rw [if_pos he]
    cases c with
    | true => exact ⟨undef, by unfold YR; rw [if_neg hw'], h _ (HF.put hd undef)⟩
    | false => exact ⟨hS rfl, undef, fun w' hS' => by unfold YR; rw [if_neg hw'], h _ (HF.put hd undef)⟩
  · rw [if_neg he, if_neg hw']
    exact ⟨hS, h _ (HF.put hd undef)⟩
/-- A step that turns the world. -/
theorem wc_val {op : Op} {v : Value} {w' : World} (HF : Fr a n L) (he : isEarly op = false) (hw : Region.wanted ⟨some d, op, ty, pos, aft, gd⟩ (yielded ops a.tmps) = true) (hd : Nat.blt d n = true)
    (hx : (execOp a.eval ⟨some d, op, ty, pos, aft, gd⟩).run P w = .ok (.value v) w') (hS : c = false → S w') (h : ∀ a', Fr a' n ((d, v) :: L) → wpD P ops Q S rest a' w') : wpD P ops Q S ((c, ⟨some d, op, ty, pos, aft, gd⟩) :: rest) a w := by
  simp only [wpD]
  rw [if_neg (by simp [he]), if_pos hw]
  unfold Oper.wp
  rw [hx]
  exact ⟨hS, h _ (HF.put hd v)⟩
theorem wc_unit {op : Op} {w' : World} (he : isEarly op = false) (hw : Region.wanted ⟨none, op, ty, pos, aft, gd⟩ (yielded ops a.tmps) = true)
    (hx : (execOp a.eval ⟨none, op, ty, pos, aft, gd⟩).run P w = .ok .skip w') (hS : c = false → S w') (h : wpD P ops Q S rest a w') : wpD P ops Q S ((c, ⟨none, op, ty, pos, aft, gd⟩) :: rest) a w := by
  simp only [wpD]
  rw [if_neg (by simp [he]), if_pos hw]
  unfold Oper.wp
  rw [hx]
  exact ⟨hS, h⟩
end

section
variable {P : Program} {ops : Array Oper} {Q : Exit → Act → World → Prop} {S : World → Prop} {a : Act} {w : World} {n : Nat} {L : List (Nat × Value)}
  {c : Bool} {rest : List (Bool × Oper)} {ty : TypeId} {pos : String} {aft : Array Edge} {gd : Option (Nat × Bool)} {d : Nat}

theorem wc_move {X : Operand} {v : Value} (HF : Fr a n L) (hS : c = false → S w) (hx : ov L X = some v) (hw : Region.wanted ⟨some d, .move X, ty, pos, aft, gd⟩ (yielded ops a.tmps) = true) (hd : Nat.blt d n = true)
    (h : ∀ a', Fr a' n ((d, v) :: L) → wpD P ops Q S rest a' w) : wpD P ops Q S ((c, ⟨some d, .move X, ty, pos, aft, gd⟩) :: rest) a w :=
  wc_any HF hS rfl hw hd (fun w _ => by simp [execOp, HF.ev hx, Sem.run_pure]) h
theorem wc_assign {X : Operand} {v : Value} (HF : Fr a n L) (hS : c = false → S w) (hx : ov L X = some v) (hw : Region.wanted ⟨some d, .assign X, ty, pos, aft, gd⟩ (yielded ops a.tmps) = true) (hd : Nat.blt d n = true)
    (h : ∀ a', Fr a' n ((d, v) :: L) → wpD P ops Q S rest a' w) : wpD P ops Q S ((c, ⟨some d, .assign X, ty, pos, aft, gd⟩) :: rest) a w :=
  wc_any HF hS rfl hw hd (fun w _ => by simp [execOp, HF.ev hx, Sem.run_pure]) h
theorem wc_pick {C X Y : Operand} {b b0 : Bool} {v : Value} (HF : Fr a n L) (hS : c = false → S w) (hc : ov L C = some (.bool b0)) (hb : b0 = b) (hx : ov L (bif b then X else Y) = some v) (hw : Region.wanted ⟨some d, .pick C X Y, ty, pos, aft, gd⟩ (yielded ops a.tmps) = true) (hd : Nat.blt d n = true)
    (h : ∀ a', Fr a' n ((d, v) :: L) → wpD P ops Q S rest a' w) : wpD P ops Q S ((c, ⟨some d, .pick C X Y, ty, pos, aft, gd⟩) :: rest) a w :=
  wc_any HF hS rfl hw hd (fun w _ => by
    subst hb
    have h1 := HF.ev hc
    have h2 := HF.ev hx
    cases b0 <;> simp_all [execOp, asBool, Sem.run_bind, Sem.run_pure, Result.andThen]) h

/-- Numbers of 64 bits. -/
def in64 (x : Int) : Prop := -9223372036854775808 ≤ x ∧ x ≤ 9223372036854775807
instance (x : Int) : Decidable (in64 x) := inferInstanceAs (Decidable (_ ∧ _))
theorem wrap_in64 {x : Int} (h : in64 x) : IntKind.i64.wrap x = x := by
  obtain ⟨h1, h2⟩ := h
  exact IntWalk.i64_in x (by omega)

end
end Go.Proofs.Ytpbfppelmgjfpaa
