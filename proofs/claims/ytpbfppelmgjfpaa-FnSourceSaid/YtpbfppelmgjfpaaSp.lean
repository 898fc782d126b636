/- What a call owns: resources on footprints of their own; data trees; reading. Generic: no program is named. -/
import Derived.Test.YtpbfppelmgjfpaaSx
namespace Go.Proofs.Ytpbfppelmgjfpaa
open Go Go.RowKit
set_option linter.unusedVariables false
set_option linter.unusedSimpArgs false

abbrev Foot := Nat → Prop

/-- Of the blocks that stood, only those of F may have turned. -/
structure ChgF (F : Foot) (w w' : World) : Prop where
  os : w'.os = w.os
  tape : w'.tape = w.tape
  output : w'.output = w.output
  size : w.heap.size ≤ w'.heap.size
  block : ∀ k, k < w.heap.size → ¬ F k → w'.heap[k]? = w.heap[k]?

theorem ChgF.refl (F : Foot) (w : World) : ChgF F w w := ⟨rfl, rfl, rfl, Nat.le_refl _, fun _ _ _ => rfl⟩
theorem ChgF.trans {F : Foot} {a b c : World} (h : ChgF F a b) (k : ChgF F b c) : ChgF F a c :=
  ⟨k.os.trans h.os, k.tape.trans h.tape, k.output.trans h.output, Nat.le_trans h.size k.size, fun i hi hn => (k.block i (Nat.lt_of_lt_of_le hi h.size) hn).trans (h.block i hi hn)⟩
theorem ChgF.below {w w' : World} (h : ChgF (fun _ => False) w w') : Below w.heap.size w w' := ⟨h.os, h.tape, h.output, h.size, fun k hk => h.block k hk (fun f => f)⟩
theorem ChgF.of_below {F : Foot} {w w' : World} (h : Below w.heap.size w w') : ChgF F w w' := ⟨h.os, h.tape, h.output, h.size, fun k hk _ => h.block k hk⟩
theorem ChgF.mono {F G : Foot} {w w' : World} (h : ChgF F w w') (hg : ∀ b, b < w.heap.size → F b → G b) : ChgF G w w' :=
  ⟨h.os, h.tape, h.output, h.size, fun k hk hn => h.block k hk (fun f => hn (hg k hk f))⟩
theorem ChgF.drew (F : Foot) (w : World) : ChgF F w w.drew := ⟨rfl, rfl, rfl, Nat.le_refl _, fun _ _ _ => rfl⟩
theorem ChgF.alloc (F : Foot) (w : World) (o : Obj) : ChgF F w (w.alloc o) := ⟨rfl, rfl, rfl, by simp, fun k hk _ => Below.heap_alloc w o k hk⟩
theorem ChgF.grown {w w' : World} {row : Option Nat} (h : w.grownBy w' row) : ChgF (fun b => some b = row) w w' :=
  ⟨h.os, h.tape, h.output, h.size, fun k hk hn => h.block k hk hn⟩
theorem ChgF.setCell (w : World) (p : Addr) (v : Value) : ChgF (fun b => b = p.block) w (w.setCell p v) :=
  ⟨rfl, rfl, rfl, by simp [World.setCell], fun k hk hn => Below.heap_setCell _ _ _ _ hn⟩

/-- A resource: what holds on a footprint of its own. -/
structure Res where
  holds : World → Foot → Prop
  loc : ∀ w w' F, (∀ b, F b → w'.heap[b]? = w.heap[b]?) → w.heap.size ≤ w'.heap.size → holds w F → holds w' F
  dom : ∀ w F b, holds w F → F b → b < w.heap.size

def StF (w : World) : Foot → List Res → Prop
  | _, [] => True
  | F, r :: L => ∃ F1 F2 : Foot, (∀ b, F1 b → F b) ∧ (∀ b, F2 b → F b) ∧ (∀ b, F1 b → F2 b → False) ∧ r.holds w F1 ∧ StF w F2 L

theorem StF.mono {w : World} : ∀ {L : List Res} {F F' : Foot}, (∀ b, F b → F' b) → StF w F L → StF w F' L
  | [], _, _, _, _ => trivial
  | _ :: _, _, _, h, ⟨F1, F2, h1, h2, h3, h4, h5⟩ => ⟨F1, F2, fun b k => h b (h1 b k), fun b k => h b (h2 b k), h3, h4, h5⟩
theorem StF.loc {w w' : World} : ∀ {L : List Res} {F : Foot}, (∀ b, F b → w'.heap[b]? = w.heap[b]?) → w.heap.size ≤ w'.heap.size → StF w F L → StF w' F L
  | [], _, _, _, _ => trivial
  | r :: L, F, h, hs, ⟨F1, F2, h1, h2, h3, h4, h5⟩ => ⟨F1, F2, h1, h2, h3, r.loc w w' F1 (fun b k => h b (h1 b k)) hs h4, StF.loc (fun b k => h b (h2 b k)) hs h5⟩
/-- Only blocks that are there count. -/
theorem StF.dom {w : World} : ∀ {L : List Res} {F : Foot}, StF w F L → StF w (fun b => F b ∧ b < w.heap.size) L
  | [], _, _ => trivial
  | r :: L, F, ⟨F1, F2, h1, h2, h3, h4, h5⟩ =>
    ⟨F1, fun b => F2 b ∧ b < w.heap.size, fun b k => ⟨h1 b k, r.dom w F1 b h4 k⟩, fun b k => ⟨h2 b k.1, k.2⟩, fun b k1 k2 => h3 b k1 k2.1, h4, h5.dom⟩
theorem StF.append {w : World} : ∀ {A B : List Res} {F : Foot}, StF w F (A ++ B) → ∃ F1 F2 : Foot, (∀ b, F1 b → F b) ∧ (∀ b, F2 b → F b) ∧ (∀ b, F1 b → F2 b → False) ∧ StF w F1 A ∧ StF w F2 B
  | [], B, F, h => ⟨fun _ => False, F, fun _ k => k.elim, fun _ k => k, fun _ k _ => k, trivial, h⟩
  | r :: A, B, F, ⟨F1, F2, h1, h2, h3, h4, h5⟩ => by
    obtain ⟨G1, G2, g1, g2, g3, g4, g5⟩ := StF.append h5
    refine ⟨fun b => F1 b ∨ G1 b, G2, ?_, fun b k => h2 b (g2 b k), ?_, ⟨F1, G1, fun b k => .inl k, fun b k => .inr k, fun b k1 k2 => h3 b k1 (g1 b k2), h4, g4⟩, g5⟩
    · rintro b (k | k)
      · exact h1 b k
      · exact h2 b (g1 b k)
    · rintro b (k | k) k2
      · exact h3 b k (g2 b k2)
      · exact g3 b k k2
theorem StF.join {w : World} : ∀ {A B : List Res} {F1 F2 : Foot}, (∀ b, F1 b → F2 b → False) → StF w F1 A → StF w F2 B → StF w (fun b => F1 b ∨ F2 b) (A ++ B)
  | [], B, F1, F2, _, _, h => h.mono fun b k => .inr k
  | r :: A, B, F1, F2, hd, ⟨G1, G2, h1, h2, h3, h4, h5⟩, h => by
    have := StF.join (fun b k1 k2 => hd b (h2 b k1) k2) h5 h
    refine ⟨G1, fun b => G2 b ∨ F2 b, fun b k => .inl (h1 b k), ?_, ?_, h4, this⟩
    · rintro b (k | k)
      · exact .inl (h2 b k)
      · exact .inr k
    · rintro b k1 (k | k)
      · exact h3 b k1 k
      · exact hd b (h1 b k1) k
theorem StF.drop1 {w : World} {r : Res} {L : List Res} {F : Foot} (h : StF w F (r :: L)) : StF w F L := by
  obtain ⟨F1, F2, _, h2, _, _, h5⟩ := h
  exact h5.mono h2
/-- Two neighbours change places. -/
theorem StF.swap {w : World} {r s : Res} {L : List Res} {F : Foot} (h : StF w F (r :: s :: L)) : StF w F (s :: r :: L) := by
  obtain ⟨F1, F2, h1, h2, h3, h4, G1, G2, g1, g2, g3, g4, g5⟩ := h
  refine ⟨G1, fun b => F1 b ∨ G2 b, fun b k => h2 b (g1 b k), ?_, ?_, g4, F1, G2, fun b k => .inl k, fun b k => .inr k, fun b k1 k2 => h3 b k1 (g2 b k2), h4, g5⟩
  · rintro b (k | k)
    · exact h1 b k
    · exact h2 b (g2 b k)
  · rintro b k1 (k | k)
    · exact h3 b k (g1 b k1)
    · exact g3 b k1 k
theorem StF.perm {w : World} {L L' : List Res} (hp : L.Perm L') : ∀ {F : Foot}, StF w F L → StF w F L' := by
  induction hp with
  | nil => intro F h; exact h
  | cons x _ ih => intro F ⟨F1, F2, h1, h2, h3, h4, h5⟩; exact ⟨F1, F2, h1, h2, h3, h4, ih h5⟩
  | swap x y l => intro F h; exact h.swap
  | trans _ _ ih1 ih2 => intro F h; exact ih2 (ih1 h)

/-- The state of a walk: since w0 only blocks of G (of those that stood) have turned; the resources lie on G and on new blocks. -/
def St (w0 : World) (G : Foot) (w : World) (L : List Res) : Prop :=
  ChgF G w0 w ∧ ∃ F : Foot, (∀ b, F b → G b ∨ w0.heap.size ≤ b) ∧ StF w F L

/-- An item brought to the front. -/
def pick (L : List Res) (i : Nat) : List Res := match L, i with
  | [], _ => []
  | r :: L, 0 => r :: L
  | r :: L, i + 1 => match pick L i with | [] => [r] | s :: M => s :: r :: M
theorem pick_perm : ∀ (L : List Res) (i : Nat), L.Perm (pick L i)
  | [], i => by cases i <;> exact .refl _
  | r :: L, 0 => .refl _
  | r :: L, i + 1 => by
    have := pick_perm L i
    simp only [pick]
    cases h : pick L i with
    | nil => rw [h] at this; rw [List.Perm.eq_nil this]
    | cons s M => rw [h] at this; exact (this.cons r).trans (.swap s r M)

section
variable {w0 w w' : World} {G : Foot} {L L' A B : List Res} {r : Res}
theorem St.init {F : Foot} (h : StF w F L) : St w F w L := ⟨.refl _ _, F, fun _ k => .inl k, h⟩
theorem St.init0 : St w (fun _ => False) w [] := ⟨.refl _ _, fun _ => False, fun _ k => k.elim, trivial⟩
theorem St.below (h : St w0 (fun _ => False) w L) : Below w0.heap.size w0 w := h.1.below
theorem St.drop (h : St w0 G w (r :: L)) : St w0 G w L := let ⟨h1, F, h2, h3⟩ := h; ⟨h1, F, h2, h3.drop1⟩
theorem St.clear (h : St w0 G w L) : St w0 G w [] := let ⟨h1, F, h2, h3⟩ := h; ⟨h1, F, h2, trivial⟩
theorem St.perm (h : St w0 G w L) (hp : L.Perm L') : St w0 G w L' := let ⟨h1, F, h2, h3⟩ := h; ⟨h1, F, h2, h3.perm hp⟩
theorem St.pick (h : St w0 G w L) (i : Nat) : St w0 G w (pick L i) := h.perm (pick_perm L i)
theorem St.left (h : St w0 G w (A ++ B)) : St w0 G w A := let ⟨h1, F, h2, h3⟩ := h; let ⟨F1, _, g1, _, _, g4, _⟩ := h3.append; ⟨h1, F1, fun b k => h2 b (g1 b k), g4⟩

/-- The part A of what is owned is handed out; what comes back of it joins the rest. -/
theorem St.hand (h : St w0 G w (A ++ B)) : ∃ F : Foot, StF w F A ∧ (∀ b, F b → G b ∨ w0.heap.size ≤ b) ∧ ∀ w' A', St w F w' A' → St w0 G w' (A' ++ B) := by
  obtain ⟨h1, F, h2, h3⟩ := h
  obtain ⟨F1, F2, g1, g2, g3, g4, g5⟩ := h3.append
  refine ⟨F1, g4, fun b k => h2 b (g1 b k), ?_⟩
  rintro w' A' ⟨k1, F', k2, k3⟩
  have h5 := g5.dom
  refine ⟨⟨k1.os.trans h1.os, k1.tape.trans h1.tape, k1.output.trans h1.output, Nat.le_trans h1.size k1.size, fun k hk hn => (k1.block k (Nat.lt_of_lt_of_le hk h1.size) (fun f => ?_)).trans (h1.block k hk hn)⟩,
    fun b => F' b ∨ (F2 b ∧ b < w.heap.size), ?_, StF.join ?_ k3 (h5.loc (fun b k => k1.block b k.2 (fun f => g3 b f k.1)) k1.size)⟩
  · rcases h2 k (g1 k f) with f | f
    · exact hn f
    · omega
  · rintro b (k | k)
    · rcases k2 b k with k | k
      · exact h2 b (g1 b k)
      · exact .inr (Nat.le_trans h1.size k)
    · exact h2 b (g2 b k.1)
  · intro b k k'
    rcases k2 b k with k | k
    · exact g3 b k k'.1
    · have := k'.2; omega
/-- A call that owns nothing of ours. -/
theorem St.pure (h : St w0 G w B) (k : St w (fun _ => False) w' A) : St w0 G w' (A ++ B) := by
  obtain ⟨h1, F, h2, h3⟩ := h
  obtain ⟨k1, F', k2, k3⟩ := k
  have h5 := h3.dom
  refine ⟨⟨k1.os.trans h1.os, k1.tape.trans h1.tape, k1.output.trans h1.output, Nat.le_trans h1.size k1.size, fun k hk hn => (k1.block k (Nat.lt_of_lt_of_le hk h1.size) (fun f => f)).trans (h1.block k hk hn)⟩,
    fun b => F' b ∨ (F b ∧ b < w.heap.size), ?_, StF.join ?_ k3 (h5.loc (fun b k => k1.block b k.2 (fun f => f)) k1.size)⟩
  · rintro b (k | k)
    · rcases k2 b k with k | k
      · exact k.elim
      · exact .inr (Nat.le_trans h1.size k)
    · exact h2 b k.1
  · intro b k k'
    rcases k2 b k with k | k
    · exact k
    · have := k'.2; omega
theorem St.of_below (h : St w0 G w B) (k : Below w.heap.size w w') : St w0 G w' B := St.pure (A := []) h ⟨.of_below k, fun _ => False, fun _ k => k.elim, trivial⟩
theorem St.drew (h : St w0 G w B) : St w0 G w.drew B := h.of_below ((Below.refl _ _).drew)

/-- The resource in front is turned. -/
theorem St.turn {r' : Res} (h : St w0 G w (r :: L)) (k : ∀ F, r.holds w F → (∀ b, F b → b < w.heap.size) → ∃ F', ChgF F w w' ∧ r'.holds w' F' ∧ ∀ b, F' b → F b ∨ w.heap.size ≤ b) : St w0 G w' (r' :: L) := by
  have h' : St w0 G w ([r] ++ L) := h
  obtain ⟨F, ⟨F1, F2, h1, h2, h3, h4, h5⟩, h6, h7⟩ := h'.hand
  obtain ⟨F', k1, k2, k3⟩ := k F1 h4 (fun b kb => r.dom w F1 b h4 kb)
  exact h7 w' [r'] ⟨k1.mono (fun b _ kb => h1 b kb), F', fun b kb => (k3 b kb).imp (h1 b) id, F', fun _ => False, fun _ k => k, fun _ k => k.elim, fun _ _ k => k, k2, trivial⟩
/-- The resource in front gives way to several. -/
theorem St.part (h : St w0 G w (r :: L)) (k : ∀ F, r.holds w F → StF w F A) : St w0 G w (A ++ L) := by
  have h' : St w0 G w ([r] ++ L) := h
  obtain ⟨F, ⟨F1, F2, h1, h2, h3, h4, h5⟩, h6, h7⟩ := h'.hand
  exact h7 w A ⟨.refl _ _, F1, fun b kb => .inl (h1 b kb), k F1 h4⟩
/-- Several give way to one. -/
theorem St.unite (h : St w0 G w (A ++ L)) (k : ∀ F, StF w F A → ∃ F', (∀ b, F' b → F b) ∧ r.holds w F') : St w0 G w (r :: L) := by
  obtain ⟨F, h1, h6, h7⟩ := h.hand
  obtain ⟨F', k1, k2⟩ := k F h1
  exact h7 w [r] ⟨.refl _ _, F', fun b kb => .inl (k1 b kb), F', fun _ => False, fun _ k => k, fun _ k => k.elim, fun _ _ k => k, k2, trivial⟩
theorem St.fact (h : St w0 G w (r :: L)) : ∃ F, r.holds w F ∧ ∀ b, F b → G b ∨ w0.heap.size ≤ b := by
  obtain ⟨h1, F, h2, F1, F2, g1, g2, g3, g4, g5⟩ := h
  exact ⟨F1, g4, fun b k => h2 b (g1 b k)⟩
end

/-- Data as a tree: a scalar, or a slice of elements of so many cells each. -/
inductive T where
  | lit (v : Value)
  | row (size n : Nat) (xs : List T)

/-- Cells from an address on. -/
def LdC (w : World) (p o : Nat) (vs : List Value) : Prop := ∀ j v, vs[j]? = some v → w.cell? ⟨p, o + j, none⟩ = some v

mutual
/-- The value reads as the tree; its blocks are of A. -/
def RdT (A : Foot) (w : World) : T → Value → Prop
  | .lit u, v => v = u
  | .row size n xs, v => xs.length = n * size ∧ ∃ a c, v = .slice a n c ∧ n ≤ c ∧ (n = 0 ∨ ∃ b o vs, a = some ⟨b, o, none⟩ ∧ A b ∧ b < w.heap.size ∧ LdC w b o vs ∧ RdTs A w xs vs)
def RdTs (A : Foot) (w : World) : List T → List Value → Prop
  | [], vs => vs = []
  | x :: xs, vs => ∃ v vs', vs = v :: vs' ∧ RdT A w x v ∧ RdTs A w xs vs'
end
mutual
/-- The value reads as the tree, and its blocks, F, are the call's own. -/
def OwnT (w : World) : T → Value → Foot → Prop
  | .lit u, v, F => v = u ∧ ∀ b, ¬ F b
  | .row size n xs, v, F => ∃ e vs F2, w.ownsRow 0 e size v n vs ∧ OwnTs w xs vs F2 ∧ (∀ b, F b ↔ (v.ownBlock = some b ∨ F2 b)) ∧ (∀ b, v.ownBlock = some b → ¬ F2 b)
def OwnTs (w : World) : List T → List Value → Foot → Prop
  | [], vs, F => vs = [] ∧ ∀ b, ¬ F b
  | x :: xs, vs, F => ∃ v vs' F1 F2, vs = v :: vs' ∧ OwnT w x v F1 ∧ OwnTs w xs vs' F2 ∧ (∀ b, F b ↔ (F1 b ∨ F2 b)) ∧ (∀ b, F1 b → ¬ F2 b)
end
/-- A slice of elements of type e. -/
def OwnE (e : TypeId) (w : World) : T → Value → Foot → Prop
  | .lit u, v, F => v = u ∧ ∀ b, ¬ F b
  | .row size n xs, v, F => ∃ vs F2, w.ownsRow 0 e size v n vs ∧ OwnTs w xs vs F2 ∧ (∀ b, F b ↔ (v.ownBlock = some b ∨ F2 b)) ∧ (∀ b, v.ownBlock = some b → ¬ F2 b)
theorem OwnE.any {e : TypeId} {w : World} : ∀ {t : T} {v : Value} {F : Foot}, OwnE e w t v F → OwnT w t v F
  | .lit u, v, F, h => h
  | .row size n xs, v, F, ⟨vs, F2, h⟩ => ⟨e, vs, F2, h⟩

theorem ownsRow_loc {w w' : World} {B : Nat} {e : TypeId} {size : Nat} {v : Value} {n : Nat} {xs : List Value} (h : w.ownsRow B e size v n xs) (k : ∀ b, v.ownBlock = some b → w'.heap[b]? = w.heap[b]?) : w'.ownsRow B e size v n xs := by
  refine ⟨h.1, ?_⟩
  rcases h.2 with h1 | ⟨g, cap, cur, hv, hB, hg, r⟩
  · exact .inl h1
  · refine .inr ⟨g, cap, cur, hv, hB, ?_, r⟩
    rw [k g (by rw [hv]; rfl)]
    exact hg

mutual
theorem OwnT.loc {w w' : World} : ∀ (t : T) {v : Value} {F : Foot}, (∀ b, F b → w'.heap[b]? = w.heap[b]?) → OwnT w t v F → OwnT w' t v F
  | .lit u, v, F, k, h => by simpa [OwnT] using h
  | .row size n xs, v, F, k, h => by
    simp only [OwnT] at h ⊢
    obtain ⟨e, vs, F2, h1, h2, h3, h4⟩ := h
    exact ⟨e, vs, F2, ownsRow_loc h1 (fun b hb => k b ((h3 b).2 (.inl hb))), OwnTs.loc xs (fun b hb => k b ((h3 b).2 (.inr hb))) h2, h3, h4⟩
theorem OwnTs.loc {w w' : World} : ∀ (ts : List T) {vs : List Value} {F : Foot}, (∀ b, F b → w'.heap[b]? = w.heap[b]?) → OwnTs w ts vs F → OwnTs w' ts vs F
  | [], vs, F, k, h => by simpa [OwnTs] using h
  | x :: xs, vs, F, k, h => by
    simp only [OwnTs] at h ⊢
    obtain ⟨v, vs', F1, F2, h1, h2, h3, h4, h5⟩ := h
    exact ⟨v, vs', F1, F2, h1, OwnT.loc x (fun b hb => k b ((h4 b).2 (.inl hb))) h2, OwnTs.loc xs (fun b hb => k b ((h4 b).2 (.inr hb))) h3, h4, h5⟩
end
mutual
theorem OwnT.dom {w : World} : ∀ (t : T) {v : Value} {F : Foot}, OwnT w t v F → ∀ b, F b → b < w.heap.size
  | .lit u, v, F, h => by simp only [OwnT] at h; exact fun b hb => absurd hb (h.2 b)
  | .row size n xs, v, F, h => by
    simp only [OwnT] at h
    obtain ⟨e, vs, F2, h1, h2, h3, h4⟩ := h
    intro b hb
    rcases (h3 b).1 hb with hb | hb
    · exact (h1.lt b hb).2
    · exact OwnTs.dom xs h2 b hb
theorem OwnTs.dom {w : World} : ∀ (ts : List T) {vs : List Value} {F : Foot}, OwnTs w ts vs F → ∀ b, F b → b < w.heap.size
  | [], vs, F, h => by simp only [OwnTs] at h; exact fun b hb => absurd hb (h.2 b)
  | x :: xs, vs, F, h => by
    simp only [OwnTs] at h
    obtain ⟨v, vs', F1, F2, h1, h2, h3, h4, h5⟩ := h
    intro b hb
    rcases (h4 b).1 hb with hb | hb
    · exact OwnT.dom x h2 b hb
    · exact OwnTs.dom xs h3 b hb
end
mutual
theorem RdT.loc {A A' : Foot} {w w' : World} : ∀ (t : T) {v : Value}, (∀ b, A b → b < w.heap.size → A' b ∧ b < w'.heap.size ∧ w'.heap[b]? = w.heap[b]?) → RdT A w t v → RdT A' w' t v
  | .lit u, v, k, h => by simpa [RdT] using h
  | .row size n xs, v, k, h => by
    simp only [RdT] at h ⊢
    obtain ⟨h0, a, c, h1, h2, h3⟩ := h
    refine ⟨h0, a, c, h1, h2, ?_⟩
    rcases h3 with h3 | ⟨b, o, vs, h4, h5, h6, h7, h8⟩
    · exact .inl h3
    · obtain ⟨k1, k2, k3⟩ := k b h5 h6
      exact .inr ⟨b, o, vs, h4, k1, k2, fun j u hu => (World.cell?_of_block (a := ⟨b, o + j, none⟩) k3).trans (h7 j u hu), RdTs.loc xs k h8⟩
theorem RdTs.loc {A A' : Foot} {w w' : World} : ∀ (ts : List T) {vs : List Value}, (∀ b, A b → b < w.heap.size → A' b ∧ b < w'.heap.size ∧ w'.heap[b]? = w.heap[b]?) → RdTs A w ts vs → RdTs A' w' ts vs
  | [], vs, k, h => by simpa [RdTs] using h
  | x :: xs, vs, k, h => by
    simp only [RdTs] at h ⊢
    obtain ⟨v, vs', h1, h2, h3⟩ := h
    exact ⟨v, vs', h1, RdT.loc x k h2, RdTs.loc xs k h3⟩
end
theorem RdT.mono {A A' : Foot} {w : World} {t : T} {v : Value} (h : RdT A w t v) (k : ∀ b, b < w.heap.size → A b → A' b) : RdT A' w t v := h.loc t (fun b h1 h2 => ⟨k b h2 h1, h2, rfl⟩)
theorem RdTs.mono {A A' : Foot} {w : World} {t : List T} {v : List Value} (h : RdTs A w t v) (k : ∀ b, b < w.heap.size → A b → A' b) : RdTs A' w t v := h.loc t (fun b h1 h2 => ⟨k b h2 h1, h2, rfl⟩)

theorem RdTs.length {A : Foot} {w : World} : ∀ {ts : List T} {vs : List Value}, RdTs A w ts vs → vs.length = ts.length
  | [], vs, h => by simp only [RdTs] at h; simp [h]
  | x :: xs, vs, h => by
    simp only [RdTs] at h
    obtain ⟨v, vs', h1, h2, h3⟩ := h
    rw [h1, List.length_cons, List.length_cons, h3.length]
theorem OwnTs.length {w : World} : ∀ {ts : List T} {vs : List Value} {F : Foot}, OwnTs w ts vs F → vs.length = ts.length
  | [], vs, F, h => by simp only [OwnTs] at h; simp [h.1]
  | x :: xs, vs, F, h => by
    simp only [OwnTs] at h
    obtain ⟨v, vs', F1, F2, h1, h2, h3, _⟩ := h
    rw [h1, List.length_cons, List.length_cons, h3.length]
theorem RdTs.split {A : Foot} {w : World} : ∀ {ts us : List T} {vs : List Value}, RdTs A w (ts ++ us) vs → ∃ v1 v2, vs = v1 ++ v2 ∧ RdTs A w ts v1 ∧ RdTs A w us v2
  | [], us, vs, h => ⟨[], vs, rfl, by simp [RdTs], h⟩
  | x :: xs, us, vs, h => by
    simp only [List.cons_append, RdTs] at h
    obtain ⟨v, vs', h1, h2, h3⟩ := h
    obtain ⟨v1, v2, k1, k2, k3⟩ := h3.split
    exact ⟨v :: v1, v2, by rw [h1, k1]; rfl, by simp only [RdTs]; exact ⟨v, v1, rfl, h2, k2⟩, k3⟩
theorem RdTs.join {A : Foot} {w : World} : ∀ {ts us : List T} {v1 v2 : List Value}, RdTs A w ts v1 → RdTs A w us v2 → RdTs A w (ts ++ us) (v1 ++ v2)
  | [], us, v1, v2, h, k => by simp only [RdTs] at h; subst h; exact k
  | x :: xs, us, v1, v2, h, k => by
    simp only [RdTs] at h
    obtain ⟨v, vs', h1, h2, h3⟩ := h
    subst h1
    simp only [List.cons_append, RdTs]
    exact ⟨v, vs' ++ v2, rfl, h2, h3.join k⟩
theorem OwnTs.split {w : World} : ∀ {ts us : List T} {vs : List Value} {F : Foot}, OwnTs w (ts ++ us) vs F → ∃ v1 v2 F1 F2, vs = v1 ++ v2 ∧ OwnTs w ts v1 F1 ∧ OwnTs w us v2 F2 ∧ (∀ b, F b ↔ (F1 b ∨ F2 b)) ∧ (∀ b, F1 b → ¬ F2 b)
  | [], us, vs, F, h => ⟨[], vs, fun _ => False, F, rfl, by simp [OwnTs], h, fun b => by simp, fun b k => k.elim⟩
  | x :: xs, us, vs, F, h => by
    simp only [List.cons_append, OwnTs] at h
    obtain ⟨v, vs', F1, F2, h1, h2, h3, h4, h5⟩ := h
    obtain ⟨v1, v2, G1, G2, k1, k2, k3, k4, k5⟩ := h3.split
    refine ⟨v :: v1, v2, fun b => F1 b ∨ G1 b, G2, by rw [h1, k1]; rfl, ?_, k3, ?_, ?_⟩
    · simp only [OwnTs]
      exact ⟨v, v1, F1, G1, rfl, h2, k2, fun b => Iff.rfl, fun b f g => h5 b f ((k4 b).2 (.inl g))⟩
    · intro b; rw [h4 b, k4 b, or_assoc]
    · rintro b (f | g) k
      · exact h5 b f ((k4 b).2 (.inr k))
      · exact k5 b g k
theorem OwnTs.join {w : World} : ∀ {ts us : List T} {v1 v2 : List Value} {F1 F2 : Foot}, OwnTs w ts v1 F1 → OwnTs w us v2 F2 → (∀ b, F1 b → ¬ F2 b) → OwnTs w (ts ++ us) (v1 ++ v2) (fun b => F1 b ∨ F2 b)
  | [], us, v1, v2, F1, F2, h, k, hd => by
    simp only [OwnTs] at h
    obtain ⟨rfl, h⟩ := h
    have : (fun b => F1 b ∨ F2 b) = F2 := funext fun b => by simp [h b]
    rw [this]
    exact k
  | x :: xs, us, v1, v2, F1, F2, h, k, hd => by
    simp only [OwnTs] at h
    obtain ⟨v, vs', G1, G2, h1, h2, h3, h4, h5⟩ := h
    subst h1
    simp only [List.cons_append, OwnTs]
    refine ⟨v, vs' ++ v2, G1, fun b => G2 b ∨ F2 b, rfl, h2, h3.join k (fun b g f => hd b ((h4 b).2 (.inr g)) f), fun b => by rw [h4 b, or_assoc], ?_⟩
    rintro b g (g' | f)
    · exact h5 b g g'
    · exact hd b ((h4 b).2 (.inl g)) f

mutual
theorem OwnT.rd {w : World} : ∀ (t : T) {v : Value} {F : Foot}, OwnT w t v F → RdT F w t v
  | .lit u, v, F, h => by simp only [OwnT] at h; simp only [RdT]; exact h.1
  | .row size n xs, v, F, h => by
    simp only [OwnT] at h
    obtain ⟨e, vs, F2, h1, h2, h3, h4⟩ := h
    simp only [RdT]
    have hl : xs.length = n * size := by rw [← h2.length]; exact h1.1
    refine ⟨hl, ?_⟩
    rcases h1.2 with ⟨rfl, rfl⟩ | ⟨g, cap, cur, rfl, _, hg, hnc, hcm, hcs, htk⟩
    · exact ⟨none, 0, rfl, Nat.le_refl _, .inl rfl⟩
    · refine ⟨_, cap, rfl, hnc, .inr ⟨g, 0, vs, rfl, (h3 g).2 (.inl rfl), (Array.getElem?_eq_some_iff.1 hg).1, fun j u hu => ?_, ?_⟩⟩
      · rw [Nat.zero_add]
        have hj : j < n * size := by rw [← h1.1]; exact (List.getElem?_eq_some_iff.1 hu).1
        rw [h1.cellAt j hj, hu]
      · exact (OwnTs.rd xs h2).mono fun b _ hb => (h3 b).2 (.inr hb)
theorem OwnTs.rd {w : World} : ∀ (ts : List T) {vs : List Value} {F : Foot}, OwnTs w ts vs F → RdTs F w ts vs
  | [], vs, F, h => by simp only [OwnTs] at h; simp only [RdTs]; exact h.1
  | x :: xs, vs, F, h => by
    simp only [OwnTs] at h
    obtain ⟨v, vs', F1, F2, h1, h2, h3, h4, h5⟩ := h
    simp only [RdTs]
    exact ⟨v, vs', h1, (OwnT.rd x h2).mono fun b _ hb => (h4 b).2 (.inl hb), (OwnTs.rd xs h3).mono fun b _ hb => (h4 b).2 (.inr hb)⟩
end

/-- A variable of the call's own. -/
def Box (p : Nat) (cs : List Value) : Res where
  holds w F := (∀ b, F b ↔ b = p) ∧ ∃ e, w.heap[p]? = some (.cells cs.toArray e (0, 0))
  loc w w' F k _ h := ⟨h.1, by obtain ⟨e, h2⟩ := h.2; exact ⟨e, by rw [k p ((h.1 p).2 rfl)]; exact h2⟩⟩
  dom w F b h hb := by obtain ⟨e, h2⟩ := h.2; have := (h.1 b).1 hb; subst this; exact (Array.getElem?_eq_some_iff.1 h2).1
/-- A slice of the call's own. -/
def Own (e : TypeId) (t : T) (v : Value) : Res where
  holds w F := OwnE e w t v F
  loc w w' F k _ h := by
    cases t with
    | lit u => exact h
    | row size n xs =>
      obtain ⟨vs, F2, h1, h2, h3, h4⟩ := h
      exact ⟨vs, F2, ownsRow_loc h1 (fun b hb => k b ((h3 b).2 (.inl hb))), OwnTs.loc xs (fun b hb => k b ((h3 b).2 (.inr hb))) h2, h3, h4⟩
  dom w F b h hb := OwnT.dom t h.any b hb
/-- Its elements' type is not known. -/
def OwnA (t : T) (v : Value) : Res where
  holds w F := OwnT w t v F
  loc w w' F k _ h := OwnT.loc t k h
  dom w F b h hb := OwnT.dom t h b hb
end Go.Proofs.Ytpbfppelmgjfpaa
