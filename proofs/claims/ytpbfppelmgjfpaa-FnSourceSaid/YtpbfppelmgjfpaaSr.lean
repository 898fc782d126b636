/- Arrays; rows of which one element is taken out; the types of elements forgotten. Generic: no program is named. -/
import Derived.Test.YtpbfppelmgjfpaaSq
namespace Go.Proofs.Ytpbfppelmgjfpaa
open Go Go.RowKit
set_option linter.unusedVariables false
set_option linter.unusedSimpArgs false
set_option linter.unusedSectionVars false

/-- An array's type: so many elements, of so many cells each. -/
structure ArrT (P : Program) (t e len size : Nat) : Prop where
  ht : P.underlying t = some (.array len e)
  hs : ∀ w, (sizeOf e).run P w = .ok size w
section
variable {P : Program} {ops : Array Oper} {Q : Exit → Act → World → Prop} {S : World → Prop} {a : Act} {w : World} {n : Nat} {L : List (Nat × Value)}
  {c : Bool} {rest : List (Bool × Oper)} {ty : TypeId} {pos : String} {aft : Array Edge} {gd : Option (Nat × Bool)} {d : Nat}
theorem wc_ixarr {t e len size p o q : Nat} {X I : Operand} {k : IntKind} {i : Int} {m : Nat} (HF : Fr a n L) (hS : c = false → S w) (hE : ArrT P t e len size) (hx : ov L X = some (.pointer (some ⟨p, o, none⟩))) (hi : ov L I = some (.int k i)) (hm : i = (m : Int)) (hl : Nat.blt m len = true) (hq : o + m * size = q)
    (hw : Region.wanted ⟨some d, .indexAddr t X I, ty, pos, aft, gd⟩ (yielded ops a.tmps) = true) (hd : Nat.blt d n = true)
    (h : ∀ a', Fr a' n ((d, .pointer (some ⟨p, q, none⟩)) :: L) → wpD P ops Q S rest a' w) : wpD P ops Q S ((c, ⟨some d, .indexAddr t X I, ty, pos, aft, gd⟩) :: rest) a w := by
  subst hm hq
  have hl' : m < len := by simpa using hl
  have h1 : (m : Int) < (len : Int) := by omega
  refine wc_any HF hS rfl hw hd (fun w _ => ?_) h
  have hs' : (sizeOf e).run P w = .ok size w := hE.hs w
  simp [execOp, HF.ev hx, HF.ev hi, Instr.indexAt, Instr.sureAddr, asIntOf, run_underlying hE.ht, Sem.run_bind, Sem.run_pure, Result.andThen, h1, hl', hs', Addr.add_lit]
end

section
variable {w0 w w' : World} {G : Foot} {R L : List Res}
end

/-- Cells of the call's own. -/
def OwnsR (ts : List T) (us : List Value) : Res where
  holds w F := OwnTs w ts us F
  loc w w' F k _ h := OwnTs.loc ts k h
  dom w F b h hb := OwnTs.dom ts h b hb

/-- A row of which element i is taken out: its cells, us, are read here, but what they hold is not owned. -/
def HoleR {E : Type} [Dat E] (eo : Option TypeId) (l : List E) (i : Nat) (v : Value) (us : List Value) : Res where
  holds w F := i < l.length ∧ ∃ e v1 v2 F1 F2, (∀ e', eo = some e' → e' = e) ∧ w.ownsRow 0 e (Dat.size E) v l.length (v1 ++ (us ++ v2)) ∧ us.length = Dat.size E ∧
    OwnTs w ((l.take i).flatMap Dat.tree) v1 F1 ∧ OwnTs w ((l.drop (i + 1)).flatMap Dat.tree) v2 F2 ∧ (∀ b, F b ↔ (v.ownBlock = some b ∨ F1 b ∨ F2 b)) ∧ (∀ b, F1 b → ¬ F2 b) ∧ (∀ b, v.ownBlock = some b → ¬ F1 b ∧ ¬ F2 b)
  loc w w' F k _ h := by
    obtain ⟨hi, e, v1, v2, F1, F2, he, h1, h2, h3, h4, h5, h6, h7⟩ := h
    exact ⟨hi, e, v1, v2, F1, F2, he, ownsRow_loc h1 (fun b hb => k b ((h5 b).2 (.inl hb))), h2, h3.loc _ (fun b hb => k b ((h5 b).2 (.inr (.inl hb)))), h4.loc _ (fun b hb => k b ((h5 b).2 (.inr (.inr hb)))), h5, h6, h7⟩
  dom w F b h hb := by
    obtain ⟨hi, e, v1, v2, F1, F2, he, h1, h2, h3, h4, h5, h6, h7⟩ := h
    rcases (h5 b).1 hb with k | k | k
    · exact (h1.lt b k).2
    · exact OwnTs.dom _ h3 b k
    · exact OwnTs.dom _ h4 b k

section
variable {E : Type} [Dat E] {w0 w w' : World} {G : Foot} {R L A : List Res} {l : List E}
theorem hole_of {e : TypeId} {eo : Option TypeId} {v : Value} {i : Nat} {x : E} {F : Foot} {vs : List Value} {F2 : Foot} (he : ∀ e', eo = some e' → e' = e) (hi : l[i]? = some x) (k1 : w.ownsRow 0 e (Dat.size E) v l.length vs) (k2 : OwnTs w (l.flatMap Dat.tree) vs F2)
    (k3 : ∀ b, F b ↔ (v.ownBlock = some b ∨ F2 b)) (k4 : ∀ b, v.ownBlock = some b → ¬ F2 b) : ∃ us, StF w F [HoleR eo l i v us, OwnsR (Dat.tree x) us] := by
  have hlt := (List.getElem?_eq_some_iff.1 hi).1
  have hx := (List.getElem?_eq_some_iff.1 hi).2
  have hfl : l.flatMap Dat.tree = (l.take i).flatMap Dat.tree ++ (Dat.tree x ++ (l.drop (i + 1)).flatMap Dat.tree) := by
    rw [← List.flatMap_cons, ← List.flatMap_append, ← hx, List.getElem_cons_drop, List.take_append_drop]
  rw [hfl] at k2
  obtain ⟨v1, v23, Fp, Fxq, rfl, c1, c2, c3, c4⟩ := k2.split
  obtain ⟨v2, v3, Fx, Fq, rfl, d1, d2, d3, d4⟩ := c2.split
  have n1 : ∀ b, v.ownBlock = some b → ¬ Fp b := fun b hb h => k4 b hb ((c3 b).2 (.inl h))
  have n2 : ∀ b, v.ownBlock = some b → ¬ Fx b := fun b hb h => k4 b hb ((c3 b).2 (.inr ((d3 b).2 (.inl h))))
  have n3 : ∀ b, v.ownBlock = some b → ¬ Fq b := fun b hb h => k4 b hb ((c3 b).2 (.inr ((d3 b).2 (.inr h))))
  have n4 : ∀ b, Fp b → ¬ Fx b := fun b hb h => c4 b hb ((d3 b).2 (.inl h))
  have n5 : ∀ b, Fp b → ¬ Fq b := fun b hb h => c4 b hb ((d3 b).2 (.inr h))
  refine ⟨v2, fun b => v.ownBlock = some b ∨ Fp b ∨ Fq b, Fx, ?_, ?_, ?_, ⟨hlt, e, v1, v3, Fp, Fq, he, k1, by rw [d1.length, Dat.len], c1, d2, fun b => Iff.rfl, n5, fun b hb => ⟨n1 b hb, n3 b hb⟩⟩, Fx, fun _ => False, fun _ k => k, fun _ k => k.elim, fun _ _ k => k, d1, trivial⟩
  · rintro b (k | k | k)
    · exact (k3 b).2 (.inl k)
    · exact (k3 b).2 (.inr ((c3 b).2 (.inl k)))
    · exact (k3 b).2 (.inr ((c3 b).2 (.inr ((d3 b).2 (.inr k)))))
  · exact fun b k => (k3 b).2 (.inr ((c3 b).2 (.inr ((d3 b).2 (.inl k)))))
  · rintro b (k | k | k) k'
    · exact n2 b k k'
    · exact n4 b k k'
    · exact d4 b k' k
/-- Element i is taken out. -/
theorem St.focus {e : TypeId} {v : Value} {i : Int} {x : E} (h : St w0 G w (Own e (rowT l) v :: R)) (hx : at? l i = some x) : ∃ us, St w0 G w (HoleR (some e) l i.toNat v us :: OwnsR (Dat.tree x) us :: R) := by
  have h' : St w0 G w ([Own e (rowT l) v] ++ R) := h
  obtain ⟨F, ⟨F1, F2, h1, h2, h3, ⟨vs, Fi, k1, k2, k3, k4⟩, h5⟩, h6, h7⟩ := h'.hand
  obtain ⟨us, hus⟩ := hole_of (eo := some e) (F := F1) (fun e' he => (Option.some.inj he).symm) (at?_some hx).2 k1 k2 k3 k4
  exact ⟨us, h7 w [_, _] ⟨.refl _ _, F1, fun b kb => .inl (h1 b kb), hus⟩⟩
theorem row_of {eo : Option TypeId} {v : Value} {i : Nat} {x' : E} {us : List Value} {F : Foot} (hF : StF w F (HoleR eo l i v us :: A)) (hA : Gives w A (Dat.tree x') us) :
    ∃ (e : TypeId) (F' : Foot) (vs : List Value) (F2 : Foot), (∀ e', eo = some e' → e' = e) ∧ (∀ b, F' b → F b) ∧ w.ownsRow 0 e (Dat.size E) v (l.set i x').length vs ∧ OwnTs w ((l.set i x').flatMap Dat.tree) vs F2 ∧ (∀ b, F' b ↔ (v.ownBlock = some b ∨ F2 b)) ∧ (∀ b, v.ownBlock = some b → ¬ F2 b) := by
  obtain ⟨F1, F2, g1, g2, g3, ⟨hi, e, v1, v2, Fa, Fb, he, h1, h2, h3, h4, h5, h6, h7⟩, g5⟩ := hF
  obtain ⟨Fx, x1, x2⟩ := hA F2 g5
  have hset : (l.set i x').flatMap Dat.tree = (l.take i).flatMap Dat.tree ++ (Dat.tree x' ++ (l.drop (i + 1)).flatMap Dat.tree) := by
    rw [List.set_eq_take_append_cons_drop, if_pos hi, List.flatMap_append, List.flatMap_cons]
  have m1 : ∀ b, Fa b → ¬ Fx b := fun b hb k => g3 b ((h5 b).2 (.inr (.inl hb))) (x1 b k)
  have m2 : ∀ b, Fx b → ¬ Fb b := fun b hb k => g3 b ((h5 b).2 (.inr (.inr k))) (x1 b hb)
  have oo := OwnTs.join h3 (OwnTs.join x2 h4 m2) (fun b hb k => k.elim (m1 b hb) (h6 b hb))
  refine ⟨e, fun b => v.ownBlock = some b ∨ (Fa b ∨ (Fx b ∨ Fb b)), v1 ++ (us ++ v2), _, he, ?_, by rw [List.length_set]; exact h1, by rw [hset]; exact oo, fun b => Iff.rfl, ?_⟩
  · rintro b (k | k | k | k)
    · exact g1 b ((h5 b).2 (.inl k))
    · exact g1 b ((h5 b).2 (.inr (.inl k)))
    · exact g2 b (x1 b k)
    · exact g1 b ((h5 b).2 (.inr (.inr k)))
  · rintro b hb (k | k | k)
    · exact (h7 b hb).1 k
    · exact g3 b ((h5 b).2 (.inl hb)) (x1 b k)
    · exact (h7 b hb).2 k
/-- It is put back, perhaps with other data. -/
theorem St.unfocus {e : TypeId} {v : Value} {i : Nat} {x' : E} {us : List Value} (h : St w0 G w (HoleR (some e) l i v us :: (A ++ R))) (hA : Gives w A (Dat.tree x') us) : St w0 G w (Own e (rowT (l.set i x')) v :: R) := by
  have h' : St w0 G w ((HoleR (some e) l i v us :: A) ++ R) := h
  refine h'.unite fun F hF => ?_
  obtain ⟨e', F', vs, F2, he, k0, k1, k2, k3, k4⟩ := row_of hF hA
  obtain rfl := he e rfl
  exact ⟨F', k0, vs, F2, k1, k2, k3, k4⟩
omit [Dat E] in
theorem set_same {i : Int} {x : E} (hx : at? l i = some x) : l.set i.toNat x = l := by
  obtain ⟨_, h⟩ := at?_some hx
  obtain ⟨hlt, rfl⟩ := List.getElem?_eq_some_iff.1 h
  simp
theorem St.unfocusS {e : TypeId} {v : Value} {i : Int} {x : E} {us : List Value} (hx : at? l i = some x) (h : St w0 G w (HoleR (some e) l i.toNat v us :: (A ++ R))) (hA : Gives w A (Dat.tree x) us) : St w0 G w (Own e (rowT l) v :: R) := by
  have := h.unfocus hA
  rwa [set_same hx] at this
/-- The cells of the element that is taken out. -/
theorem St.holeAt (h : St w0 G w L) (k : Nat) {eo : Option TypeId} {i b o m cc : Nat} {x1 : Option Addr} {us : List Value} (hk : L[k]? = some (HoleR eo l i (.slice x1 m cc) us)) (ha : x1 = some ⟨b, o, none⟩) : LdC w b (o + i * Dat.size E) us := by
  subst ha
  obtain ⟨M, hM⟩ := pick_get hk
  have hp := h.pick k
  rw [hM] at hp
  obtain ⟨F, ⟨hi, e, v1, v2, F1, F2, he, h1, h2, h3, h4, h5, h6, h7⟩, _⟩ := hp.fact
  have hl1 : v1.length = i * Dat.size E := by rw [h3.length, flat_len, List.length_take, Nat.min_eq_left (by omega)]
  rcases h1.2 with ⟨k5, _⟩ | ⟨g, cap, cur, k5, _, hg, hnc, hcm, hcs, htk⟩
  · cases k5
  · simp only [Value.slice.injEq, Option.some.injEq, Addr.mk.injEq, and_true] at k5
    obtain ⟨⟨rfl, rfl⟩, rfl, rfl⟩ := k5
    intro j u hu
    have hj := (List.getElem?_eq_some_iff.1 hu).1
    have hlt : i * Dat.size E + j < l.length * Dat.size E := by
      have := Nat.mul_le_mul_right (Dat.size E) (show i + 1 ≤ l.length from hi)
      rw [Nat.add_mul] at this; omega
    have := h1.cellAt (i * Dat.size E + j) hlt
    rw [List.getElem?_append_right (by omega), hl1, Nat.add_sub_cancel_left, List.getElem?_append_left hj, hu] at this
    rw [Nat.zero_add]
    exact this
end

theorem own_len {E : Type} [Dat E] {w : World} {l : List E} {v : Value} {F : Foot} (h : OwnT w (rowT l) v F) : ∃ a c, v = .slice a l.length c := by
  obtain ⟨a, c, h, _⟩ := (OwnT.rd _ h).len
  exact ⟨a, c, h⟩
section
variable {w0 w w' : World} {G : Foot} {R : List Res} {r : Res}
/-- What the cells of an element hold, each for itself. -/
theorem St.pieces {ts : List T} {us : List Value} (h : St w0 G w (r :: OwnsR ts us :: R)) {Φ : List Res → Prop} (k : ∀ F, OwnTs w ts us F → ∃ A, Φ A ∧ StF w F A) : ∃ A, Φ A ∧ St w0 G w (A ++ (r :: R)) := by
  have h' : St w0 G w ([OwnsR ts us] ++ (r :: R)) := h.pick 1
  obtain ⟨F, ⟨F1, F2, h1, h2, h3, h4, h5⟩, h6, h7⟩ := h'.hand
  obtain ⟨A, hA, hs⟩ := k F1 h4
  exact ⟨A, hA, h7 w A ⟨.refl _ _, F1, fun b kb => .inl (h1 b kb), hs⟩⟩
theorem stF_one {s : Res} {F : Foot} (h : s.holds w F) : StF w F [s] := ⟨F, fun _ => False, fun _ k => k, fun _ k => k.elim, fun _ _ k => k, h, trivial⟩
theorem stF_cons {s : Res} {A : List Res} {F F1 F2 : Foot} (h : s.holds w F1) (hA : StF w F2 A) (hF : ∀ b, F b ↔ (F1 b ∨ F2 b)) (hd : ∀ b, F1 b → ¬ F2 b) : StF w F (s :: A) := ⟨F1, F2, fun b k => (hF b).2 (.inl k), fun b k => (hF b).2 (.inr k), hd, h, hA⟩
theorem St.pieces_Kid {x : KidD} {us : List Value} (h : St w0 G w (r :: OwnsR (Dat.tree x) us :: R)) : ∃ a c, us = [.slice a x.code.length c] ∧ St w0 G w (OwnA (rowT x.code) (.slice a x.code.length c) :: r :: R) := by
  obtain ⟨A, ⟨a, c, h1, rfl⟩, h2⟩ := h.pieces (Φ := fun A => ∃ a c, us = [.slice a x.code.length c] ∧ A = [OwnA (rowT x.code) (.slice a x.code.length c)]) (fun F hF => by
    simp only [Dat.tree, OwnTs] at hF
    obtain ⟨v, _, F1, F2, rfl, h1, ⟨rfl, h2⟩, h3, h4⟩ := hF
    obtain ⟨a, c, rfl⟩ := own_len h1
    exact ⟨_, ⟨a, c, rfl, rfl⟩, stF_cons h1 (F2 := fun _ => False) trivial (fun b => by rw [h3 b]; simp [h2 b]) (fun _ _ k => k)⟩)
  exact ⟨a, c, h1, h2⟩
end
section
variable {w0 w w' : World} {G : Foot} {A B : List Res}
theorem St.handR2 (h : St w0 G w (A ++ B)) : ∃ F : Foot, StF w F A ∧ (∀ b, F b → G b ∨ w0.heap.size ≤ b) ∧ (∀ w' A', St w F w' A' → St w0 G w' (A' ++ B)) ∧
    (∀ {t : T} {v : Value}, RdT (fun b => ¬ G b) w0 t v → RdT (fun b => ¬ F b) w t v) ∧ (∀ (e : TypeId) (t : T) (v : Value), Own e t v ∈ B → RdT (fun b => ¬ F b) w t v) ∧ (∀ (t : T) (v : Value), OwnA t v ∈ B → RdT (fun b => ¬ F b) w t v) := by
  obtain ⟨h1, F, h2, h3⟩ := h
  obtain ⟨F1, F2, g1, g2, g3, g4, g5⟩ := h3.append
  have h' : St w0 G w (A ++ B) := ⟨h1, F, h2, h3⟩
  refine ⟨F1, g4, fun b k => h2 b (g1 b k), ?_, ?_, ?_, ?_⟩
  · rintro w' A' ⟨k1, F', k2, k3⟩
    have h5 := g5.dom
    refine ⟨⟨k1.os.trans h1.os, k1.tape.trans h1.tape, k1.output.trans h1.output, Nat.le_trans h1.size k1.size, fun k hk hn => (k1.block k (Nat.lt_of_lt_of_le hk h1.size) (fun f => ?_)).trans (h1.block k hk hn)⟩,
      fun b => F' b ∨ (F2 b ∧ b < w.heap.size), ?_, StF.join ?_ k3 (h5.loc (fun b k => k1.block b k.2 (fun f => g3 b f k.1)) k1.size)⟩
    · rcases h2 k (g1 k f) with f | f
      · exact hn f
      · omega
    · rintro b (k | k)
      · rcases k2 b k with k | k
        · exact h2 b (g1 b k)
        · exact .inr (Nat.le_trans h1.size k)
      · exact h2 b (g2 b k.1)
    · intro b k k'
      rcases k2 b k with k | k
      · exact g3 b k k'.1
      · have := k'.2; omega
  · intro t v k
    refine k.loc t fun b k1 k2 => ⟨fun f => ?_, Nat.lt_of_lt_of_le k2 h1.size, h1.block b k2 k1⟩
    rcases h2 b (g1 b f) with f | f
    · exact k1 f
    · omega
  · intro e t v hm
    have key : ∀ (B : List Res) (F2 : Foot), StF w F2 B → Own e t v ∈ B → RdT F2 w t v := by
      intro B
      induction B with
      | nil => intro F2 _ hm; cases hm
      | cons r B ih =>
        rintro F2 ⟨G1, G2, k1, k2, k3, k4, k5⟩ hm
        rcases List.mem_cons.1 hm with hm | hm
        · subst hm
          exact (OwnT.rd t (OwnE.any k4)).mono fun b _ hb => k1 b hb
        · exact (ih G2 k5 hm).mono fun b _ hb => k2 b hb
    exact (key B F2 g5 hm).mono fun b _ hb f => g3 b f hb
  · intro t v hm
    have key : ∀ (B : List Res) (F2 : Foot), StF w F2 B → OwnA t v ∈ B → RdT F2 w t v := by
      intro B
      induction B with
      | nil => intro F2 _ hm; cases hm
      | cons r B ih =>
        rintro F2 ⟨G1, G2, k1, k2, k3, k4, k5⟩ hm
        rcases List.mem_cons.1 hm with hm | hm
        · subst hm
          exact (OwnT.rd t k4).mono fun b _ hb => k1 b hb
        · exact (ih G2 k5 hm).mono fun b _ hb => k2 b hb
    exact (key B F2 g5 hm).mono fun b _ hb f => g3 b f hb
end
section
variable {E : Type} [Dat E] {P : Program} {ops : Array Oper} {Q : Exit → Act → World → Prop} {S : World → Prop} {a : Act} {w w0 : World} {G : Foot} {R : List Res} {n : Nat} {L : List (Nat × Value)}
  {c : Bool} {rest : List (Bool × Oper)} {ty : TypeId} {pos : String} {aft : Array Edge} {gd : Option (Nat × Bool)} {d : Nat}
end
section
variable {P : Program} {t : TypeId} {X Y : Operand} {x y : Int}
end
/-- A row that is only read, but the call's own. -/
def ReadR (t : T) (v : Value) : Res where
  holds w F := RdT F w t v ∧ ∀ b, F b → b < w.heap.size
  loc w w' F k hs h := ⟨h.1.loc t fun b hb hl => ⟨hb, Nat.lt_of_lt_of_le hl hs, k b hb⟩, fun b hb => Nat.lt_of_lt_of_le (h.2 b hb) hs⟩
  dom w F b h hb := h.2 b hb
section
variable {E : Type} [Dat E] {w0 w : World} {G : Foot} {R L : List Res}
theorem St.toRead {e : TypeId} {t : T} {v : Value} (h : St w0 G w (Own e t v :: R)) : St w0 G w (ReadR t v :: R) :=
  h.part (A := [ReadR t v]) fun F hF => stF_one ⟨OwnT.rd t (OwnE.any hF), fun b hb => OwnT.dom t (OwnE.any hF) b hb⟩
theorem St.rdRAt (h : St w0 G w L) (i : Nat) {t : T} {v : Value} (hi : L[i]? = some (ReadR t v)) : RdT (fun b => ¬ False) w t v := by
  obtain ⟨M, hM⟩ := pick_get hi
  have := h.pick i
  rw [hM] at this
  obtain ⟨F, hF, _⟩ := this.fact
  exact hF.1.any
theorem St.cutRead {l : List E} {a : Option Addr} {n c : Nat} {i j : Int} (h : St w0 G w (ReadR (rowT l) (.slice a n c) :: R)) (hij : 0 ≤ i ∧ i ≤ j ∧ j ≤ (l.length : Int)) :
    ∃ a' c', St w0 G w (ReadR (rowT (subl l i j)) (.slice a' (subl l i j).length c') :: R) ∧ i ≤ j ∧ j ≤ (n : Int) ∧ n ≤ c ∧ 0 ≤ i ∧ (if c = i.toNat then a else a.map (·.add (i.toNat * Dat.size E))) = a' ∧ j.toNat - i.toNat = (subl l i j).length ∧ c - i.toNat = c' := by
  obtain ⟨F, hF, _⟩ := h.fact
  obtain ⟨a', c', _, h1⟩ := hF.1.cutI hij
  refine ⟨a', c', h.part (A := [ReadR _ _]) fun F hF => stF_one ⟨?_, hF.2⟩, h1⟩
  obtain ⟨a2, c2, h2, h3⟩ := hF.1.cutI hij
  have e1 : a2 = a' := h3.2.2.2.2.1.symm.trans h1.2.2.2.2.1
  have e2 : c2 = c' := h3.2.2.2.2.2.2.symm.trans h1.2.2.2.2.2.2
  rw [← e1, ← e2]
  exact h2
end

section
variable {E : Type} [Dat E] {P : Program} {ops : Array Oper} {Q : Exit → Act → World → Prop} {S : World → Prop} {a : Act} {w w0 : World} {G : Foot} {R : List Res} {n : Nat} {L : List (Nat × Value)}
  {c : Bool} {rest : List (Bool × Oper)} {ty : TypeId} {pos : String} {aft : Array Edge} {gd : Option (Nat × Bool)} {d : Nat}
end
section
variable {w0 w : World} {G : Foot} {R : List Res}
theorem St.p1 {a0 a1 : Res} (h : St w0 G w (a0 :: a1 :: R)) : St w0 G w (a1 :: a0 :: R) := h.pick 1
theorem St.p2 {a0 a1 a2 : Res} (h : St w0 G w (a0 :: a1 :: a2 :: R)) : St w0 G w (a2 :: a0 :: a1 :: R) := h.pick 2
theorem St.p3 {a0 a1 a2 a3 : Res} (h : St w0 G w (a0 :: a1 :: a2 :: a3 :: R)) : St w0 G w (a3 :: a0 :: a1 :: a2 :: R) := h.pick 3
theorem St.p4 {a0 a1 a2 a3 a4 : Res} (h : St w0 G w (a0 :: a1 :: a2 :: a3 :: a4 :: R)) : St w0 G w (a4 :: a0 :: a1 :: a2 :: a3 :: R) := h.pick 4
theorem St.p5 {a0 a1 a2 a3 a4 a5 : Res} (h : St w0 G w (a0 :: a1 :: a2 :: a3 :: a4 :: a5 :: R)) : St w0 G w (a5 :: a0 :: a1 :: a2 :: a3 :: a4 :: R) := h.pick 5
theorem St.p6 {a0 a1 a2 a3 a4 a5 a6 : Res} (h : St w0 G w (a0 :: a1 :: a2 :: a3 :: a4 :: a5 :: a6 :: R)) : St w0 G w (a6 :: a0 :: a1 :: a2 :: a3 :: a4 :: a5 :: R) := h.pick 6
theorem St.p7 {a0 a1 a2 a3 a4 a5 a6 a7 : Res} (h : St w0 G w (a0 :: a1 :: a2 :: a3 :: a4 :: a5 :: a6 :: a7 :: R)) : St w0 G w (a7 :: a0 :: a1 :: a2 :: a3 :: a4 :: a5 :: a6 :: R) := h.pick 7
theorem St.p8 {a0 a1 a2 a3 a4 a5 a6 a7 a8 : Res} (h : St w0 G w (a0 :: a1 :: a2 :: a3 :: a4 :: a5 :: a6 :: a7 :: a8 :: R)) : St w0 G w (a8 :: a0 :: a1 :: a2 :: a3 :: a4 :: a5 :: a6 :: a7 :: R) := h.pick 8
theorem St.p9 {a0 a1 a2 a3 a4 a5 a6 a7 a8 a9 : Res} (h : St w0 G w (a0 :: a1 :: a2 :: a3 :: a4 :: a5 :: a6 :: a7 :: a8 :: a9 :: R)) : St w0 G w (a9 :: a0 :: a1 :: a2 :: a3 :: a4 :: a5 :: a6 :: a7 :: a8 :: R) := h.pick 9
theorem St.p10 {a0 a1 a2 a3 a4 a5 a6 a7 a8 a9 a10 : Res} (h : St w0 G w (a0 :: a1 :: a2 :: a3 :: a4 :: a5 :: a6 :: a7 :: a8 :: a9 :: a10 :: R)) : St w0 G w (a10 :: a0 :: a1 :: a2 :: a3 :: a4 :: a5 :: a6 :: a7 :: a8 :: a9 :: R) := h.pick 10
theorem St.p11 {a0 a1 a2 a3 a4 a5 a6 a7 a8 a9 a10 a11 : Res} (h : St w0 G w (a0 :: a1 :: a2 :: a3 :: a4 :: a5 :: a6 :: a7 :: a8 :: a9 :: a10 :: a11 :: R)) : St w0 G w (a11 :: a0 :: a1 :: a2 :: a3 :: a4 :: a5 :: a6 :: a7 :: a8 :: a9 :: a10 :: R) := h.pick 11
theorem St.p12 {a0 a1 a2 a3 a4 a5 a6 a7 a8 a9 a10 a11 a12 : Res} (h : St w0 G w (a0 :: a1 :: a2 :: a3 :: a4 :: a5 :: a6 :: a7 :: a8 :: a9 :: a10 :: a11 :: a12 :: R)) : St w0 G w (a12 :: a0 :: a1 :: a2 :: a3 :: a4 :: a5 :: a6 :: a7 :: a8 :: a9 :: a10 :: a11 :: R) := h.pick 12
theorem St.t1 {a0 : Res} (h : St w0 G w (a0 :: R)) : St w0 G w [a0] := h.take 1
theorem St.t2 {a0 a1 : Res} (h : St w0 G w (a0 :: a1 :: R)) : St w0 G w [a0, a1] := h.take 2
theorem St.t3 {a0 a1 a2 : Res} (h : St w0 G w (a0 :: a1 :: a2 :: R)) : St w0 G w [a0, a1, a2] := h.take 3
theorem St.t4 {a0 a1 a2 a3 : Res} (h : St w0 G w (a0 :: a1 :: a2 :: a3 :: R)) : St w0 G w [a0, a1, a2, a3] := h.take 4
theorem St.t5 {a0 a1 a2 a3 a4 : Res} (h : St w0 G w (a0 :: a1 :: a2 :: a3 :: a4 :: R)) : St w0 G w [a0, a1, a2, a3, a4] := h.take 5
theorem St.t0 (h : St w0 G w R) : St w0 G w [] := h.clear
end
end Go.Proofs.Ytpbfppelmgjfpaa
