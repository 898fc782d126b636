/- Arrays; rows of which one element is taken out; the types of elements forgotten. Generic: no program is named. -/
import Derived.Test.YtknghnmcckjjbaaSq
namespace Go.Proofs.Ytknghnmcckjjbaa
open Go Go.RowKit
set_option linter.unusedVariables false
set_option linter.unusedSimpArgs false
set_option linter.unusedSectionVars false

section
variable {P : Program} {ops : Array Oper} {Q : Exit → Act → World → Prop} {S : World → Prop} {a : Act} {w : World} {n : Nat} {L : List (Nat × Value)}
  {c : Bool} {rest : List (Bool × Oper)} {ty : TypeId} {pos : String} {aft : Array Edge} {gd : Option (Nat × Bool)} {d : Nat}
end

section
variable {w0 w w' : World} {G : Foot} {R L : List Res}
theorem St.weak {e : TypeId} {t : T} {v : Value} (h : St w0 G w (Own e t v :: R)) : St w0 G w (OwnA t v :: R) :=
  h.part (A := [OwnA t v]) fun F hF => ⟨F, fun _ => False, fun _ k => k, fun _ k => k.elim, fun _ _ k => k, OwnE.any hF, trivial⟩
end

/-- Cells of the call's own. -/
def OwnsR (ts : List T) (us : List Value) : Res where
  holds w F := OwnTs w ts us F
  loc w w' F k _ h := OwnTs.loc ts k h
  dom w F b h hb := OwnTs.dom ts h b hb

/-- A row of which element i is taken out: its cells, us, are read here, but what they hold is not owned. -/
def HoleR {E : Type} [Dat E] (eo : Option TypeId) (l : List E) (i : Nat) (v : Value) (us : List Value) : Res where
  holds w F := i < l.length ∧ ∃ e v1 v2 F1 F2, (∀ e', eo = some e' → e' = e) ∧ w.ownsRow 0 e (Dat.size E) v l.length (v1 ++ (us ++ v2)) ∧ us.length = Dat.size E ∧
    OwnTs w ((l.take i).flatMap Dat.tree) v1 F1 ∧ OwnTs w ((l.drop (i + 1)).flatMap Dat.tree) v2 F2 ∧ (∀ b, F b ↔ (v.ownBlock = some b ∨ F1 b ∨ F2 b)) ∧ (∀ b, F1 b → ¬ F2 b) ∧ (∀ b, v.ownBlock = some b → ¬ F1 b ∧ ¬ F2 b)
  loc w w' F k _ h := by
    obtain ⟨hi, e, v1, v2, F1, F2, he, h1, h2, h3, h4, h5, h6, h7⟩ := h
    exact ⟨hi, e, v1, v2, F1, F2, he, ownsRow_loc h1 (fun b hb => k b ((h5 b).2 (.inl hb))), h2, h3.loc _ (fun b hb => k b ((h5 b).2 (.inr (.inl hb)))), h4.loc _ (fun b hb => k b ((h5 b).2 (.inr (.inr hb)))), h5, h6, h7⟩
  dom w F b h hb := by
    obtain ⟨hi, e, v1, v2, F1, F2, he, h1, h2, h3, h4, h5, h6, h7⟩ := h
    rcases (h5 b).1 hb with k | k | k
    · exact (h1.lt b k).2
    · exact OwnTs.dom _ h3 b k
    · exact OwnTs.dom _ h4 b k

section
variable {E : Type} [Dat E] {w0 w w' : World} {G : Foot} {R L A : List Res} {l : List E}
theorem hole_of {e : TypeId} {eo : Option TypeId} {v : Value} {i : Nat} {x : E} {F : Foot} {vs : List Value} {F2 : Foot} (he : ∀ e', eo = some e' → e' = e) (hi : l[i]? = some x) (k1 : w.ownsRow 0 e (Dat.size E) v l.length vs) (k2 : OwnTs w (l.flatMap Dat.tree) vs F2)
    (k3 : ∀ b, F b ↔ (v.ownBlock = some b ∨ F2 b)) (k4 : ∀ b, v.ownBlock = some b → ¬ F2 b) : ∃ us, StF w F [HoleR eo l i v us, OwnsR (Dat.tree x) us] := by
  have hlt := (List.getElem?_eq_some_iff.1 hi).1
  have hx := (List.getElem?_eq_some_iff.1 hi).2
  have hfl : l.flatMap Dat.tree = (l.take i).flatMap Dat.tree ++ (Dat.tree x ++ (l.drop (i + 1)).flatMap Dat.tree) := by
    rw [← List.flatMap_cons, ← List.flatMap_append, ← hx, List.getElem_cons_drop, List.take_append_drop]
  rw [hfl] at k2
  obtain ⟨v1, v23, Fp, Fxq, rfl, c1, c2, c3, c4⟩ := k2.split
  obtain ⟨v2, v3, Fx, Fq, rfl, d1, d2, d3, d4⟩ := c2.split
  have n1 : ∀ b, v.ownBlock = some b → ¬ Fp b := fun b hb h => k4 b hb ((c3 b).2 (.inl h))
  have n2 : ∀ b, v.ownBlock = some b → ¬ Fx b := fun b hb h => k4 b hb ((c3 b).2 (.inr ((d3 b).2 (.inl h))))
  have n3 : ∀ b, v.ownBlock = some b → ¬ Fq b := fun b hb h => k4 b hb ((c3 b).2 (.inr ((d3 b).2 (.inr h))))
  have n4 : ∀ b, Fp b → ¬ Fx b := fun b hb h => c4 b hb ((d3 b).2 (.inl h))
  have n5 : ∀ b, Fp b → ¬ Fq b := fun b hb h => c4 b hb ((d3 b).2 (.inr h))
  refine ⟨v2, fun b => v.ownBlock = some b ∨ Fp b ∨ Fq b, Fx, ?_, ?_, ?_, ⟨hlt, e, v1, v3, Fp, Fq, he, k1, by rw [d1.length, Dat.len], c1, d2, fun b => Iff.rfl, n5, fun b hb => ⟨n1 b hb, n3 b hb⟩⟩, Fx, fun _ => False, fun _ k => k, fun _ k => k.elim, fun _ _ k => k, d1, trivial⟩
  · rintro b (k | k | k)
    · exact (k3 b).2 (.inl k)
    · exact (k3 b).2 (.inr ((c3 b).2 (.inl k)))
    · exact (k3 b).2 (.inr ((c3 b).2 (.inr ((d3 b).2 (.inr k)))))
  · exact fun b k => (k3 b).2 (.inr ((c3 b).2 (.inr ((d3 b).2 (.inl k)))))
  · rintro b (k | k | k) k'
    · exact n2 b k k'
    · exact n4 b k k'
    · exact d4 b k' k
/-- Element i is taken out. -/
theorem St.focus {e : TypeId} {v : Value} {i : Int} {x : E} (h : St w0 G w (Own e (rowT l) v :: R)) (hx : at? l i = some x) : ∃ us, St w0 G w (HoleR (some e) l i.toNat v us :: OwnsR (Dat.tree x) us :: R) := by
  have h' : St w0 G w ([Own e (rowT l) v] ++ R) := h
  obtain ⟨F, ⟨F1, F2, h1, h2, h3, ⟨vs, Fi, k1, k2, k3, k4⟩, h5⟩, h6, h7⟩ := h'.hand
  obtain ⟨us, hus⟩ := hole_of (eo := some e) (F := F1) (fun e' he => (Option.some.inj he).symm) (at?_some hx).2 k1 k2 k3 k4
  exact ⟨us, h7 w [_, _] ⟨.refl _ _, F1, fun b kb => .inl (h1 b kb), hus⟩⟩
theorem row_of {eo : Option TypeId} {v : Value} {i : Nat} {x' : E} {us : List Value} {F : Foot} (hF : StF w F (HoleR eo l i v us :: A)) (hA : Gives w A (Dat.tree x') us) :
    ∃ (e : TypeId) (F' : Foot) (vs : List Value) (F2 : Foot), (∀ e', eo = some e' → e' = e) ∧ (∀ b, F' b → F b) ∧ w.ownsRow 0 e (Dat.size E) v (l.set i x').length vs ∧ OwnTs w ((l.set i x').flatMap Dat.tree) vs F2 ∧ (∀ b, F' b ↔ (v.ownBlock = some b ∨ F2 b)) ∧ (∀ b, v.ownBlock = some b → ¬ F2 b) := by
  obtain ⟨F1, F2, g1, g2, g3, ⟨hi, e, v1, v2, Fa, Fb, he, h1, h2, h3, h4, h5, h6, h7⟩, g5⟩ := hF
  obtain ⟨Fx, x1, x2⟩ := hA F2 g5
  have hset : (l.set i x').flatMap Dat.tree = (l.take i).flatMap Dat.tree ++ (Dat.tree x' ++ (l.drop (i + 1)).flatMap Dat.tree) := by
    rw [List.set_eq_take_append_cons_drop, if_pos hi, List.flatMap_append, List.flatMap_cons]
  have m1 : ∀ b, Fa b → ¬ Fx b := fun b hb k => g3 b ((h5 b).2 (.inr (.inl hb))) (x1 b k)
  have m2 : ∀ b, Fx b → ¬ Fb b := fun b hb k => g3 b ((h5 b).2 (.inr (.inr k))) (x1 b hb)
  have oo := OwnTs.join h3 (OwnTs.join x2 h4 m2) (fun b hb k => k.elim (m1 b hb) (h6 b hb))
  refine ⟨e, fun b => v.ownBlock = some b ∨ (Fa b ∨ (Fx b ∨ Fb b)), v1 ++ (us ++ v2), _, he, ?_, by rw [List.length_set]; exact h1, by rw [hset]; exact oo, fun b => Iff.rfl, ?_⟩
  · rintro b (k | k | k | k)
    · exact g1 b ((h5 b).2 (.inl k))
    · exact g1 b ((h5 b).2 (.inr (.inl k)))
    · exact g2 b (x1 b k)
    · exact g1 b ((h5 b).2 (.inr (.inr k)))
  · rintro b hb (k | k | k)
    · exact (h7 b hb).1 k
    · exact g3 b ((h5 b).2 (.inl hb)) (x1 b k)
    · exact (h7 b hb).2 k
/-- It is put back, perhaps with other data. -/
theorem St.unfocus {e : TypeId} {v : Value} {i : Nat} {x' : E} {us : List Value} (h : St w0 G w (HoleR (some e) l i v us :: (A ++ R))) (hA : Gives w A (Dat.tree x') us) : St w0 G w (Own e (rowT (l.set i x')) v :: R) := by
  have h' : St w0 G w ((HoleR (some e) l i v us :: A) ++ R) := h
  refine h'.unite fun F hF => ?_
  obtain ⟨e', F', vs, F2, he, k0, k1, k2, k3, k4⟩ := row_of hF hA
  obtain rfl := he e rfl
  exact ⟨F', k0, vs, F2, k1, k2, k3, k4⟩
omit [Dat E] in
theorem set_same {i : Int} {x : E} (hx : at? l i = some x) : l.set i.toNat x = l := by
  obtain ⟨_, h⟩ := at?_some hx
  obtain ⟨hlt, rfl⟩ := List.getElem?_eq_some_iff.1 h
  simp
theorem St.unfocusS {e : TypeId} {v : Value} {i : Int} {x : E} {us : List Value} (hx : at? l i = some x) (h : St w0 G w (HoleR (some e) l i.toNat v us :: (A ++ R))) (hA : Gives w A (Dat.tree x) us) : St w0 G w (Own e (rowT l) v :: R) := by
  have := h.unfocus hA
  rwa [set_same hx] at this
/-- The cells of the element that is taken out. -/
theorem St.holeAt (h : St w0 G w L) (k : Nat) {eo : Option TypeId} {i b o m cc : Nat} {x1 : Option Addr} {us : List Value} (hk : L[k]? = some (HoleR eo l i (.slice x1 m cc) us)) (ha : x1 = some ⟨b, o, none⟩) : LdC w b (o + i * Dat.size E) us := by
  subst ha
  obtain ⟨M, hM⟩ := pick_get hk
  have hp := h.pick k
  rw [hM] at hp
  obtain ⟨F, ⟨hi, e, v1, v2, F1, F2, he, h1, h2, h3, h4, h5, h6, h7⟩, _⟩ := hp.fact
  have hl1 : v1.length = i * Dat.size E := by rw [h3.length, flat_len, List.length_take, Nat.min_eq_left (by omega)]
  rcases h1.2 with ⟨k5, _⟩ | ⟨g, cap, cur, k5, _, hg, hnc, hcm, hcs, htk⟩
  · cases k5
  · simp only [Value.slice.injEq, Option.some.injEq, Addr.mk.injEq, and_true] at k5
    obtain ⟨⟨rfl, rfl⟩, rfl, rfl⟩ := k5
    intro j u hu
    have hj := (List.getElem?_eq_some_iff.1 hu).1
    have hlt : i * Dat.size E + j < l.length * Dat.size E := by
      have := Nat.mul_le_mul_right (Dat.size E) (show i + 1 ≤ l.length from hi)
      rw [Nat.add_mul] at this; omega
    have := h1.cellAt (i * Dat.size E + j) hlt
    rw [List.getElem?_append_right (by omega), hl1, Nat.add_sub_cancel_left, List.getElem?_append_left hj, hu] at this
    rw [Nat.zero_add]
    exact this
/-- The rest of the row is let go, from the element that is taken out on. -/
theorem St.cutH {e : TypeId} {i : Nat} {x : Option Addr} {m cc : Nat} {j : Int} {us : List Value} (HT : St w0 G w (HoleR (some e) l i (.slice x m cc) us :: R)) (hj : 0 ≤ j) (hij : j.toNat = i) :
    St w0 G w (Own e (rowT (subl l 0 j)) (.slice x (subl l 0 j).length cc) :: R) ∧ (0 : Int) ≤ j ∧ j ≤ (m : Int) ∧ m ≤ cc ∧ (0 : Int) ≤ 0 ∧ (if cc = (0 : Int).toNat then x else x.map (·.add ((0 : Int).toNat * Dat.size E))) = x ∧ j.toNat - (0 : Int).toNat = (subl l 0 j).length ∧ cc - (0 : Int).toNat = cc := by
  subst hij
  obtain ⟨F, hF, hG⟩ := HT.fact
  obtain ⟨hi, e', v1, v2, F1, F2, he, h1, h2, h3, h4, h5, h6, h7⟩ := hF
  have hlen : (subl l 0 j).length = j.toNat := by simp [subl]; omega
  have hsub : subl l 0 j = l.take j.toNat := by simp [subl]
  have hmc : m = l.length ∧ m ≤ cc ∧ (if cc = (0 : Int).toNat then x else x.map (·.add ((0 : Int).toNat * Dat.size E))) = x := by
    rcases h1.2 with ⟨k5, k6⟩ | ⟨g, cap, cur, k5, _, hg, hnc, hcm, hcs, htk⟩
    · simp only [Value.slice.injEq] at k5
      obtain ⟨rfl, rfl, rfl⟩ := k5
      exact ⟨k6.symm, Nat.le_refl _, by simp⟩
    · simp only [Value.slice.injEq] at k5
      obtain ⟨rfl, rfl, rfl⟩ := k5
      refine ⟨rfl, hnc, ?_⟩
      split
      · rfl
      · simp [Addr.add]
  refine ⟨?_, hj, by omega, hmc.2.1, Int.le_refl _, hmc.2.2, by rw [hlen]; simp, by simp⟩
  clear h1 h2 h3 h4 h5 h6 h7 hG F he e'
  have HT' : St w0 G w ([HoleR (some e) l j.toNat (.slice x m cc) us] ++ R) := HT
  refine HT'.unite fun F hF => ?_
  obtain ⟨F0, F9, g1, _, _, ⟨hi, e', v1, v2, F1, F2, he, h1, h2, h3, h4, h5, h6, h7⟩, _⟩ := hF
  obtain rfl := he e rfl
  have hv1 : v1.length = (subl l 0 j).length * Dat.size E := by rw [h3.length, flat_len, ← hsub]
  have ho : ∀ n : Nat, (Value.slice x n cc).ownBlock = (Value.slice x m cc).ownBlock := fun n => by cases x <;> rfl
  refine ⟨fun b => (Value.slice x (subl l 0 j).length cc).ownBlock = some b ∨ F1 b, fun b hb => g1 b ((h5 b).2 (hb.imp (fun q => (ho _).symm.trans q) .inl)), v1, F1, ?_, by rw [hsub]; exact h3, fun b => Iff.rfl, fun b hb h => (h7 b ((ho _).symm.trans hb)).1 h⟩
  refine ⟨hv1, ?_⟩
  rcases h1.2 with ⟨k5, k6⟩ | ⟨g, cap, cur, k5, kB, hg, hnc, hcm, hcs, htk⟩
  · omega
  · simp only [Value.slice.injEq] at k5
    obtain ⟨rfl, rfl, rfl⟩ := k5
    refine .inr ⟨g, cc, cur, rfl, kB, hg, by omega, hcm, hcs, ?_⟩
    have := congrArg (List.take ((subl l 0 j).length * Dat.size E)) htk
    rw [List.take_take, ← hv1, List.take_left] at this
    rw [← this, hv1, Nat.min_eq_left]
    exact Nat.mul_le_mul_right _ (by omega)
end

theorem own_len {E : Type} [Dat E] {w : World} {l : List E} {v : Value} {F : Foot} (h : OwnT w (rowT l) v F) : ∃ a c, v = .slice a l.length c := by
  obtain ⟨a, c, h, _⟩ := (OwnT.rd _ h).len
  exact ⟨a, c, h⟩
section
variable {w0 w w' : World} {G : Foot} {R : List Res} {r : Res}
/-- What the cells of an element hold, each for itself. -/
theorem St.pieces {ts : List T} {us : List Value} (h : St w0 G w (r :: OwnsR ts us :: R)) {Φ : List Res → Prop} (k : ∀ F, OwnTs w ts us F → ∃ A, Φ A ∧ StF w F A) : ∃ A, Φ A ∧ St w0 G w (A ++ (r :: R)) := by
  have h' : St w0 G w ([OwnsR ts us] ++ (r :: R)) := h.pick 1
  obtain ⟨F, ⟨F1, F2, h1, h2, h3, h4, h5⟩, h6, h7⟩ := h'.hand
  obtain ⟨A, hA, hs⟩ := k F1 h4
  exact ⟨A, hA, h7 w A ⟨.refl _ _, F1, fun b kb => .inl (h1 b kb), hs⟩⟩
theorem stF_one {s : Res} {F : Foot} (h : s.holds w F) : StF w F [s] := ⟨F, fun _ => False, fun _ k => k, fun _ k => k.elim, fun _ _ k => k, h, trivial⟩
theorem stF_cons {s : Res} {A : List Res} {F F1 F2 : Foot} (h : s.holds w F1) (hA : StF w F2 A) (hF : ∀ b, F b ↔ (F1 b ∨ F2 b)) (hd : ∀ b, F1 b → ¬ F2 b) : StF w F (s :: A) := ⟨F1, F2, fun b k => (hF b).2 (.inl k), fun b k => (hF b).2 (.inr k), hd, h, hA⟩
theorem St.pieces_Kid {x : KidD} {us : List Value} (h : St w0 G w (r :: OwnsR (Dat.tree x) us :: R)) : ∃ a c, us = [.slice a x.code.length c] ∧ St w0 G w (OwnA (rowT x.code) (.slice a x.code.length c) :: r :: R) := by
  obtain ⟨A, ⟨a, c, h1, rfl⟩, h2⟩ := h.pieces (Φ := fun A => ∃ a c, us = [.slice a x.code.length c] ∧ A = [OwnA (rowT x.code) (.slice a x.code.length c)]) (fun F hF => by
    simp only [Dat.tree, OwnTs] at hF
    obtain ⟨v, _, F1, F2, rfl, h1, ⟨rfl, h2⟩, h3, h4⟩ := hF
    obtain ⟨a, c, rfl⟩ := own_len h1
    exact ⟨_, ⟨a, c, rfl, rfl⟩, stF_cons h1 (F2 := fun _ => False) trivial (fun b => by rw [h3 b]; simp [h2 b]) (fun _ _ k => k)⟩)
  exact ⟨a, c, h1, h2⟩
theorem pieces3 {o cnt : Int} {l1 l2 l3 : List Int} {us : List Value} {F : Foot} (hF : OwnTs w [.lit (.int .i64 o), rowT l1, rowT l2, rowT l3, .lit (.int .i64 cnt)] us F) :
    ∃ a c a2 c2 a3 c3, us = [.int .i64 o, .slice a l1.length c, .slice a2 l2.length c2, .slice a3 l3.length c3, .int .i64 cnt] ∧ StF w F [OwnA (rowT l1) (.slice a l1.length c), OwnA (rowT l2) (.slice a2 l2.length c2), OwnA (rowT l3) (.slice a3 l3.length c3)] := by
  simp only [OwnTs, OwnT] at hF
  obtain ⟨v, _, F1, F2, rfl, ⟨rfl, h1⟩, ⟨v2, _, F3, F4, rfl, h2, ⟨v3, _, F5, F6, rfl, h3, ⟨v4, _, F7, F8, rfl, h4, ⟨v5, _, F9, F10, rfl, ⟨rfl, h5⟩, ⟨rfl, h6⟩, k1, k2⟩, k3, k4⟩, k5, k6⟩, k7, k8⟩, k9, k10⟩ := hF
  obtain ⟨a, c, rfl⟩ := own_len h2
  obtain ⟨a2, c2, rfl⟩ := own_len h3
  obtain ⟨a3, c3, rfl⟩ := own_len h4
  refine ⟨a, c, a2, c2, a3, c3, rfl, stF_cons h2 (stF_cons h3 (stF_cons h4 (F2 := fun _ => False) trivial (F := F6) (fun b => ?_) (fun _ _ k => k)) k5 k6) (F2 := F4) (fun b => ?_) k8⟩
  · rw [k3 b, k1 b]; simp [h5 b, h6 b]
  · rw [k9 b, k7 b]; simp [h1 b]
theorem St.pieces_Mark {x : MarkD} {us : List Value} (h : St w0 G w (r :: OwnsR (Dat.tree x) us :: R)) : ∃ a c a2 c2 a3 c3, us = [.int .i64 x.at_, .slice a x.regs.length c, .slice a2 x.cells.length c2, .slice a3 x.map.length c3, .int .i64 x.count] ∧
    St w0 G w (OwnA (rowT x.regs) (.slice a x.regs.length c) :: OwnA (rowT x.cells) (.slice a2 x.cells.length c2) :: OwnA (rowT x.map) (.slice a3 x.map.length c3) :: r :: R) := by
  obtain ⟨A, ⟨a, c, a2, c2, a3, c3, h1, rfl⟩, h2⟩ := h.pieces (Φ := fun A => ∃ a c a2 c2 a3 c3, us = [.int .i64 x.at_, .slice a x.regs.length c, .slice a2 x.cells.length c2, .slice a3 x.map.length c3, .int .i64 x.count] ∧ A = [OwnA (rowT x.regs) (.slice a x.regs.length c), OwnA (rowT x.cells) (.slice a2 x.cells.length c2), OwnA (rowT x.map) (.slice a3 x.map.length c3)]) (fun F hF => by
    obtain ⟨a, c, a2, c2, a3, c3, h1, h2⟩ := pieces3 hF
    exact ⟨_, ⟨a, c, a2, c2, a3, c3, h1, rfl⟩, h2⟩)
  exact ⟨a, c, a2, c2, a3, c3, h1, h2⟩
end
section
variable {w0 w w' : World} {G : Foot} {A B : List Res}
theorem St.handR2 (h : St w0 G w (A ++ B)) : ∃ F : Foot, StF w F A ∧ (∀ b, F b → G b ∨ w0.heap.size ≤ b) ∧ (∀ w' A', St w F w' A' → St w0 G w' (A' ++ B)) ∧
    (∀ {t : T} {v : Value}, RdT (fun b => ¬ G b) w0 t v → RdT (fun b => ¬ F b) w t v) ∧ (∀ (e : TypeId) (t : T) (v : Value), Own e t v ∈ B → RdT (fun b => ¬ F b) w t v) ∧ (∀ (t : T) (v : Value), OwnA t v ∈ B → RdT (fun b => ¬ F b) w t v) := by
  obtain ⟨h1, F, h2, h3⟩ := h
  obtain ⟨F1, F2, g1, g2, g3, g4, g5⟩ := h3.append
  have h' : St w0 G w (A ++ B) := ⟨h1, F, h2, h3⟩
  refine ⟨F1, g4, fun b k => h2 b (g1 b k), ?_, ?_, ?_, ?_⟩
  · rintro w' A' ⟨k1, F', k2, k3⟩
    have h5 := g5.dom
    refine ⟨⟨k1.os.trans h1.os, k1.tape.trans h1.tape, k1.output.trans h1.output, Nat.le_trans h1.size k1.size, fun k hk hn => (k1.block k (Nat.lt_of_lt_of_le hk h1.size) (fun f => ?_)).trans (h1.block k hk hn)⟩,
      fun b => F' b ∨ (F2 b ∧ b < w.heap.size), ?_, StF.join ?_ k3 (h5.loc (fun b k => k1.block b k.2 (fun f => g3 b f k.1)) k1.size)⟩
    · rcases h2 k (g1 k f) with f | f
      · exact hn f
      · omega
    · rintro b (k | k)
      · rcases k2 b k with k | k
        · exact h2 b (g1 b k)
        · exact .inr (Nat.le_trans h1.size k)
      · exact h2 b (g2 b k.1)
    · intro b k k'
      rcases k2 b k with k | k
      · exact g3 b k k'.1
      · have := k'.2; omega
  · intro t v k
    refine k.loc t fun b k1 k2 => ⟨fun f => ?_, Nat.lt_of_lt_of_le k2 h1.size, h1.block b k2 k1⟩
    rcases h2 b (g1 b f) with f | f
    · exact k1 f
    · omega
  · intro e t v hm
    have key : ∀ (B : List Res) (F2 : Foot), StF w F2 B → Own e t v ∈ B → RdT F2 w t v := by
      intro B
      induction B with
      | nil => intro F2 _ hm; cases hm
      | cons r B ih =>
        rintro F2 ⟨G1, G2, k1, k2, k3, k4, k5⟩ hm
        rcases List.mem_cons.1 hm with hm | hm
        · subst hm
          exact (OwnT.rd t (OwnE.any k4)).mono fun b _ hb => k1 b hb
        · exact (ih G2 k5 hm).mono fun b _ hb => k2 b hb
    exact (key B F2 g5 hm).mono fun b _ hb f => g3 b f hb
  · intro t v hm
    have key : ∀ (B : List Res) (F2 : Foot), StF w F2 B → OwnA t v ∈ B → RdT F2 w t v := by
      intro B
      induction B with
      | nil => intro F2 _ hm; cases hm
      | cons r B ih =>
        rintro F2 ⟨G1, G2, k1, k2, k3, k4, k5⟩ hm
        rcases List.mem_cons.1 hm with hm | hm
        · subst hm
          exact (OwnT.rd t k4).mono fun b _ hb => k1 b hb
        · exact (ih G2 k5 hm).mono fun b _ hb => k2 b hb
    exact (key B F2 g5 hm).mono fun b _ hb f => g3 b f hb
end
section
variable {E : Type} [Dat E] {P : Program} {ops : Array Oper} {Q : Exit → Act → World → Prop} {S : World → Prop} {a : Act} {w w0 : World} {G : Foot} {R : List Res} {n : Nat} {L : List (Nat × Value)}
  {c : Bool} {rest : List (Bool × Oper)} {ty : TypeId} {pos : String} {aft : Array Edge} {gd : Option (Nat × Bool)} {d : Nat}
theorem St.openA {l : List E} {v : Value} (h : St w0 G w (OwnA (rowT l) v :: R)) : ∃ e, St w0 G w (Own e (rowT l) v :: R) := by
  have h' : St w0 G w ([OwnA (rowT l) v] ++ R) := h
  obtain ⟨F, ⟨F1, F2, h1, h2, h3, h4, h5⟩, h6, h7⟩ := h'.hand
  have h4' : OwnT w (rowT l) v F1 := h4
  simp only [rowT, OwnT] at h4'
  obtain ⟨e, vs, Fi, k1, k2, k3, k4⟩ := h4'
  exact ⟨e, h7 w [Own e (rowT l) v] ⟨.refl _ _, F1, fun b kb => .inl (h1 b kb), stF_one ⟨vs, Fi, k1, k2, k3, k4⟩⟩⟩
/-- A store into an element of a slice that stands in front, of which the elements' type is forgotten. -/
theorem wc_storeRA {t : TypeId} {X V : Operand} {b o m m' cc : Nat} {i : Int} {j : Nat} {v : Value} {l : List E} {x x' : E} {x1 : Option Addr} (HF : Fr a n L) (HT : St w0 G w (OwnA (rowT l) (.slice x1 m' cc) :: R)) (ha : x1 = some ⟨b, o, none⟩)
    (hx : ov L X = some (.pointer (some ⟨b, o + i.toNat * Dat.size E + j, none⟩))) (hv : ov L V = some v) (hs : ∀ w, (sizeOf t).run P w = .ok m w) (hm : v.cells.size = m) (hone : (v.cells.toList.all fun u => u.oneCell') = true)
    (hi : at? l i = some x) (hl : litsAt (Dat.tree x) j v.cells.size = true) (h0 : Nat.blt 0 v.cells.size = true) (hx' : setT (Dat.tree x) j v.cells.toList = Dat.tree x')
    (hw : Region.wanted ⟨none, .store t X V, ty, pos, aft, gd⟩ (yielded ops a.tmps) = true)
    (h : ∀ w', St w0 G w' (OwnA (rowT (l.set i.toNat x')) (.slice x1 m' cc) :: R) → (c = false → S w') ∧ wpD P ops Q S rest a w') : wpD P ops Q S ((c, ⟨none, .store t X V, ty, pos, aft, gd⟩) :: rest) a w := by
  obtain ⟨e, HT'⟩ := HT.openA
  exact wc_storeR HF HT' ha hx hv hs hm hone hi hl h0 hx' hw (fun w' H => h w' H.weak)
end
section
variable {P : Program} {t : TypeId} {X Y : Operand} {x y : Int}
end
section
variable {E : Type} [Dat E] {w0 w : World} {G : Foot} {R L : List Res}
end

section
variable {E : Type} [Dat E] {P : Program} {ops : Array Oper} {Q : Exit → Act → World → Prop} {S : World → Prop} {a : Act} {w w0 : World} {G : Foot} {R : List Res} {n : Nat} {L : List (Nat × Value)}
  {c : Bool} {rest : List (Bool × Oper)} {ty : TypeId} {pos : String} {aft : Array Edge} {gd : Option (Nat × Bool)} {d : Nat}
theorem rdts_cons {A : Foot} {w : World} {t : T} {ts : List T} {v : Value} {vs : List Value} (h : RdTs A w (t :: ts) (v :: vs)) : RdT A w t v ∧ RdTs A w ts vs := by
  simp only [RdTs] at h
  obtain ⟨v', vs', h1, h2, h3⟩ := h
  simp only [List.cons.injEq] at h1
  obtain ⟨rfl, rfl⟩ := h1
  exact ⟨h2, h3⟩
theorem wc_bsliceK {A : List Res} {t e len : Nat} {parts : List (Nat × Operand)} {pvs : List (Nat × Value)} {z : Array Value} {cs : List Value} {l : List E} (HF : Fr a n L) (HT : St w0 G w (A ++ R)) (hB : BldS P t e (Dat.size E) len z) (hp : ovp L parts = some pvs)
    (hc : Instr.fill (fun i => some (i * Dat.size E, Dat.size E)) z pvs = some cs.toArray) (hA : Gives w A (l.flatMap Dat.tree) cs) (hl : l.length = len) (hlen : len ≤ 1048576)
    (hw : Region.wanted ⟨some d, .buildSlice t len parts.toArray, ty, pos, aft, gd⟩ (yielded ops a.tmps) = true) (hd : Nat.blt d n = true)
    (h : ∀ p w', St w0 G w' (Own e (rowT l) (.slice (some ⟨p, 0, none⟩) len len) :: R) → Below w.heap.size w w' → LdC w' p 0 cs → (c = false → S w') ∧ ∀ a', Fr a' n ((d, .slice (some ⟨p, 0, none⟩) len len) :: L) → wpD P ops Q S rest a' w') : wpD P ops Q S ((c, ⟨some d, .buildSlice t len parts.toArray, ty, pos, aft, gd⟩) :: rest) a w := by
  subst hl
  obtain ⟨h1, h2⟩ := h _ _ (new_row (e := e) HT hA hlen) ((Below.refl _ _).alloc (Nat.le_refl _) _) (fun j v hv => by simp only [Nat.zero_add, World.cell?, heap_alloc_new]; simpa using hv)
  refine wc_val HF rfl hw hd ?_ h1 h2
  have := hB pvs cs.toArray w hc
  simp only [execOp, List.map_toArray, HF.evp hp]
  rw [Sem.run_bind, this]
  rfl

/-- append, the second slice being one of the call's own: what its elements hold reads as before. -/
theorem wc_appendK {t e e' : TypeId} {z : Value} {bytes : Nat} {X Y : Operand} {v : Value} {b2 c2 m2 : Nat} {l l2 : List E} (HF : Fr a n L) (HT : St w0 G w (Own e (rowT l) v :: Own e' (rowT l2) (.slice (some ⟨b2, 0, none⟩) m2 c2) :: R))
    (hE : Elem P t e z (Dat.size E) bytes) (hx : ov L X = some v) (hy : ov L Y = some (.slice (some ⟨b2, 0, none⟩) m2 c2)) {cs : List Value} (hL : LdC w b2 0 cs) (hcl : cs.length = l2.length * Dat.size E) (hpos : 0 < l2.length) (hlen : l.length + l2.length ≤ 17179869184) (hby : Nat.ble bytes 96 = true)
    (hw : Region.wanted ⟨some d, .call { callee := .builtin .append, args := #[X, Y], argTypes := #[t, t] }, ty, pos, aft, gd⟩ (yielded ops a.tmps) = true) (hd : Nat.blt d n = true)
    (h : ∀ a1 c1 w', St w0 G w' (Own e (rowT (l ++ l2)) (.slice a1 (l ++ l2).length c1) :: R) → RdTs (fun _ => ¬ False) w' (l2.flatMap Dat.tree) cs → (c = false → S w') ∧ ∀ a', Fr a' n ((d, .slice a1 (l ++ l2).length c1) :: L) → wpD P ops Q S rest a' w') :
    wpD P ops Q S ((c, ⟨some d, .call { callee := .builtin .append, args := #[X, Y], argTypes := #[t, t] }, ty, pos, aft, gd⟩) :: rest) a w := by
  have HT0 : St w0 G w ([Own e (rowT l) v, Own e' (rowT l2) (.slice (some ⟨b2, 0, none⟩) m2 c2)] ++ R) := HT
  obtain ⟨F, ⟨F1, F2, g1, g2, g3, g4, G1, G2, k1, k2, k3, k4, _⟩, hG, hback⟩ := HT0.hand
  obtain ⟨vs, F3, p1, p2, p3, p4⟩ := g4
  obtain ⟨vs2, F4, q1, q2, q3, q4⟩ := k4
  have hm2 : m2 = l2.length := by
    rcases q1.2 with ⟨q5, _⟩ | ⟨g, cap, cur, q5, _⟩
    · cases q5
    · simp only [Value.slice.injEq] at q5; exact q5.2.1
  obtain ⟨inf, hi, hz0, hz1, hz2⟩ := info_parts hE.hi
  obtain ⟨g, cap, w', hrun, ho, hg, hat, hgl⟩ := run_append_lies (P := P) w t ty 0 e inf z (Dat.size E) bytes hE.ht hi hz0 hz1 hz2 hE.hzs hE.hsz v l.length vs p1 ⟨b2, 0, none⟩ l2.length c2 vs2 q1.1 (q1.cells rfl) (q2.one (flat_one l2)) hpos (by unfold maxLen; omega)
    (Nat.le_trans (Nat.mul_le_mul hlen (Nat.le_of_ble_eq_true hby)) (by omega)) (Nat.zero_le _) w.heap.size rfl
  have hl12 : l.length + l2.length = (l ++ l2).length := List.length_append.symm
  rw [hl12] at hrun ho
  have HT' : St w0 G w' (Own e (rowT (l ++ l2)) (.slice (some ⟨g, 0, none⟩) (l ++ l2).length cap) :: R) := by
    have hvF : ∀ b, v.ownBlock = some b → F1 b := fun b k => (p3 b).2 (.inl k)
    have hat' : ∀ b, (Value.slice (some ⟨g, 0, none⟩) (l ++ l2).length cap).ownBlock = some b → v.ownBlock = some b ∨ w.heap.size ≤ b := by
      intro b hb
      simp only [Value.ownBlock, Option.some.injEq] at hb
      subst hb
      exact hat.imp id (fun k => by omega)
    have hown := own_after ho hg hat' p2 q2 (fun b k e => p4 b e k) (fun b k e => g3 b (hvF b e) (k1 b ((q3 b).2 (.inr k)))) (fun b k k' => g3 b ((p3 b).2 (.inr k)) (k1 b ((q3 b).2 (.inr k'))))
    refine hback w' [_] ⟨(ChgF.grown hg).mono fun b _ hb => g1 b (hvF b hb.symm), _, ?_, _, fun _ => False, fun _ k => k, fun _ k => k.elim, fun _ _ k => k, (by rw [rowT, List.flatMap_append]; exact hown), trivial⟩
    rintro b (k | k | k)
    · exact (hat' b k).imp (fun k => g1 b (hvF b k)) id
    · exact .inl (g1 b ((p3 b).2 (.inr k)))
    · exact .inl (g2 b (k1 b ((q3 b).2 (.inr k))))
  have hvs2 : vs2 = cs := by
    refine List.ext_getElem? fun j => ?_
    by_cases hj : j < vs2.length
    · have e1 := q1.cells rfl j vs2[j] (List.getElem?_eq_getElem hj)
      have hj' : j < cs.length := by rw [hcl, ← q1.1]; exact hj
      have e2 := hL j cs[j] (List.getElem?_eq_getElem hj')
      rw [Addr.add_lit] at e1
      rw [e1] at e2
      rw [List.getElem?_eq_getElem hj, List.getElem?_eq_getElem hj', Option.some.inj e2]
    · rw [List.getElem?_eq_none (by omega), List.getElem?_eq_none (by rw [hcl, ← q1.1]; omega)]
  have hR : RdTs (fun _ => ¬ False) w' (l2.flatMap Dat.tree) cs := by
    subst hvs2
    refine (OwnTs.rd _ q2).loc _ fun b hb hlt => ⟨fun f => f, Nat.lt_of_lt_of_le hlt hg.size, hg.block b hlt (fun e => ?_)⟩
    have hvF : ∀ b, v.ownBlock = some b → F1 b := fun b k => (p3 b).2 (.inl k)
    exact g3 b (hvF b e.symm) (k1 b ((q3 b).2 (.inr hb)))
  obtain ⟨h1, h2⟩ := h _ _ _ HT' hR
  refine wc_val HF rfl hw hd ?_ h1 h2
  rw [← hm2] at hrun
  simp only [execOp, resolve, invoke, builtin, Sem.run_bind, Sem.run_pure, Result.andThen_ok, List.map_toArray, List.map_cons, List.map_nil, HF.ev hx, HF.ev hy, hrun]

end
section
variable {w0 w : World} {G : Foot} {R : List Res}
theorem St.p1 {a0 a1 : Res} (h : St w0 G w (a0 :: a1 :: R)) : St w0 G w (a1 :: a0 :: R) := h.pick 1
theorem St.p2 {a0 a1 a2 : Res} (h : St w0 G w (a0 :: a1 :: a2 :: R)) : St w0 G w (a2 :: a0 :: a1 :: R) := h.pick 2
theorem St.p3 {a0 a1 a2 a3 : Res} (h : St w0 G w (a0 :: a1 :: a2 :: a3 :: R)) : St w0 G w (a3 :: a0 :: a1 :: a2 :: R) := h.pick 3
theorem St.p4 {a0 a1 a2 a3 a4 : Res} (h : St w0 G w (a0 :: a1 :: a2 :: a3 :: a4 :: R)) : St w0 G w (a4 :: a0 :: a1 :: a2 :: a3 :: R) := h.pick 4
theorem St.p5 {a0 a1 a2 a3 a4 a5 : Res} (h : St w0 G w (a0 :: a1 :: a2 :: a3 :: a4 :: a5 :: R)) : St w0 G w (a5 :: a0 :: a1 :: a2 :: a3 :: a4 :: R) := h.pick 5
theorem St.p6 {a0 a1 a2 a3 a4 a5 a6 : Res} (h : St w0 G w (a0 :: a1 :: a2 :: a3 :: a4 :: a5 :: a6 :: R)) : St w0 G w (a6 :: a0 :: a1 :: a2 :: a3 :: a4 :: a5 :: R) := h.pick 6
theorem St.p7 {a0 a1 a2 a3 a4 a5 a6 a7 : Res} (h : St w0 G w (a0 :: a1 :: a2 :: a3 :: a4 :: a5 :: a6 :: a7 :: R)) : St w0 G w (a7 :: a0 :: a1 :: a2 :: a3 :: a4 :: a5 :: a6 :: R) := h.pick 7
theorem St.p8 {a0 a1 a2 a3 a4 a5 a6 a7 a8 : Res} (h : St w0 G w (a0 :: a1 :: a2 :: a3 :: a4 :: a5 :: a6 :: a7 :: a8 :: R)) : St w0 G w (a8 :: a0 :: a1 :: a2 :: a3 :: a4 :: a5 :: a6 :: a7 :: R) := h.pick 8
theorem St.p9 {a0 a1 a2 a3 a4 a5 a6 a7 a8 a9 : Res} (h : St w0 G w (a0 :: a1 :: a2 :: a3 :: a4 :: a5 :: a6 :: a7 :: a8 :: a9 :: R)) : St w0 G w (a9 :: a0 :: a1 :: a2 :: a3 :: a4 :: a5 :: a6 :: a7 :: a8 :: R) := h.pick 9
theorem St.p10 {a0 a1 a2 a3 a4 a5 a6 a7 a8 a9 a10 : Res} (h : St w0 G w (a0 :: a1 :: a2 :: a3 :: a4 :: a5 :: a6 :: a7 :: a8 :: a9 :: a10 :: R)) : St w0 G w (a10 :: a0 :: a1 :: a2 :: a3 :: a4 :: a5 :: a6 :: a7 :: a8 :: a9 :: R) := h.pick 10
theorem St.p11 {a0 a1 a2 a3 a4 a5 a6 a7 a8 a9 a10 a11 : Res} (h : St w0 G w (a0 :: a1 :: a2 :: a3 :: a4 :: a5 :: a6 :: a7 :: a8 :: a9 :: a10 :: a11 :: R)) : St w0 G w (a11 :: a0 :: a1 :: a2 :: a3 :: a4 :: a5 :: a6 :: a7 :: a8 :: a9 :: a10 :: R) := h.pick 11
theorem St.p12 {a0 a1 a2 a3 a4 a5 a6 a7 a8 a9 a10 a11 a12 : Res} (h : St w0 G w (a0 :: a1 :: a2 :: a3 :: a4 :: a5 :: a6 :: a7 :: a8 :: a9 :: a10 :: a11 :: a12 :: R)) : St w0 G w (a12 :: a0 :: a1 :: a2 :: a3 :: a4 :: a5 :: a6 :: a7 :: a8 :: a9 :: a10 :: a11 :: R) := h.pick 12
theorem St.p13 {a0 a1 a2 a3 a4 a5 a6 a7 a8 a9 a10 a11 a12 a13 : Res} (h : St w0 G w (a0 :: a1 :: a2 :: a3 :: a4 :: a5 :: a6 :: a7 :: a8 :: a9 :: a10 :: a11 :: a12 :: a13 :: R)) : St w0 G w (a13 :: a0 :: a1 :: a2 :: a3 :: a4 :: a5 :: a6 :: a7 :: a8 :: a9 :: a10 :: a11 :: a12 :: R) := h.pick 13
theorem St.p14 {a0 a1 a2 a3 a4 a5 a6 a7 a8 a9 a10 a11 a12 a13 a14 : Res} (h : St w0 G w (a0 :: a1 :: a2 :: a3 :: a4 :: a5 :: a6 :: a7 :: a8 :: a9 :: a10 :: a11 :: a12 :: a13 :: a14 :: R)) : St w0 G w (a14 :: a0 :: a1 :: a2 :: a3 :: a4 :: a5 :: a6 :: a7 :: a8 :: a9 :: a10 :: a11 :: a12 :: a13 :: R) := h.pick 14
theorem St.p15 {a0 a1 a2 a3 a4 a5 a6 a7 a8 a9 a10 a11 a12 a13 a14 a15 : Res} (h : St w0 G w (a0 :: a1 :: a2 :: a3 :: a4 :: a5 :: a6 :: a7 :: a8 :: a9 :: a10 :: a11 :: a12 :: a13 :: a14 :: a15 :: R)) : St w0 G w (a15 :: a0 :: a1 :: a2 :: a3 :: a4 :: a5 :: a6 :: a7 :: a8 :: a9 :: a10 :: a11 :: a12 :: a13 :: a14 :: R) := h.pick 15
theorem St.p16 {a0 a1 a2 a3 a4 a5 a6 a7 a8 a9 a10 a11 a12 a13 a14 a15 a16 : Res} (h : St w0 G w (a0 :: a1 :: a2 :: a3 :: a4 :: a5 :: a6 :: a7 :: a8 :: a9 :: a10 :: a11 :: a12 :: a13 :: a14 :: a15 :: a16 :: R)) : St w0 G w (a16 :: a0 :: a1 :: a2 :: a3 :: a4 :: a5 :: a6 :: a7 :: a8 :: a9 :: a10 :: a11 :: a12 :: a13 :: a14 :: a15 :: R) := h.pick 16
theorem St.p17 {a0 a1 a2 a3 a4 a5 a6 a7 a8 a9 a10 a11 a12 a13 a14 a15 a16 a17 : Res} (h : St w0 G w (a0 :: a1 :: a2 :: a3 :: a4 :: a5 :: a6 :: a7 :: a8 :: a9 :: a10 :: a11 :: a12 :: a13 :: a14 :: a15 :: a16 :: a17 :: R)) : St w0 G w (a17 :: a0 :: a1 :: a2 :: a3 :: a4 :: a5 :: a6 :: a7 :: a8 :: a9 :: a10 :: a11 :: a12 :: a13 :: a14 :: a15 :: a16 :: R) := h.pick 17
theorem St.p18 {a0 a1 a2 a3 a4 a5 a6 a7 a8 a9 a10 a11 a12 a13 a14 a15 a16 a17 a18 : Res} (h : St w0 G w (a0 :: a1 :: a2 :: a3 :: a4 :: a5 :: a6 :: a7 :: a8 :: a9 :: a10 :: a11 :: a12 :: a13 :: a14 :: a15 :: a16 :: a17 :: a18 :: R)) : St w0 G w (a18 :: a0 :: a1 :: a2 :: a3 :: a4 :: a5 :: a6 :: a7 :: a8 :: a9 :: a10 :: a11 :: a12 :: a13 :: a14 :: a15 :: a16 :: a17 :: R) := h.pick 18
theorem St.p19 {a0 a1 a2 a3 a4 a5 a6 a7 a8 a9 a10 a11 a12 a13 a14 a15 a16 a17 a18 a19 : Res} (h : St w0 G w (a0 :: a1 :: a2 :: a3 :: a4 :: a5 :: a6 :: a7 :: a8 :: a9 :: a10 :: a11 :: a12 :: a13 :: a14 :: a15 :: a16 :: a17 :: a18 :: a19 :: R)) : St w0 G w (a19 :: a0 :: a1 :: a2 :: a3 :: a4 :: a5 :: a6 :: a7 :: a8 :: a9 :: a10 :: a11 :: a12 :: a13 :: a14 :: a15 :: a16 :: a17 :: a18 :: R) := h.pick 19
theorem St.t1 {a0 : Res} (h : St w0 G w (a0 :: R)) : St w0 G w [a0] := h.take 1
theorem St.t2 {a0 a1 : Res} (h : St w0 G w (a0 :: a1 :: R)) : St w0 G w [a0, a1] := h.take 2
theorem St.t3 {a0 a1 a2 : Res} (h : St w0 G w (a0 :: a1 :: a2 :: R)) : St w0 G w [a0, a1, a2] := h.take 3
theorem St.t4 {a0 a1 a2 a3 : Res} (h : St w0 G w (a0 :: a1 :: a2 :: a3 :: R)) : St w0 G w [a0, a1, a2, a3] := h.take 4
theorem St.t5 {a0 a1 a2 a3 a4 : Res} (h : St w0 G w (a0 :: a1 :: a2 :: a3 :: a4 :: R)) : St w0 G w [a0, a1, a2, a3, a4] := h.take 5
theorem St.t7 {a0 a1 a2 a3 a4 a5 a6 : Res} (h : St w0 G w (a0 :: a1 :: a2 :: a3 :: a4 :: a5 :: a6 :: R)) : St w0 G w [a0, a1, a2, a3, a4, a5, a6] := h.take 7
theorem St.t8 {a0 a1 a2 a3 a4 a5 a6 a7 : Res} (h : St w0 G w (a0 :: a1 :: a2 :: a3 :: a4 :: a5 :: a6 :: a7 :: R)) : St w0 G w [a0, a1, a2, a3, a4, a5, a6, a7] := h.take 8
theorem St.t9 {a0 a1 a2 a3 a4 a5 a6 a7 a8 : Res} (h : St w0 G w (a0 :: a1 :: a2 :: a3 :: a4 :: a5 :: a6 :: a7 :: a8 :: R)) : St w0 G w [a0, a1, a2, a3, a4, a5, a6, a7, a8] := h.take 9
theorem St.t10 {a0 a1 a2 a3 a4 a5 a6 a7 a8 a9 : Res} (h : St w0 G w (a0 :: a1 :: a2 :: a3 :: a4 :: a5 :: a6 :: a7 :: a8 :: a9 :: R)) : St w0 G w [a0, a1, a2, a3, a4, a5, a6, a7, a8, a9] := h.take 10
theorem St.t13 {a0 a1 a2 a3 a4 a5 a6 a7 a8 a9 a10 a11 a12 : Res} (h : St w0 G w (a0 :: a1 :: a2 :: a3 :: a4 :: a5 :: a6 :: a7 :: a8 :: a9 :: a10 :: a11 :: a12 :: R)) : St w0 G w [a0, a1, a2, a3, a4, a5, a6, a7, a8, a9, a10, a11, a12] := h.take 13
theorem St.t0 (h : St w0 G w R) : St w0 G w [] := h.clear
end
theorem ifn {c : Prop} [Decidable c] {α : Type} {a b r : α} (hc : ¬ c) (h : (if c then a else b) = r) : b = r := (if_neg hc).symm.trans h
theorem ifp {c : Prop} [Decidable c] {α : Type} {a b r : α} (hc : c) (h : (if c then a else b) = r) : a = r := (if_pos hc).symm.trans h
section
variable {P : Program} {ops : Array Oper} {Q : Exit → Act → World → Prop} {S : World → Prop} {a : Act} {w : World} {n : Nat} {L : List (Nat × Value)}
  {rest : List (Bool × Oper)} {ty : TypeId} {pos : String} {aft : Array Edge} {gd : Option (Nat × Bool)} {d : Nat}
theorem wm {X : Operand} {v : Value} (HF : Fr a n L) (hx : ov L X = some v) (hw : Region.wanted ⟨some d, .move X, ty, pos, aft, gd⟩ (yielded ops a.tmps) = true) (hd : Nat.blt d n = true)
    (h : ∀ a', Fr a' n ((d, v) :: L) → wpD P ops Q S rest a' w) : wpD P ops Q S ((true, ⟨some d, .move X, ty, pos, aft, gd⟩) :: rest) a w := wc_move HF nS hx hw hd h
theorem wa {X : Operand} {v : Value} (HF : Fr a n L) (hx : ov L X = some v) (hw : Region.wanted ⟨some d, .assign X, ty, pos, aft, gd⟩ (yielded ops a.tmps) = true) (hd : Nat.blt d n = true)
    (h : ∀ a', Fr a' n ((d, v) :: L) → wpD P ops Q S rest a' w) : wpD P ops Q S ((true, ⟨some d, .assign X, ty, pos, aft, gd⟩) :: rest) a w := wc_assign HF nS hx hw hd h
end
end Go.Proofs.Ytknghnmcckjjbaa
