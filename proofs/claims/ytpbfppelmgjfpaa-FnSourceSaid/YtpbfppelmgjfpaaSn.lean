/- Laws of slices that a call owns: store, literal, append, make, cut. Generic: no program is named. -/
import Derived.Test.YtpbfppelmgjfpaaSm
namespace Go.Proofs.Ytpbfppelmgjfpaa
open Go Go.RowKit
set_option linter.unusedVariables false
set_option linter.unusedSimpArgs false
set_option linter.unusedSectionVars false

def setT (ts : List T) : Nat → List Value → List T
  | _, [] => ts
  | k, u :: us => setT (ts.set k (.lit u)) (k + 1) us
/-- The cells from k on are scalars, so many. -/
def litsAt (ts : List T) : Nat → Nat → Bool
  | _, 0 => true
  | k, m + 1 => (match ts[k]? with | some (.lit _) => true | _ => false) && litsAt ts (k + 1) m

theorem OwnTs.set {w : World} : ∀ {ts : List T} {vs : List Value} {F : Foot} (q : Nat) {u : Value} (v : Value), OwnTs w ts vs F → ts[q]? = some (.lit u) → OwnTs w (ts.set q (.lit v)) (vs.set q v) F
  | [], vs, F, q, u, v, h, k => by simp at k
  | x :: xs, vs, F, 0, u, v, h, k => by
    simp only [List.getElem?_cons_zero, Option.some.injEq] at k
    subst k
    simp only [OwnTs, OwnT] at h
    obtain ⟨v0, vs', F1, F2, rfl, ⟨_, h2⟩, h3, h4, h5⟩ := h
    simp only [List.set_cons_zero, OwnTs, OwnT]
    exact ⟨v, vs', F1, F2, rfl, ⟨rfl, h2⟩, h3, h4, h5⟩
  | x :: xs, vs, F, q + 1, u, v, h, k => by
    simp only [List.getElem?_cons_succ] at k
    simp only [OwnTs] at h
    obtain ⟨v0, vs', F1, F2, rfl, h2, h3, h4, h5⟩ := h
    simp only [List.set_cons_succ, OwnTs]
    exact ⟨v0, vs'.set q v, F1, F2, rfl, h2, h3.set q v k, h4, h5⟩
theorem litsAt_set : ∀ {ts : List T} {k m j : Nat} {v : Value}, j < k → litsAt ts k m = true → litsAt (ts.set j (.lit v)) k m = true
  | ts, k, 0, j, v, _, _ => rfl
  | ts, k, m + 1, j, v, hj, h => by
    simp only [litsAt, Bool.and_eq_true] at h ⊢
    refine ⟨?_, litsAt_set (by omega) h.2⟩
    rw [List.getElem?_set_ne (by omega)]
    exact h.1
theorem OwnTs.setT {w : World} : ∀ (us : List Value) {ts : List T} {vs : List Value} {F : Foot} (q : Nat), OwnTs w ts vs F → litsAt ts q us.length = true → OwnTs w (setT ts q us) (setL vs q us) F
  | [], ts, vs, F, q, h, _ => h
  | u :: us, ts, vs, F, q, h, k => by
    simp only [List.length_cons, litsAt, Bool.and_eq_true] at k
    obtain ⟨k1, k2⟩ := k
    cases hq : ts[q]? with
    | none => rw [hq] at k1; cases k1
    | some t =>
      cases t with
      | row size n xs => rw [hq] at k1; cases k1
      | lit u0 => exact OwnTs.setT us (q + 1) (h.set q u hq) (litsAt_set (by omega) k2)
theorem setL_length : ∀ (us : List Value) (cs : List Value) (k : Nat), (setL cs k us).length = cs.length
  | [], cs, k => rfl
  | u :: us, cs, k => by rw [setL, setL_length us]; simp
theorem setL_take : ∀ (us : List Value) (cs : List Value) (k N : Nat), k + us.length ≤ N → (setL cs k us).take N = setL (cs.take N) k us
  | [], cs, k, N, _ => rfl
  | u :: us, cs, k, N, h => by
    simp only [List.length_cons] at h
    simp only [setL]
    rw [setL_take us _ _ _ (by omega), List.take_set]
theorem setT_mid : ∀ (us : List Value) (p x q : List T) (j : Nat), j + us.length ≤ x.length → setT (p ++ (x ++ q)) (p.length + j) us = p ++ (setT x j us ++ q)
  | [], p, x, q, j, _ => rfl
  | u :: us, p, x, q, j, h => by
    simp only [List.length_cons] at h
    simp only [setT]
    have e : (p ++ (x ++ q)).set (p.length + j) (.lit u) = p ++ (x.set j (.lit u) ++ q) := by
      rw [List.set_append_right _ _ (by omega), Nat.add_sub_cancel_left, List.set_append_left _ _ (by omega)]
    rw [e, show p.length + j + 1 = p.length + (j + 1) from by omega]
    exact setT_mid us p _ q (j + 1) (by rw [List.length_set]; omega)
theorem litsAt_mid : ∀ (m : Nat) (p x q : List T) (j : Nat), litsAt x j m = true → litsAt (p ++ (x ++ q)) (p.length + j) m = true
  | 0, p, x, q, j, _ => rfl
  | m + 1, p, x, q, j, h => by
    simp only [litsAt, Bool.and_eq_true] at h ⊢
    refine ⟨?_, by rw [show p.length + j + 1 = p.length + (j + 1) from by omega]; exact litsAt_mid m p x q (j + 1) h.2⟩
    have hj : j < x.length := by
      cases hx : x[j]? with
      | none => rw [hx] at h; cases h.1
      | some t => exact (List.getElem?_eq_some_iff.1 hx).1
    rw [List.getElem?_append_right (by omega), Nat.add_sub_cancel_left, List.getElem?_append_left hj]
    exact h.1
theorem litsAt_len : ∀ (m : Nat) (x : List T) (j : Nat), litsAt x j m = true → 0 < m → j + m ≤ x.length
  | m + 1, x, j, h, _ => by
    simp only [litsAt, Bool.and_eq_true] at h
    have hj : j < x.length := by
      cases hx : x[j]? with
      | none => rw [hx] at h; cases h.1
      | some t => exact (List.getElem?_eq_some_iff.1 hx).1
    cases m with
    | zero => omega
    | succ m => have := litsAt_len (m + 1) x (j + 1) h.2 (by omega); omega

section
variable {E : Type} [Dat E] {P : Program} {ops : Array Oper} {Q : Exit → Act → World → Prop} {S : World → Prop} {a : Act} {w w0 : World} {G : Foot} {R : List Res} {n : Nat} {L : List (Nat × Value)}
  {c : Bool} {rest : List (Bool × Oper)} {ty : TypeId} {pos : String} {aft : Array Edge} {gd : Option (Nat × Bool)} {d : Nat}

/-- A store into an element of a slice that stands in front. -/
theorem wc_storeR {e t : TypeId} {X V : Operand} {b o m m' cc : Nat} {i : Int} {j : Nat} {v : Value} {l : List E} {x x' : E} {x1 : Option Addr} (HF : Fr a n L) (HT : St w0 G w (Own e (rowT l) (.slice x1 m' cc) :: R)) (ha : x1 = some ⟨b, o, none⟩)
    (hx : ov L X = some (.pointer (some ⟨b, o + i.toNat * Dat.size E + j, none⟩))) (hv : ov L V = some v) (hs : ∀ w, (sizeOf t).run P w = .ok m w) (hm : v.cells.size = m) (hone : (v.cells.toList.all fun u => u.oneCell') = true)
    (hi : at? l i = some x) (hl : litsAt (Dat.tree x) j v.cells.size = true) (h0 : Nat.blt 0 v.cells.size = true) (hx' : setT (Dat.tree x) j v.cells.toList = Dat.tree x')
    (hw : Region.wanted ⟨none, .store t X V, ty, pos, aft, gd⟩ (yielded ops a.tmps) = true)
    (h : ∀ w', St w0 G w' (Own e (rowT (l.set i.toNat x')) (.slice x1 m' cc) :: R) → (c = false → S w') ∧ wpD P ops Q S rest a w') : wpD P ops Q S ((c, ⟨none, .store t X V, ty, pos, aft, gd⟩) :: rest) a w := by
  subst ha
  obtain ⟨hi0, hi1⟩ := at?_some hi
  have hlt := (List.getElem?_eq_some_iff.1 hi1).1
  obtain ⟨F, hF, hG⟩ := HT.fact
  obtain ⟨vs, F2, k1, k2, k3, k4⟩ := hF
  have h0' : 0 < v.cells.size := by simpa using h0
  have hjm := litsAt_len _ _ _ hl h0'
  rw [Dat.len] at hjm
  rcases k1.2 with ⟨k5, _⟩ | ⟨g, cap, cur, k5, _, hg, hnc, hcm, hcs, htk⟩
  · cases k5
  · simp only [Value.slice.injEq, Option.some.injEq, Addr.mk.injEq, and_true] at k5
    obtain ⟨⟨rfl, rfl⟩, rfl, rfl⟩ := k5
    obtain ⟨p, q, hpq, hpl⟩ := flat_cut l i.toNat x hi1
    have hN : i.toNat * Dat.size E + Dat.size E ≤ l.length * Dat.size E := by
      have := Nat.mul_le_mul_right (Dat.size E) (show i.toNat + 1 ≤ l.length from hlt)
      rw [Nat.add_mul] at this; omega
    have hNc := Nat.mul_le_mul_right (Dat.size E) hnc
    obtain ⟨w', h1, h2, h3⟩ := storeAt_run (P := P) (t := t) (p := b) (o := 0 + i.toNat * Dat.size E + j) (k := m) (e := e) (v := v) (cs := cur.toList) hs hm (List.all_eq_true.1 hone) (by simpa using hg) (by rw [← hm]; simp only [Array.length_toList, hcs]; omega)
    have hflat : setT (l.flatMap Dat.tree) (i.toNat * Dat.size E + j) v.cells.toList = (l.set i.toNat x').flatMap Dat.tree := by
      have e1 : l.set i.toNat x' = p ++ x' :: q := by rw [hpq, ← hpl, List.set_append_right _ _ (Nat.le_refl _)]; simp
      rw [e1, hpq]
      simp only [List.flatMap_append, List.flatMap_cons]
      rw [← hx', ← hpl, ← flat_len p]
      exact setT_mid _ _ _ _ _ (by rw [Dat.len]; simpa using hjm)
    have hlits : litsAt (l.flatMap Dat.tree) (i.toNat * Dat.size E + j) v.cells.toList.length = true := by
      rw [hpq]
      simp only [List.flatMap_append, List.flatMap_cons]
      rw [← hpl, ← flat_len p]
      exact litsAt_mid _ _ _ _ _ (by simpa using hl)
    have HT' : St w0 G w' (Own e (rowT (l.set i.toNat x')) (.slice (some ⟨b, 0, none⟩) l.length cc) :: R) := by
      refine HT.turn fun F' hF' hd => ?_
      obtain ⟨vs, F2, k1, k2, k3, k4⟩ := hF'
      refine ⟨F', h3.mono (fun b' _ hb => ?_), ?_, fun b hb => .inl hb⟩
      · subst hb; exact (k3 _).2 (.inl rfl)
      · have hvs : vs = cur.toList.take (l.length * Dat.size E) := by
          rcases k1.2 with ⟨k5, _⟩ | ⟨g', cap', cur', k5, _, hg', _, _, _, htk'⟩
          · cases k5
          · simp only [Value.slice.injEq, Option.some.injEq, Addr.mk.injEq, and_true, true_and] at k5
            obtain ⟨rfl, rfl⟩ := k5
            rw [hg] at hg'
            simp only [Option.some.injEq, Obj.cells.injEq, and_true] at hg'
            rw [← htk', hg']
        refine ⟨setL vs (i.toNat * Dat.size E + j) v.cells.toList, F2, ?_, ?_, k3, k4⟩
        · have hlen : (l.set i.toNat x').length = l.length := List.length_set
          rw [hlen]
          refine ⟨by rw [setL_length]; exact k1.1, .inr ⟨b, cc, _, rfl, Nat.zero_le _, h2, hnc, hcm, ?_, ?_⟩⟩
          · simp only [List.size_toArray, setL_length, Array.length_toList]; exact hcs
          · rw [hvs, Nat.zero_add]
            exact setL_take _ _ _ _ (by simp only [Array.length_toList]; omega)
        · rw [← hflat]
          refine OwnTs.setT _ _ (k2.loc _ fun b' hb' => ?_) hlits
          exact h3.block b' (OwnTs.dom _ k2 b' hb') (fun e => by subst e; exact k4 _ rfl hb')
    obtain ⟨h4, h5⟩ := h w' HT'
    refine wc_unit rfl hw ?_ h4 h5
    simp only [execOp, HF.ev hx, HF.ev hv]
    rw [Sem.run_bind, h1]
    rfl

/-- Resources that give the cells of an element. -/
def Gives (w : World) (A : List Res) (ts : List T) (vs : List Value) : Prop := ∀ F, StF w F A → ∃ F', (∀ b, F' b → F b) ∧ OwnTs w ts vs F'
theorem gives_nil : Gives w [] [] [] := fun F _ => ⟨fun _ => False, fun _ k => k.elim, by simp [OwnTs]⟩
theorem gives_own {A : List Res} {ts : List T} {vs : List Value} {e : TypeId} {t : T} {v : Value} (h : Gives w A ts vs) : Gives w (Own e t v :: A) (t :: ts) (v :: vs) := by
  intro F hF
  obtain ⟨F1, F2, h1, h2, h3, h4, h5⟩ := hF
  obtain ⟨F', k1, k2⟩ := h F2 h5
  refine ⟨fun b => F1 b ∨ F' b, fun b k => k.elim (h1 b) (fun k => h2 b (k1 b k)), ?_⟩
  simp only [OwnTs]
  exact ⟨v, vs, F1, F', rfl, h4.any, k2, fun _ => Iff.rfl, fun b k k' => h3 b k (k1 b k')⟩
theorem gives_ownA {A : List Res} {ts : List T} {vs : List Value} {t : T} {v : Value} (h : Gives w A ts vs) : Gives w (OwnA t v :: A) (t :: ts) (v :: vs) := by
  intro F hF
  obtain ⟨F1, F2, h1, h2, h3, h4, h5⟩ := hF
  obtain ⟨F', k1, k2⟩ := h F2 h5
  refine ⟨fun b => F1 b ∨ F' b, fun b k => k.elim (h1 b) (fun k => h2 b (k1 b k)), ?_⟩
  simp only [OwnTs]
  exact ⟨v, vs, F1, F', rfl, h4, k2, fun _ => Iff.rfl, fun b k k' => h3 b k (k1 b k')⟩
theorem gives_flat {ts : List T} {vs : List Value} (h : T.lits ts = some vs) : Gives w [] ts vs :=
  fun F _ => ⟨fun _ => False, fun _ k => k.elim, (lits_own h).2 ⟨rfl, fun _ k => k⟩⟩

/-- A slice literal. -/
def BldS (P : Program) (t e size len : Nat) (z : Array Value) : Prop := ∀ pvs cs w, Instr.fill (fun i => some (i * size, size)) z pvs = some cs → (Instr.buildSlice t len pvs.toArray).run P w = .ok (.slice (some ⟨w.heap.size, 0, none⟩) len len) (w.alloc (.cells cs e))
theorem new_row {A : List Res} {e : TypeId} {cs : List Value} {l : List E} (h : St w0 G w (A ++ R)) (hA : Gives w A (l.flatMap Dat.tree) cs) (hlen : l.length ≤ 1048576) :
    St w0 G (w.alloc (.cells cs.toArray e)) (Own e (rowT l) (.slice (some ⟨w.heap.size, 0, none⟩) l.length l.length) :: R) := by
  obtain ⟨F, h1, h2, h3⟩ := h.hand
  obtain ⟨F', k1, k2⟩ := hA F h1
  have hl : cs.length = l.length * Dat.size E := by rw [k2.length, flat_len]
  refine h3 _ [Own e (rowT l) _] ⟨.alloc _ _ _, fun b => b = w.heap.size ∨ F' b, ?_, fun b => b = w.heap.size ∨ F' b, fun _ => False, fun _ k => k, fun _ k => k.elim, fun _ _ k => k, ?_, trivial⟩
  · rintro b (k | k)
    · exact .inr (by omega)
    · exact .inl (k1 b k)
  · have hd := OwnTs.dom _ k2
    refine ⟨cs, F', ⟨hl, .inr ⟨w.heap.size, l.length, cs.toArray, rfl, Nat.zero_le _, heap_alloc_new _ _, Nat.le_refl _, by unfold maxLen; omega, by simpa using hl, ?_⟩⟩, k2.loc _ (fun b hb => Below.heap_alloc _ _ _ (hd b hb)), fun b => ?_, fun b hb hb' => ?_⟩
    · show cs.take (l.length * Dat.size E) = cs
      rw [← hl]; simp
    · simp only [Value.ownBlock, Option.some.injEq]
      rw [eq_comm]
    · simp only [Value.ownBlock, Option.some.injEq] at hb
      have := hd b hb'
      omega
theorem wc_bslice {A : List Res} {t e len : Nat} {parts : List (Nat × Operand)} {pvs : List (Nat × Value)} {z : Array Value} {cs : List Value} {l : List E} (HF : Fr a n L) (HT : St w0 G w (A ++ R)) (hB : BldS P t e (Dat.size E) len z) (hp : ovp L parts = some pvs)
    (hc : Instr.fill (fun i => some (i * Dat.size E, Dat.size E)) z pvs = some cs.toArray) (hA : Gives w A (l.flatMap Dat.tree) cs) (hl : l.length = len) (hlen : len ≤ 1048576)
    (hw : Region.wanted ⟨some d, .buildSlice t len parts.toArray, ty, pos, aft, gd⟩ (yielded ops a.tmps) = true) (hd : Nat.blt d n = true)
    (h : ∀ p w', St w0 G w' (Own e (rowT l) (.slice (some ⟨p, 0, none⟩) len len) :: R) → Below w.heap.size w w' → (c = false → S w') ∧ ∀ a', Fr a' n ((d, .slice (some ⟨p, 0, none⟩) len len) :: L) → wpD P ops Q S rest a' w') : wpD P ops Q S ((c, ⟨some d, .buildSlice t len parts.toArray, ty, pos, aft, gd⟩) :: rest) a w := by
  subst hl
  obtain ⟨h1, h2⟩ := h _ _ (new_row (e := e) HT hA hlen) ((Below.refl _ _).alloc (Nat.le_refl _) _)
  refine wc_val HF rfl hw hd ?_ h1 h2
  have := hB pvs cs.toArray w hc
  simp only [execOp, List.map_toArray, HF.evp hp]
  rw [Sem.run_bind, this]
  rfl

/-- A slice of no element. -/
theorem St.nilrow (h : St w0 G w R) (e : TypeId) : St w0 G w (Own e (rowT ([] : List E)) (.slice none 0 0) :: R) := by
  have : St w0 G w ([] ++ R) := h
  exact this.unite fun F _ => ⟨fun _ => False, fun _ k => k.elim, [], fun _ => False, World.ownsRow_nil _ _ _ _, by simp [OwnTs], fun b => by simp [Value.ownBlock], fun b k => by simp [Value.ownBlock] at k⟩

theorem own_after {e : TypeId} {w w' : World} {v v' : Value} {n : Nat} {ts us : List T} {vs vs2 : List Value} {F3 F4 : Foot} {size : Nat} (ho : w'.ownsRow 0 e size v' n (vs ++ vs2)) (hg : w.grownBy w' v.ownBlock)
    (hat : ∀ b, v'.ownBlock = some b → v.ownBlock = some b ∨ w.heap.size ≤ b) (p2 : OwnTs w ts vs F3) (q2 : OwnTs w us vs2 F4) (n3 : ∀ b, F3 b → ¬ v.ownBlock = some b) (n4 : ∀ b, F4 b → ¬ v.ownBlock = some b) (hd : ∀ b, F3 b → ¬ F4 b) :
    OwnE e w' (.row size n (ts ++ us)) v' (fun b => v'.ownBlock = some b ∨ (F3 b ∨ F4 b)) := by
  have hF3 := OwnTs.dom _ p2
  have hF4 := OwnTs.dom _ q2
  refine ⟨vs ++ vs2, fun b => F3 b ∨ F4 b, ho, OwnTs.join (p2.loc _ fun b k => hg.block b (hF3 b k) (fun e => n3 b k e.symm)) (q2.loc _ fun b k => hg.block b (hF4 b k) (fun e => n4 b k e.symm)) hd, fun b => Iff.rfl, fun b hb k => ?_⟩
  rcases hat b hb with h | h
  · exact k.elim (fun k => n3 b k h) (fun k => n4 b k h)
  · exact k.elim (fun k => by have := hF3 b k; omega) (fun k => by have := hF4 b k; omega)

/-- append, the second slice being one of the call's own. -/
theorem wc_append {t e e' : TypeId} {z : Value} {bytes : Nat} {X Y : Operand} {v : Value} {b2 c2 m2 : Nat} {l l2 : List E} (HF : Fr a n L) (HT : St w0 G w (Own e (rowT l) v :: Own e' (rowT l2) (.slice (some ⟨b2, 0, none⟩) m2 c2) :: R))
    (hE : Elem P t e z (Dat.size E) bytes) (hx : ov L X = some v) (hy : ov L Y = some (.slice (some ⟨b2, 0, none⟩) m2 c2)) (hpos : 0 < l2.length) (hlen : l.length + l2.length ≤ 17179869184) (hby : Nat.ble bytes 96 = true)
    (hw : Region.wanted ⟨some d, .call { callee := .builtin .append, args := #[X, Y], argTypes := #[t, t] }, ty, pos, aft, gd⟩ (yielded ops a.tmps) = true) (hd : Nat.blt d n = true)
    (h : ∀ a1 c1 w', St w0 G w' (Own e (rowT (l ++ l2)) (.slice a1 (l ++ l2).length c1) :: R) → (c = false → S w') ∧ ∀ a', Fr a' n ((d, .slice a1 (l ++ l2).length c1) :: L) → wpD P ops Q S rest a' w') :
    wpD P ops Q S ((c, ⟨some d, .call { callee := .builtin .append, args := #[X, Y], argTypes := #[t, t] }, ty, pos, aft, gd⟩) :: rest) a w := by
  have HT0 : St w0 G w ([Own e (rowT l) v, Own e' (rowT l2) (.slice (some ⟨b2, 0, none⟩) m2 c2)] ++ R) := HT
  obtain ⟨F, ⟨F1, F2, g1, g2, g3, g4, G1, G2, k1, k2, k3, k4, _⟩, hG, hback⟩ := HT0.hand
  obtain ⟨vs, F3, p1, p2, p3, p4⟩ := g4
  obtain ⟨vs2, F4, q1, q2, q3, q4⟩ := k4
  have hm2 : m2 = l2.length := by
    rcases q1.2 with ⟨q5, _⟩ | ⟨g, cap, cur, q5, _⟩
    · cases q5
    · simp only [Value.slice.injEq] at q5; exact q5.2.1
  obtain ⟨inf, hi, hz0, hz1, hz2⟩ := info_parts hE.hi
  obtain ⟨g, cap, w', hrun, ho, hg, hat, hgl⟩ := run_append_lies (P := P) w t ty 0 e inf z (Dat.size E) bytes hE.ht hi hz0 hz1 hz2 hE.hzs hE.hsz v l.length vs p1 ⟨b2, 0, none⟩ l2.length c2 vs2 q1.1 (q1.cells rfl) (q2.one (flat_one l2)) hpos (by unfold maxLen; omega)
    (Nat.le_trans (Nat.mul_le_mul hlen (Nat.le_of_ble_eq_true hby)) (by omega)) (Nat.zero_le _) w.heap.size rfl
  have hl12 : l.length + l2.length = (l ++ l2).length := List.length_append.symm
  rw [hl12] at hrun ho
  have HT' : St w0 G w' (Own e (rowT (l ++ l2)) (.slice (some ⟨g, 0, none⟩) (l ++ l2).length cap) :: R) := by
    have hvF : ∀ b, v.ownBlock = some b → F1 b := fun b k => (p3 b).2 (.inl k)
    have hat' : ∀ b, (Value.slice (some ⟨g, 0, none⟩) (l ++ l2).length cap).ownBlock = some b → v.ownBlock = some b ∨ w.heap.size ≤ b := by
      intro b hb
      simp only [Value.ownBlock, Option.some.injEq] at hb
      subst hb
      exact hat.imp id (fun k => by omega)
    have hown := own_after ho hg hat' p2 q2 (fun b k e => p4 b e k) (fun b k e => g3 b (hvF b e) (k1 b ((q3 b).2 (.inr k)))) (fun b k k' => g3 b ((p3 b).2 (.inr k)) (k1 b ((q3 b).2 (.inr k'))))
    refine hback w' [_] ⟨(ChgF.grown hg).mono fun b _ hb => g1 b (hvF b hb.symm), _, ?_, _, fun _ => False, fun _ k => k, fun _ k => k.elim, fun _ _ k => k, (by rw [rowT, List.flatMap_append]; exact hown), trivial⟩
    rintro b (k | k | k)
    · exact (hat' b k).imp (fun k => g1 b (hvF b k)) id
    · exact .inl (g1 b ((p3 b).2 (.inr k)))
    · exact .inl (g2 b (k1 b ((q3 b).2 (.inr k))))
  obtain ⟨h1, h2⟩ := h _ _ _ HT'
  refine wc_val HF rfl hw hd ?_ h1 h2
  rw [← hm2] at hrun
  simp only [execOp, resolve, invoke, builtin, Sem.run_bind, Sem.run_pure, Result.andThen_ok, List.map_toArray, List.map_cons, List.map_nil, HF.ev hx, HF.ev hy, hrun]

/-- append, the second slice being read. -/
theorem wc_appendR [Flat E] {t e : TypeId} {z : Value} {bytes : Nat} {X Y : Operand} {v : Value} {a2 : Option Addr} {c2 m2 : Nat} {l l2 : List E} {B : Foot} (HF : Fr a n L) (HT : St w0 G w (Own e (rowT l) v :: R)) (hr : RdT B w (rowT l2) (.slice a2 m2 c2))
    (hE : Elem P t e z (Dat.size E) bytes) (hx : ov L X = some v) (hy : ov L Y = some (.slice a2 m2 c2)) (hlen : l.length + l2.length ≤ 17179869184) (hby : Nat.ble bytes 96 = true)
    (hw : Region.wanted ⟨some d, .call { callee := .builtin .append, args := #[X, Y], argTypes := #[t, t] }, ty, pos, aft, gd⟩ (yielded ops a.tmps) = true) (hd : Nat.blt d n = true)
    (h : ∀ a1 c1 w', St w0 G w' (Own e (rowT (l ++ l2)) (.slice a1 (l ++ l2).length c1) :: R) → (c = false → S w') ∧ ∀ a', Fr a' n ((d, .slice a1 (l ++ l2).length c1) :: L) → wpD P ops Q S rest a' w') :
    wpD P ops Q S ((c, ⟨some d, .call { callee := .builtin .append, args := #[X, Y], argTypes := #[t, t] }, ty, pos, aft, gd⟩) :: rest) a w := by
  obtain ⟨inf, hi, hz0, hz1, hz2⟩ := info_parts hE.hi
  obtain ⟨F, hF, hG⟩ := HT.fact
  obtain ⟨vs, F3, p1, p2, p3, p4⟩ := hF
  simp only [rowT, RdT] at hr
  obtain ⟨r0, a', c', r1, r2, r3⟩ := hr
  simp only [Value.slice.injEq] at r1
  obtain ⟨rfl, rfl, rfl⟩ := r1
  have hl12 : l.length + l2.length = (l ++ l2).length := List.length_append.symm
  by_cases hz : l2.length = 0
  · have hnil : l2 = [] := List.eq_nil_of_length_eq_zero hz
    subst hnil
    have hrun : ∃ a1 c1, v = .slice a1 l.length c1 ∧ (Builtin.append_ #[t, t] ty #[v, .slice a2 0 c2]).run P w = .ok (.slice a1 l.length c1) w := by
      have hff : ∀ x : Option Addr, (Builtin.firstCells inf.size 0 (.slice x 0 c2)).run P w = .ok #[] w := fun x => by
        cases x <;> simp [Builtin.firstCells, loadCells, loadCellsFrom, Sem.run_pure]
      rcases p1.2 with ⟨rfl, hv0⟩ | ⟨g, cap, cur, rfl, _, _, hnc, _⟩
      · refine ⟨none, 0, by rw [hv0], ?_⟩
        simp [Builtin.append_, run_underlying hE.ht, sizeOf, typeInfo, hi, Builtin.lenOf, hff, hv0]
      · refine ⟨_, cap, rfl, ?_⟩
        simp [Builtin.append_, run_underlying hE.ht, sizeOf, typeInfo, hi, Builtin.lenOf, hff, hnc, storeCells]
    obtain ⟨a1, c1, rfl, hrun⟩ := hrun
    have HT' : St w0 G w (Own e (rowT (l ++ [])) (.slice a1 (l ++ []).length c1) :: R) := by simpa using HT
    obtain ⟨h1, h2⟩ := h _ _ _ HT'
    refine wc_val HF rfl hw hd ?_ h1 h2
    simp only [execOp, resolve, invoke, builtin, Sem.run_bind, Sem.run_pure, Result.andThen_ok, List.map_toArray, List.map_cons, List.map_nil, HF.ev hx, HF.ev hy]
    simp only [List.length_nil, List.append_nil] at hrun ⊢
    rw [hrun]
    rfl
  · rcases r3 with r3 | ⟨b, o, vs2, rfl, r4, r5, r6, r7⟩
    · exact absurd r3 hz
    · have hvs2 := (lits_rd (flat_lits l2)).1 r7
      obtain ⟨g, cap, w', hrun, ho, hg, hat, hgl⟩ := run_append_lies (P := P) w t ty 0 e inf z (Dat.size E) bytes hE.ht hi hz0 hz1 hz2 hE.hzs hE.hsz v l.length vs p1 ⟨b, o, none⟩ l2.length c2 vs2 (by rw [r7.length]; exact r0) (fun j u hu => by rw [Addr.add_lit]; exact r6 j u hu) (r7.one (flat_one l2)) (by omega) (by unfold maxLen; omega)
        (Nat.le_trans (Nat.mul_le_mul hlen (Nat.le_of_ble_eq_true hby)) (by omega)) (Nat.zero_le _) w.heap.size rfl
      rw [hl12] at hrun ho
      have HT' : St w0 G w' (Own e (rowT (l ++ l2)) (.slice (some ⟨g, 0, none⟩) (l ++ l2).length cap) :: R) := by
        refine HT.turn fun F' hF' hd' => ?_
        obtain ⟨vs', F3', p1', p2', p3', p4'⟩ := hF'
        have hat' : ∀ b, (Value.slice (some ⟨g, 0, none⟩) (l ++ l2).length cap).ownBlock = some b → v.ownBlock = some b ∨ w.heap.size ≤ b := by
          intro b hb
          simp only [Value.ownBlock, Option.some.injEq] at hb
          subst hb
          exact hat.imp id (fun k => by omega)
        have hvs : vs' = vs := by
          have e1 := p1'.2
          rcases p1.2 with ⟨k5, k6⟩ | ⟨g1, cap1, cur1, k5, _, hg1, _, _, _, htk1⟩
          · have h1 := p1.1; have h2 := p1'.1
            rw [k6, Nat.zero_mul] at h1 h2
            rw [List.eq_nil_of_length_eq_zero h1, List.eq_nil_of_length_eq_zero h2]
          · rcases e1 with ⟨k7, _⟩ | ⟨g2, cap2, cur2, k7, _, hg2, _, _, _, htk2⟩
            · rw [k5] at k7; cases k7
            · rw [k5] at k7
              simp only [Value.slice.injEq, Option.some.injEq, Addr.mk.injEq, and_true, true_and] at k7
              obtain ⟨rfl, rfl⟩ := k7
              rw [hg1] at hg2
              simp only [Option.some.injEq, Obj.cells.injEq, and_true] at hg2
              rw [← htk1, ← htk2, hg2]
        subst hvs
        have q2 : OwnTs w (l2.flatMap Dat.tree) vs2 (fun _ => False) := (lits_own (flat_lits l2)).2 ⟨hvs2, fun _ k => k⟩
        have hown := own_after ho hg hat' p2' q2 (fun b k e => p4' b e k) (fun b k => k.elim) (fun b k k' => k')
        refine ⟨_, (ChgF.grown hg).mono fun b _ hb => (p3' b).2 (.inl hb.symm), (by show OwnE e w' (rowT (l ++ l2)) _ _; rw [rowT, List.flatMap_append]; exact hown), ?_⟩
        rintro b (k | k | k)
        · exact (hat' b k).imp (fun k => (p3' b).2 (.inl k)) id
        · exact .inl ((p3' b).2 (.inr k))
        · exact k.elim
      obtain ⟨h1, h2⟩ := h _ _ _ HT'
      refine wc_val HF rfl hw hd ?_ h1 h2
      simp only [execOp, resolve, invoke, builtin, Sem.run_bind, Sem.run_pure, Result.andThen_ok, List.map_toArray, List.map_cons, List.map_nil, HF.ev hx, HF.ev hy, hrun]

end
theorem Bld.mk {P : Program} {t : TypeId} {z : Value} {fields : Array Field} {pl : Array (Nat × Nat)} (hz : Zr P t z) (hu : P.underlying t = some (.struct fields))
    (hp : ∀ w, (fields.mapM (fun f => do pure (f.offset, ← sizeOf f.type)) : Sem (Array (Nat × Nat))).run P w = .ok pl w) : Bld P t z.cells pl := by
  intro pvs cs w h
  simp only [Instr.build, Sem.run_bind, hz w, run_underlying hu, hp w, Result.andThen]
  simp only [h, Sem.run_pure]
theorem BldS.mk {P : Program} {t e size len : Nat} {z : Value} {zs : Array Value} (ht : P.underlying t = some (.slice e)) (hs : ∀ w, (sizeOf e).run P w = .ok size w) (hl : len * size ≤ 16777216) (hz : Zr P e z)
    (hzs : zs = (if len * size = 0 then #[] else (Array.range (len * size)).map (z.cells[· % z.cells.size]!))) : BldS P t e size len zs := by
  intro pvs cs w h
  have hl' : ¬ (len * size > 2 ^ 24) := by omega
  simp only [Instr.buildSlice, Sem.run_bind, run_underlying ht, hs w, Result.andThen, hl', if_false]
  by_cases h0 : len * size = 0
  · rw [if_pos h0] at hzs
    subst hzs
    simp only [h0, if_true, Sem.run_pure, Result.andThen, Array.range_zero', Array.map_empty, h, newRow, Sem.run_bind]
    rfl
  · rw [if_neg h0] at hzs
    subst hzs
    simp only [h0, if_false, Sem.run_bind, hz w, Sem.run_pure, Result.andThen, h, newRow]
    rfl
/-- Goals behind an exit. -/
theorem then_n {K : Act → World → Prop} {Q : Exit → Act → World → Prop} {a : Act} {w : World} (h : K a w) : Exit.then K Q .normal a w := h
theorem then_x {K : Act → World → Prop} {Q : Exit → Act → World → Prop} {a : Act} {w : World} {id : Nat} (h : Q (.exit id) a w) : Exit.then K Q (.exit id) a w := h
theorem then_r {K : Act → World → Prop} {Q : Exit → Act → World → Prop} {a : Act} {w : World} (h : Q .ret a w) : Exit.then K Q .ret a w := h
theorem blk_n {Q : Exit → Act → World → Prop} {a : Act} {w : World} {id : Nat} (h : Q .normal a w) : Exit.inBlock id Q .normal a w := h
theorem blk_r {Q : Exit → Act → World → Prop} {a : Act} {w : World} {id : Nat} (h : Q .ret a w) : Exit.inBlock id Q .ret a w := h
theorem blk_x {Q : Exit → Act → World → Prop} {a : Act} {w : World} {id : Nat} (h : Q .normal a w) : Exit.inBlock id Q (.exit id) a w := by simp only [Exit.inBlock, if_true]; exact h
end Go.Proofs.Ytpbfppelmgjfpaa
