/- Calls of function values; comparison of records; rows of records that hold slices. Generic: no program is named. -/
import Derived.Test.YtpbfppelmgjfpaaSo
import Derived.Laws.StructEq
namespace Go.Proofs.Ytpbfppelmgjfpaa
open Go Go.RowKit
set_option linter.unusedVariables false
set_option linter.unusedSimpArgs false

/-! Records of ints, compared. -/
def EqA (P : Program) (t : TypeId) (k : Nat) : Prop := ∀ (x y : List Int), x.length = k → y.length = k → ∀ w : World, (Op.equalIn 10000 t (.agg (x.map (Value.int .i64)).toArray) (.agg (y.map (Value.int .i64)).toArray)).run P w = .ok (decide (x = y)) w ∧ P.eqGuardType P.depth t = false
theorem eqF_nil {P : Program} {d : Nat} {xs ys : Array Value} {w : World} : (Op.eqFields d xs ys []).run P w = .ok true w := rfl
theorem eqF_cons {P : Program} {d : Nat} {TI : TypeId} (hT : P.underlying TI = some (.int .i64)) (x y : List Int) (f : Field) (fs : List Field) (w : World) (hn : (f.name ≠ "_")) (ht : f.type = TI) {a b : Int} (ha : x[f.offset]? = some a) (hb : y[f.offset]? = some b) :
    (Op.eqFields (d + 1) (x.map (Value.int .i64)).toArray (y.map (Value.int .i64)).toArray (f :: fs)).run P w = if a = b then (Op.eqFields (d + 1) (x.map (Value.int .i64)).toArray (y.map (Value.int .i64)).toArray fs).run P w else .ok false w := by
  rw [Op.eqFields, if_pos hn, ht]
  simp [part, isAgg, run_underlying hT, Sem.run_bind, Sem.run_pure, Result.andThen, ha, hb, run_equalIn_int w d TI .i64 .i64 a b hT]
section
variable {P : Program} {t : TypeId} {X Y : Operand} {k : Nat}
theorem b_ane (hE : EqA P t k) (x y : List Int) (hx : x.length = k) (hy : y.length = k) : BinR P .neq t X Y (.agg (x.map (Value.int .i64)).toArray) (.agg (y.map (Value.int .i64)).toArray) (.bool (!decide (x = y))) := fun w => by
  obtain ⟨h1, h2⟩ := hE x y hx hy w
  simp [Sem.run_bind, run_eqGuard_agg w _ t X Y _ _ h2, Result.andThen, run_neq_struct, h1]
end

theorem b_shrk {P : Program} {t : TypeId} {X Y : Operand} {x y : Int} {kk : IntKind} {k : Nat} (h : y = (k : Int) ∧ k ≤ 64) : BinR P .shr t X Y (.int .i64 x) (.int kk y) (.int .i64 (x / 2 ^ k)) := fun w => by
  obtain ⟨rfl, h⟩ := h
  have : min k IntKind.i64.bits = k := Nat.min_eq_left h
  simp [eqGuard, binOp, Op.shift, Sem.run_bind, Sem.run_pure, Result.andThen, this, show ¬ ((k : Int) < 0) by omega]
section
variable {P : Program} {a : Act} {w : World} {n : Nat} {L : List (Nat × Value)}
end

theorem b_subu {P : Program} {t : TypeId} {X Y : Operand} {x y : Int} : BinR P .sub t X Y (.int .u8 x) (.int .u8 y) (.int .u8 ((b8 (x - y)).toNat : Int)) := fun w => by
  rw [b8_toNat]; simp [eqGuard, binOp, Op.intArith, Sem.run_bind, Sem.run_pure, Result.andThen]
theorem brkL1u {α β : Type} {f : α → Option β} {y : α} {r : β} (h : contL (un1 f) (.brk y) = some r) : f y = some r := h
theorem brkM1u {α β γ : Type} {f : α → Option (Lp γ β)} {y : α} {r : Lp γ β} (h : contM (un1 f) (.brk y) = some r) : f y = some r := h

/-! A call of a function value that holds nothing. -/
section
variable {P : Program} {ops : Array Oper} {Q : Exit → Act → World → Prop} {S : World → Prop} {a : Act} {w : World} {n : Nat} {L : List (Nat × Value)}
  {c : Bool} {rest : List (Bool × Oper)} {ty : TypeId} {pos : String} {aft : Array Edge} {gd : Option (Nat × Bool)} {d : Nat}
theorem wc_callv {f : FuncId} {X : Operand} {args : List Operand} {ats : Array TypeId} {vs : List Value} {E : Ending → World → Prop} (HF : Fr a n L) (hf : CfR P f) (hX : ov L X = some (.func (.func f) #[] #[])) (hargs : ovs L args = some vs) (hc : Calls P f vs.toArray w E)
    (hw : Region.wanted ⟨some d, .call { callee := .value X, args := args.toArray, argTypes := ats }, ty, pos, aft, gd⟩ (yielded ops a.tmps) = true) (hd : Nat.blt d n = true)
    (h : ∀ e w', E e w' → ∃ v, e = .returned v ∧ (c = false → S w') ∧ ∀ a', Fr a' n ((d, v) :: L) → wpD P ops Q S rest a' w') : wpD P ops Q S ((c, ⟨some d, .call { callee := .value X, args := args.toArray, argTypes := ats }, ty, pos, aft, gd⟩) :: rest) a w := by
  simp only [wpD]
  rw [if_neg (by simp [isEarly]), if_pos hw]
  unfold Oper.wp
  have hrun : (execOp a.eval ⟨some d, .call { callee := .value X, args := args.toArray, argTypes := ats }, ty, pos, aft, gd⟩).run P w = .ok (.enter f vs.toArray) w := by
    have := hf vs.toArray w
    simp only [execOp, resolve, Deferred.ofValue, HF.ev hX, invoke, Sem.run_bind, Sem.run_pure, Result.andThen, List.map_toArray, HF.evs hargs]
    simpa using this
  rw [hrun, Oper.upon_enter]
  refine hc.mono fun e w' he => ?_
  obtain ⟨v, rfl, h1, h2⟩ := h e w' he
  exact ⟨h1, h2 _ (HF.put hd v)⟩
end

/-! Rows of records that hold slices: made, and stored into whole. -/
theorem setL_mid : ∀ (us p x q : List Value) (j : Nat), j + us.length ≤ x.length → setL (p ++ (x ++ q)) (p.length + j) us = p ++ (setL x j us ++ q)
  | [], p, x, q, j, _ => rfl
  | u :: us, p, x, q, j, h => by
    simp only [List.length_cons] at h
    simp only [setL]
    have e : (p ++ (x ++ q)).set (p.length + j) u = p ++ (x.set j u ++ q) := by
      rw [List.set_append_right _ _ (by omega), Nat.add_sub_cancel_left, List.set_append_left _ _ (by omega)]
    rw [e, show p.length + j + 1 = p.length + (j + 1) from by omega]
    exact setL_mid us p _ q (j + 1) (by rw [List.length_set]; omega)
theorem setL_all (us x : List Value) (h : us.length = x.length) : setL x 0 us = us := by
  have key : ∀ (us p x : List Value), us.length = x.length → setL (p ++ x) p.length us = p ++ us := by
    intro us
    induction us with
    | nil => intro p x h; simp only [setL]; rw [List.length_nil] at h; rw [List.eq_nil_of_length_eq_zero h.symm]
    | cons u us ih =>
      intro p x h
      cases x with
      | nil => simp at h
      | cons y x =>
        simp only [setL]
        rw [List.set_append_right _ _ (Nat.le_refl _), Nat.sub_self, List.set_cons_zero]
        have := ih (p ++ [u]) x (by simpa using h)
        simp only [List.length_append, List.length_cons, List.length_nil, List.append_assoc, List.cons_append, List.nil_append] at this
        exact this
  have := key us [] x h
  simpa using this
section
variable {E : Type} [Dat E] {P : Program} {ops : Array Oper} {Q : Exit → Act → World → Prop} {S : World → Prop} {a : Act} {w w0 : World} {G : Foot} {R : List Res} {n : Nat} {L : List (Nat × Value)}
  {c : Bool} {rest : List (Bool × Oper)} {ty : TypeId} {pos : String} {aft : Array Edge} {gd : Option (Nat × Bool)} {d : Nat}
/-- A whole element is stored, with the slices that it holds. -/
theorem wc_storeN {A : List Res} {e t : TypeId} {X V : Operand} {b o m' cc : Nat} {i : Int} {v : Value} {l : List E} {x x' : E} {x1 : Option Addr} (HF : Fr a n L) (HT : St w0 G w (Own e (rowT l) (.slice x1 m' cc) :: (A ++ R))) (ha : x1 = some ⟨b, o, none⟩)
    (hx : ov L X = some (.pointer (some ⟨b, o + i.toNat * Dat.size E + 0, none⟩))) (hv : ov L V = some v) (hs : ∀ w, (sizeOf t).run P w = .ok (Dat.size E) w) (hm : v.cells.size = Dat.size E)
    (hi : at? l i = some x) (hA : ∀ w, Gives w A (Dat.tree x') v.cells.toList)
    (hw : Region.wanted ⟨none, .store t X V, ty, pos, aft, gd⟩ (yielded ops a.tmps) = true)
    (h : ∀ w', St w0 G w' (Own e (rowT (l.set i.toNat x')) (.slice x1 m' cc) :: R) → (c = false → S w') ∧ wpD P ops Q S rest a w') : wpD P ops Q S ((c, ⟨none, .store t X V, ty, pos, aft, gd⟩) :: rest) a w := by
  subst ha
  obtain ⟨hi0, hi1⟩ := at?_some hi
  have hlt := (List.getElem?_eq_some_iff.1 hi1).1
  have HT2 : St w0 G w ((Own e (rowT l) (.slice (some ⟨b, o, none⟩) m' cc) :: A) ++ R) := HT
  obtain ⟨F, ⟨F1, F2, g1, g2, g3, ⟨vs, Fi, k1, k2, k3, k4⟩, g5⟩, hFG, hback⟩ := HT2.hand
  obtain ⟨F2', a1, a2⟩ := hA w F2 g5
  rcases k1.2 with ⟨k5, _⟩ | ⟨g, cap, cur, k5, _, hg, hnc, hcm, hcs, htk⟩
  · cases k5
  · simp only [Value.slice.injEq, Option.some.injEq, Addr.mk.injEq, and_true] at k5
    obtain ⟨⟨rfl, rfl⟩, rfl, rfl⟩ := k5
    obtain ⟨p, q, hpq, hpl⟩ := flat_cut l i.toNat x hi1
    have hN : i.toNat * Dat.size E + Dat.size E ≤ l.length * Dat.size E := by
      have := Nat.mul_le_mul_right (Dat.size E) (show i.toNat + 1 ≤ l.length from hlt)
      rw [Nat.add_mul] at this; omega
    have hNc := Nat.mul_le_mul_right (Dat.size E) hnc
    have hone : ∀ u ∈ v.cells.toList, u.oneCell' = true := OwnTs.one a2 (fun t ht => Dat.one x' t ht)
    obtain ⟨w', h1, h2, h3⟩ := storeAt_run (P := P) (t := t) (p := b) (o := 0 + i.toNat * Dat.size E + 0) (k := Dat.size E) (e := e) (v := v) (cs := cur.toList) hs hm hone (by simpa using hg) (by simp only [Array.length_toList, hcs]; omega)
    have hflat : l.flatMap Dat.tree = p.flatMap Dat.tree ++ (Dat.tree x ++ q.flatMap Dat.tree) := by
      rw [hpq, List.flatMap_append, List.flatMap_cons]
    have hflat' : (l.set i.toNat x').flatMap Dat.tree = p.flatMap Dat.tree ++ (Dat.tree x' ++ q.flatMap Dat.tree) := by
      have e1 : l.set i.toNat x' = p ++ x' :: q := by rw [hpq, ← hpl, List.set_append_right _ _ (Nat.le_refl _)]; simp
      rw [e1, List.flatMap_append, List.flatMap_cons]
    rw [hflat] at k2
    obtain ⟨v1, v23, Fp, Fxq, e1, c1, c2, c3, c4⟩ := k2.split
    obtain ⟨v2, v3, Fx, Fq, e2, d1, d2, d3, d4⟩ := c2.split
    subst e2 e1
    have hv1 : v1.length = i.toNat * Dat.size E := by rw [c1.length, flat_len, hpl]
    have hv2 : v2.length = Dat.size E := by rw [d1.length, Dat.len]
    have hbF : F1 b := (k3 b).2 (.inl rfl)
    have nb : ∀ b', Fi b' → ¬ b' = b := fun b' hb' e => by subst e; exact k4 _ rfl hb'
    have n1 : ∀ b', Fp b' → ¬ b' = b := fun b' hb' => nb b' ((c3 b').2 (.inl hb'))
    have n3 : ∀ b', Fq b' → ¬ b' = b := fun b' hb' => nb b' ((c3 b').2 (.inr ((d3 b').2 (.inr hb'))))
    have n2 : ∀ b', F2' b' → ¬ b' = b := fun b' hb' e => by subst e; exact g3 _ hbF (a1 _ hb')
    have o1 := c1.loc _ (fun b' hb' => h3.block b' (OwnTs.dom _ c1 b' hb') (n1 b' hb'))
    have o2 := a2.loc _ (fun b' hb' => h3.block b' (OwnTs.dom _ a2 b' hb') (n2 b' hb'))
    have o3 := d2.loc _ (fun b' hb' => h3.block b' (OwnTs.dom _ d2 b' hb') (n3 b' hb'))
    have i1 : ∀ b', Fi b' → F1 b' := fun b' hb' => (k3 b').2 (.inr hb')
    have dj23 : ∀ b', F2' b' → ¬ Fq b' := fun b' hb' hq => g3 b' (i1 b' ((c3 b').2 (.inr ((d3 b').2 (.inr hq))))) (a1 b' hb')
    have dj1 : ∀ b', Fp b' → ¬ (F2' b' ∨ Fq b') := fun b' hb' hq => hq.elim (fun hq => g3 b' (i1 b' ((c3 b').2 (.inl hb'))) (a1 b' hq)) (fun hq => c4 b' hb' ((d3 b').2 (.inr hq)))
    have oo := OwnTs.join o1 (OwnTs.join o2 o3 dj23) dj1
    have hcl : v.cells.toList.length = v2.length := by rw [hv2, ← hm]; simp
    have hset : setL (v1 ++ (v2 ++ v3)) (i.toNat * Dat.size E) v.cells.toList = v1 ++ (v.cells.toList ++ v3) := by
      have := setL_mid v.cells.toList v1 v2 v3 0 (by omega)
      rw [Nat.add_zero, hv1, setL_all _ _ hcl] at this
      exact this
    have HT' : St w0 G w' (Own e (rowT (l.set i.toNat x')) (.slice (some ⟨b, 0, none⟩) l.length cc) :: R) := by
      refine hback w' [Own e (rowT (l.set i.toNat x')) _] ⟨h3.mono (fun b' _ hb => by subst hb; exact g1 _ hbF), fun b' => b' = b ∨ (Fp b' ∨ (F2' b' ∨ Fq b')), ?_, fun b' => b' = b ∨ (Fp b' ∨ (F2' b' ∨ Fq b')), fun _ => False, fun _ k => k, fun _ k => k.elim, fun _ _ k => k, ?_, trivial⟩
      · rintro b' (rfl | k | k | k)
        · exact .inl (g1 _ hbF)
        · exact .inl (g1 _ (i1 _ ((c3 _).2 (.inl k))))
        · exact .inl (g2 _ (a1 _ k))
        · exact .inl (g1 _ (i1 _ ((c3 _).2 (.inr ((d3 _).2 (.inr k))))))
      · refine ⟨v1 ++ (v.cells.toList ++ v3), fun b' => Fp b' ∨ (F2' b' ∨ Fq b'), ?_, ?_, fun b' => ?_, fun b' hb' hk => ?_⟩
        · have hlen : (l.set i.toNat x').length = l.length := List.length_set
          rw [hlen, ← hset]
          refine ⟨by rw [setL_length]; exact k1.1, .inr ⟨b, cc, _, rfl, Nat.zero_le _, h2, hnc, hcm, ?_, ?_⟩⟩
          · simp only [List.size_toArray, setL_length, Array.length_toList]; exact hcs
          · rw [Nat.zero_add, Nat.add_zero, ← htk]
            exact setL_take _ _ _ _ (by simp only [Array.length_toList]; omega)
        · rw [hflat']; exact oo
        · simp only [Value.ownBlock, Option.some.injEq]
          rw [eq_comm]
        · simp only [Value.ownBlock, Option.some.injEq] at hb'
          subst hb'
          rcases hk with k | k | k
          · exact n1 _ k rfl
          · exact n2 _ k rfl
          · exact n3 _ k rfl
    obtain ⟨h4, h5⟩ := h w' HT'
    refine wc_unit rfl hw ?_ h4 h5
    simp only [execOp, HF.ev hx, HF.ev hv]
    rw [Sem.run_bind, h1]
    rfl
/-- The first elements alone: the rest is let go. -/
theorem St.cutO {e : TypeId} {l : List E} {x : Option Addr} {m cc : Nat} {j : Int} (HT : St w0 G w (Own e (rowT l) (.slice x m cc) :: R)) (hj : 0 ≤ j ∧ j ≤ (l.length : Int)) :
    St w0 G w (Own e (rowT (subl l 0 j)) (.slice x (subl l 0 j).length cc) :: R) ∧ (0 : Int) ≤ j ∧ j ≤ (m : Int) ∧ m ≤ cc ∧ (0 : Int) ≤ 0 ∧ (if cc = (0 : Int).toNat then x else x.map (·.add ((0 : Int).toNat * Dat.size E))) = x ∧ j.toNat - (0 : Int).toNat = (subl l 0 j).length ∧ cc - (0 : Int).toNat = cc := by
  have hlen : (subl l 0 j).length = j.toNat := by simp [subl]; omega
  have hsub : subl l 0 j = l.take j.toNat := by simp [subl]
  obtain ⟨F, hF, hG⟩ := HT.fact
  obtain ⟨vs, F2, k1, k2, k3, k4⟩ := hF
  have hmc : m = l.length ∧ m ≤ cc ∧ (if cc = (0 : Int).toNat then x else x.map (·.add ((0 : Int).toNat * Dat.size E))) = x := by
    rcases k1.2 with ⟨k5, k6⟩ | ⟨g, cap, cur, k5, _, hg, hnc, hcm, hcs, htk⟩
    · simp only [Value.slice.injEq] at k5
      obtain ⟨rfl, rfl, rfl⟩ := k5
      exact ⟨k6.symm, Nat.le_refl _, by simp⟩
    · simp only [Value.slice.injEq] at k5
      obtain ⟨rfl, rfl, rfl⟩ := k5
      refine ⟨rfl, hnc, ?_⟩
      split
      · rfl
      · simp [Addr.add]
  refine ⟨?_, hj.1, by rw [hmc.1]; exact hj.2, hmc.2.1, Int.le_refl _, hmc.2.2, by rw [hlen]; simp, by simp⟩
  clear k1 k2 k3 k4 vs F2 hG F
  have HT' : St w0 G w ([Own e (rowT l) (.slice x m cc)] ++ R) := HT
  refine HT'.unite fun F hF => ?_
  obtain ⟨F1, F0, g1, _, _, ⟨vs, F2, k1, k2, k3, k4⟩, _⟩ := hF
  have hfl : l.flatMap (Dat.tree (E := E)) = (subl l 0 j).flatMap Dat.tree ++ (l.drop j.toNat).flatMap Dat.tree := by
    rw [hsub, ← List.flatMap_append, List.take_append_drop]
  rw [hfl] at k2
  obtain ⟨v1, v2, Fa, Fb, e1, c1, c2, c3, c4⟩ := k2.split
  subst e1
  have hv1 : v1.length = (subl l 0 j).length * Dat.size E := by rw [c1.length, flat_len]
  have ho : ∀ n : Nat, (Value.slice x n cc).ownBlock = (Value.slice x m cc).ownBlock := fun n => by cases x <;> rfl
  refine ⟨fun b => (Value.slice x (subl l 0 j).length cc).ownBlock = some b ∨ Fa b, fun b hb => g1 b ((k3 b).2 (hb.imp (fun q => (ho _).symm.trans q) (fun h => (c3 b).2 (.inl h)))), v1, Fa, ?_, c1, fun b => Iff.rfl, fun b hb h => k4 b ((ho _).symm.trans hb) ((c3 b).2 (.inl h))⟩
  refine ⟨hv1, ?_⟩
  rcases k1.2 with ⟨k5, k6⟩ | ⟨g, cap, cur, k5, kB, hg, hnc, hcm, hcs, htk⟩
  · simp only [Value.slice.injEq] at k5
    obtain ⟨rfl, rfl, rfl⟩ := k5
    have h0 : (subl l 0 j).length = 0 := by rw [hlen]; have : l.length = 0 := k6; omega
    exact .inl ⟨by rw [h0], h0⟩
  · simp only [Value.slice.injEq] at k5
    obtain ⟨rfl, rfl, rfl⟩ := k5
    refine .inr ⟨g, cc, cur, rfl, kB, hg, by omega, hcm, hcs, ?_⟩
    have := congrArg (List.take ((subl l 0 j).length * Dat.size E)) htk
    rw [List.take_take, ← hv1, List.take_left] at this
    rw [← this, hv1, Nat.min_eq_left]
    exact Nat.mul_le_mul_right _ (by omega)
end
end Go.Proofs.Ytpbfppelmgjfpaa
