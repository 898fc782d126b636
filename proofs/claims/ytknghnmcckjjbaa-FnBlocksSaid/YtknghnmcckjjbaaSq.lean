/- Calls of function values; comparison of records; rows of records that hold slices. Generic: no program is named. -/
import Derived.Test.YtknghnmcckjjbaaSo
import Derived.Laws.StructEq
namespace Go.Proofs.Ytknghnmcckjjbaa
open Go Go.RowKit
set_option linter.unusedVariables false
set_option linter.unusedSimpArgs false

/-! Records of ints, compared. -/
section
variable {P : Program} {t : TypeId} {X Y : Operand} {k : Nat}
end

theorem b_shrk {P : Program} {t : TypeId} {X Y : Operand} {x y : Int} {kk : IntKind} {k : Nat} (h : y = (k : Int) ∧ k ≤ 64) : BinR P .shr t X Y (.int .i64 x) (.int kk y) (.int .i64 (x / 2 ^ k)) := fun w => by
  obtain ⟨rfl, h⟩ := h
  have : min k IntKind.i64.bits = k := Nat.min_eq_left h
  simp [eqGuard, binOp, Op.shift, Sem.run_bind, Sem.run_pure, Result.andThen, this, show ¬ ((k : Int) < 0) by omega]
section
variable {P : Program} {a : Act} {w : World} {n : Nat} {L : List (Nat × Value)}
end

theorem brkL1u {α β : Type} {f : α → Option β} {y : α} {r : β} (h : contL (un1 f) (.brk y) = some r) : f y = some r := h
theorem brkM1u {α β γ : Type} {f : α → Option (Lp γ β)} {y : α} {r : Lp γ β} (h : contM (un1 f) (.brk y) = some r) : f y = some r := h

/-! A call of a function value that holds nothing. -/
section
variable {P : Program} {ops : Array Oper} {Q : Exit → Act → World → Prop} {S : World → Prop} {a : Act} {w : World} {n : Nat} {L : List (Nat × Value)}
  {c : Bool} {rest : List (Bool × Oper)} {ty : TypeId} {pos : String} {aft : Array Edge} {gd : Option (Nat × Bool)} {d : Nat}
end

/-! Rows of records that hold slices: made, and stored into whole. -/
section
variable {E : Type} [Dat E] {P : Program} {ops : Array Oper} {Q : Exit → Act → World → Prop} {S : World → Prop} {a : Act} {w w0 : World} {G : Foot} {R : List Res} {n : Nat} {L : List (Nat × Value)}
  {c : Bool} {rest : List (Bool × Oper)} {ty : TypeId} {pos : String} {aft : Array Edge} {gd : Option (Nat × Bool)} {d : Nat}
/-- The first elements alone: the rest is let go. -/
theorem St.cutO {e : TypeId} {l : List E} {x : Option Addr} {m cc : Nat} {j : Int} (HT : St w0 G w (Own e (rowT l) (.slice x m cc) :: R)) (hj : 0 ≤ j ∧ j ≤ (l.length : Int)) :
    St w0 G w (Own e (rowT (subl l 0 j)) (.slice x (subl l 0 j).length cc) :: R) ∧ (0 : Int) ≤ j ∧ j ≤ (m : Int) ∧ m ≤ cc ∧ (0 : Int) ≤ 0 ∧ (if cc = (0 : Int).toNat then x else x.map (·.add ((0 : Int).toNat * Dat.size E))) = x ∧ j.toNat - (0 : Int).toNat = (subl l 0 j).length ∧ cc - (0 : Int).toNat = cc := by
  have hlen : (subl l 0 j).length = j.toNat := by simp [subl]; omega
  have hsub : subl l 0 j = l.take j.toNat := by simp [subl]
  obtain ⟨F, hF, hG⟩ := HT.fact
  obtain ⟨vs, F2, k1, k2, k3, k4⟩ := hF
  have hmc : m = l.length ∧ m ≤ cc ∧ (if cc = (0 : Int).toNat then x else x.map (·.add ((0 : Int).toNat * Dat.size E))) = x := by
    rcases k1.2 with ⟨k5, k6⟩ | ⟨g, cap, cur, k5, _, hg, hnc, hcm, hcs, htk⟩
    · simp only [Value.slice.injEq] at k5
      obtain ⟨rfl, rfl, rfl⟩ := k5
      exact ⟨k6.symm, Nat.le_refl _, by simp⟩
    · simp only [Value.slice.injEq] at k5
      obtain ⟨rfl, rfl, rfl⟩ := k5
      refine ⟨rfl, hnc, ?_⟩
      split
      · rfl
      · simp [Addr.add]
  refine ⟨?_, hj.1, by rw [hmc.1]; exact hj.2, hmc.2.1, Int.le_refl _, hmc.2.2, by rw [hlen]; simp, by simp⟩
  clear k1 k2 k3 k4 vs F2 hG F
  have HT' : St w0 G w ([Own e (rowT l) (.slice x m cc)] ++ R) := HT
  refine HT'.unite fun F hF => ?_
  obtain ⟨F1, F0, g1, _, _, ⟨vs, F2, k1, k2, k3, k4⟩, _⟩ := hF
  have hfl : l.flatMap (Dat.tree (E := E)) = (subl l 0 j).flatMap Dat.tree ++ (l.drop j.toNat).flatMap Dat.tree := by
    rw [hsub, ← List.flatMap_append, List.take_append_drop]
  rw [hfl] at k2
  obtain ⟨v1, v2, Fa, Fb, e1, c1, c2, c3, c4⟩ := k2.split
  subst e1
  have hv1 : v1.length = (subl l 0 j).length * Dat.size E := by rw [c1.length, flat_len]
  have ho : ∀ n : Nat, (Value.slice x n cc).ownBlock = (Value.slice x m cc).ownBlock := fun n => by cases x <;> rfl
  refine ⟨fun b => (Value.slice x (subl l 0 j).length cc).ownBlock = some b ∨ Fa b, fun b hb => g1 b ((k3 b).2 (hb.imp (fun q => (ho _).symm.trans q) (fun h => (c3 b).2 (.inl h)))), v1, Fa, ?_, c1, fun b => Iff.rfl, fun b hb h => k4 b ((ho _).symm.trans hb) ((c3 b).2 (.inl h))⟩
  refine ⟨hv1, ?_⟩
  rcases k1.2 with ⟨k5, k6⟩ | ⟨g, cap, cur, k5, kB, hg, hnc, hcm, hcs, htk⟩
  · simp only [Value.slice.injEq] at k5
    obtain ⟨rfl, rfl, rfl⟩ := k5
    have h0 : (subl l 0 j).length = 0 := by rw [hlen]; have : l.length = 0 := k6; omega
    exact .inl ⟨by rw [h0], h0⟩
  · simp only [Value.slice.injEq] at k5
    obtain ⟨rfl, rfl, rfl⟩ := k5
    refine .inr ⟨g, cc, cur, rfl, kB, hg, by omega, hcm, hcs, ?_⟩
    have := congrArg (List.take ((subl l 0 j).length * Dat.size E)) htk
    rw [List.take_take, ← hv1, List.take_left] at this
    rw [← this, hv1, Nat.min_eq_left]
    exact Nat.mul_le_mul_right _ (by omega)
end
end Go.Proofs.Ytknghnmcckjjbaa
