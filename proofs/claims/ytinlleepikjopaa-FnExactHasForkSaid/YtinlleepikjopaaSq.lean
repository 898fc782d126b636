/- Calls of function values; comparison of records; rows of records that hold slices. Generic: no program is named. -/
import Derived.Test.YtinlleepikjopaaSo
import Derived.Laws.StructEq
namespace Go.Proofs.Ytinlleepikjopaa
open Go Go.RowKit
set_option linter.unusedVariables false
set_option linter.unusedSimpArgs false

/-! Records of ints, compared. -/
def EqA (P : Program) (t : TypeId) (k : Nat) : Prop := ∀ (x y : List Int), x.length = k → y.length = k → ∀ w : World, (Op.equalIn 10000 t (.agg (x.map (Value.int .i64)).toArray) (.agg (y.map (Value.int .i64)).toArray)).run P w = .ok (decide (x = y)) w ∧ P.eqGuardType P.depth t = false
theorem eqF_nil {P : Program} {d : Nat} {xs ys : Array Value} {w : World} : (Op.eqFields d xs ys []).run P w = .ok true w := rfl
theorem eqF_cons {P : Program} {d : Nat} {TI : TypeId} (hT : P.underlying TI = some (.int .i64)) (x y : List Int) (f : Field) (fs : List Field) (w : World) (hn : (f.name ≠ "_")) (ht : f.type = TI) {a b : Int} (ha : x[f.offset]? = some a) (hb : y[f.offset]? = some b) :
    (Op.eqFields (d + 1) (x.map (Value.int .i64)).toArray (y.map (Value.int .i64)).toArray (f :: fs)).run P w = if a = b then (Op.eqFields (d + 1) (x.map (Value.int .i64)).toArray (y.map (Value.int .i64)).toArray fs).run P w else .ok false w := by
  rw [Op.eqFields, if_pos hn, ht]
  simp [part, isAgg, run_underlying hT, Sem.run_bind, Sem.run_pure, Result.andThen, ha, hb, run_equalIn_int w d TI .i64 .i64 a b hT]
section
variable {P : Program} {t : TypeId} {X Y : Operand} {k : Nat}
theorem b_aeq (hE : EqA P t k) (x y : List Int) (hx : x.length = k) (hy : y.length = k) : BinR P .eql t X Y (.agg (x.map (Value.int .i64)).toArray) (.agg (y.map (Value.int .i64)).toArray) (.bool (decide (x = y))) := fun w => by
  obtain ⟨h1, h2⟩ := hE x y hx hy w
  simp [Sem.run_bind, run_eqGuard_agg w _ t X Y _ _ h2, Result.andThen, run_eql_struct, h1]
theorem b_ane (hE : EqA P t k) (x y : List Int) (hx : x.length = k) (hy : y.length = k) : BinR P .neq t X Y (.agg (x.map (Value.int .i64)).toArray) (.agg (y.map (Value.int .i64)).toArray) (.bool (!decide (x = y))) := fun w => by
  obtain ⟨h1, h2⟩ := hE x y hx hy w
  simp [Sem.run_bind, run_eqGuard_agg w _ t X Y _ _ h2, Result.andThen, run_neq_struct, h1]
end

/-! A call of a function value that holds nothing. -/
section
variable {P : Program} {ops : Array Oper} {Q : Exit → Act → World → Prop} {S : World → Prop} {a : Act} {w : World} {n : Nat} {L : List (Nat × Value)}
  {c : Bool} {rest : List (Bool × Oper)} {ty : TypeId} {pos : String} {aft : Array Edge} {gd : Option (Nat × Bool)} {d : Nat}
theorem wc_callv {f : FuncId} {X : Operand} {args : List Operand} {ats : Array TypeId} {vs : List Value} {E : Ending → World → Prop} (HF : Fr a n L) (hf : CfR P f) (hX : ov L X = some (.func (.func f) #[] #[])) (hargs : ovs L args = some vs) (hc : Calls P f vs.toArray w E)
    (hw : Region.wanted ⟨some d, .call { callee := .value X, args := args.toArray, argTypes := ats }, ty, pos, aft, gd⟩ (yielded ops a.tmps) = true) (hd : Nat.blt d n = true)
    (h : ∀ e w', E e w' → ∃ v, e = .returned v ∧ (c = false → S w') ∧ ∀ a', Fr a' n ((d, v) :: L) → wpD P ops Q S rest a' w') : wpD P ops Q S ((c, ⟨some d, .call { callee := .value X, args := args.toArray, argTypes := ats }, ty, pos, aft, gd⟩) :: rest) a w := by
  simp only [wpD]
  rw [if_neg (by simp [isEarly]), if_pos hw]
  unfold Oper.wp
  have hrun : (execOp a.eval ⟨some d, .call { callee := .value X, args := args.toArray, argTypes := ats }, ty, pos, aft, gd⟩).run P w = .ok (.enter f vs.toArray) w := by
    have := hf vs.toArray w
    simp only [execOp, resolve, Deferred.ofValue, HF.ev hX, invoke, Sem.run_bind, Sem.run_pure, Result.andThen, List.map_toArray, HF.evs hargs]
    simpa using this
  rw [hrun, Oper.upon_enter]
  refine hc.mono fun e w' he => ?_
  obtain ⟨v, rfl, h1, h2⟩ := h e w' he
  exact ⟨h1, h2 _ (HF.put hd v)⟩
end
end Go.Proofs.Ytinlleepikjopaa
