/- Laws of operations that turn memory, of calls, and of code. Generic: no program is named. -/
import Derived.Test.YtpbfppelmgjfpaaSl
namespace Go.Proofs.Ytpbfppelmgjfpaa
open Go Go.RowKit
set_option linter.unusedVariables false
set_option linter.unusedSimpArgs false

theorem new_box {w0 w : World} {G : Foot} {R : List Res} (h : St w0 G w R) (cs : List Value) (e : TypeId) : St w0 G (w.alloc (.cells cs.toArray e)) (Box w.heap.size cs :: R) := by
  refine St.pure (A := [Box w.heap.size cs]) h ⟨.alloc _ _ _, fun b => b = w.heap.size, fun b k => .inr (by omega), fun b => b = w.heap.size, fun _ => False, fun _ k => k, fun _ k => k.elim, fun _ _ k => k, ⟨fun b => Iff.rfl, e, heap_alloc_new _ _⟩, trivial⟩

/-- Values of operands. -/
def ovs (L : List (Nat × Value)) : List Operand → Option (List Value)
  | [] => some []
  | x :: xs => match ov L x, ovs L xs with
    | some v, some vs => some (v :: vs)
    | _, _ => none
theorem Fr.evs {a : Act} {n : Nat} {L : List (Nat × Value)} (HF : Fr a n L) : ∀ {xs : List Operand} {vs : List Value}, ovs L xs = some vs → xs.map a.eval = vs
  | [], vs, h => by simp [ovs] at h; simp [h]
  | x :: xs, vs, h => by
    simp only [ovs] at h
    split at h
    · rename_i v vs' h1 h2
      simp only [Option.some.injEq] at h
      subst h
      rw [List.map_cons, HF.ev h1, HF.evs h2]
    · cases h
def ovp (L : List (Nat × Value)) : List (Nat × Operand) → Option (List (Nat × Value))
  | [] => some []
  | x :: xs => match ov L x.2, ovp L xs with
    | some v, some vs => some ((x.1, v) :: vs)
    | _, _ => none
theorem Fr.evp {a : Act} {n : Nat} {L : List (Nat × Value)} (HF : Fr a n L) : ∀ {xs : List (Nat × Operand)} {vs : List (Nat × Value)}, ovp L xs = some vs → (xs.map fun p => (p.1, a.eval p.2)) = vs
  | [], vs, h => by simp [ovp] at h; simp [h]
  | x :: xs, vs, h => by
    simp only [ovp] at h
    split at h
    · rename_i v vs' h1 h2
      simp only [Option.some.injEq] at h
      subst h
      rw [List.map_cons, HF.ev h1, HF.evp h2]
    · cases h

/-- A struct type: the zero value and where each field lies. -/
def Bld (P : Program) (t : TypeId) (z : Array Value) (pl : Array (Nat × Nat)) : Prop := ∀ pvs cs w, Instr.fill (fun i => pl[i]?) z pvs = some cs → (Instr.build t pvs.toArray).run P w = .ok (.agg cs) w
section
variable {P : Program} {ops : Array Oper} {Q : Exit → Act → World → Prop} {S : World → Prop} {a : Act} {w w0 : World} {G : Foot} {R : List Res} {n : Nat} {L : List (Nat × Value)}
  {c : Bool} {rest : List (Bool × Oper)} {ty : TypeId} {pos : String} {aft : Array Edge} {gd : Option (Nat × Bool)} {d : Nat}

theorem wc_build {t : TypeId} {parts : List (Nat × Operand)} {pvs : List (Nat × Value)} {z : Array Value} {pl : Array (Nat × Nat)} {cs : Array Value} (HF : Fr a n L) (hS : c = false → S w) (hB : Bld P t z pl) (hp : ovp L parts = some pvs) (hc : Instr.fill (fun i => pl[i]?) z pvs = some cs)
    (hw : Region.wanted ⟨some d, .build t parts.toArray, ty, pos, aft, gd⟩ (yielded ops a.tmps) = true) (hd : Nat.blt d n = true)
    (h : ∀ a', Fr a' n ((d, .agg cs) :: L) → wpD P ops Q S rest a' w) : wpD P ops Q S ((c, ⟨some d, .build t parts.toArray, ty, pos, aft, gd⟩) :: rest) a w := by
  refine wc_any HF hS rfl hw hd (fun w _ => ?_) h
  have := hB pvs cs w hc
  simp only [execOp, List.map_toArray, HF.evp hp]
  rw [Sem.run_bind, this]
  rfl
/-- A variable that begins as zero. -/
theorem wc_alloc {t : TypeId} {z : Value} {cs : List Value} (HF : Fr a n L) (HT : St w0 G w R) (hz : Zr P t z) (hc : z.cells.toList = cs)
    (hw : Region.wanted ⟨some d, .alloc t, ty, pos, aft, gd⟩ (yielded ops a.tmps) = true) (hd : Nat.blt d n = true)
    (h : ∀ p w', St w0 G w' (Box p cs :: R) → Below w.heap.size w w' → (c = false → S w') ∧ ∀ a', Fr a' n ((d, .pointer (some ⟨p, 0, none⟩)) :: L) → wpD P ops Q S rest a' w') : wpD P ops Q S ((c, ⟨some d, .alloc t, ty, pos, aft, gd⟩) :: rest) a w := by
  have hn := new_box HT cs t
  have hb : Below w.heap.size w (w.alloc (.cells cs.toArray t)) := (Below.refl _ _).alloc (Nat.le_refl _) _
  obtain ⟨h1, h2⟩ := h _ _ hn hb
  refine wc_val HF rfl hw hd ?_ h1 h2
  have e : z.cells = cs.toArray := by rw [← hc]
  simp only [execOp, Instr.alloc, Sem.run_bind, Result.andThen, hz w, newVar, newRow, Sem.run_pure, e]
  rfl
/-- A variable that begins as a value. -/
theorem wc_box {t : TypeId} {X : Operand} {v : Value} {cs : List Value} (HF : Fr a n L) (HT : St w0 G w R) (hx : ov L X = some v) (hc : v.cells.toList = cs)
    (hw : Region.wanted ⟨some d, .box t X, ty, pos, aft, gd⟩ (yielded ops a.tmps) = true) (hd : Nat.blt d n = true)
    (h : ∀ p w', St w0 G w' (Box p cs :: R) → Below w.heap.size w w' → (c = false → S w') ∧ ∀ a', Fr a' n ((d, .pointer (some ⟨p, 0, none⟩)) :: L) → wpD P ops Q S rest a' w') : wpD P ops Q S ((c, ⟨some d, .box t X, ty, pos, aft, gd⟩) :: rest) a w := by
  have hn := new_box HT cs t
  have hb : Below w.heap.size w (w.alloc (.cells cs.toArray t)) := (Below.refl _ _).alloc (Nat.le_refl _) _
  obtain ⟨h1, h2⟩ := h _ _ hn hb
  refine wc_val HF rfl hw hd ?_ h1 h2
  have e : v.cells = cs.toArray := by rw [← hc]
  simp only [execOp, HF.ev hx, Instr.box, Sem.run_bind, Result.andThen, newVar, newRow, Sem.run_pure, e]
  rfl
/-- A store into a variable that stands in front. -/
theorem wc_storeB {t : TypeId} {X V : Operand} {p k m : Nat} {v : Value} {cs cs' : List Value} (HF : Fr a n L) (HT : St w0 G w (Box p cs :: R)) (hx : ov L X = some (.pointer (some ⟨p, k, none⟩))) (hv : ov L V = some v)
    (hs : ∀ w, (sizeOf t).run P w = .ok m w) (hm : v.cells.size = m) (hone : (v.cells.toList.all fun u => u.oneCell') = true) (hl : Nat.ble (k + m) cs.length = true) (hc : setL cs k v.cells.toList = cs')
    (hw : Region.wanted ⟨none, .store t X V, ty, pos, aft, gd⟩ (yielded ops a.tmps) = true)
    (h : ∀ w', St w0 G w' (Box p cs' :: R) → (c = false → S w') ∧ wpD P ops Q S rest a w') : wpD P ops Q S ((c, ⟨none, .store t X V, ty, pos, aft, gd⟩) :: rest) a w := by
  obtain ⟨F, ⟨hF, e, hb⟩, hG⟩ := HT.fact
  obtain ⟨w', h1, h2, h3⟩ := storeAt_run (P := P) hs hm (List.all_eq_true.1 hone) hb (Nat.le_of_ble_eq_true hl)
  have HT' : St w0 G w' (Box p cs' :: R) := HT.turn fun F' hF' _ => ⟨F', h3.mono (fun b _ hb => (hF'.1 b).2 hb), ⟨hF'.1, e, by rw [← hc]; exact h2⟩, fun b hb => .inl hb⟩
  obtain ⟨h4, h5⟩ := h w' HT'
  refine wc_unit rfl hw ?_ h4 h5
  simp only [execOp, HF.ev hx, HF.ev hv]
  rw [Sem.run_bind, h1]
  rfl
/-- A call of a function. -/
def CfR (P : Program) (f : FuncId) : Prop := ∀ vs w, (callFunc f vs).run P w = .ok (.enter f vs) w
theorem wc_call {f : FuncId} {args : List Operand} {ats : Array TypeId} {vs : List Value} {E : Ending → World → Prop} (HF : Fr a n L) (hf : CfR P f) (hargs : ovs L args = some vs) (hc : Calls P f vs.toArray w E)
    (hw : Region.wanted ⟨some d, .call { callee := .value (.func f), args := args.toArray, argTypes := ats }, ty, pos, aft, gd⟩ (yielded ops a.tmps) = true) (hd : Nat.blt d n = true)
    (h : ∀ e w', E e w' → ∃ v, e = .returned v ∧ (c = false → S w') ∧ ∀ a', Fr a' n ((d, v) :: L) → wpD P ops Q S rest a' w') : wpD P ops Q S ((c, ⟨some d, .call { callee := .value (.func f), args := args.toArray, argTypes := ats }, ty, pos, aft, gd⟩) :: rest) a w := by
  simp only [wpD]
  rw [if_neg (by simp [isEarly]), if_pos hw]
  unfold Oper.wp
  have hrun : (execOp a.eval ⟨some d, .call { callee := .value (.func f), args := args.toArray, argTypes := ats }, ty, pos, aft, gd⟩).run P w = .ok (.enter f vs.toArray) w := by
    have := hf vs.toArray w
    simp only [execOp, resolve, Deferred.ofValue, Act.eval, invoke, Sem.run_bind, Sem.run_pure, Result.andThen, List.map_toArray, HF.evs hargs]
    simpa using this
  rw [hrun, Oper.upon_enter]
  refine hc.mono fun e w' he => ?_
  obtain ⟨v, rfl, h1, h2⟩ := h e w' he
  exact ⟨h1, h2 _ (HF.put hd v)⟩

/-! Code -/
theorem wc_end (h : Q .normal a w) : wpD P ops Q S [] a w := h
theorem wc_endN (h : Q .normal a w) : wpD P ops (NoPanic Q) S [] a w := NoPanic.normal h
theorem wp_cut {x y : Code} (K : Act → World → Prop) (h1 : x.wp P (Exit.then K Q) a w) (h2 : ∀ a w, K a w → y.wp P Q a w) : (Code.seq x y).wp P Q a w :=
  wp_seq (Code.wp_mono (fun e a w h => by cases e <;> first | exact h2 a w h | exact h) h1)
theorem wp_if {C : Operand} {x y : Code} {b b' : Bool} (HF : Fr a n L) (hc : ov L C = some (.bool b)) (hb : b = b') (h : (bif b' then x else y).wp P Q a w) : (Code.cond C x y).wp P Q a w := by
  refine wp_cond (HF.ev hc) ?_
  subst hb
  cases b <;> exact h
theorem wp_loopN {x : Code} (I : Nat → Act → World → Prop) (k0 : Nat) (h₀ : I k0 a w) (round : ∀ k a w, I k a w → x.wp P (Exit.then (fun a' w' => ∃ k', k' < k ∧ I k' a' w') Q) a w) : (Code.loop x).wp P Q a w := by
  intro b k cs
  have key : ∀ m a w, I m a w → ∃ e a' w', Q e a' w' ∧ Arrives P (lone (b.at a (.code x :: .inLoop x :: k)) cs w) b k cs e a' w' := by
    intro m
    induction m using Nat.strongRecOn with
    | _ m ih =>
      intro a w hI
      obtain ⟨e, a₁, w₁, hq, harr⟩ := round m a w hI b (.inLoop x :: k) cs
      cases e with
      | normal =>
        obtain ⟨k', hlt, hI₁⟩ := hq
        obtain ⟨e₂, a₂, w₂, hq₂, harr₂⟩ := ih k' hlt a₁ w₁ hI₁
        exact ⟨e₂, a₂, w₂, hq₂, .of_steps (Steps.trans harr (.one step_inLoop)) harr₂⟩
      | exit id => exact ⟨_, a₁, w₁, hq, .pass (x := .inLoop x) rfl (fun _ _ => .inl (by simp)) harr⟩
      | goto l => exact ⟨_, a₁, w₁, hq, .pass (x := .inLoop x) rfl (fun _ _ => .inl (by simp)) harr⟩
      | ret => exact ⟨_, a₁, w₁, hq, .pass (x := .inLoop x) rfl (fun _ _ => .inl (by simp)) harr⟩
      | panic ch => exact ⟨_, a₁, w₁, hq, .pass (x := .inLoop x) rfl (fun _ _ => .inl (by simp)) harr⟩
      | outgrown => exact ⟨_, a₁, w₁, hq, .pass (x := .inLoop x) rfl (fun _ _ => .inl (by simp)) harr⟩
  obtain ⟨e, a', w', hq, harr⟩ := key k0 a w h₀
  exact ⟨e, a', w', hq, .of_steps (.one step_loop) harr⟩

/-! Results -/
theorem res_one {fn : Func} {t : Nat} {v : Value} (hr : fn.results = #[.tmp t]) (HF : Fr a n L) (hv : lk L t = some v) : (results fn a.tmps).run P w = .ok v w := by
  rw [results_tmp hr, Array.getD_eq_getD_getElem?, HF.slot t v hv]; rfl
theorem res_two {fn : Func} {t u : Nat} {v v' : Value} (hr : fn.results = #[.tmp t, .tmp u]) (HF : Fr a n L) (hv : lk L t = some v) (hv' : lk L u = some v') : (results fn a.tmps).run P w = .ok (.tuple #[v, v']) w := by
  rw [results_tmp2 hr, Array.getD_eq_getD_getElem?, HF.slot t v hv, Array.getD_eq_getD_getElem?, HF.slot u v' hv']; rfl
/-- A result that lies in memory. -/
theorem res_cell {fn : Func} {t T p k : Nat} {vs : List Value} (hr : fn.results = #[.cell t T]) (HF : Fr a n L) (hv : lk L t = some (.pointer (some ⟨p, 0, none⟩))) (hT : Ag P T k) (hk : vs.length = k) (hc : LdC w p 0 vs) : (results fn a.tmps).run P w = .ok (.agg vs.toArray) w := by
  have h1 := HF.slot t _ hv
  have h2 := hT.load hk hc
  simp only [Instr.loadAt, Instr.sureAddr, Sem.run_bind, Sem.run_pure, Result.andThen] at h2
  simp [results, hr, h1, asAddr, Sem.run_bind, Sem.run_pure, Result.andThen, h2]
theorem res_cell_tmp {fn : Func} {t T p k u : Nat} {vs : List Value} {v : Value} (hr : fn.results = #[.cell t T, .tmp u]) (HF : Fr a n L) (hv : lk L t = some (.pointer (some ⟨p, 0, none⟩))) (hT : Ag P T k) (hk : vs.length = k) (hc : LdC w p 0 vs) (hu : lk L u = some v) : (results fn a.tmps).run P w = .ok (.tuple #[.agg vs.toArray, v]) w := by
  have h1 := HF.slot t _ hv
  have h3 := HF.slot u _ hu
  have h2 := hT.load hk hc
  simp only [Instr.loadAt, Instr.sureAddr, Sem.run_bind, Sem.run_pure, Result.andThen] at h2
  simp [results, hr, h1, h3, asAddr, Sem.run_bind, Sem.run_pure, Result.andThen, h2]
theorem bp_ret {fn : Func} {E : Ending → World → Prop} {v : Value} (HF : Fr a n L) (hr : (results fn a.tmps).run P w = .ok v w) (h : E (.returned v) w) : bodyPost P fn E .ret a w := bodyPost_ret hr HF.defers h
end
end Go.Proofs.Ytpbfppelmgjfpaa
