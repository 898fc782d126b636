/- The fork. -/
import Derived.Test.YtknghnmcckjjbaaPSer2
namespace Go.Proofs.Ytknghnmcckjjbaa
open Go Go.RowKit
set_option linter.unusedVariables false
set_option linter.unusedSimpArgs false

def KidsOk (kids : List KidD) : Prop := kids.length ≤ 3 ∧ ∀ k ∈ kids, kidB k.code = true
noncomputable def kidV (x : List I4) (r c : List Int) : Int := if (kidQ x r c).1 = 1 then gI (kidQ x r c).2.1 0 else 0
noncomputable def fkL (kids : List KidD) (r0 : List Int) : List Int → List Int → List Int → List Int × List Int
  | [], R, C => (R, C)
  | e :: es, R, C => match at? kids e with
    | none => (R, C)
    | some k => fkL kids r0 es (R.set e.toNat (kidV k.code r0 C)) (kidQ k.code r0 C).2.2
noncomputable def fsL (kids : List KidD) (r0 : List Int) : List Int → List Int → List Int → List Int × List Int
  | [], R, C => (R, C)
  | e :: es, R, C => match at? kids e with
    | none => (R, C)
    | some k => fsL kids r0 es (if (kidQ k.code r0 C).1 = 1 then R.set e.toNat (gI (kidQ k.code r0 C).2.1 0) else R) (kidQ k.code r0 C).2.2
def InR (es : List Int) (n : Nat) : Prop := ∀ e ∈ es, 0 ≤ e ∧ e < (n : Int)
theorem at_mem {E : Type} {l : List E} {i : Int} {x : E} (h : at? l i = some x) : x ∈ l := List.mem_of_getElem? (at?_some h).2
theorem kidV_b {x : List I4} (h : kidB x = true) {r c : List Int} (hr : VL 4 65535 r) (hc : VL 8 65535 c) : 0 ≤ kidV x r c ∧ kidV x r c ≤ 65535 := by
  obtain ⟨_, h2, _⟩ := kidQ_ok h hr hc
  have := (h2.gt (i := 0) (by decide) (by decide)).2
  unfold kidV; split <;> omega
theorem fkL_ok {kids : List KidD} (hK : KidsOk kids) {r0 : List Int} (h0 : VL 4 65535 r0) : ∀ es R C, InR es kids.length → VL 4 65535 R → VL 8 65535 C → VL 4 65535 (fkL kids r0 es R C).1 ∧ VL 8 65535 (fkL kids r0 es R C).2 := by
  intro es
  induction es with
  | nil => intro R C _ h1 h2; exact ⟨h1, h2⟩
  | cons e es ih =>
    intro R C hi h1 h2
    obtain ⟨k, hk⟩ := at?_some_iff (l := kids) (i := e) (hi e (List.mem_cons_self ..))
    have hkb := hK.2 k (at_mem hk)
    have hv := kidV_b hkb h0 h2
    rw [fkL, hk]
    exact ih _ _ (fun a ha => hi a (List.mem_cons_of_mem _ ha)) (h1.st _ hv.1 hv.2) (kidQ_ok hkb h0 h2).2.2

/-! The implementation's fork. -/
theorem bB2 {A B δ : Type} (a : A) (b : B) (f : A → B → Option δ) : bind2 (some (a, b)) f = f a b := rfl
theorem bB4 {A B C D δ : Type} (a : A) (b : B) (c : C) (d : D) (f : A → B → C → D → Option δ) : bind4 (some (a, b, c, d)) f = f a b c d := rfl
def KidRun (kids : List KidD) (rcf : List I4 → List KidD → List Int → List Int → List Int → List Int → Int → Option (Int × List Int × List Int × List Int × Int)) : Prop :=
  ∀ k ∈ kids, ∀ (r c m : List Int) (n : Int), VL 4 65535 r → VL 8 65535 c → VL 8 65536 m → 0 ≤ n ∧ n ≤ 65535 → rcf k.code [] [] r c m n = some ((kidQ k.code r c).1, (kidQ k.code r c).2.1, (kidQ k.code r c).2.2, m, n)
theorem p_fork_L {F : Nat} {kids : List KidD} {rcf : List I4 → List KidD → List Int → List Int → List Int → List Int → Int → Option (Int × List Int × List Int × List Int × Int)} (hK : KidsOk kids) (hr : KidRun kids rcf) {es r0 : List Int} (hes : InR es kids.length) (hel : es.length ≤ 3000000) (h0 : VL 4 65535 r0) (z5 z6 z7 : List Int) (z8 : Int) (z9 : List MarkD) (z10 : Int) :
    ∀ K n R C, n ≤ es.length → es.length < n + K → VL 4 65535 R → VL 8 65535 C → m_impl_serial_L1 F kids rcf r0 es z5 z6 z7 z8 z9 z10 K R C (n : Int) = some (.brk ((fkL kids r0 (es.drop n) R C).1, (fkL kids r0 (es.drop n) R C).2, z7, z8, z9, z10)) := by
  intro K
  induction K with
  | zero => intro n R C h1 h2; omega
  | succ K ih =>
    intro n R C h1 h2 hR hC
    rw [m_impl_serial_L1]
    by_cases h : n < es.length
    · have he := hes es[n] (List.getElem_mem h)
      obtain ⟨k, hk⟩ := at?_some_iff (l := kids) (i := es[n]) he
      have hkm := at_mem hk
      have hkb := hK.2 k hkm
      have h8 : VL 8 65536 (List.replicate (8 : Int).toNat (0 : Int)) := VL.rep 8 (by decide)
      have hq := hr k hkm r0 C _ 0 h0 hC h8 (by decide)
      obtain ⟨o1, o2, o3⟩ := kidQ_ok hkb h0 hC
      have hk3 := hK.1
      have hRe := hR.gt (i := es[n]) he.1 (by omega)
      have hz := at_setI (y := 0) hRe.1
      have hv := kidV_b hkb h0 hC
      have hin := ih (n + 1) (R.set es[n].toNat (kidV k.code r0 C)) (kidQ k.code r0 C).2.2 (by omega) (by omega) (hR.st _ hv.1 hv.2) o3
      rw [drop_cons h, fkL, if_pos (lt_cast h), at?_lt h, Option.bind_some, hk, Option.bind_some, if_pos (by decide), hq, bB5, bB5, hRe.1, Option.bind_some]
      by_cases h1q : (kidQ k.code r0 C).1 = 1
      · have e1 : kidV k.code r0 C = gI (kidQ k.code r0 C).2.1 0 := by unfold kidV; rw [if_pos h1q]
        rw [if_pos h1q, (o2.gt (i := 0) (by decide) (by decide)).1, Option.bind_some, hz, Option.bind_some, List.set_set, bB2, if_pos (in64_of (by omega) (by omega)), ← e1]
        exact hin
      · have e1 : kidV k.code r0 C = 0 := by unfold kidV; rw [if_neg h1q]
        rw [if_neg h1q, bB2, if_pos (in64_of (by omega) (by omega)), ← e1]
        exact hin
    · rw [if_neg (ge_cast h), drop_end h, fkL]

/-! The reference's fork. -/
theorem s_fork_L {F : Nat} {kids : List KidD} {rcf : List I4 → List KidD → List Int → List Int → List Int → List Int → Int → Option (Int × List Int × List Int × List Int × Int)} (hK : KidsOk kids) (hr : KidRun kids rcf) {es r0 m : List Int} {nn : Int} (hes : InR es kids.length) (hel : es.length ≤ 3000000) (h0 : VL 4 65535 r0) (hm : VL 8 65536 m) (hn : 0 ≤ nn ∧ nn ≤ 65535) (z9 : List MarkD) (z10 : Int) :
    ∀ K n R C, n ≤ es.length → es.length < n + K → R.length = kids.length → VL 8 65535 C → m_spec_l7Walk_L1 F kids es rcf r0 z9 z10 K C m nn R (n : Int) = some ((fsL kids r0 (es.drop n) R C).2, m, nn, (fsL kids r0 (es.drop n) R C).1) := by
  intro K
  induction K with
  | zero => intro n R C h1 h2; omega
  | succ K ih =>
    intro n R C h1 h2 hR hC
    rw [m_spec_l7Walk_L1]
    by_cases h : n < es.length
    · have he := hes es[n] (List.getElem_mem h)
      obtain ⟨k, hk⟩ := at?_some_iff (l := kids) (i := es[n]) he
      obtain ⟨v, hv⟩ := at?_some_iff (l := R) (i := es[n]) (by rw [hR]; exact he)
      have hkm := at_mem hk
      have hkb := hK.2 k hkm
      have hq := hr k hkm r0 C m nn h0 hC hm hn
      obtain ⟨o1, o2, o3⟩ := kidQ_ok hkb h0 hC
      rw [drop_cons h, fsL, if_pos (lt_cast h), at?_lt h, Option.bind_some, hk, Option.bind_some, hq, bB5, bB5]
      by_cases h1q : (kidQ k.code r0 C).1 = 1
      · have hin := ih (n + 1) (R.set es[n].toNat (gI (kidQ k.code r0 C).2.1 0)) (kidQ k.code r0 C).2.2 (by omega) (by omega) (by rw [List.length_set]; exact hR) o3
        rw [if_pos h1q, Option.bind_some, (o2.gt (i := 0) (by decide) (by decide)).1, Option.bind_some, hv, Option.bind_some, bB4, if_pos (in64_of (by omega) (by omega))]
        dsimp only
        rw [if_pos h1q]
        exact hin
      · have hin := ih (n + 1) R (kidQ k.code r0 C).2.2 (by omega) (by omega) hR o3
        rw [if_neg h1q, bB4, if_pos (in64_of (by omega) (by omega))]
        dsimp only
        rw [if_neg h1q]
        exact hin
    · rw [if_neg (ge_cast h), drop_end h, fsL]
theorem s_over_L {F : Nat} {kids : List KidD} (hk : kids.length ≤ 3) (z5 z6 : List Int) (z9 : List MarkD) (z10 : Int) (z17 z18 : List Int) (z19 : Int) (res R : List Int) (hres : res.length = kids.length) (hR : R.length = 4) (h1 : ∀ j : Nat, j < kids.length → R[j]? = res[j]?) :
    ∀ K n W, n ≤ kids.length → kids.length < n + K → W.length = 4 → (∀ j : Nat, j < n → W[j]? = R[j]?) → (∀ j : Nat, kids.length ≤ j → W[j]? = R[j]?) → m_spec_l7Walk_L2 F kids z5 z6 z9 z10 z17 z18 z19 res K W (n : Int) = some (.brk (R, z17, z18, z19, z9, z10 + 1)) := by
  intro K
  induction K with
  | zero => intro n W h1 h2; omega
  | succ K ih =>
    intro n W g1 g2 hW g3 g4
    rw [m_spec_l7Walk_L2]
    have hlen : ((List.replicate ((kids.length : Int) : Int).toNat (0 : Int)).length : Int) = (kids.length : Int) := by simp
    rw [hlen]
    by_cases h : n < kids.length
    · obtain ⟨v, hv⟩ := at?_some_iff (l := res) (i := (n : Int)) (by omega)
      obtain ⟨u, hu⟩ := at?_some_iff (l := W) (i := (n : Int)) (by omega)
      rw [if_pos (lt_cast h), hv, Option.bind_some, hu, Option.bind_some, if_pos (in64_of (by omega) (by omega))]
      have hv' := hv
      rw [at?_nat] at hv'
      refine ih (n + 1) (W.set (n : Int).toNat v) (by omega) (by omega) (by rw [List.length_set]; exact hW) (fun j hj => ?_) (fun j hj => ?_)
      · rw [Int.toNat_natCast]
        by_cases hjn : j = n
        · subst hjn; rw [List.getElem?_set_self (by omega), h1 j h, hv']
        · rw [List.getElem?_set_ne (by omega)]; exact g3 j (by omega)
      · rw [Int.toNat_natCast, List.getElem?_set_ne (by omega)]; exact g4 j hj
    · have hWR : W = R := by
        apply List.ext_getElem?
        intro j
        by_cases hj : j < n
        · exact g3 j hj
        · exact g4 j (by omega)
      rw [if_neg (ge_cast h), hWR]

/-! The two forks agree. -/
theorem fk_agree {kids : List KidD} (hk3 : kids.length ≤ 3) {r0 : List Int} : ∀ es R res C, InR es kids.length → es.Nodup → R.length = 4 → res.length = kids.length → (∀ e ∈ es, res[e.toNat]? = some 0) →
    (fkL kids r0 es R C).2 = (fsL kids r0 es res C).2 ∧ (fsL kids r0 es res C).1.length = kids.length ∧ ∀ j : Nat, ((j : Int) ∈ es → (fkL kids r0 es R C).1[j]? = (fsL kids r0 es res C).1[j]?) ∧ ((j : Int) ∉ es → (fkL kids r0 es R C).1[j]? = R[j]? ∧ (fsL kids r0 es res C).1[j]? = res[j]?) := by
  intro es
  induction es with
  | nil => intro R res C _ _ hR hres _; exact ⟨rfl, hres, fun j => ⟨fun h => (by cases h), fun _ => ⟨rfl, rfl⟩⟩⟩
  | cons e es ih =>
    intro R res C hi hnd hR hres hz
    have hei := hi e (List.mem_cons_self ..)
    obtain ⟨k, hk⟩ := at?_some_iff (l := kids) (i := e) hei
    obtain ⟨hne, hnd'⟩ := List.nodup_cons.1 hnd
    rw [fkL, fsL, hk]
    dsimp only
    generalize hW : (if (kidQ k.code r0 C).1 = 1 then res.set e.toNat (gI (kidQ k.code r0 C).2.1 0) else res) = W
    have hWl : W.length = kids.length := by rw [← hW]; split <;> simp [hres]
    have hWe : W[e.toNat]? = some (kidV k.code r0 C) := by
      rw [← hW]; unfold kidV
      split
      · rw [List.getElem?_set_self (by omega)]
      · exact hz e (List.mem_cons_self ..)
    have hWo : ∀ j : Nat, (j : Int) ≠ e → W[j]? = res[j]? := fun j hj => by
      rw [← hW]; split
      · rw [List.getElem?_set_ne (by omega)]
      · rfl
    obtain ⟨a1, a2, a3⟩ := ih (R.set e.toNat (kidV k.code r0 C)) W (kidQ k.code r0 C).2.2 (fun a ha => hi a (List.mem_cons_of_mem _ ha)) hnd' (by rw [List.length_set]; exact hR) hWl (fun a ha => by
      have hai := hi a (List.mem_cons_of_mem _ ha)
      have hae : a ≠ e := fun q => hne (q ▸ ha)
      rw [hWo a.toNat (by omega)]; exact hz a (List.mem_cons_of_mem _ ha))
    refine ⟨a1, a2, fun j => ⟨fun hj => ?_, fun hj => ?_⟩⟩
    · rcases List.mem_cons.1 hj with hj | hj
      · have := (a3 j).2 (by rw [hj]; exact hne)
        have ej : e.toNat = j := by omega
        rw [this.1, this.2, ← ej, hWe, List.getElem?_set_self (by omega)]
      · exact (a3 j).1 hj
    · have hj1 : (j : Int) ≠ e := fun q => hj (by rw [q]; exact List.mem_cons_self ..)
      have hj2 : (j : Int) ∉ es := fun q => hj (List.mem_cons_of_mem _ q)
      obtain ⟨b1, b2⟩ := (a3 j).2 hj2
      exact ⟨by rw [b1, List.getElem?_set_ne (by omega)], by rw [b2, hWo j hj1]⟩
def FullO (es : List Int) (n : Nat) : Prop := InR es n ∧ es.Nodup ∧ ∀ j : Nat, j < n → (j : Int) ∈ es
theorem s_fork {F : Nat} {kids : List KidD} {rcf : List I4 → List KidD → List Int → List Int → List Int → List Int → Int → Option (Int × List Int × List Int × List Int × Int)} (hK : KidsOk kids) (hr : KidRun kids rcf) {es : List Int} (hes : FullO es kids.length) (hel : es.length ≤ 3000000) (hF : 3000000 < F) (r c m : List Int) (n : Int) (q : List MarkD) (pc : Int) (h0 : VL 4 65535 r) (hc : VL 8 65535 c) (hm : VL 8 65536 m) (hn : 0 ≤ n ∧ n ≤ 65535) :
    (bind4 (m_spec_l7Walk_L1 F kids es rcf r q pc F c m n (List.replicate ((kids.length : Int) : Int).toNat (0 : Int)) 0) fun z17 z18 z19 z20 => m_spec_l7Walk_L2 F kids r c q pc z17 z18 z19 z20 F r 0) = some (.brk ((fkL kids r es r c).1, (fkL kids r es r c).2, m, n, q, pc + 1)) := by
  have hk3 := hK.1
  have hzl : (List.replicate ((kids.length : Int) : Int).toNat (0 : Int)).length = kids.length := by simp
  have h1 := s_fork_L (F := F) hK hr hes.1 hel h0 hm hn q pc F 0 (List.replicate ((kids.length : Int) : Int).toNat (0 : Int)) c (Nat.zero_le _) (by omega) hzl hc
  have h1' : m_spec_l7Walk_L1 F kids es rcf r q pc F c m n (List.replicate ((kids.length : Int) : Int).toNat (0 : Int)) 0 = _ := h1
  obtain ⟨a1, a2, a3⟩ := fk_agree hk3 (r0 := r) es r (List.replicate ((kids.length : Int) : Int).toNat (0 : Int)) c hes.1 hes.2.1 h0.1 hzl (fun e he => by
    have := hes.1 e he
    rw [List.getElem?_replicate, if_pos (by simp; omega)])
  rw [h1', bB4, List.drop_zero, ← a1]
  have hl := (fkL_ok hK h0 es r c hes.1 h0 hc).1.1
  exact s_over_L (F := F) hk3 r c q pc (fkL kids r es r c).2 m n _ (fkL kids r es r c).1 a2 hl (fun j hj => (a3 j).1 (hes.2.2 j hj)) F 0 r (Nat.zero_le _) (by omega) h0.1 (fun j hj => by omega) (fun j hj => ((a3 j).2 (fun q => by
    have := hes.1 _ q; omega)).1.symm)
end Go.Proofs.Ytknghnmcckjjbaa
