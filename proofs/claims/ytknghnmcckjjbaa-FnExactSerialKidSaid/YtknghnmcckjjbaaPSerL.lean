/- The law of a kid alone. -/
import Derived.Test.YtknghnmcckjjbaaPSer2
namespace Go.Proofs.Ytknghnmcckjjbaa
open Go Go.RowKit
set_option linter.unusedVariables false
set_option linter.unusedSimpArgs false
theorem serKid_ok (x : List I4) (r c : List Int) : (serKid x r c).2.1.length ≤ 8 ∧ (serKid x r c).2.2.length ≤ 8 := by
  unfold serKid
  split
  · rename_i h
    obtain ⟨h1, h2, h3⟩ := h
    obtain ⟨_, k1, k2⟩ := kidQ_ok h1 (vl_of (k := 4) h2) (vl_of (k := 8) h3)
    have := k1.1; have := k2.1; omega
  · exact ⟨Nat.zero_le _, Nat.zero_le _⟩
theorem pure_FnExactSerialKid {x : List I4} {r c : List Int} (hx : x.length ≤ maxLen) (hr : r.length ≤ maxLen) (hc : c.length ≤ maxLen) : ∃ fuel, m_laws_FnExactSerialKid fuel x r c = some true := by
  refine ⟨1048600, ?_⟩
  generalize hF : (1048600 : Nat) = F
  unfold m_laws_FnExactSerialKid
  by_cases hs1 : (1048576 : Int) < (r.length : Int)
  · rw [if_pos hs1]
  rw [if_neg hs1]
  by_cases hs2 : (1048576 : Int) < (c.length : Int)
  · rw [if_pos hs2]
  rw [if_neg hs2, p_szOpS _ _ _ hx (by omega)]
  by_cases hs : (1048576 : Int) < (x.length : Int)
  · rw [if_pos hs]; rfl
  have hx' : x.length ≤ 1048576 := by omega
  have hr' : r.length ≤ 1048576 := by omega
  have hc' : c.length ≤ 1048576 := by omega
  rw [if_neg hs, Option.bind_some, if_neg (by omega)]
  obtain ⟨l1, l2⟩ := serKid_ok x r c
  have e1 := p_SerialKid F x r c hx' hr' hc' (by omega)
  have e2 := s_SerialKid F x r c hx' hr' hc' (by omega)
  generalize serKid x r c = q at *
  obtain ⟨q1, q2, q3⟩ := q
  dsimp only at l1 l2
  have t1 := p_toOpS F x hx' (by omega)
  have t2 := p_toIntS F r hr' (by omega)
  have t3 := p_toIntS F c hc' (by omega)
  have g1 := p_eqOpS F x x (by omega) (by omega)
  have g2 := p_eqIntS F r r (by omega) (by omega)
  have g3 := p_eqIntS F c c (by omega) (by omega)
  have g4 := p_eqIntS F q2 q2 (by omega) (by omega)
  have g5 := p_eqIntS F q3 q3 (by omega) (by omega)
  have m1 := p_markOpS F x hx' (by omega) 1 (by omega)
  have m2 := p_markIntS F r hr' (by omega) (1 + 4 * (x.length : Int)) (by omega)
  have m3 := p_markIntS F c hc' (by omega) (1 + 4 * (x.length : Int) + (r.length : Int)) (by omega)
  have m4 := p_markIntS F q2 (by omega) (by omega) 1 (by omega)
  have m5 := p_markIntS F q3 (by omega) (by omega) (1 + (q2.length : Int)) (by omega)
  have d4 := p_heldIntS F q2.length (by omega) (by omega) 1 (by omega)
  have d5 := p_heldIntS F q3.length (by omega) (by omega) (1 + (q2.length : Int)) (by omega)
  rw [decide_eq_true rfl] at g1 g2 g3 g4 g5
  simp only [t1, t2, t3, e1, e2, Option.bind_some, bind2, bind3, g1, g2, g3, g4, g5, if_true, Bool.not_true, contL, un1, Bool.false_eq_true, if_false, m1, m2, m3, m4, m5, d4, d5, show ¬ (1 + 4 * (x.length : Int) + (r.length : Int) + (c.length : Int) < 0) by omega, show ¬ (1 + (q2.length : Int) < 0) by omega, show ¬ (1 + (q2.length : Int) + (q3.length : Int) < 0) by omega]
end Go.Proofs.Ytknghnmcckjjbaa
