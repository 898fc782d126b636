/- The law of programs run alone. -/
import Derived.Test.YtknghnmcckjjbaaPSerial2
namespace Go.Proofs.Ytknghnmcckjjbaa
open Go Go.RowKit
set_option linter.unusedVariables false
set_option linter.unusedSimpArgs false
theorem pure_FnExactSerial {c : List I4} {x : List KidD} {o a m : List Int} {n : Int} (hc : c.length ≤ maxLen) (hx : TB (rowT x)) (ho : o.length ≤ maxLen) (ha : a.length ≤ maxLen) (hm : m.length ≤ maxLen) (_ : in64 n) : ∃ fuel, m_laws_FnExactSerial fuel c x o a m n = some true := by
  refine ⟨3000020, ?_⟩
  generalize hF : (3000020 : Nat) = F
  obtain ⟨hx1, hx2⟩ := kids_max hx
  have hsp := szS_pos x
  unfold m_laws_FnExactSerial
  by_cases hs1 : (1048576 : Int) < (o.length : Int)
  · rw [if_pos hs1]
  rw [if_neg hs1, p_szProg F c x 1048576 hc hx1 hx2 (by omega) (by omega), Option.bind_some]
  by_cases hs2 : (1048576 : Int) < (c.length : Int) + ((x.length : Int) + szS x)
  · rw [if_pos hs2, if_pos (by decide)]
  rw [if_neg hs2, if_neg (by omega), p_szThings F a m n _ ha hm (by omega), Option.bind_some]
  by_cases hs3 : 1048576 - (c.length : Int) - (x.length : Int) - szS x < (a.length : Int) + (m.length : Int)
  · rw [if_pos hs3, if_pos (by decide)]
  rw [if_neg hs3, if_neg (by omega)]
  have hc' : c.length ≤ 1048576 := by omega
  have hx' : x.length ≤ 1048576 := by omega
  have hB : KB F x := KB_of (by omega) (by omega)
  have hk : ∀ k ∈ x, k.code.length ≤ 1048576 := fun k hk => (hB k hk).1
  have ho' : o.length ≤ 1048576 := by omega
  have ha' : a.length ≤ 1048576 := by omega
  have hm' : m.length ≤ 1048576 := by omega
  obtain ⟨l1, l2, l3⟩ := serO_len c x o a m n
  have e1 := p_Serial F c x o a m n hc' hx' hB ho' ha' hm' (by omega)
  have e2 := s_Serial F c x o a m n hc' hx' hB ho' ha' hm' (by omega)
  generalize serO c x o a m n = q at *
  obtain ⟨q1, q2, q3, q4, q5⟩ := q
  dsimp only at l1 l2 l3
  have t1 := p_toProg F c x hc' (by omega) hx' hB (by omega)
  have t2 := p_toIntS F o ho' (by omega)
  have t3 := p_toThings F a m n ha' hm' (by omega) (by omega)
  have g1 := p_eqProg F c x c x hc' (by omega) hx' hB (by omega)
  have g2 := p_eqIntS F o o (by omega) (by omega)
  have g3 := p_eqThings F a m n a m n ha' hm' (by omega) (by omega)
  have g4 : m_laws_eqRun F q1 q2 q3 q4 q5 q1 q2 q3 q4 q5 = some true := by
    unfold m_laws_eqRun
    rw [if_pos rfl, p_eqIntS F q2 q2 (by omega) (by omega), Option.bind_some, p_eqThings F q3 q4 q5 q3 q4 q5 (by omega) (by omega) (by omega) (by omega), Option.bind_some, if_pos (decide_eq_true rfl), if_pos (decide_eq_true ⟨rfl, rfl, rfl⟩)]
  rw [decide_eq_true ⟨rfl, rfl⟩] at g1
  rw [decide_eq_true rfl] at g2
  rw [decide_eq_true ⟨rfl, rfl, rfl⟩] at g3
  have hms := markF_sz x (1 + 4 * (c.length : Int))
  have m1 : m_laws_markProg F c x 1 = some ((markF (1 + 4 * (c.length : Int)) x).2, seq4 1 c.length, (markF (1 + 4 * (c.length : Int)) x).1) := by
    unfold m_laws_markProg
    rw [p_markOpS F c hc' (by omega) 1 (by omega), bb2, p_markKG F x hx' hk (by omega) _ (by omega), bb2]
  have hm0 : 0 ≤ (markF (1 + 4 * (c.length : Int)) x).2 ∧ (markF (1 + 4 * (c.length : Int)) x).2 ≤ 100000000 := by omega
  generalize (markF (1 + 4 * (c.length : Int)) x).2 = M at *
  have m2 := p_markIntS F o ho' (by omega) M (by omega)
  have m3 : m_laws_markThings F a m n (M + (o.length : Int)) = some (M + (o.length : Int) + (a.length : Int) + (m.length : Int), seq1 (M + (o.length : Int)) a.length, seq1 (M + (o.length : Int) + (a.length : Int)) m.length) := by
    unfold m_laws_markThings
    rw [p_markIntS F a ha' (by omega) _ (by omega), bb2, p_markIntS F m hm' (by omega) _ (by omega), bb2]
  have m4 : m_laws_markRun F q1 q2 q3 q4 q5 1 = some (1 + (q2.length : Int) + (q3.length : Int) + (q4.length : Int), seq1 1 q2.length, seq1 (1 + (q2.length : Int)) q3.length, seq1 (1 + (q2.length : Int) + (q3.length : Int)) q4.length) := by
    unfold m_laws_markRun m_laws_markThings
    rw [p_markIntS F q2 (by omega) (by omega) 1 (by omega), bb2, p_markIntS F q3 (by omega) (by omega) _ (by omega), bb2, p_markIntS F q4 (by omega) (by omega) _ (by omega), bb2, bB3]
  have d4 : m_laws_heldRun F q1 (seq1 1 q2.length) (seq1 (1 + (q2.length : Int)) q3.length) (seq1 (1 + (q2.length : Int) + (q3.length : Int)) q4.length) q5 1 = some (1 + (q2.length : Int) + (q3.length : Int) + (q4.length : Int)) := by
    unfold m_laws_heldRun m_laws_heldThings
    rw [p_heldIntS F q2.length (by omega) (by omega) 1 (by omega), Option.bind_some, if_neg (by omega), p_heldIntS F q3.length (by omega) (by omega) _ (by omega), Option.bind_some, if_neg (by omega), p_heldIntS F q4.length (by omega) (by omega) _ (by omega), Option.bind_some, if_neg (by omega), Option.bind_some, if_neg (by omega)]
  have n1 : ¬ (M + (o.length : Int) + (a.length : Int) + (m.length : Int) < 0) := by omega
  have n2 : ¬ (1 + (q2.length : Int) + (q3.length : Int) + (q4.length : Int) < 0) := by omega
  simp only [t1, t2, t3, e1, e2, Option.bind_some, bind2, bind3, bind4, bind5, g1, g2, g3, g4, if_true, Bool.not_true, contL, un1, Bool.false_eq_true, if_false, m1, m2, m3, m4, d4, n1, n2]
end Go.Proofs.Ytknghnmcckjjbaa
