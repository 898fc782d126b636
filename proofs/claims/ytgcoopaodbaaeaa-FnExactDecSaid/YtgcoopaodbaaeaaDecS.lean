/- Dec of the reference. -/
import Derived.Test.YtgcoopaodbaaeaaRows
import Derived.Test.YtgcoopaodbaaeaaDecI
namespace Go.Proofs.Ytgcoopaodbaaeaa
open Go Go.RowKit

set_option maxHeartbeats 800000 in
theorem dec_spec (n : Int) (h0 : -9223372036854775808 ≤ n) (h1 : n ≤ 9223372036854775807) (w : World) :
    Calls Try.prog 24 #[.int .i64 n] w fun e w' => e = .returned (.string ⟨(decOf n).toArray⟩) ∧ Below w.heap.size w w' := by
  by_cases hn : n = 0
  · subst hn
    have hr : decOf 0 = [48] := rfl
    rw [hr]
    go_enter Try.func24, Try.ntmps24
    go_wp2
    go_ret
    exact ⟨rfl, Below.refl _ _⟩
  · have hr : decOf n = (if n < 0 then [45] else []) ++ (revD 20 n.natAbs).reverse := by simp [decOf, hn]
    have HR := Lib.hid hr
    have H0 := Lib.hid h0
    have H1 := Lib.hid h1
    have hnb : (n == 0) = false := by rw [beq_eq_false_iff_ne]; exact hn
    clear hr h0 h1 hn
    obtain ⟨sg, hsg⟩ : ∃ sg, sg = decide (n < 0) := ⟨_, rfl⟩
    have HSG := Lib.hid hsg
    have hsg' : decide (n < 0) = sg := hsg.symm
    clear hsg
    go_enter Try.func24, Try.ntmps24
    go_wp2
    go_loopw [0, 3, 5] (fun x o _ wr => ∃ (m : Int) (f : Nat) (acc : List UInt8), x = .int .i64 m ∧ o = .string ⟨acc.toArray⟩ ∧ Hid (m.natAbs < 10 ^ f ∧ (revD f m.natAbs).reverse ++ acc = (revD 20 n.natAbs).reverse ∧ acc.length + f = 20 ∧ -9223372036854775808 ≤ m ∧ m ≤ 9223372036854775807) ∧ Below w.heap.size w wr) (fun x _ _ _ => (intOf x).natAbs)
    case atStart => exact ⟨n, 20, [], rfl, rfl, ⟨by have := H0.out; have := H1.out; omega, by simp, rfl, H0.out, H1.out⟩, Below.refl _ _⟩
    case round =>
      obtain ⟨m, f, acc, rfl, rfl, HP, hb⟩ := hrel
      have hl20 : acc.length ≤ 20 := by have := HP.2.2.1; omega
      by_cases hm : m = 0
      · subst hm
        have hacc : Hid (acc = (revD 20 n.natAbs).reverse) := by
          have := HP.2.1
          show _ = _
          rw [← this]
          cases f with
          | zero => simp [revD]
          | succ f => simp [revD]
        have hsz : (ByteArray.mk acc.toArray).size ≤ 20 := by show acc.toArray.size ≤ 20; simp; omega
        clear hl20
        generalize hob : ByteArray.mk acc.toArray = ob at hsz
        have HOB := Lib.hid hob
        clear hob
        cases sg with
        | true =>
          have hneg : n < 0 := by simpa using HSG.out
          have hs1 : (ByteArray.mk #[45]).size = 1 := rfl
          go_wp2
          go_ret
          refine ⟨?_, hb⟩
          rw [HR.out, if_pos hneg, ← hacc.out, ← HOB.out]
          exact congrArg (fun s => Ending.returned (Value.string s)) (ba_append [45] acc)
        | false =>
          have hneg : ¬ n < 0 := by simpa using HSG.out
          go_wp2
          go_ret
          refine ⟨?_, hb⟩
          rw [HR.out, if_neg (by omega), ← hacc.out, ← HOB.out]
          rfl
      · have hmb : (m != 0) = true := by simpa using hm
        have hq := tdiv_range m HP.2.2.2.1 HP.2.2.2.2
        have hrr := tmod_range m
        have hqa := quoAbs m
        have hra := remAbs m
        generalize hgq : m.tdiv 10 = q at hq hqa
        generalize hgr : m.tmod 10 = r at hrr hra
        have HF : Hid (0 < f) := by
          rcases Nat.eq_zero_or_pos f with h | h
          · exfalso; have := HP.1; rw [h] at this; simp at this; exact hm this
          · exact h
        obtain ⟨b, hbn⟩ : ∃ b : UInt8, b = UInt8.ofNat (48 + m.natAbs % 10) := ⟨_, rfl⟩
        have hbi : (b.toNat : Int) = 48 + r.natAbs := by rw [hbn, hra]; simp; omega
        have HNEW : Hid (q.natAbs < 10 ^ (f - 1) ∧ (revD (f - 1) q.natAbs).reverse ++ (b :: acc) = (revD 20 n.natAbs).reverse ∧ (b :: acc).length + (f - 1) = 20 ∧ -9223372036854775808 ≤ q ∧ q ≤ 9223372036854775807) := by
          have hf : f = (f - 1) + 1 := by have := HF.out; omega
          obtain ⟨p1, p2, p3, _, _⟩ := HP
          rw [hf] at p1 p2
          refine ⟨?_, ?_, by simp; have := HF.out; omega, by omega, by omega⟩
          · rw [hqa]; rw [Nat.pow_succ] at p1; exact Nat.div_lt_of_lt_mul (by omega)
          · rw [← p2, revD, if_neg (by omega), hqa, hbn]; simp
        have HQD : Hid (q.natAbs < m.natAbs) := by show _ < _; omega
        have hsz : (ByteArray.mk acc.toArray).size ≤ 20 := by show acc.toArray.size ≤ 20; simp; omega
        clear hm hqa hra hbn hl20
        generalize hob : ByteArray.mk acc.toArray = ob at hsz
        have HOB := Lib.hid hob
        clear hob
        have hs1 : (ByteArray.mk #[b]).size = 1 := rfl
        have hcv := fun w' => conv_one (P := Try.prog) Try.underlying38 Try.underlying5 Try.underlying9 w' b
        by_cases hneg : r < 0
        · have hbi' : (b.toNat : Int) = 48 + -r := by omega
          rw [hbi'] at hcv
          clear hbi hbi'
          go_wp2
          refine ⟨⟨q, f - 1, b :: acc, rfl, ?_, HNEW, hb.alloc hb.size _⟩, HQD.out⟩
          rw [← HOB.out]
          exact congrArg Value.string (ba_append [b] acc)
        · have hbi' : (b.toNat : Int) = 48 + r := by omega
          rw [hbi'] at hcv
          clear hbi hbi'
          go_wp2
          refine ⟨⟨q, f - 1, b :: acc, rfl, ?_, HNEW, hb.alloc hb.size _⟩, HQD.out⟩
          rw [← HOB.out]
          exact congrArg Value.string (ba_append [b] acc)
end Go.Proofs.Ytgcoopaodbaaeaa
