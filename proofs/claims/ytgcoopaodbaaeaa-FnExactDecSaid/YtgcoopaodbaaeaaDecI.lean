/- Dec of the program. -/
import Derived.Test.YtgcoopaodbaaeaaRows
import Derived.Test.YtgcoopaodbaaeaaHex
namespace Go.Proofs.Ytgcoopaodbaaeaa
open Go Go.RowKit

/-- The decimal digits of m, the lowest first. -/
def revD : Nat → Nat → List UInt8
  | 0, _ => []
  | f + 1, m => if m = 0 then [] else UInt8.ofNat (48 + m % 10) :: revD f (m / 10)
def decOf (n : Int) : List UInt8 := if n = 0 then [48] else (if n < 0 then [45] else []) ++ (revD 20 n.natAbs).reverse

theorem quoAbs (x : Int) : (x.tdiv 10).natAbs = x.natAbs / 10 := by rw [Int.natAbs_tdiv]; rfl
theorem remAbs (x : Int) : (x.tmod 10).natAbs = x.natAbs % 10 := by rw [Int.natAbs_tmod]; rfl
theorem tdiv_range (x : Int) (h0 : -9223372036854775808 ≤ x) (h1 : x ≤ 9223372036854775807) : -922337203685477581 ≤ x.tdiv 10 ∧ x.tdiv 10 ≤ 922337203685477581 := by
  have := quoAbs x
  omega
theorem tmod_range (x : Int) : -9 ≤ x.tmod 10 ∧ x.tmod 10 ≤ 9 := by
  have := remAbs x
  omega

/-- ys is xs with the first p and the last p elements exchanged. -/
def Swp (xs ys : List UInt8) (p : Nat) : Prop := ys.length = xs.length ∧ ∀ k, k < xs.length → ys.getD k 0 = if k < p ∨ xs.length - p ≤ k then xs.getD (xs.length - 1 - k) 0 else xs.getD k 0
theorem Swp.zero (xs : List UInt8) : Swp xs xs 0 := ⟨rfl, fun k hk => by rw [if_neg (by omega)]⟩
theorem getD_set' (l : List UInt8) (i j : Nat) (a : UInt8) (hi : i < l.length) : (l.set i a).getD j 0 = if i = j then a else l.getD j 0 := by
  simp only [List.getD, List.getElem?_set]
  by_cases h : i = j
  · subst h; simp [hi]
  · simp [h]
theorem Swp.step {xs ys : List UInt8} {p : Nat} (h : Swp xs ys p) (hp : p < xs.length - 1 - p) :
    Swp xs ((ys.set p (ys.getD (xs.length - 1 - p) 0)).set (xs.length - 1 - p) (ys.getD p 0)) (p + 1) := by
  refine ⟨by simp [h.1], fun k hk => ?_⟩
  rw [getD_set' _ _ _ _ (by simp [h.1]; omega), getD_set' _ _ _ _ (by rw [h.1]; omega), h.2 p (by omega), h.2 (xs.length - 1 - p) (by omega), h.2 k hk]
  by_cases h1 : xs.length - 1 - p = k
  · subst h1
    rw [if_pos rfl, if_neg (by omega), if_pos (by omega)]
    congr 1; omega
  · rw [if_neg h1]
    by_cases h2 : p = k
    · subst h2
      rw [if_pos rfl, if_neg (by omega), if_pos (by omega)]
    · rw [if_neg h2]
      by_cases h3 : k < p ∨ xs.length - p ≤ k
      · rw [if_pos h3, if_pos (by omega)]
      · rw [if_neg h3, if_neg (by omega)]
theorem Swp.done {xs ys : List UInt8} {p : Nat} (h : Swp xs ys p) (hp : xs.length - 1 - p ≤ p) : ys = xs.reverse := by
  apply List.ext_getElem?
  intro k
  by_cases hk : k < xs.length
  · have h1 := h.2 k hk
    simp only [List.getD] at h1
    rw [List.getElem?_eq_getElem (by rw [h.1]; exact hk), List.getElem?_eq_getElem (by simpa using hk)]
    rw [List.getElem?_eq_getElem (by rw [h.1]; exact hk)] at h1
    simp only [Option.getD_some] at h1
    rw [h1, List.getElem_reverse]
    congr 1
    by_cases h3 : k < p ∨ xs.length - p ≤ k
    · rw [if_pos h3, List.getElem?_eq_getElem (by omega)]; rfl
    · rw [if_neg h3, List.getElem?_eq_getElem hk]
      simp only [Option.getD_some]
      congr 1; omega
  · rw [List.getElem?_eq_none (by rw [h.1]; omega), List.getElem?_eq_none (by simp; omega)]
theorem u8s_set (l : List UInt8) (i : Nat) (b : UInt8) : (u8s l).set i (.int .u8 b.toNat) = u8s (l.set i b) := by simp [u8s, List.map_set]
theorem u8s_get (l : List UInt8) (i : Nat) (h : i < l.length) : (u8s l)[i]? = some (.int .u8 (l.getD i 0).toNat) := by
  simp [u8s, List.getD, List.getElem?_eq_getElem h]

set_option maxHeartbeats 800000 in
theorem dec_impl (n : Int) (h0 : -9223372036854775808 ≤ n) (h1 : n ≤ 9223372036854775807) (w : World) :
    Calls Try.prog 25 #[.int .i64 n] w fun e w' => e = .returned (.string ⟨(decOf n).toArray⟩) ∧ Below w.heap.size w w' := by
  by_cases hn : n = 0
  · subst hn
    have hr : decOf 0 = [48] := rfl
    rw [hr]
    go_enter Try.func25, Try.ntmps25
    go_wp2
    go_ret
    exact ⟨rfl, Below.refl _ _⟩
  · have hr : decOf n = (if n < 0 then [45] else []) ++ (revD 20 n.natAbs).reverse := by simp [decOf, hn]
    have HR := Lib.hid hr
    have H0 := Lib.hid h0
    have H1 := Lib.hid h1
    have HN := Lib.hid hn
    have hnb : (n == 0) = false := by rw [beq_eq_false_iff_ne]; exact hn
    clear hr h0 h1 hn
    go_enter Try.func25, Try.ntmps25
    go_wp2
    go_loopw [3, 4, 5] (fun v x _ wr => ∃ (m : Int) (f : Nat) (acc : List UInt8), x = .int .i64 m ∧ Hid (m.natAbs < 10 ^ f ∧ acc ++ revD f m.natAbs = revD 20 n.natAbs ∧ acc.length + f = 20 ∧ -9223372036854775808 ≤ m ∧ m ≤ 9223372036854775807) ∧ wr.ownsRow w.heap.size 5 1 v acc.length (u8s acc) ∧ Below w.heap.size w wr) (fun _ x _ _ => (intOf x).natAbs)
    case atStart => exact ⟨n, 20, [], rfl, ⟨by have := H0.out; have := H1.out; omega, rfl, rfl, H0.out, H1.out⟩, World.ownsRow_made w #[] 0 (Nat.le_refl _) (by decide) rfl, (Below.refl _ _).alloc (Nat.le_refl _) _⟩
    case round =>
      obtain ⟨m, f, acc, rfl, HP, ho, hb⟩ := hrel
      have hl20 : acc.length ≤ 20 := by have := HP.2.2.1; omega
      by_cases hm : m = 0
      · subst hm
        obtain ⟨D, hD⟩ : ∃ D, D = revD 20 n.natAbs := ⟨_, rfl⟩
        have hacc : acc = D := by
          have := HP.2.1
          rw [hD, ← this]
          cases f with
          | zero => simp [revD]
          | succ f => simp [revD]
        subst hacc
        have hlen0 : 0 < acc.length := by
          rw [hD, revD, if_neg (by have := HN.out; omega)]; simp
        have HD := Lib.hid hD
        clear hD
        by_cases hneg : n < 0
        · obtain ⟨g0, c0, rfl, hg0, hg0'⟩ := ho.form hlen0
          go_wp2_with (at_builtin; go_must (refine wpList_ap1 rfl elU8 _ _ rfl w.heap.size _ acc.length _ rfl (World.ownsRow.alloc ho _) _ 1 1 _ _ _ rfl (heap_alloc_new _ _) rfl (by simp [Value.oneCell']) (by omega) (by omega) (by decide) (by simp; have := hb.size; omega) ?_; intro g cap w2 ho2 hb2))
          rw [show (u8s acc ++ #[Value.int .u8 45].toList) = u8s (acc ++ [45]) from by rw [u8s_append]; rfl] at ho2
          have hb3 := (hb.alloc hb.size _).trans hb2
          have hfin : decOf n = (acc ++ [45]).reverse := by rw [HR.out, if_pos hneg, HD.out]; simp
          have hLn : (acc ++ [45]).length = acc.length + 1 := by simp
          have hL20 : acc.length + 1 ≤ 21 := by omega
          clear ho hb hb2
          generalize hX : acc ++ [45] = X at ho2 hfin hLn
          generalize hLL : acc.length + 1 = L at *
          have HLL := Lib.hid hLL
          clear hX hLL
          go_wp2
          go_loopw [6, 7] (fun i j wr => ∃ (p : Nat) (ys : List UInt8), i = .int .i64 p ∧ j = .int .i64 ((L : Int) - 1 - p) ∧ 2 * p ≤ L ∧ Hid (Swp X ys p) ∧ wr.ownsRow w.heap.size 5 1 (.slice (some ⟨g, 0, none⟩) L cap) L (u8s ys) ∧ Below w.heap.size w wr) (fun i _ _ => L - (intOf i).toNat)
          case atStart => exact ⟨0, X, rfl, by have := HLL.out; go_num, by omega, Swp.zero X, ho2, hb3⟩
          case round =>
            obtain ⟨p, ys, rfl, rfl, h2p, HSW, ho, hb⟩ := hrel
            clear ho2 hb3
            by_cases hpq : p < L - 1 - p
            · obtain ⟨q, hq⟩ : ∃ q, q = L - 1 - p := ⟨_, rfl⟩
              have hqi : ((L : Int) - 1 - p) = (q : Int) := by omega
              have hyl : ys.length = L := by rw [HSW.1, hLn]
              have hc1 := ho.cellAt p (by omega)
              have hc2 := ho.cellAt q (by omega)
              rw [u8s_get ys p (by omega)] at hc1
              rw [u8s_get ys q (by omega)] at hc2
              have hf1 := ho.frozenAt p
              have hf2 := ho.frozenAt q
              have hgB := (ho.lt g rfl).1
              have hs1 := ho.stored p (.int .u8 (ys.getD q 0).toNat)
              rw [u8s_set] at hs1
              have hs2 := hs1.1.stored q (.int .u8 (ys.getD p 0).toNat)
              rw [u8s_set] at hs2
              have hc3 : (wr.setCell ⟨g, p, none⟩ (.int .u8 (ys.getD q 0).toNat)).cell? ⟨g, q, none⟩ = some (.int .u8 (ys.getD q 0).toNat) := by
                rw [World.cell?_setCell_other _ _ _ _ (by simp <;> omega), hc2]
              have HNEW : Hid (Swp X ((ys.set p (ys.getD q 0)).set q (ys.getD p 0)) (p + 1)) := by
                have := HSW.step (by omega)
                rw [hLn, ← hq] at this
                exact this
              have HO := Lib.hid hs2.1
              have HQ := Lib.hid hq
              have hpq' : p < q := by omega
              have hqL : q < L := by omega
              have hpL : p < L := by omega
              generalize hyq : ys.getD q 0 = yq at *
              generalize hyp : ys.getD p 0 = yp at *
              clear hs1 hs2 hq hyq hyp ho hpq hyl
              rw [hqi]
              clear hqi
              go_wp2
              refine wp_region_canon [(0, true), (1, true), (2, false), (3, false), (4, true), (5, true), (6, true), (7, true), (8, true), (9, true), (10, true), (11, true), (12, true), (13, true), (14, true), (15, true)] (fun _ => True) (by kernel_rfl) (by kernel_rfl) ?_
              simp only [List.map_cons, List.map_nil, List.getD_cons_zero, List.getD_cons_succ]
              (repeat ((first | refine wpC_now (by rfl) (fun K hK => ?_) | refine wpC_any (by rfl) trivial (fun K hK => ?_)); simp only [YR]; go_simp; (try go_bits); refine hK _ ?_; clear hK K))
              (refine wpC_step (by rfl) (by rfl) (fun K hK => ?_); go_simp; refine hK _ _ trivial ?_; clear hK K)
              (repeat ((first | refine wpC_now (by rfl) (fun K hK => ?_) | refine wpC_any (by rfl) trivial (fun K hK => ?_)); simp only [YR]; go_simp; (try go_bits); refine hK _ ?_; clear hK K))
              (refine wpC_step (by rfl) (by rfl) (fun K hK => ?_); go_simp; refine hK _ _ trivial ?_; clear hK K)
              (refine wpC_nil (NoPanic.normal ?_))
              go_wp2
              refine ⟨⟨p + 1, (ys.set p yq).set q yp, by go_num, by have := HQ.out; go_num, by have := HQ.out; omega, HNEW, World.ownsRow.drew HO.out, ((hb.setCell (by exact hgB) _).setCell (by exact hgB) _).drew⟩, by simp [intOf]; omega⟩
            · have hge : ¬ ((p : Int) < (L : Int) - 1 - p) := by omega
              have hdone := HSW.out.done (by omega)
              rw [hdone] at ho
              have hcv := conv_own (P := Try.prog) Try.underlying38 Try.underlying5 Try.underlying9 ho
              rw [← hfin] at hcv
              clear ho hpq hdone hfin HSW
              go_wp2
              go_ret
              exact ⟨rfl, hb⟩
        · obtain ⟨g, cap, rfl, hg0, hg0'⟩ := ho.form hlen0
          have hfin : decOf n = acc.reverse := by rw [HR.out, if_neg hneg, HD.out]; simp
          have ho2 := ho
          have hb3 := hb
          have hLn : acc.length = acc.length := rfl
          have hL20 : acc.length ≤ 21 := by omega
          clear ho hb
          obtain ⟨X, hX⟩ : ∃ X, X = acc := ⟨_, rfl⟩
          have HAX := Lib.hid hX
          rw [← hX] at hfin
          rw [show u8s acc = u8s X from by rw [hX]] at ho2
          rw [show (acc.length = acc.length) = (X.length = acc.length) from by rw [hX]] at hLn
          generalize hLL : acc.length = L at *
          have HLL := Lib.hid hLL
          clear hX hLL
          go_wp2
          go_loopw [6, 7] (fun i j wr => ∃ (p : Nat) (ys : List UInt8), i = .int .i64 p ∧ j = .int .i64 ((L : Int) - 1 - p) ∧ 2 * p ≤ L ∧ Hid (Swp X ys p) ∧ wr.ownsRow w.heap.size 5 1 (.slice (some ⟨g, 0, none⟩) L cap) L (u8s ys) ∧ Below w.heap.size w wr) (fun i _ _ => L - (intOf i).toNat)
          case atStart => exact ⟨0, X, rfl, by have := HLL.out; go_num, by omega, Swp.zero X, ho2, hb3⟩
          case round =>
            obtain ⟨p, ys, rfl, rfl, h2p, HSW, ho, hb⟩ := hrel
            clear ho2 hb3
            by_cases hpq : p < L - 1 - p
            · obtain ⟨q, hq⟩ : ∃ q, q = L - 1 - p := ⟨_, rfl⟩
              have hqi : ((L : Int) - 1 - p) = (q : Int) := by omega
              have hyl : ys.length = L := by rw [HSW.1, hLn]
              have hc1 := ho.cellAt p (by omega)
              have hc2 := ho.cellAt q (by omega)
              rw [u8s_get ys p (by omega)] at hc1
              rw [u8s_get ys q (by omega)] at hc2
              have hf1 := ho.frozenAt p
              have hf2 := ho.frozenAt q
              have hgB := (ho.lt g rfl).1
              have hs1 := ho.stored p (.int .u8 (ys.getD q 0).toNat)
              rw [u8s_set] at hs1
              have hs2 := hs1.1.stored q (.int .u8 (ys.getD p 0).toNat)
              rw [u8s_set] at hs2
              have hc3 : (wr.setCell ⟨g, p, none⟩ (.int .u8 (ys.getD q 0).toNat)).cell? ⟨g, q, none⟩ = some (.int .u8 (ys.getD q 0).toNat) := by
                rw [World.cell?_setCell_other _ _ _ _ (by simp <;> omega), hc2]
              have HNEW : Hid (Swp X ((ys.set p (ys.getD q 0)).set q (ys.getD p 0)) (p + 1)) := by
                have := HSW.step (by omega)
                rw [hLn, ← hq] at this
                exact this
              have HO := Lib.hid hs2.1
              have HQ := Lib.hid hq
              have hpq' : p < q := by omega
              have hqL : q < L := by omega
              have hpL : p < L := by omega
              generalize hyq : ys.getD q 0 = yq at *
              generalize hyp : ys.getD p 0 = yp at *
              clear hs1 hs2 hq hyq hyp ho hpq hyl
              rw [hqi]
              clear hqi
              go_wp2
              refine wp_region_canon [(0, true), (1, true), (2, false), (3, false), (4, true), (5, true), (6, true), (7, true), (8, true), (9, true), (10, true), (11, true), (12, true), (13, true), (14, true), (15, true)] (fun _ => True) (by kernel_rfl) (by kernel_rfl) ?_
              simp only [List.map_cons, List.map_nil, List.getD_cons_zero, List.getD_cons_succ]
              (repeat ((first | refine wpC_now (by rfl) (fun K hK => ?_) | refine wpC_any (by rfl) trivial (fun K hK => ?_)); simp only [YR]; go_simp; (try go_bits); refine hK _ ?_; clear hK K))
              (refine wpC_step (by rfl) (by rfl) (fun K hK => ?_); go_simp; refine hK _ _ trivial ?_; clear hK K)
              (repeat ((first | refine wpC_now (by rfl) (fun K hK => ?_) | refine wpC_any (by rfl) trivial (fun K hK => ?_)); simp only [YR]; go_simp; (try go_bits); refine hK _ ?_; clear hK K))
              (refine wpC_step (by rfl) (by rfl) (fun K hK => ?_); go_simp; refine hK _ _ trivial ?_; clear hK K)
              (refine wpC_nil (NoPanic.normal ?_))
              go_wp2
              refine ⟨⟨p + 1, (ys.set p yq).set q yp, by go_num, by have := HQ.out; go_num, by have := HQ.out; omega, HNEW, World.ownsRow.drew HO.out, ((hb.setCell (by exact hgB) _).setCell (by exact hgB) _).drew⟩, by simp [intOf]; omega⟩
            · have hge : ¬ ((p : Int) < (L : Int) - 1 - p) := by omega
              have hdone := HSW.out.done (by omega)
              rw [hdone] at ho
              have hcv := conv_own (P := Try.prog) Try.underlying38 Try.underlying5 Try.underlying9 ho
              rw [← hfin] at hcv
              clear ho hpq hdone hfin HSW
              go_wp2
              go_ret
              exact ⟨rfl, hb⟩
      · have hmb : (m != 0) = true := by simpa using hm
        have hq := tdiv_range m HP.2.2.2.1 HP.2.2.2.2
        have hrr := tmod_range m
        have hqa := quoAbs m
        have hra := remAbs m
        generalize hgq : m.tdiv 10 = q at hq hqa
        generalize hgr : m.tmod 10 = r at hrr hra
        have HQA := Lib.hid hqa
        have HF : Hid (0 < f) := by
          rcases Nat.eq_zero_or_pos f with h | h
          · exfalso; have := HP.1; rw [h] at this; simp at this; exact hm this
          · exact h
        have HM := Lib.hid hm
        obtain ⟨b, hbn⟩ : ∃ b : UInt8, b = UInt8.ofNat (48 + m.natAbs % 10) := ⟨_, rfl⟩
        have hbi : (b.toNat : Int) = 48 + r.natAbs := by rw [hbn, hra]; simp; omega
        have HBN := Lib.hid hbn
        have HNEW : Hid (q.natAbs < 10 ^ (f - 1) ∧ (acc ++ [b]) ++ revD (f - 1) q.natAbs = revD 20 n.natAbs ∧ (acc ++ [b]).length + (f - 1) = 20 ∧ -9223372036854775808 ≤ q ∧ q ≤ 9223372036854775807) := by
          have hf : f = (f - 1) + 1 := by have := HF.out; omega
          obtain ⟨p1, p2, p3, _, _⟩ := HP
          rw [hf] at p1 p2
          refine ⟨?_, ?_, by simp; have := HF.out; omega, by omega, by omega⟩
          · rw [hqa]; rw [Nat.pow_succ] at p1; exact Nat.div_lt_of_lt_mul (by omega)
          · rw [← p2, revD, if_neg (by omega), hqa, hbn]; simp
        have HQD : Hid (q.natAbs < m.natAbs) := by show _ < _; omega
        clear hm hqa hra hbn
        by_cases hneg : r < 0
        · have hbi' : (b.toNat : Int) = 48 + -r := by omega
          have HB := Lib.hid hbi'
          clear hbi hbi'
          go_wp2_with (at_builtin; go_must (refine wpList_ap1 rfl elU8 _ _ rfl w.heap.size _ acc.length _ rfl (World.ownsRow.alloc ho _) _ 1 1 _ _ _ rfl (heap_alloc_new _ _) rfl (by simp [Value.oneCell']) (by omega) (by omega) (by decide) (by simp; have := hb.size; omega) ?_; intro g cap w2 ho2 hb2))
          refine ⟨⟨q, f - 1, acc ++ [b], rfl, HNEW, ?_, (hb.alloc hb.size _).trans hb2⟩, HQD.out⟩
          rw [u8s_append]
          simp only [u8s, List.map_cons, List.map_nil, HB.out, List.length_append, List.length_singleton]
          exact ho2
        · have hbi' : (b.toNat : Int) = 48 + r := by omega
          have HB := Lib.hid hbi'
          clear hbi hbi'
          go_wp2_with (at_builtin; go_must (refine wpList_ap1 rfl elU8 _ _ rfl w.heap.size _ acc.length _ rfl (World.ownsRow.alloc ho _) _ 1 1 _ _ _ rfl (heap_alloc_new _ _) rfl (by simp [Value.oneCell']) (by omega) (by omega) (by decide) (by simp; have := hb.size; omega) ?_; intro g cap w2 ho2 hb2))
          refine ⟨⟨q, f - 1, acc ++ [b], rfl, HNEW, ?_, (hb.alloc hb.size _).trans hb2⟩, HQD.out⟩
          rw [u8s_append]
          simp only [u8s, List.map_cons, List.map_nil, HB.out, List.length_append, List.length_singleton]
          exact ho2
end Go.Proofs.Ytgcoopaodbaaeaa
