/- The laws' own helpers on []int: copy, compare, mark, held. -/
import Derived.Test.YtmhdjnmfioaciaaRows
import Derived.Test.YtmhdjnmfioaciaaRd
namespace Go.Proofs.Ytmhdjnmfioaciaa
open Go Go.RowKit

theorem elInt : Elem Try.prog 38 3 (.int .i64 0) 1 8 := ⟨Try.underlying38, by kernel_rfl, rfl, by decide⟩
theorem getD_some {α : Type} {l : List α} {k : Nat} {d : α} (h : k < l.length) : l[k]? = some (l.getD k d) := by
  simp [List.getD, List.getElem?_eq_getElem h]
theorem take_set {α : Type} (l : List α) (k n : Nat) (d : α) (hk : k < l.length) (hn : l.length = n) :
    (l.take k ++ List.replicate (n - k) d).set k (l.getD k d) = l.take (k + 1) ++ List.replicate (n - (k + 1)) d := by
  have h1 : (l.take k).length = k := by simp; omega
  have h2 : n - k = (n - (k + 1)) + 1 := by omega
  have e : l.getD k d = l[k] := by simp [List.getD, List.getElem?_eq_getElem hk]
  rw [List.set_append_right _ _ (by omega), h1, Nat.sub_self, h2, List.replicate_succ, List.set_cons_zero, List.take_succ_eq_append_getElem hk, e, List.append_assoc]
  rfl
theorem made0i (n : Nat) : (madeCells (Value.int .i64 0).cells (n * 1)).toList = iCells (List.replicate n 0) := by
  rw [Nat.mul_one, show (Value.int .i64 0).cells = #[Value.int .i64 0] from rfl, toList_madeCells_one]
  simp [iCells]
/-- k, k+1, .. -/
def seqI (k : Int) (n : Nat) : List Int := (List.range n).map fun i => k + (i : Nat)
theorem seqI_length (k : Int) (n : Nat) : (seqI k n).length = n := by simp [seqI]
theorem seqI_get (k : Int) (n i : Nat) (h : i < n) : (seqI k n).getD i 0 = k + (i : Nat) := by simp [seqI, List.getD, h]
theorem seqI_succ (k : Int) (n : Nat) : seqI k (n + 1) = seqI k n ++ [k + (n : Nat)] := by simp [seqI, List.range_succ]

set_option maxRecDepth 20000 in
set_option maxHeartbeats 800000 in
theorem toIntS_any (a : Option Addr) (n c : Nat) (l : List Int) (w : World) (h : Rd w 1 a n (iCells l)) (hn : n ≤ 1048576) :
    Calls Try.prog 23 #[.slice a n c] w fun e w' => ∃ g, e = .returned (.slice (some ⟨g, 0, none⟩) n n) ∧ w'.ownsRow w.heap.size 3 1 (.slice (some ⟨g, 0, none⟩) n n) n (iCells l) ∧ Below w.heap.size w w' := by
  obtain rfl := h.int
  go_enter Try.func23, Try.ntmps23
  go_wp2_with (at_make; refine wpList_mkFull rfl elInt _ _ rfl _ _ _ _ l.length rfl rfl rfl rfl (by omega) (by decide) ?_; intro w1 hown _hgr hb1)
  rw [made0i] at hown
  clear _hgr
  go_loopw [4] (fun i wr => ∃ k : Nat, k ≤ l.length ∧ i = .int .i64 k ∧ wr.ownsRow w.heap.size 3 1 (.slice (some ⟨w.heap.size, 0, none⟩) l.length l.length) l.length (iCells (l.take k ++ List.replicate (l.length - k) 0)) ∧ Below w.heap.size w wr) (fun i _ => l.length - (intOf i).toNat)
  case atStart => exact ⟨0, Nat.zero_le _, rfl, by simpa using hown, hb1⟩
  case round =>
    obtain ⟨k, hk, rfl, ho, hb⟩ := hrel
    clear hown hb1
    have hr := h.below hb
    by_cases hlt : k < l.length
    · obtain ⟨b, o, rfl⟩ := hr.addr (by omega)
      have hc := hr.int_at k hlt
      have hst := ho.stored k (.int .i64 (l.getD k 0))
      have hcell := ho.cellAt k (by omega)
      rw [iCells_get _ k (by simp; omega)] at hcell
      have hfz := ho.frozenAt k
      rw [iCells_set, take_set l k l.length 0 hlt rfl] at hst
      have HST := Lib.hid hst.1
      generalize l.getD k 0 = x at hc HST
      clear hst ho h hr
      go_wp2
      exact ⟨⟨k + 1, by omega, by go_num, HST.out, hb.setCell (Nat.le_refl _) _⟩, by simp [intOf]; omega⟩
    · obtain rfl : k = l.length := by omega
      rw [List.take_of_length_le (Nat.le_refl _), Nat.sub_self, List.replicate_zero, List.append_nil] at ho
      clear h hr
      go_wp2
      go_ret
      exact ⟨w.heap.size, rfl, ho, hb⟩
set_option maxRecDepth 20000 in
set_option maxHeartbeats 800000 in
theorem eqIntS_any (a1 a2 : Option Addr) (n1 c1 n2 c2 : Nat) (l1 l2 : List Int) (w : World) (h1 : Rd w 1 a1 n1 (iCells l1)) (h2 : Rd w 1 a2 n2 (iCells l2)) (hn : n1 ≤ 1073741824) :
    Calls Try.prog 25 #[.slice a1 n1 c1, .slice a2 n2 c2] w fun e w' => e = .returned (.bool (decide (l1 = l2))) ∧ Below w.heap.size w w' := by
  obtain rfl := h1.int
  obtain rfl := h2.int
  by_cases hl : l1.length = l2.length
  · have hl' : ((l1.length : Int) != (l2.length : Int)) = false := by rw [bne_eq_false_iff_eq]; omega
    have HL := Lib.hid hl
    obtain ⟨R, hR⟩ : ∃ R, R = decide (l1 = l2) := ⟨_, rfl⟩
    rw [← hR]
    have HR := Lib.hid hR
    clear hR hl
    go_enter Try.func25, Try.ntmps25
    go_wp2
    go_loopw [5] (fun i wr => ∃ k : Nat, k ≤ l1.length ∧ i = .int .i64 k ∧ Hid (l1.take k = l2.take k) ∧ Below w.heap.size w wr) (fun i _ => l1.length - (intOf i).toNat)
    case atStart => exact ⟨0, Nat.zero_le _, rfl, rfl, Below.refl _ _⟩
    case round =>
      obtain ⟨k, hk, rfl, HP, hb⟩ := hrel
      have hr1 := h1.below hb
      have hr2 := h2.below hb
      by_cases hlt : k < l1.length
      · have hlt2 : k < l2.length := by have := HL.out; omega
        obtain ⟨b1, o1, rfl⟩ := hr1.addr (by omega)
        obtain ⟨b2, o2, rfl⟩ := hr2.addr (by omega)
        have hc1 := hr1.int_at k hlt
        have hc2 := hr2.int_at k hlt2
        have ht1 := List.take_succ_eq_append_getElem hlt
        have ht2 := List.take_succ_eq_append_getElem hlt2
        rw [show l1[k] = l1.getD k 0 from by simp [List.getD, List.getElem?_eq_getElem hlt]] at ht1
        rw [show l2[k] = l2.getD k 0 from by simp [List.getD, List.getElem?_eq_getElem hlt2]] at ht2
        generalize l1.getD k 0 = x at hc1 ht1
        generalize l2.getD k 0 = y at hc2 ht2
        have HT1 := Lib.hid ht1
        have HT2 := Lib.hid ht2
        clear ht1 ht2 h1 h2 hr1 hr2
        by_cases he : x = y
        · subst he
          go_wp2
          refine wp_region_canon [(0, true), (1, true), (2, true), (3, true), (4, true), (5, true), (6, true), (7, true), (8, true)] (fun _ => True) (by kernel_rfl) (by kernel_rfl) ?_
          simp only [List.map_cons, List.map_nil, List.getD_cons_zero, List.getD_cons_succ]
          (repeat ((first | refine wpC_now (by rfl) (fun K hK => ?_) | refine wpC_any (by rfl) trivial (fun K hK => ?_)); simp only [YR]; go_simp; (try go_bits); refine hK _ ?_; clear hK K))
          (refine wpC_nil (NoPanic.normal ?_))
          go_wp2
          exact ⟨⟨k + 1, by omega, by go_num, by show _ = _; rw [HT1.out, HT2.out, HP.out], hb.drew⟩, by simp [intOf]; omega⟩
        · have he' : (x != y) = true := by rw [bne_iff_ne]; exact he
          have HE := Lib.hid he
          clear he
          go_wp2
          refine wp_region_canon [(0, true), (1, true), (2, true), (3, true), (4, true), (5, true), (6, true), (7, true), (8, true)] (fun _ => True) (by kernel_rfl) (by kernel_rfl) ?_
          simp only [List.map_cons, List.map_nil, List.getD_cons_zero, List.getD_cons_succ]
          (repeat ((first | refine wpC_now (by rfl) (fun K hK => ?_) | refine wpC_any (by rfl) trivial (fun K hK => ?_)); simp only [YR]; go_simp; (try go_bits); refine hK _ ?_; clear hK K))
          (refine wpC_nil (NoPanic.normal ?_))
          go_wp2
          go_ret
          refine ⟨?_, hb.drew⟩
          have : ¬ (l1 = l2) := fun h => by
            have := congrArg (List.take (k + 1)) h
            rw [HT1.out, HT2.out, HP.out] at this
            exact HE.out (by simpa using this)
          rw [HR.out, decide_eq_false this]
          rfl
      · obtain rfl : k = l1.length := by omega
        clear h1 h2 hr1 hr2
        go_wp2
        go_ret
        refine ⟨?_, hb⟩
        have := HP.out
        rw [List.take_of_length_le (Nat.le_refl _), HL.out, List.take_of_length_le (Nat.le_refl _)] at this
        rw [HR.out, decide_eq_true this]
        rfl
  · have hl' : ((l1.length : Int) != (l2.length : Int)) = true := by rw [bne_iff_ne]; omega
    have : ¬ (l1 = l2) := fun h => hl (by rw [h])
    rw [decide_eq_false this]
    clear hl this
    go_enter Try.func25, Try.ntmps25
    go_wp2
    go_ret
    exact ⟨rfl, Below.refl _ _⟩
set_option maxRecDepth 20000 in
set_option maxHeartbeats 800000 in
theorem markIntS_any (B : Nat) (a : Option Addr) (n c : Nat) (l : List Int) (q : Int) (w : World) (h : w.ownsRow B 3 1 (.slice a n c) n (iCells l)) (h0 : 0 ≤ q) (hq : q ≤ 4294967296) (hn : n ≤ 1073741824) :
    Calls Try.prog 26 #[.slice a n c, .int .i64 q] w fun e w' => e = .returned (.int .i64 (q + (n : Nat))) ∧ w'.ownsRow B 3 1 (.slice a n c) n (iCells (seqI q n)) ∧ w.grownBy w' (Value.slice a n c).ownBlock := by
  have hln : l.length = n := by have := h.1; simp [iCells] at this; omega
  go_enter Try.func26, Try.ntmps26
  go_wp2
  go_loopw [1, 5] (fun x i wr => ∃ k : Nat, k ≤ n ∧ i = .int .i64 k ∧ x = .int .i64 (q + (k : Nat)) ∧ wr.ownsRow B 3 1 (.slice a n c) n (iCells (seqI q k ++ l.drop k)) ∧ w.grownBy wr (Value.slice a n c).ownBlock) (fun _ i _ => n - (intOf i).toNat)
  case atStart => exact ⟨0, Nat.zero_le _, rfl, by simp, by simpa [seqI] using h, World.grownBy.refl _ _⟩
  case round =>
    obtain ⟨k, hk, rfl, rfl, ho, hg⟩ := hrel
    clear h
    by_cases hlt : k < n
    · obtain ⟨g, cap, hv, hB, hgl⟩ := ho.form (by omega)
      simp only [Value.slice.injEq, true_and] at hv
      obtain ⟨rfl, rfl⟩ := hv
      have hst := ho.stored k (.int .i64 (q + (k : Nat)))
      have hcell := ho.cellAt k (by omega)
      rw [iCells_get _ k (by simp [seqI]; omega)] at hcell
      have hfz := ho.frozenAt k
      rw [iCells_set] at hst
      have hset : (seqI q k ++ l.drop k).set k (q + (k : Nat)) = seqI q (k + 1) ++ l.drop (k + 1) := by
        rw [List.set_append_right _ _ (by rw [seqI_length]; omega), seqI_length, Nat.sub_self, List.drop_eq_getElem_cons (by omega), List.set_cons_zero, seqI_succ]
        simp
      rw [hset] at hst
      have HST := Lib.hid hst
      clear hst ho hset
      go_wp2
      refine ⟨⟨k + 1, by omega, by go_num, by go_num, HST.out.1, ?_⟩, by simp [intOf]; omega⟩
      exact hg.trans' HST.out.2
    · obtain rfl : k = n := by omega
      rw [List.drop_eq_nil_of_le (by omega), List.append_nil] at ho
      go_wp2
      go_ret
      exact ⟨rfl, ho, hg⟩
set_option maxRecDepth 20000 in
set_option maxHeartbeats 800000 in
theorem heldIntS_any (a : Option Addr) (n c : Nat) (q : Int) (w : World) (h : Rd w 1 a n (iCells (seqI q n))) (h0 : 0 ≤ q) (hq : q ≤ 4294967296) (hn : n ≤ 1073741824) :
    Calls Try.prog 33 #[.slice a n c, .int .i64 q] w fun e w' => e = .returned (.int .i64 (q + (n : Nat))) ∧ w = w' := by
  go_enter Try.func33, Try.ntmps33
  go_wp2
  go_loop [1, 5] (fun x i => ∃ k : Nat, k ≤ n ∧ i = .int .i64 k ∧ x = .int .i64 (q + (k : Nat))) (fun _ i => n - (intOf i).toNat)
  case atStart => exact ⟨0, Nat.zero_le _, rfl, by simp⟩
  case round =>
    obtain ⟨k, hk, rfl, rfl⟩ := hrel
    by_cases hlt : k < n
    · obtain ⟨b, o, rfl⟩ := h.addr (by omega)
      have hc := h.int_at k (by rw [seqI_length]; exact hlt)
      rw [seqI_get q n k hlt] at hc
      clear h
      go_wp2
      exact ⟨⟨k + 1, by omega, by go_num, by go_num⟩, by simp [intOf]; omega⟩
    · obtain rfl : k = n := by omega
      clear h
      go_wp2
      go_ret
      exact ⟨rfl, rfl⟩
end Go.Proofs.Ytmhdjnmfioaciaa
