/- The laws' own helpers on records of 3 ints (Word). -/
import Derived.Test.YtmhdjnmfioaciaaRows
import Derived.Test.YtmhdjnmfioaciaaIntS
namespace Go.Proofs.Ytmhdjnmfioaciaa
open Go Go.RowKit

theorem elW : Elem Try.prog 27 61 (.agg #[.int .i64 0, .int .i64 0, .int .i64 0]) 3 24 := ⟨Try.underlying27, by kernel_rfl, rfl, by decide⟩
theorem made3 (n : Nat) : (madeCells (Value.agg #[.int .i64 0, .int .i64 0, .int .i64 0]).cells (n * 3)).toList = c3 (List.replicate n ⟨0, 0, 0⟩) := by
  apply List.ext_getElem?
  intro j
  have hc : (c3 (List.replicate n ⟨0, 0, 0⟩))[j]? = if j < n * 3 then some (.int .i64 0) else none := by
    induction n generalizing j with
    | zero => simp [c3]
    | succ n ih =>
      rw [List.replicate_succ]
      show (I3.cells ⟨0, 0, 0⟩ ++ c3 (List.replicate n ⟨0, 0, 0⟩))[j]? = _
      match j with
      | 0 => simp [I3.cells] <;> omega
      | 1 => simp [I3.cells] <;> omega
      | 2 => simp [I3.cells] <;> omega
      | j + 3 =>
        have := ih j
        rw [List.getElem?_append_right (by simp [I3.cells])]
        simp only [I3.cells, List.length_cons, List.length_nil]
        rw [show j + 3 - (0 + 1 + 1 + 1) = j from by omega, this]
        by_cases h : j < n * 3
        · rw [if_pos h, if_pos (by omega)]
        · rw [if_neg h, if_neg (by omega)]
  rw [hc]
  by_cases h : j < n * 3
  · rw [if_pos h]
    have : j % 3 = 0 ∨ j % 3 = 1 ∨ j % 3 = 2 := by omega
    simp only [madeCells, Value.cells]
    rcases this with hm | hm | hm <;> simp [h, hm]
  · rw [if_neg h]
    simp [madeCells, h]
theorem c3_set (l : List I3) (k : Nat) (x : I3) (h : k < l.length) :
    (((c3 l).set (k * 3) (.int .i64 x.a)).set (k * 3 + 1) (.int .i64 x.b)).set (k * 3 + 2) (.int .i64 x.c) = c3 (l.set k x) := by
  induction l generalizing k with
  | nil => simp at h
  | cons y l ih =>
    cases k with
    | zero => simp [c3, I3.cells]
    | succ k =>
      have := ih k (by simpa using h)
      rw [show (k + 1) * 3 = k * 3 + 3 from by omega]
      simpa [c3, I3.cells] using this
theorem I3.eq_iff (x y : I3) : x = y ↔ x.a = y.a ∧ x.b = y.b ∧ x.c = y.c := by cases x; cases y; simp

set_option maxRecDepth 20000 in
set_option maxHeartbeats 400000 in
theorem toWord_any (x : I3) (w : World) :
    Calls Try.prog 66 #[.agg #[.int .i64 x.a, .int .i64 x.b, .int .i64 x.c]] w fun e w' => e = .returned (.agg #[.int .i64 x.a, .int .i64 x.b, .int .i64 x.c]) ∧ Below w.heap.size w w' := by
  go_enter Try.func66, Try.ntmps66
  go_wp2
  exact bodyPost_ret (v := .agg #[.int .i64 x.a, .int .i64 x.b, .int .i64 x.c]) (by simp [results, Try.results66, go_sem]) rfl ⟨rfl, (by repeat (first | with_reducible exact Below.refl _ _ | (with_reducible refine Below.drew ?_) | (with_reducible refine Below.alloc ?_ (by first | omega | (simp; done) | (simp; omega)) _)))⟩
set_option maxRecDepth 20000 in
set_option maxHeartbeats 800000 in
theorem toWordS_any (a : Option Addr) (n c : Nat) (l : List I3) (w : World) (h : Rd w 3 a n (c3 l)) (hn : n ≤ 1048576) :
    Calls Try.prog 48 #[.slice a n c] w fun e w' => ∃ g, e = .returned (.slice (some ⟨g, 0, none⟩) n n) ∧ w'.ownsRow w.heap.size 61 3 (.slice (some ⟨g, 0, none⟩) n n) n (c3 l) ∧ Below w.heap.size w w' := by
  obtain rfl := h.n3
  go_enter Try.func48, Try.ntmps48
  go_wp2_with (at_make; refine wpList_mkFull rfl elW _ _ rfl _ _ _ _ l.length rfl rfl rfl rfl (by omega) (by decide) ?_; intro w1 hown _hgr hb1)
  rw [made3] at hown
  clear _hgr
  have hgt : w.heap.size < w1.heap.size := (hown.lt _ rfl).2
  go_loopw [4] (fun i wr => ∃ k : Nat, k ≤ l.length ∧ i = .int .i64 k ∧ wr.ownsRow w.heap.size 61 3 (.slice (some ⟨w.heap.size, 0, none⟩) l.length l.length) l.length (c3 (l.take k ++ List.replicate (l.length - k) ⟨0, 0, 0⟩)) ∧ Below w.heap.size w wr ∧ w.heap.size < wr.heap.size) (fun i _ => l.length - (intOf i).toNat)
  case atStart => exact ⟨0, Nat.zero_le _, rfl, by simpa using hown, hb1, hgt⟩
  case round =>
    obtain ⟨k, hk, rfl, ho, hb, hgt'⟩ := hrel
    clear hown hb1 hgt
    have hr := h.below hb
    by_cases hlt : k < l.length
    · obtain ⟨b, o, rfl⟩ := hr.addr (by omega)
      obtain ⟨x, hx⟩ : ∃ x, l[k]? = some x := ⟨_, List.getElem?_eq_getElem hlt⟩
      obtain ⟨hc0, hc1, hc2⟩ := hr.at3 k x hx
      have hxd : l.getD k ⟨0, 0, 0⟩ = x := by simp [List.getD, hx]
      have hcall := fun w' => toWord_any x w'
      have HC := Lib.hid hcall
      have HO := Lib.hid ho
      have HXD := Lib.hid hxd
      clear ho h hr hx hcall hxd
      go_wp2_with fail
      refine (HC.out _).mono ?_
      rintro e w2 ⟨rfl, hb2⟩
      have ho2 : w2.ownsRow w.heap.size 61 3 (.slice (some ⟨w.heap.size, 0, none⟩) l.length l.length) l.length (c3 (l.take k ++ List.replicate (l.length - k) ⟨0, 0, 0⟩)) := HO.out.below hb2
      have hlen : (l.take k ++ List.replicate (l.length - k) ⟨0, 0, 0⟩ : List I3).length = l.length := by simp; omega
      obtain ⟨y, hy⟩ : ∃ y, (l.take k ++ List.replicate (l.length - k) ⟨0, 0, 0⟩ : List I3)[k]? = some y := ⟨_, List.getElem?_eq_getElem (by omega)⟩
      obtain ⟨hd0, hd1, hd2⟩ := (Rd.of_owns ho2).at3 k y hy
      simp only [Nat.zero_add] at hd0 hd1 hd2
      have hf0 := ho2.frozenAt (k * 3)
      have hf1 := ho2.frozenAt (k * 3 + 1)
      have hf2 := ho2.frozenAt (k * 3 + 2)
      have hs0 := ho2.stored (k * 3) (.int .i64 x.a)
      have hs1 := hs0.1.stored (k * 3 + 1) (.int .i64 x.b)
      have hs2 := hs1.1.stored (k * 3 + 2) (.int .i64 x.c)
      have hset := take_set l k l.length ⟨0, 0, 0⟩ hlt rfl
      rw [HXD.out] at hset
      rw [c3_set _ _ _ (by omega), hset] at hs2
      have HST := Lib.hid hs2.1
      have HBB := Lib.hid (hb.trans (hb2.mono (Nat.le_of_lt hgt')))
      have HSZ := hb2.size
      clear hs0 hs1 hs2 hset hy hlen ho2 hb2
      go_wp2
      exact ⟨⟨k + 1, by omega, by go_num, HST.out, (((HBB.out.setCell (Nat.le_refl _) _).setCell (Nat.le_refl _) _).setCell (Nat.le_refl _) _), by simp; omega⟩, by simp [intOf]; omega⟩
    · obtain rfl : k = l.length := by omega
      rw [List.take_of_length_le (Nat.le_refl _), Nat.sub_self, List.replicate_zero, List.append_nil] at ho
      clear h hr
      go_wp2
      go_ret
      exact ⟨w.heap.size, rfl, ho, hb⟩
set_option maxRecDepth 20000 in
set_option maxHeartbeats 400000 in
theorem eqWord_any (x y : I3) (w : World) :
    Calls Try.prog 67 #[.agg #[.int .i64 x.a, .int .i64 x.b, .int .i64 x.c], .agg #[.int .i64 y.a, .int .i64 y.b, .int .i64 y.c]] w fun e w' => e = .returned (.bool (decide (x = y))) ∧ Below w.heap.size w w' := by
  simp only [I3.eq_iff]
  go_enter Try.func67, Try.ntmps67
  go_wp2
  all_goals
    go_ret
    refine ⟨?_, (by repeat (first | with_reducible exact Below.refl _ _ | (with_reducible refine Below.drew ?_) | (with_reducible refine Below.alloc ?_ (by first | omega | (simp; done) | (simp; omega)) _)))⟩
    simp_all
set_option maxHeartbeats 400000 in
theorem szWordS_any (a : Option Addr) (n c : Nat) (q : Int) (w : World) (h0 : 0 ≤ q) (hq : q ≤ 1048576) (hn : n ≤ 9223372036854775807) :
    Calls Try.prog 45 #[.slice a n c, .int .i64 q] w fun e w' => e = .returned (.int .i64 (if (n : Int) ≤ q then q - n else -1)) ∧ w = w' := by
  by_cases h : (n : Int) ≤ q
  · rw [if_pos h]
    go_enter Try.func45, Try.ntmps45
    go_wp2
    go_ret
    exact ⟨rfl, rfl⟩
  · rw [if_neg h]
    have h' : q - n < 0 := by omega
    go_enter Try.func45, Try.ntmps45
    go_wp2
    go_ret
    exact ⟨rfl, rfl⟩
set_option maxRecDepth 20000 in
set_option maxHeartbeats 800000 in
theorem eqWordS_any (a1 a2 : Option Addr) (n1 p1 n2 p2 : Nat) (l1 l2 : List I3) (w : World) (h1 : Rd w 3 a1 n1 (c3 l1)) (h2 : Rd w 3 a2 n2 (c3 l2)) (hn : n1 ≤ 1073741824) :
    Calls Try.prog 51 #[.slice a1 n1 p1, .slice a2 n2 p2] w fun e w' => e = .returned (.bool (decide (l1 = l2))) ∧ Below w.heap.size w w' := by
  obtain rfl := h1.n3
  obtain rfl := h2.n3
  by_cases hl : l1.length = l2.length
  · have hl' : ((l1.length : Int) != (l2.length : Int)) = false := by rw [bne_eq_false_iff_eq]; omega
    have HL := Lib.hid hl
    obtain ⟨R, hR⟩ : ∃ R, R = decide (l1 = l2) := ⟨_, rfl⟩
    rw [← hR]
    have HR := Lib.hid hR
    clear hR hl
    go_enter Try.func51, Try.ntmps51
    go_wp2
    go_loopw [5] (fun i wr => ∃ k : Nat, k ≤ l1.length ∧ i = .int .i64 k ∧ Hid (l1.take k = l2.take k) ∧ Below w.heap.size w wr) (fun i _ => l1.length - (intOf i).toNat)
    case atStart => exact ⟨0, Nat.zero_le _, rfl, rfl, Below.refl _ _⟩
    case round =>
      obtain ⟨k, hk, rfl, HP, hb⟩ := hrel
      have hr1 := h1.below hb
      have hr2 := h2.below hb
      by_cases hlt : k < l1.length
      · have hlt2 : k < l2.length := by have := HL.out; omega
        obtain ⟨b1, o1, rfl⟩ := hr1.addr (by omega)
        obtain ⟨b2, o2, rfl⟩ := hr2.addr (by omega)
        obtain ⟨x, hx⟩ : ∃ x, l1[k]? = some x := ⟨_, List.getElem?_eq_getElem hlt⟩
        obtain ⟨y, hy⟩ : ∃ y, l2[k]? = some y := ⟨_, List.getElem?_eq_getElem hlt2⟩
        obtain ⟨hc0, hc1, hc2⟩ := hr1.at3 k x hx
        obtain ⟨hd0, hd1, hd2⟩ := hr2.at3 k y hy
        have ht1 := List.take_succ_eq_append_getElem hlt
        have ht2 := List.take_succ_eq_append_getElem hlt2
        rw [(List.getElem?_eq_some_iff.1 hx).2] at ht1
        rw [(List.getElem?_eq_some_iff.1 hy).2] at ht2
        have HT1 := Lib.hid ht1
        have HT2 := Lib.hid ht2
        have hcall := fun w' => eqWord_any x y w'
        by_cases he : x = y
        · have hd : decide (x = y) = true := decide_eq_true he
          rw [hd] at hcall
          have HC := Lib.hid hcall
          have HE := Lib.hid he
          clear ht1 ht2 h1 h2 hr1 hr2 hcall hx hy hd he
          go_wp2
          refine wp_region_canon [(0, true), (1, true), (2, true), (3, true), (4, true), (5, true), (6, true), (7, true), (8, true), (9, true)] (fun _ => True) (by kernel_rfl) (by kernel_rfl) ?_
          simp only [List.map_cons, List.map_nil, List.getD_cons_zero, List.getD_cons_succ]
          (repeat ((first | refine wpC_now (by rfl) (fun K hK => ?_) | refine wpC_any (by rfl) trivial (fun K hK => ?_)); simp only [YR]; go_simp; (try go_bits); refine hK _ ?_; clear hK K))
          refine wpC_step (by rfl) (by rfl) (fun K hK => ?_)
          go_simp
          refine Calls.mono (HC.out _) ?_
          rintro e w2 ⟨rfl, hb2⟩
          refine hK _ _ trivial ?_
          clear hK K
          (repeat ((first | refine wpC_now (by rfl) (fun K hK => ?_) | refine wpC_any (by rfl) trivial (fun K hK => ?_)); simp only [YR]; go_simp; (try go_bits); refine hK _ ?_; clear hK K))
          (refine wpC_nil (NoPanic.normal ?_))
          go_wp2
          exact ⟨⟨k + 1, by omega, by go_num, by show _ = _; rw [HT1.out, HT2.out, HP.out, HE.out], hb.drew.trans (hb2.mono hb.size)⟩, by simp [intOf]; omega⟩
        · have hd : decide (x = y) = false := decide_eq_false he
          rw [hd] at hcall
          have HC := Lib.hid hcall
          have HE := Lib.hid he
          clear ht1 ht2 h1 h2 hr1 hr2 hcall hx hy hd he
          go_wp2
          refine wp_region_canon [(0, true), (1, true), (2, true), (3, true), (4, true), (5, true), (6, true), (7, true), (8, true), (9, true)] (fun _ => True) (by kernel_rfl) (by kernel_rfl) ?_
          simp only [List.map_cons, List.map_nil, List.getD_cons_zero, List.getD_cons_succ]
          (repeat ((first | refine wpC_now (by rfl) (fun K hK => ?_) | refine wpC_any (by rfl) trivial (fun K hK => ?_)); simp only [YR]; go_simp; (try go_bits); refine hK _ ?_; clear hK K))
          refine wpC_step (by rfl) (by rfl) (fun K hK => ?_)
          go_simp
          refine Calls.mono (HC.out _) ?_
          rintro e w2 ⟨rfl, hb2⟩
          refine hK _ _ trivial ?_
          clear hK K
          (repeat ((first | refine wpC_now (by rfl) (fun K hK => ?_) | refine wpC_any (by rfl) trivial (fun K hK => ?_)); simp only [YR]; go_simp; (try go_bits); refine hK _ ?_; clear hK K))
          (refine wpC_nil (NoPanic.normal ?_))
          go_wp2
          go_ret
          refine ⟨?_, hb.drew.trans (hb2.mono hb.size)⟩
          have : ¬ (l1 = l2) := fun h => by
            have := congrArg (List.take (k + 1)) h
            rw [HT1.out, HT2.out, HP.out] at this
            exact HE.out (by simpa using this)
          rw [HR.out, decide_eq_false this]
          rfl
      · obtain rfl : k = l1.length := by omega
        clear h1 h2 hr1 hr2
        go_wp2
        go_ret
        refine ⟨?_, hb⟩
        have := HP.out
        rw [List.take_of_length_le (Nat.le_refl _), HL.out, List.take_of_length_le (Nat.le_refl _)] at this
        rw [HR.out, decide_eq_true this]
        rfl
  · have hl' : ((l1.length : Int) != (l2.length : Int)) = true := by rw [bne_iff_ne]; omega
    have : ¬ (l1 = l2) := fun h => hl (by rw [h])
    rw [decide_eq_false this]
    clear hl this
    go_enter Try.func51, Try.ntmps51
    go_wp2
    go_ret
    exact ⟨rfl, Below.refl _ _⟩
/-- The records that mark leaves: numbers from q on. -/
def seq3 (q : Int) (n : Nat) : List I3 := (List.range n).map fun k => ⟨(q + (3 * k : Nat)), (q + (3 * k + 1 : Nat)), (q + (3 * k + 2 : Nat))⟩
theorem seq3_length (q : Int) (n : Nat) : (seq3 q n).length = n := by simp [seq3]
theorem seq3_succ (q : Int) (n : Nat) : seq3 q (n + 1) = seq3 q n ++ [⟨(q + (3 * n : Nat)), (q + (3 * n + 1 : Nat)), (q + (3 * n + 2 : Nat))⟩] := by simp [seq3, List.range_succ]
theorem seq3_get (q : Int) (n k : Nat) (h : k < n) : (seq3 q n)[k]? = some ⟨(q + (3 * k : Nat)), (q + (3 * k + 1 : Nat)), (q + (3 * k + 2 : Nat))⟩ := by simp [seq3, h]
set_option maxRecDepth 20000 in
set_option maxHeartbeats 800000 in
theorem markWordS_any (B : Nat) (a : Option Addr) (n c : Nat) (l : List I3) (q : Int) (w : World) (h : w.ownsRow B 61 3 (.slice a n c) n (c3 l)) (h0 : 0 ≤ q) (hq : q ≤ 4294967296) (hn : n ≤ 1073741824) :
    Calls Try.prog 56 #[.slice a n c, .int .i64 q] w fun e w' => e = .returned (.int .i64 (q + (3 * n : Nat))) ∧ w'.ownsRow B 61 3 (.slice a n c) n (c3 (seq3 q n)) ∧ w.grownBy w' (Value.slice a n c).ownBlock := by
  have hln : l.length = n := (Rd.of_owns h).n3.symm
  go_enter Try.func56, Try.ntmps56
  go_wp2
  go_loopw [1, 5] (fun x i wr => ∃ k : Nat, k ≤ n ∧ i = .int .i64 k ∧ x = .int .i64 (q + (3 * k : Nat)) ∧ wr.ownsRow B 61 3 (.slice a n c) n (c3 (seq3 q k ++ l.drop k)) ∧ w.grownBy wr (Value.slice a n c).ownBlock) (fun _ i _ => n - (intOf i).toNat)
  case atStart => exact ⟨0, Nat.zero_le _, rfl, by simp, by simpa [seq3] using h, World.grownBy.refl _ _⟩
  case round =>
    obtain ⟨k, hk, rfl, rfl, ho, hg⟩ := hrel
    clear h
    by_cases hlt : k < n
    · obtain ⟨g, cap, hv, hB, hgl⟩ := ho.form (by omega)
      simp only [Value.slice.injEq, true_and] at hv
      obtain ⟨rfl, rfl⟩ := hv
      have hll : (seq3 q k ++ l.drop k).length = n := by simp [seq3]; omega
      obtain ⟨y, hy⟩ : ∃ y, (seq3 q k ++ l.drop k)[k]? = some y := ⟨_, List.getElem?_eq_getElem (by omega)⟩
      obtain ⟨hd0, hd1, hd2⟩ := (Rd.of_owns ho).at3 k y hy
      simp only [Nat.zero_add] at hd0 hd1 hd2
      have hf0 := ho.frozenAt (k * 3)
      have hf1 := ho.frozenAt (k * 3 + 1)
      have hf2 := ho.frozenAt (k * 3 + 2)
      have hs0 := ho.stored (k * 3) (.int .i64 (q + (3 * k : Nat)))
      have hs1 := hs0.1.stored (k * 3 + 1) (.int .i64 (q + (3 * k : Nat) + 1))
      have hs2 := hs1.1.stored (k * 3 + 2) (.int .i64 (q + (3 * k : Nat) + 1 + 1))
      have he1 : (wr.setCell ⟨g, k * 3, none⟩ (.int .i64 (q + (3 * k : Nat)))).cell? ⟨g, k * 3 + 1, none⟩ = some (.int .i64 y.b) := by rw [World.cell?_setCell_other _ _ _ _ (by simp), hd1]
      have he2 : ((wr.setCell ⟨g, k * 3, none⟩ (.int .i64 (q + (3 * k : Nat)))).setCell ⟨g, k * 3 + 1, none⟩ (.int .i64 (q + (3 * k : Nat) + 1))).cell? ⟨g, k * 3 + 2, none⟩ = some (.int .i64 y.c) := by rw [World.cell?_setCell_other _ _ _ _ (by simp), World.cell?_setCell_other _ _ _ _ (by simp), hd2]
      have hset : (seq3 q k ++ l.drop k).set k ⟨q + (3 * k : Nat), q + (3 * k : Nat) + 1, q + (3 * k : Nat) + 1 + 1⟩ = seq3 q (k + 1) ++ l.drop (k + 1) := by
        rw [List.set_append_right _ _ (by rw [seq3_length]; omega), seq3_length, Nat.sub_self, List.drop_eq_getElem_cons (by omega), List.set_cons_zero, seq3_succ]
        simp [I3.eq_iff]
        try omega
      have hc := c3_set (seq3 q k ++ l.drop k) k ⟨q + (3 * k : Nat), q + (3 * k : Nat) + 1, q + (3 * k : Nat) + 1 + 1⟩ (by omega)
      simp only at hc
      rw [hc, hset] at hs2
      have HST := Lib.hid hs2.1
      have HG := Lib.hid (((hg.trans' hs0.2).trans' hs1.2).trans' hs2.2)
      clear hs0 hs1 hs2 hset hy ho hll hc hg
      go_wp2
      exact ⟨⟨k + 1, by omega, by go_num, by go_num, HST.out, HG.out⟩, by simp [intOf]; omega⟩
    · obtain rfl : k = n := by omega
      rw [List.drop_eq_nil_of_le (by omega), List.append_nil] at ho
      go_wp2
      go_ret
      exact ⟨rfl, ho, hg⟩
set_option maxRecDepth 20000 in
set_option maxHeartbeats 800000 in
theorem heldWordS_any (a : Option Addr) (n c : Nat) (q : Int) (w : World) (h : Rd w 3 a n (c3 (seq3 q n))) (h0 : 0 ≤ q) (hq : q ≤ 4294967296) (hn : n ≤ 1073741824) :
    Calls Try.prog 57 #[.slice a n c, .int .i64 q] w fun e w' => e = .returned (.int .i64 (q + (3 * n : Nat))) ∧ w = w' := by
  go_enter Try.func57, Try.ntmps57
  go_wp2
  go_loop [1, 5] (fun x i => ∃ k : Nat, k ≤ n ∧ i = .int .i64 k ∧ x = .int .i64 (q + (3 * k : Nat))) (fun _ i => n - (intOf i).toNat)
  case atStart => exact ⟨0, Nat.zero_le _, rfl, by simp⟩
  case round =>
    obtain ⟨k, hk, rfl, rfl⟩ := hrel
    by_cases hlt : k < n
    · obtain ⟨b, o, rfl⟩ := h.addr (by omega)
      obtain ⟨hc0, hc1, hc2⟩ := h.at3 k _ (seq3_get q n k hlt)
      simp only [Int.natCast_add, Int.natCast_mul, Int.cast_ofNat_Int, ← Int.add_assoc] at hc0 hc1 hc2
      clear h
      go_wp2
      exact ⟨⟨k + 1, by omega, by go_num, by go_num⟩, by simp [intOf]; omega⟩
    · obtain rfl : k = n := by omega
      clear h
      go_wp2
      go_ret
      exact ⟨rfl, rfl⟩
end Go.Proofs.Ytmhdjnmfioaciaa
