/- Walks of functions, by program: spec.l7Walk, spec.SerialKid, laws.FnExactSerialKid, impl.HasFork$1, slices.IndexFunc[[]impl.Op,impl.Op]@125, slices.ContainsFunc[[]impl.Op,impl.Op]@125, impl.HasFork, impl.ProgOk, impl.isMap, impl.ThingsOk, impl.orderOk, impl.Serial, laws.eqKid, laws.eqKidS, laws.eqProg, laws.eqThings, laws.eqRun, laws.heldThings, laws.heldRun. -/
import Derived.Test.YtknghnmcckjjbaaTy
import Derived.Test.YtknghnmcckjjbaaS2
namespace Go.Proofs.Ytknghnmcckjjbaa
open Go Go.RowKit
set_option linter.unusedVariables false
set_option linter.unusedSimpArgs false
def m_spec_l7Walk_L1 (fuel : Nat) (x1 : List KidD) (x2 : List Int) (rcf : (List I4) → (List KidD) → (List Int) → (List Int) → (List Int) → (List Int) → Int → Option (Int × List Int × List Int × List Int × Int)) (z5 : List Int) (z9 : List MarkD) (z10 : Int) : Nat → (List Int) → (List Int) → Int → (List Int) → Int → Option (List Int × List Int × Int × List Int)
  | 0, _, _, _, _, _ => none
  | k2 + 1, z21, z22, z23, z24, z25 =>
    if z25 < (x2.length : Int) then
      bind4 (
        bind5 (
          (at? x2 z25).bind fun e13 =>
          (at? x1 e13).bind fun e14 =>
          bind5 (rcf e14.code ([] : List KidD) ([] : List Int) z5 z21 z22 z23) fun y14 y15 y16 y17 y18 =>
          some (y14, y15, y16, y17, y18)) fun z30 z31 z32 z33 z34 =>
        if z30 = 1 then
          (at? x2 z25).bind fun e15 =>
          (at? z31 0).bind fun e16 =>
          (at? z24 e15).bind fun e17 =>
          some (z32, z33, z34, z24.set e15.toNat e16)
        else
        some (z32, z33, z34, z24)) fun z26 z27 z28 z29 =>
      if in64 (z25 + 1) then
        m_spec_l7Walk_L1 fuel x1 x2 rcf z5 z9 z10 k2 z26 z27 z28 z29 (z25 + 1)
      else none
    else
    some (z21, z22, z23, z24)

def m_spec_l7Walk_L2 (fuel : Nat) (x1 : List KidD) (z5 : List Int) (z6 : List Int) (z9 : List MarkD) (z10 : Int) (z17 : List Int) (z18 : List Int) (z19 : Int) (z20 : List Int) : Nat → (List Int) → Int → Option (Lp (List Int × List Int × List Int × Int × List MarkD × Int) (Int × List Int × List Int × List Int × Int))
  | 0, _, _ => none
  | k3 + 1, z35, z36 =>
    if z36 < ((List.replicate ((x1.length : Int) : Int).toNat (0 : Int)).length : Int) then
      (at? z20 z36).bind fun e18 =>
      (at? z35 z36).bind fun e19 =>
      if in64 (z36 + 1) then
        m_spec_l7Walk_L2 fuel x1 z5 z6 z9 z10 z17 z18 z19 z20 k3 (z35.set z36.toNat e18) (z36 + 1)
      else none
    else
    some (.brk (z35, z17, z18, z19, z9, z10 + 1))

def m_spec_l7Walk_L0 (fuel : Nat) (x0 : List I4) (x1 : List KidD) (x2 : List Int) (x3 : List Int) (rcf : (List I4) → (List KidD) → (List Int) → (List Int) → (List Int) → (List Int) → Int → Option (Int × List Int × List Int × List Int × Int)) (y1 : List Int) (y2 : List Int) (y3 : Int) : Nat → (List Int) → (List Int) → (List Int) → Int → (List MarkD) → Int → Option (Lp (List Int × List Int × List Int × Int) (Int × List Int × List Int × List Int × Int))
  | 0, _, _, _, _, _, _ => none
  | k1 + 1, z5, z6, z7, z8, z9, z10 =>
    if z10 < (x0.length : Int) then
      (at? x0 z10).bind fun e1 =>
      if in64 (z10 + 1) then
        (
          if e1.a = 5 then
            (at? z6 e1.c).bind fun e2 =>
            (at? z5 e1.b).bind fun e3 =>
            some (.brk (z5.set e1.b.toNat e2, z6, z7, z8, z9, z10 + 1))
          else
          if e1.a = 6 then
            (at? z5 e1.c).bind fun e4 =>
            (at? z6 e1.b).bind fun e5 =>
            some (.brk (z5, z6.set e1.b.toNat e4, z7, z8, z9, z10 + 1))
          else
          if e1.a = 7 then
            (at? z5 e1.b).bind fun e6 =>
            if e6 = 0 then
              if in64 ((z10 + 1) + e1.c) then
                some (.brk (z5, z6, z7, z8, z9, (z10 + 1) + e1.c))
              else none
            else
            some (.brk (z5, z6, z7, z8, z9, z10 + 1))
          else
          if e1.a = 8 then
            if ([] : List Int).length + z5.length ≤ 17179869184 then
              bind3 (m_spec_l7Copy fuel z6 z7 z8) fun y7 y8 y9 =>
              if z9.length + 1 ≤ 17179869184 then
                some (.brk (z5, z6, z7, z8, z9 ++ ([(⟨z10, ([] : List Int) ++ z5, y7, y8, y9⟩ : MarkD)] : List MarkD), z10 + 1))
              else none
            else none
          else
          if e1.a = 9 then
            if in64 ((z9.length : Int) - 1) then
              (at? z9 ((z9.length : Int) - 1)).bind fun e7 =>
              if in64 ((z9.length : Int) - 1) then
                (at? x0 e7.at_).bind fun e8 =>
                (at? z5 e8.b).bind fun e9 =>
                some (.brk (z5.set e8.b.toNat 1, z6, z7, z8, subl z9 0 ((z9.length : Int) - 1), z10 + 1))
              else none
            else none
          else
          if e1.a = 10 then
            if (z9.length : Int) = 0 then
              some (.ret (2, z5, y1, y2, y3))
            else
            if in64 ((z9.length : Int) - 1) then
              (at? z9 ((z9.length : Int) - 1)).bind fun e10 =>
              if in64 ((z9.length : Int) - 1) then
                if ([] : List Int).length + e10.regs.length ≤ 17179869184 then
                  bind3 (m_spec_l7Copy fuel e10.cells e10.map e10.count) fun y10 y11 y12 =>
                  (at? x0 e10.at_).bind fun e11 =>
                  (at? (([] : List Int) ++ e10.regs) e11.b).bind fun e12 =>
                  (m_spec_EndOf fuel x0 e10.at_).bind fun y13 =>
                  if in64 (y13 + 1) then
                    some (.brk ((([] : List Int) ++ e10.regs).set e11.b.toNat 0, y10, y11, y12, subl z9 0 ((z9.length : Int) - 1), y13 + 1))
                  else none
                else none
              else none
            else none
          else
          if e1.a = 11 then
            if 0 ≤ ((x1.length : Int) : Int) ∧ (x1.length : Int) ≤ 1048576 then
              bind4 (m_spec_l7Walk_L1 fuel x1 x2 rcf z5 z9 z10 fuel z6 z7 z8 (List.replicate ((x1.length : Int) : Int).toNat (0 : Int)) 0) fun z17 z18 z19 z20 =>
              m_spec_l7Walk_L2 fuel x1 z5 z6 z9 z10 z17 z18 z19 z20 fuel z5 0
            else none
          else
          if e1.a = 12 then
            (at? z7 e1.b).bind fun e20 =>
            (at? z5 e1.c).bind fun e21 =>
            if in64 (1 + e21) then
              if (65536 : Int) ≠ 0 then
                (at? z5 e1.d).bind fun e22 =>
                some (.brk (z5.set e1.d.toNat (e20.tmod 65536), z6, z7.set e1.b.toNat (1 + e21), z8, z9, z10 + 1))
              else none
            else none
          else
          if e1.a = 13 then
            (at? z7 e1.c).bind fun e23 =>
            if (65536 : Int) ≠ 0 then
              (at? z5 e1.b).bind fun e24 =>
              some (.brk (z5.set e1.b.toNat (e23.tmod 65536), z6, z7, z8, z9, z10 + 1))
            else none
          else
          if e1.a = 14 then
            (at? z7 e1.b).bind fun e25 =>
            if (65536 : Int) ≠ 0 then
              (at? z5 e1.c).bind fun e26 =>
              some (.brk (z5.set e1.c.toNat (e25.tmod 65536), z6, z7.set e1.b.toNat 0, z8, z9, z10 + 1))
            else none
          else
          if e1.a = 15 then
            (at? z5 e1.b).bind fun e27 =>
            if in64 (z8 + e27) then
              if (65536 : Int) ≠ 0 then
                some (.brk (z5, z6, z7, (z8 + e27).tmod 65536, z9, z10 + 1))
              else none
            else none
          else
          if e1.a = 16 then
            (at? z5 e1.b).bind fun e28 =>
            some (.brk (z5.set e1.b.toNat z8, z6, z7, z8, z9, z10 + 1))
          else
          bind2 (m_spec_Calc fuel e1.a e1.b e1.c e1.d z5) fun y19 y20 =>
          some (.brk (y19, z6, z7, z8, z9, z10 + 1))).bind <| contM <| un6 fun z11 z12 z13 z14 z15 z16 =>
        m_spec_l7Walk_L0 fuel x0 x1 x2 x3 rcf y1 y2 y3 k1 z11 z12 z13 z14 z15 z16
      else none
    else
    some (.brk (z5, z6, z7, z8))

def m_spec_l7Walk_S (rcf : (List I4) → (List KidD) → (List Int) → (List Int) → (List Int) → (List Int) → Int → Option (Int × List Int × List Int × List Int × Int)) (fuel : Nat) (x0 : List I4) (x1 : List KidD) (x2 : List Int) (x3 : List Int) (x4_0 : List Int) (x4_1 : List Int) (x4_2 : Int) : Option (Int × List Int × List Int × List Int × Int) :=
  bind3 (m_spec_l7Copy fuel x4_0 x4_1 x4_2) fun y1 y2 y3 =>
  if ([] : List Int).length + x3.length ≤ 17179869184 then
    bind3 (m_spec_l7Copy fuel x4_0 x4_1 x4_2) fun y4 y5 y6 =>
    (m_spec_l7Walk_L0 fuel x0 x1 x2 x3 rcf y1 y2 y3 fuel (([] : List Int) ++ x3) y4 y5 y6 ([] : List MarkD) 0).bind <| contL <| un4 fun z1 z2 z3 z4 =>
    some (1, z1, z2, z3, z4)
  else none
def m_spec_l7Walk_R (fuel : Nat) : Nat → (List I4) → (List KidD) → (List Int) → (List Int) → (List Int) → (List Int) → Int → Option (Int × List Int × List Int × List Int × Int)
  | 0, _, _, _, _, _, _, _ => none
  | k + 1, x0, x1, x2, x3, x4_0, x4_1, x4_2 => m_spec_l7Walk_S (m_spec_l7Walk_R fuel k) fuel x0 x1 x2 x3 x4_0 x4_1 x4_2
def m_spec_l7Walk (fuel : Nat) (x0 : List I4) (x1 : List KidD) (x2 : List Int) (x3 : List Int) (x4_0 : List Int) (x4_1 : List Int) (x4_2 : Int) : Option (Int × List Int × List Int × List Int × Int) := m_spec_l7Walk_R fuel fuel x0 x1 x2 x3 x4_0 x4_1 x4_2

set_option maxRecDepth 100000 in
set_option maxHeartbeats 4000000 in
theorem w_spec_l7Walk_S (rcf : (List I4) → (List KidD) → (List Int) → (List Int) → (List Int) → (List Int) → Int → Option (Int × List Int × List Int × List Int × Int)) (ih : ∀ {x0 : List I4} {x1 : List KidD} {x2 : List Int} {x3 : List Int} {x4_0 : List Int} {x4_1 : List Int} {x4_2 : Int} {a_x0 : Option Addr} {n_x0 c_x0 : Nat} {a_x1 : Option Addr} {n_x1 c_x1 : Nat} {a_x2 : Option Addr} {n_x2 c_x2 : Nat} {a_x3 : Option Addr} {n_x3 c_x3 : Nat} {a_x4_0 : Option Addr} {n_x4_0 c_x4_0 : Nat} {a_x4_1 : Option Addr} {n_x4_1 c_x4_1 : Nat} {r0_0 : Int} {r0_1 : List Int} {r0_2 : List Int} {r0_3 : List Int} {r0_4 : Int} {w0 : World} (h : rcf x0 x1 x2 x3 x4_0 x4_1 x4_2 = some (r0_0, r0_1, r0_2, r0_3, r0_4)) (hr_x0 : RdT (fun b => ¬ False) w0 (rowT x0) (.slice a_x0 n_x0 c_x0)) (hr_x1 : RdT (fun b => ¬ False) w0 (rowT x1) (.slice a_x1 n_x1 c_x1)) (hr_x2 : RdT (fun b => ¬ False) w0 (rowT x2) (.slice a_x2 n_x2 c_x2)) (hr_x3 : RdT (fun b => ¬ False) w0 (rowT x3) (.slice a_x3 n_x3 c_x3)) (hr_x4_0 : RdT (fun b => ¬ False) w0 (rowT x4_0) (.slice a_x4_0 n_x4_0 c_x4_0)) (hr_x4_1 : RdT (fun b => ¬ False) w0 (rowT x4_1) (.slice a_x4_1 n_x4_1 c_x4_1)), Calls Try.prog 66 #[.slice a_x0 n_x0 c_x0, .slice a_x1 n_x1 c_x1, .slice a_x2 n_x2 c_x2, .slice a_x3 n_x3 c_x3, .agg #[.slice a_x4_0 n_x4_0 c_x4_0, .slice a_x4_1 n_x4_1 c_x4_1, .int .i64 x4_2]] w0 fun e w => ∃ a_r0_1 n_r0_1 c_r0_1, ∃ a_r0_2 n_r0_2 c_r0_2, ∃ a_r0_3 n_r0_3 c_r0_3, e = .returned (.agg #[.int .i64 r0_0, .slice a_r0_1 n_r0_1 c_r0_1, .slice a_r0_2 n_r0_2 c_r0_2, .slice a_r0_3 n_r0_3 c_r0_3, .int .i64 r0_4]) ∧ St w0 (fun _ => False) w [Own 3 (rowT r0_1) (.slice a_r0_1 n_r0_1 c_r0_1), Own 3 (rowT r0_2) (.slice a_r0_2 n_r0_2 c_r0_2), Own 3 (rowT r0_3) (.slice a_r0_3 n_r0_3 c_r0_3)]) (fuel : Nat) {x0 : List I4} {x1 : List KidD} {x2 : List Int} {x3 : List Int} {x4_0 : List Int} {x4_1 : List Int} {x4_2 : Int} {a_x0 : Option Addr} {n_x0 c_x0 : Nat} {a_x1 : Option Addr} {n_x1 c_x1 : Nat} {a_x2 : Option Addr} {n_x2 c_x2 : Nat} {a_x3 : Option Addr} {n_x3 c_x3 : Nat} {a_x4_0 : Option Addr} {n_x4_0 c_x4_0 : Nat} {a_x4_1 : Option Addr} {n_x4_1 c_x4_1 : Nat} {r0_0 : Int} {r0_1 : List Int} {r0_2 : List Int} {r0_3 : List Int} {r0_4 : Int} {w0 : World} (h : m_spec_l7Walk_S rcf fuel x0 x1 x2 x3 x4_0 x4_1 x4_2 = some (r0_0, r0_1, r0_2, r0_3, r0_4)) (hr_x0 : RdT (fun b => ¬ False) w0 (rowT x0) (.slice a_x0 n_x0 c_x0)) (hr_x1 : RdT (fun b => ¬ False) w0 (rowT x1) (.slice a_x1 n_x1 c_x1)) (hr_x2 : RdT (fun b => ¬ False) w0 (rowT x2) (.slice a_x2 n_x2 c_x2)) (hr_x3 : RdT (fun b => ¬ False) w0 (rowT x3) (.slice a_x3 n_x3 c_x3)) (hr_x4_0 : RdT (fun b => ¬ False) w0 (rowT x4_0) (.slice a_x4_0 n_x4_0 c_x4_0)) (hr_x4_1 : RdT (fun b => ¬ False) w0 (rowT x4_1) (.slice a_x4_1 n_x4_1 c_x4_1)) :
    Calls Try.prog 66 #[.slice a_x0 n_x0 c_x0, .slice a_x1 n_x1 c_x1, .slice a_x2 n_x2 c_x2, .slice a_x3 n_x3 c_x3, .agg #[.slice a_x4_0 n_x4_0 c_x4_0, .slice a_x4_1 n_x4_1 c_x4_1, .int .i64 x4_2]] w0 fun e w => ∃ a_r0_1 n_r0_1 c_r0_1, ∃ a_r0_2 n_r0_2 c_r0_2, ∃ a_r0_3 n_r0_3 c_r0_3, e = .returned (.agg #[.int .i64 r0_0, .slice a_r0_1 n_r0_1 c_r0_1, .slice a_r0_2 n_r0_2 c_r0_2, .slice a_r0_3 n_r0_3 c_r0_3, .int .i64 r0_4]) ∧ St w0 (fun _ => False) w [Own 3 (rowT r0_1) (.slice a_r0_1 n_r0_1 c_r0_1), Own 3 (rowT r0_2) (.slice a_r0_2 n_r0_2 c_r0_2), Own 3 (rowT r0_3) (.slice a_r0_3 n_r0_3 c_r0_3)] := by
  obtain rfl := hr_x0.neq
  obtain rfl := hr_x1.neq
  obtain rfl := hr_x2.neq
  obtain rfl := hr_x3.neq
  obtain rfl := hr_x4_0.neq
  obtain rfl := hr_x4_1.neq
  have HT : St w0 (fun _ => False) w0 [] := St.init0
  rw [m_spec_l7Walk_S] at h
  refine calls_fr (n := 292) [.slice a_x0 x0.length c_x0, .slice a_x1 x1.length c_x1, .slice a_x2 x2.length c_x2, .slice a_x3 x3.length c_x3, .agg #[.slice a_x4_0 x4_0.length c_x4_0, .slice a_x4_1 x4_1.length c_x4_1, .int .i64 x4_2]] Try.func66 rfl rfl rfl fun a HF => ?_
  have HT : St w0 (fun _ => False) w0 [] := HT
  refine wp_seq (wc_text (wc_box (cs := [.slice a_x4_0 x4_0.length c_x4_0, .slice a_x4_1 x4_1.length c_x4_1, .int .i64 x4_2]) HF HT rfl rfl rfl rfl (fun p1 w HT hb => ⟨nS, fun a HF => ?_⟩)))
  refine wc_alloc (cs := [.int .i64 0, .slice none 0 0, .slice none 0 0, .slice none 0 0, .int .i64 0]) HF HT zr49 rfl rfl rfl (fun p2 w HT hb => ⟨nS, fun a HF => ?_⟩)
  refine wc_end (then_n (wp_seq (wc_text (wc_loadA (vs := [.slice a_x4_0 x4_0.length c_x4_0, .slice a_x4_1 x4_1.length c_x4_1, .int .i64 x4_2]) HF rfl ag27 rfl ((HT.boxAt 1 rfl).part 0 3) rfl rfl fun a HF => ?_))))
  obtain ⟨y1, y2, y3, hx1, h⟩ := obs3 h
  refine wc_call HF cf80 rfl (w_spec_l7Copy fuel hx1 (HT.ro hr_x4_0).any (HT.ro hr_x4_1).any) rfl rfl ?_
  rintro e w ⟨a1, n1, c1, a2, n2, c2, rfl, hE⟩
  have hb := hE.below
  have HT := HT.pure hE
  obtain rfl := (HT.rdAt 0 rfl).neq
  obtain rfl := (HT.rdAt 1 rfl).neq
  have HT : St w0 (fun _ => False) w [Own 3 (rowT y1) (.slice a1 y1.length c1), Own 3 (rowT y2) (.slice a2 y2.length c2), Box p2 [.int .i64 0, .slice none 0 0, .slice none 0 0, .slice none 0 0, .int .i64 0], Box p1 [.slice a_x4_0 x4_0.length c_x4_0, .slice a_x4_1 x4_1.length c_x4_1, .int .i64 x4_2]] := HT
  refine ⟨_, rfl, nS, fun a HF => ?_⟩
  refine wc_alloc (cs := [.slice none 0 0, .slice none 0 0, .int .i64 0]) HF HT zr27 rfl rfl rfl (fun p3 w HT hb => ⟨nS, fun a HF => ?_⟩)
  refine wc_storeB (cs' := [.slice a1 y1.length c1, .slice a2 y2.length c2, .int .i64 y3]) HF HT rfl rfl (fun w => (ag27 w).2) rfl rfl rfl rfl rfl (fun w HT => ⟨nS, ?_⟩)
  refine wc_end (then_n (wp_seq (wc_text (wc_bslice (l := ([] : List Int)) (cs := []) (A := []) HF HT bs22_0 rfl rfl (gives_flat rfl) rfl (by decide) rfl rfl (fun p4 w HT hb  => ⟨nS, fun a HF => ?_⟩)))))
  refine wm HF rfl rfl rfl fun a HF => ?_
  obtain ⟨hg1, h⟩ := grd h
  refine wc_appendR HF HT (HT.ro hr_x3).any el22 rfl rfl hg1 rfl rfl rfl (fun a3 c3 w HT => ⟨nS, fun a HF => ?_⟩)
  refine wa HF rfl rfl rfl fun a HF => ?_
  refine wc_end (then_n (wp_seq (wc_text (wc_loadA (vs := [.slice a_x4_0 x4_0.length c_x4_0, .slice a_x4_1 x4_1.length c_x4_1, .int .i64 x4_2]) HF rfl ag27 rfl ((HT.boxAt 5 rfl).part 0 3) rfl rfl fun a HF => ?_))))
  obtain ⟨y4, y5, y6, hx2, h⟩ := obs3 h
  refine wc_call HF cf80 rfl (w_spec_l7Copy fuel hx2 (HT.ro hr_x4_0).any (HT.ro hr_x4_1).any) rfl rfl ?_
  rintro e w ⟨a4, n3, c4, a5, n4, c5, rfl, hE⟩
  have hb := hE.below
  have HT := HT.pure hE
  obtain rfl := (HT.rdAt 0 rfl).neq
  obtain rfl := (HT.rdAt 1 rfl).neq
  have HT : St w0 (fun _ => False) w [Own 3 (rowT y4) (.slice a4 y4.length c4), Own 3 (rowT y5) (.slice a5 y5.length c5), Own 3 (rowT (([] : List Int) ++ x3)) (.slice a3 ((([] : List Int) ++ x3).length) c3), Box p3 [.slice a1 y1.length c1, .slice a2 y2.length c2, .int .i64 y3], Own 3 (rowT y1) (.slice a1 y1.length c1), Own 3 (rowT y2) (.slice a2 y2.length c2), Box p2 [.int .i64 0, .slice none 0 0, .slice none 0 0, .slice none 0 0, .int .i64 0], Box p1 [.slice a_x4_0 x4_0.length c_x4_0, .slice a_x4_1 x4_1.length c_x4_1, .int .i64 x4_2]] := HT
  refine ⟨_, rfl, nS, fun a HF => ?_⟩
  have HT := HT.p7
  refine wc_storeB (cs' := [.slice a4 y4.length c4, .slice a5 y5.length c5, .int .i64 y6]) HF HT rfl rfl (fun w => (ag27 w).2) rfl rfl rfl rfl rfl (fun w HT => ⟨nS, ?_⟩)
  refine wc_end (then_n (wp_seq (wc_text (wc_bslice (l := ([] : List MarkD)) (cs := []) (A := []) HF HT bs123_0 rfl rfl gives_nil rfl (by decide) rfl rfl (fun p5 w HT hb  => ⟨nS, fun a HF => ?_⟩)))))
  refine wa HF rfl rfl rfl fun a HF => ?_
  refine wc_end (then_n (wp_seq (wc_text (wa HF rfl rfl rfl fun a HF => ?_))))
  refine wc_end (then_n ?_)
  obtain ⟨q1, hx3, h⟩ := obs h
  refine wp_cut (fun a w => ∃ z1 z2 z3 z4 a6 n5 c6 a7 n6 c7 a8 n7 c8, q1 = .brk (z1, z2, z3, z4) ∧ Fr a 292 [(3, .slice a6 n5 c6), (9, .pointer (some ⟨p1, 0, none⟩)), (10, .pointer (some ⟨p2, 0, none⟩))] ∧ St w0 (fun _ => False) w [Own 3 (rowT z1) (.slice a6 n5 c6), Own 3 (rowT z2) (.slice a7 n6 c7), Own 3 (rowT z3) (.slice a8 n7 c8), Box p1 [.slice a7 n6 c7, .slice a8 n7 c8, .int .i64 z4], Box p2 [.int .i64 0, .slice none 0 0, .slice none 0 0, .slice none 0 0, .int .i64 0]]) ?_ ?_
  have hk1 := h
  have h := hx3
  refine wp_block ?_
  have HT := HT.p5.p7.p7.p8.p5.p7.p7.p8
  refine wp_loopN (fun k1 a w => ∃ z5 z6 z7 z8 z9 z10 a9 n8 c9 a10 n9 c10 a11 n10 c11 a12 n11 c12, m_spec_l7Walk_L0 fuel x0 x1 x2 x3 rcf y1 y2 y3 k1 z5 z6 z7 z8 z9 z10 = some q1 ∧ Fr a 292 [(0, .slice a_x0 x0.length c_x0), (1, .slice a_x1 x1.length c_x1), (2, .slice a_x2 x2.length c_x2), (3, .slice a9 n8 c9), (9, .pointer (some ⟨p1, 0, none⟩)), (10, .pointer (some ⟨p2, 0, none⟩)), (11, .pointer (some ⟨p3, 0, none⟩)), (12, .slice a12 n11 c12), (13, .int .i64 z10)] ∧ St w0 (fun _ => False) w [Own 3 (rowT z5) (.slice a9 n8 c9), Own 3 (rowT z6) (.slice a10 n9 c10), Own 3 (rowT z7) (.slice a11 n10 c11), Box p1 [.slice a10 n9 c10, .slice a11 n10 c11, .int .i64 z8], Box p2 [.int .i64 0, .slice none 0 0, .slice none 0 0, .slice none 0 0, .int .i64 0], Own 3 (rowT y1) (.slice a1 y1.length c1), Own 3 (rowT y2) (.slice a2 y2.length c2), Box p3 [.slice a1 y1.length c1, .slice a2 y2.length c2, .int .i64 y3], Own 125 (rowT z9) (.slice a12 n11 c12)]) fuel ⟨([] : List Int) ++ x3, y4, y5, y6, ([] : List MarkD), 0, a3, (([] : List Int) ++ x3).length, c3, a4, y4.length, c4, a5, y5.length, c5, (some ⟨p5, 0, none⟩), 0, 0, h, (HF.keep (HF.keep (HF.keep (HF.keep (HF.keep (HF.keep (HF.keep (HF.keep (HF.keep HF.nil rfl) rfl) rfl) rfl) rfl) rfl) rfl) rfl) rfl), HT⟩ ?_
  rintro k1 a w ⟨z5, z6, z7, z8, z9, z10, a9, n8, c9, a10, n9, c10, a11, n10, c11, a12, n11, c12, h, HF, HT⟩
  rcases k1 with _ | k1
  cases h
  rw [m_spec_l7Walk_L0] at h
  obtain rfl := (HT.rdAt 0 rfl).neq
  obtain rfl := (HT.rdAt 1 rfl).neq
  obtain rfl := (HT.rdAt 2 rfl).neq
  obtain rfl := (HT.rdAt 8 rfl).neq
  refine ?_
  refine wp_seq (wp_seq (wc_text (wm HF rfl rfl rfl fun a HF => ?_)))
  refine wm HF rfl rfl rfl fun a HF => ?_
  refine wc_lenR HF nS Try.underlying36 rfl rfl rfl fun a HF => ?_
  refine wc_bin HF nS rfl rfl b_lt rfl rfl fun a HF => ?_
  refine wc_end (then_n ?_)
  by_cases hb1 : z10 < (x0.length : Int)
  have h := ifp hb1 h
  refine wp_if (b' := true) HF rfl (decide_eq_true hb1) ?_
  refine wp_skip (then_n (wp_block (wp_seq (wc_text (wm HF rfl rfl rfl fun a HF => ?_)))))
  refine wm HF rfl rfl rfl fun a HF => ?_
  obtain ⟨e1, hx4, h⟩ := obs h
  obtain ⟨b1, o1, ha1⟩ := (HT.ro hr_x0).any.addr hx4
  refine wc_ixaddr HF nS el36 rfl ha1 ((HT.ro hr_x0).any).neq rfl hx4 rfl rfl fun a HF => ?_
  have hc1 := (HT.ro hr_x0).any.flatAt ha1 hx4
  refine wc_loadA (vs := [.int .i64 e1.a, .int .i64 e1.b, .int .i64 e1.c, .int .i64 e1.d]) HF rfl ag85 rfl (hc1.part 0 4) rfl rfl fun a HF => ?_
  refine wc_alloc (cs := [.int .i64 0, .int .i64 0, .int .i64 0, .int .i64 0]) HF HT zr85 rfl rfl rfl (fun p6 w HT hb => ⟨nS, fun a HF => ?_⟩)
  refine wc_storeB (cs' := [.int .i64 e1.a, .int .i64 e1.b, .int .i64 e1.c, .int .i64 e1.d]) HF HT rfl rfl (fun w => (ag85 w).2) rfl rfl rfl rfl rfl (fun w HT => ⟨nS, ?_⟩)
  refine wc_end (then_n (wp_seq (wc_text (wm HF rfl rfl rfl fun a HF => ?_))))
  obtain ⟨hg2, h⟩ := grd h
  refine wc_bin HF nS rfl rfl (b_add hg2) rfl rfl fun a HF => ?_
  refine wa HF rfl rfl rfl fun a HF => ?_
  refine wc_end (then_n ?_)
  obtain ⟨q2, hx5, h⟩ := obs h
  refine wp_cut (fun a w => ∃ z11 z12 z13 z14 z15 z16 a13 n12 c13 a14 n13 c14 a15 n14 c15 a16 n15 c16, q2 = .brk (z11, z12, z13, z14, z15, z16) ∧ Fr a 292 [(0, .slice a_x0 x0.length c_x0), (1, .slice a_x1 x1.length c_x1), (2, .slice a_x2 x2.length c_x2), (3, .slice a13 n12 c13), (9, .pointer (some ⟨p1, 0, none⟩)), (10, .pointer (some ⟨p2, 0, none⟩)), (11, .pointer (some ⟨p3, 0, none⟩)), (12, .slice a16 n15 c16), (15, .int .i64 z16)] ∧ St w0 (fun _ => False) w [Own 3 (rowT z11) (.slice a13 n12 c13), Own 3 (rowT z12) (.slice a14 n13 c14), Own 3 (rowT z13) (.slice a15 n14 c15), Box p1 [.slice a14 n13 c14, .slice a15 n14 c15, .int .i64 z14], Box p2 [.int .i64 0, .slice none 0 0, .slice none 0 0, .slice none 0 0, .int .i64 0], Own 3 (rowT y1) (.slice a1 y1.length c1), Own 3 (rowT y2) (.slice a2 y2.length c2), Box p3 [.slice a1 y1.length c1, .slice a2 y2.length c2, .int .i64 y3], Own 125 (rowT z15) (.slice a16 n15 c16)]) ?_ ?_
  have hk2 := h
  have h := hx5
  refine wp_seq (wc_text (wc_faddr HF nS rfl fl85_0 rfl rfl fun a HF => ?_))
  refine wc_load HF rfl sc3 ((HT.boxAt 0 rfl).get 0 rfl) rfl rfl fun a HF => ?_
  refine wc_end (then_n (wp_block (wp_seq (wc_text (wc_bin HF nS rfl rfl b_eq rfl rfl fun a HF => ?_)))))
  refine wa HF rfl rfl rfl fun a HF => ?_
  refine wc_end (then_n ?_)
  by_cases hb2 : e1.a = 5
  have h := ifp hb2 h
  refine wp_if (b' := true) HF rfl (decide_eq_true hb2) ?_
  refine wp_region_can [(0, true), (1, true), (2, true), (3, true), (4, true), (5, true), (6, true), (7, true), (8, true), (9, true), (10, true)] (fun w' => True) (by kernel_rfl) (by kernel_rfl) ?_
  have HT := HT.drew
  refine wm HF rfl rfl rfl fun a HF => ?_
  refine wc_faddr HF nS rfl fl85_1 rfl rfl fun a HF => ?_
  refine wc_load HF rfl sc3 ((HT.boxAt 0 rfl).get 1 rfl) rfl rfl fun a HF => ?_
  refine wc_faddr HF nS rfl fl27_0 rfl rfl fun a HF => ?_
  refine wc_load HF rfl sc22 ((HT.boxAt 4 rfl).get 0 rfl) rfl rfl fun a HF => ?_
  refine wc_faddr HF nS rfl fl85_2 rfl rfl fun a HF => ?_
  refine wc_load HF rfl sc3 ((HT.boxAt 0 rfl).get 2 rfl) rfl rfl fun a HF => ?_
  obtain ⟨e2, hx6, h⟩ := obs h
  obtain ⟨b2, o2, ha2⟩ := (HT.rdAt 2 rfl).addr hx6
  refine wc_ixaddr HF nS el22 rfl ha2 ((HT.rdAt 2 rfl)).neq rfl hx6 rfl rfl fun a HF => ?_
  have hc2 := (HT.rdAt 2 rfl).flatAt ha2 hx6
  refine wc_load HF rfl sc3 (hc2.get 0 rfl) rfl rfl fun a HF => ?_
  obtain ⟨e3, hx7, h⟩ := obs h
  obtain ⟨b3, o3, ha3⟩ := (HT.rdAt 1 rfl).addr hx7
  refine wc_ixaddr HF nS el22 rfl ha3 ((HT.rdAt 1 rfl)).neq rfl hx7 rfl rfl fun a HF => ?_
  have HT := HT.p1
  refine wc_storeR (i := e1.b) (j := 0) (x' := e2) HF HT ha3 rfl rfl (fun w => (sc3 w).2) rfl rfl hx7 rfl rfl rfl rfl (fun w HT => ⟨nS, ?_⟩)
  refine wc_endN (blk_n ?_)
  have HT := HT.p9.p9.p9.p9.p9.p9.p9.p9.p8.t9
  exact then_n ⟨z5.set e1.b.toNat e2, z6, z7, z8, z9, z10 + 1, a9, z5.length, c9, a10, z6.length, c10, a11, z7.length, c11, a12, z9.length, c12, (Option.some.inj h).symm, (HF.keep (HF.keep (HF.keep (HF.keep (HF.keep (HF.keep (HF.keep (HF.keep (HF.keep HF.nil rfl) rfl) rfl) rfl) rfl) rfl) rfl) rfl) rfl), HT⟩
  have h := ifn hb2 h
  refine wp_if (b' := false) HF rfl (decide_eq_false hb2) ?_
  refine wp_seq (wc_text (wc_bin HF nS rfl rfl b_eq rfl rfl fun a HF => ?_))
  refine wa HF rfl rfl rfl fun a HF => ?_
  refine wc_end (then_n ?_)
  by_cases hb3 : e1.a = 6
  have h := ifp hb3 h
  refine wp_if (b' := true) HF rfl (decide_eq_true hb3) ?_
  refine wp_region_can [(0, true), (1, true), (2, true), (3, true), (4, true), (5, true), (6, true), (7, true), (8, true), (9, true), (10, true)] (fun w' => True) (by kernel_rfl) (by kernel_rfl) ?_
  have HT := HT.drew
  refine wc_faddr HF nS rfl fl27_0 rfl rfl fun a HF => ?_
  refine wc_load HF rfl sc22 ((HT.boxAt 4 rfl).get 0 rfl) rfl rfl fun a HF => ?_
  refine wc_faddr HF nS rfl fl85_1 rfl rfl fun a HF => ?_
  refine wc_load HF rfl sc3 ((HT.boxAt 0 rfl).get 1 rfl) rfl rfl fun a HF => ?_
  refine wm HF rfl rfl rfl fun a HF => ?_
  refine wc_faddr HF nS rfl fl85_2 rfl rfl fun a HF => ?_
  refine wc_load HF rfl sc3 ((HT.boxAt 0 rfl).get 2 rfl) rfl rfl fun a HF => ?_
  obtain ⟨e4, hx8, h⟩ := obs h
  obtain ⟨b4, o4, ha4⟩ := (HT.rdAt 1 rfl).addr hx8
  refine wc_ixaddr HF nS el22 rfl ha4 ((HT.rdAt 1 rfl)).neq rfl hx8 rfl rfl fun a HF => ?_
  have hc3 := (HT.rdAt 1 rfl).flatAt ha4 hx8
  refine wc_load HF rfl sc3 (hc3.get 0 rfl) rfl rfl fun a HF => ?_
  obtain ⟨e5, hx9, h⟩ := obs h
  obtain ⟨b5, o5, ha5⟩ := (HT.rdAt 2 rfl).addr hx9
  refine wc_ixaddr HF nS el22 rfl ha5 ((HT.rdAt 2 rfl)).neq rfl hx9 rfl rfl fun a HF => ?_
  have HT := HT.p2
  refine wc_storeR (i := e1.b) (j := 0) (x' := e4) HF HT ha5 rfl rfl (fun w => (sc3 w).2) rfl rfl hx9 rfl rfl rfl rfl (fun w HT => ⟨nS, ?_⟩)
  refine wc_endN (blk_n ?_)
  have HT := HT.p9.p9.p9.p9.p9.p9.p9.p7.p9.t9
  exact then_n ⟨z5, z6.set e1.b.toNat e4, z7, z8, z9, z10 + 1, a9, z5.length, c9, a10, z6.length, c10, a11, z7.length, c11, a12, z9.length, c12, (Option.some.inj h).symm, (HF.keep (HF.keep (HF.keep (HF.keep (HF.keep (HF.keep (HF.keep (HF.keep (HF.keep HF.nil rfl) rfl) rfl) rfl) rfl) rfl) rfl) rfl) rfl), HT⟩
  have h := ifn hb3 h
  refine wp_if (b' := false) HF rfl (decide_eq_false hb3) ?_
  refine wp_seq (wc_text (wc_bin HF nS rfl rfl b_eq rfl rfl fun a HF => ?_))
  refine wa HF rfl rfl rfl fun a HF => ?_
  refine wc_end (then_n ?_)
  by_cases hb4 : e1.a = 7
  have h := ifp hb4 h
  refine wp_if (b' := true) HF rfl (decide_eq_true hb4) ?_
  refine wp_seq (wc_text (wm HF rfl rfl rfl fun a HF => ?_))
  refine wc_faddr HF nS rfl fl85_1 rfl rfl fun a HF => ?_
  refine wc_load HF rfl sc3 ((HT.boxAt 0 rfl).get 1 rfl) rfl rfl fun a HF => ?_
  obtain ⟨e6, hx10, h⟩ := obs h
  obtain ⟨b6, o6, ha6⟩ := (HT.rdAt 1 rfl).addr hx10
  refine wc_ixaddr HF nS el22 rfl ha6 ((HT.rdAt 1 rfl)).neq rfl hx10 rfl rfl fun a HF => ?_
  have hc4 := (HT.rdAt 1 rfl).flatAt ha6 hx10
  refine wc_load HF rfl sc3 (hc4.get 0 rfl) rfl rfl fun a HF => ?_
  refine wc_bin HF nS rfl rfl b_eq rfl rfl fun a HF => ?_
  refine wc_end (then_n ?_)
  by_cases hb5 : e6 = 0
  have h := ifp hb5 h
  refine wp_if (b' := true) HF rfl (decide_eq_true hb5) ?_
  refine wc_text (wm HF rfl rfl rfl fun a HF => ?_)
  refine wc_faddr HF nS rfl fl85_2 rfl rfl fun a HF => ?_
  refine wc_load HF rfl sc3 ((HT.boxAt 0 rfl).get 2 rfl) rfl rfl fun a HF => ?_
  obtain ⟨hg3, h⟩ := grd h
  refine wc_bin HF nS rfl rfl (b_add hg3) rfl rfl fun a HF => ?_
  refine wa HF rfl rfl rfl fun a HF => ?_
  refine wc_end (blk_n ?_)
  have HT := HT.p9.p9.p9.p9.p9.p9.p9.p9.p9.t9
  exact then_n ⟨z5, z6, z7, z8, z9, (z10 + 1) + e1.c, a9, z5.length, c9, a10, z6.length, c10, a11, z7.length, c11, a12, z9.length, c12, (Option.some.inj h).symm, (HF.keep (HF.keep (HF.keep (HF.keep (HF.keep (HF.keep (HF.keep (HF.keep (HF.keep HF.nil rfl) rfl) rfl) rfl) rfl) rfl) rfl) rfl) rfl), HT⟩
  have h := ifn hb5 h
  refine wp_if (b' := false) HF rfl (decide_eq_false hb5) ?_
  refine wp_skip (blk_n ?_)
  have HT := HT.p9.p9.p9.p9.p9.p9.p9.p9.p9.t9
  exact then_n ⟨z5, z6, z7, z8, z9, z10 + 1, a9, z5.length, c9, a10, z6.length, c10, a11, z7.length, c11, a12, z9.length, c12, (Option.some.inj h).symm, (HF.keep (HF.keep (HF.keep (HF.keep (HF.keep (HF.keep (HF.keep (HF.keep (HF.keep HF.nil rfl) rfl) rfl) rfl) rfl) rfl) rfl) rfl) rfl), HT⟩
  have h := ifn hb4 h
  refine wp_if (b' := false) HF rfl (decide_eq_false hb4) ?_
  refine wp_seq (wc_text (wc_bin HF nS rfl rfl b_eq rfl rfl fun a HF => ?_))
  refine wa HF rfl rfl rfl fun a HF => ?_
  refine wc_end (then_n ?_)
  by_cases hb6 : e1.a = 8
  have h := ifp hb6 h
  refine wp_if (b' := true) HF rfl (decide_eq_true hb6) ?_
  refine wp_region_can [(0, false), (1, false), (3, false), (5, false), (2, false), (4, false), (6, false), (7, true), (8, false), (9, true), (10, true)] (fun w' => LdC w' p1 0 [.slice a10 z6.length c10, .slice a11 z7.length c11, .int .i64 z8] ∧ True) (by kernel_rfl) (by kernel_rfl) ?_
  have HT := HT.drew
  refine wc_move HF (fun _ => ⟨(HT.boxAt 4 rfl).part 0 3, trivial⟩) rfl rfl rfl fun a HF => ?_
  refine wc_move HF (fun _ => ⟨(HT.boxAt 4 rfl).part 0 3, trivial⟩) rfl rfl rfl fun a HF => ?_
  refine wc_move HF (fun _ => ⟨(HT.boxAt 4 rfl).part 0 3, trivial⟩) rfl rfl rfl fun a HF => ?_
  refine wc_loadAS (vs := [.slice a10 z6.length c10, .slice a11 z7.length c11, .int .i64 z8]) HF ⟨(HT.boxAt 4 rfl).part 0 3, trivial⟩ rfl ag27 rfl (fun w hS => hS.1) rfl rfl fun a HF => ?_
  refine wc_bslice (l := ([] : List Int)) (cs := []) (A := []) HF HT bs22_0 rfl rfl (gives_flat rfl) rfl (by decide) rfl rfl (fun p7 w HT hb  => ⟨(fun _ => ⟨(HT.boxAt 5 rfl).part 0 3, trivial⟩), fun a HF => ?_⟩)
  obtain ⟨hg4, h⟩ := grd h
  refine wc_appendR HF HT (HT.rdAt 2 rfl) el22 rfl rfl hg4 rfl rfl rfl (fun a17 c17 w HT => ⟨(fun _ => ⟨(HT.boxAt 5 rfl).part 0 3, trivial⟩), fun a HF => ?_⟩)
  obtain ⟨y7, y8, y9, hx11, h⟩ := obs3 h
  refine wc_call HF cf80 rfl (w_spec_l7Copy fuel hx11 (HT.rdAt 3 rfl) (HT.rdAt 4 rfl)) rfl rfl ?_
  rintro e w ⟨a18, n16, c18, a19, n17, c19, rfl, hE⟩
  have hb := hE.below
  have HT := HT.pure hE
  obtain rfl := (HT.rdAt 0 rfl).neq
  obtain rfl := (HT.rdAt 1 rfl).neq
  have HT : St w0 (fun _ => False) w [Own 3 (rowT y7) (.slice a18 y7.length c18), Own 3 (rowT y8) (.slice a19 y8.length c19), Own 3 (rowT (([] : List Int) ++ z5)) (.slice a17 ((([] : List Int) ++ z5).length) c17), Box p6 [.int .i64 e1.a, .int .i64 e1.b, .int .i64 e1.c, .int .i64 e1.d], Own 3 (rowT z5) (.slice a9 z5.length c9), Own 3 (rowT z6) (.slice a10 z6.length c10), Own 3 (rowT z7) (.slice a11 z7.length c11), Box p1 [.slice a10 z6.length c10, .slice a11 z7.length c11, .int .i64 z8], Box p2 [.int .i64 0, .slice none 0 0, .slice none 0 0, .slice none 0 0, .int .i64 0], Own 3 (rowT y1) (.slice a1 y1.length c1), Own 3 (rowT y2) (.slice a2 y2.length c2), Box p3 [.slice a1 y1.length c1, .slice a2 y2.length c2, .int .i64 y3], Own 125 (rowT z9) (.slice a12 z9.length c12)] := HT
  refine ⟨_, rfl, (fun _ => ⟨(HT.boxAt 7 rfl).part 0 3, trivial⟩), fun a HF => ?_⟩
  refine wc_build (cs := #[.int .i64 z10, .slice a17 ((([] : List Int) ++ z5).length) c17, .slice a18 y7.length c18, .slice a19 y8.length c19, .int .i64 y9]) HF nS bd125 rfl rfl rfl rfl fun a HF => ?_
  have HT := HT.p1.p1.p2
  refine wc_bslice (l := ([(⟨z10, ([] : List Int) ++ z5, y7, y8, y9⟩ : MarkD)] : List MarkD)) (cs := [.int .i64 z10, .slice a17 ((([] : List Int) ++ z5).length) c17, .slice a18 y7.length c18, .slice a19 y8.length c19, .int .i64 y9]) (A := [Own 3 (rowT (([] : List Int) ++ z5)) (.slice a17 ((([] : List Int) ++ z5).length) c17), Own 3 (rowT y7) (.slice a18 y7.length c18), Own 3 (rowT y8) (.slice a19 y8.length c19)]) HF HT bs123_1 rfl rfl (gives_lit (gives_own (gives_own (gives_own (gives_lit gives_nil))))) rfl (by decide) rfl rfl (fun p8 w HT hb  => ⟨(fun _ => ⟨(HT.boxAt 5 rfl).part 0 3, trivial⟩), fun a HF => ?_⟩)
  obtain ⟨hg5, h⟩ := grd h
  have HT := HT.p10
  refine wc_append HF HT el123 rfl rfl (Nat.zero_lt_succ _) hg5 rfl rfl rfl (fun a20 c20 w HT => ⟨nS, fun a HF => ?_⟩)
  refine wa HF rfl rfl rfl fun a HF => ?_
  refine wc_endN (blk_n ?_)
  have HT := HT.p9.p9.p9.p9.p9.p9.p9.p9.t9
  exact then_n ⟨z5, z6, z7, z8, z9 ++ ([(⟨z10, ([] : List Int) ++ z5, y7, y8, y9⟩ : MarkD)] : List MarkD), z10 + 1, a9, z5.length, c9, a10, z6.length, c10, a11, z7.length, c11, a20, (z9 ++ ([(⟨z10, ([] : List Int) ++ z5, y7, y8, y9⟩ : MarkD)] : List MarkD)).length, c20, (Option.some.inj h).symm, (HF.keep (HF.keep (HF.keep (HF.keep (HF.keep (HF.keep (HF.keep (HF.keep (HF.keep HF.nil rfl) rfl) rfl) rfl) rfl) rfl) rfl) rfl) rfl), HT⟩
  have h := ifn hb6 h
  refine wp_if (b' := false) HF rfl (decide_eq_false hb6) ?_
  refine wp_seq (wc_text (wc_bin HF nS rfl rfl b_eq rfl rfl fun a HF => ?_))
  refine wa HF rfl rfl rfl fun a HF => ?_
  refine wc_end (then_n ?_)
  by_cases hb7 : e1.a = 9
  have h := ifp hb7 h
  refine wp_if (b' := true) HF rfl (decide_eq_true hb7) ?_
  refine wp_seq (wc_text (wm HF rfl rfl rfl fun a HF => ?_))
  refine wm HF rfl rfl rfl fun a HF => ?_
  refine wc_lenR HF nS Try.underlying123 rfl rfl rfl fun a HF => ?_
  obtain ⟨hg6, h⟩ := grd h
  refine wc_bin HF nS rfl rfl (b_sub hg6) rfl rfl fun a HF => ?_
  obtain ⟨e7, hx12, h⟩ := obs h
  obtain ⟨b7, o7, ha7⟩ := (HT.rdAt 9 rfl).addr hx12
  refine wc_ixaddr HF nS el123 rfl ha7 ((HT.rdAt 9 rfl)).neq rfl hx12 rfl rfl fun a HF => ?_
  have hq1 := ((HT.rdAt 9 rfl)).neq
  have HT := HT.p9
  obtain ⟨us1, HT⟩ := HT.focus hx12
  obtain ⟨a21, c21, a22, c22, a23, c23, rfl, HT⟩ := HT.pieces_Mark
  have HT : St w0 (fun _ => False) w [OwnA (rowT e7.regs) (.slice a21 e7.regs.length c21), OwnA (rowT e7.cells) (.slice a22 e7.cells.length c22), OwnA (rowT e7.map) (.slice a23 e7.map.length c23), HoleR (some 125) z9 ((z9.length : Int) - 1 : Int).toNat (.slice a12 z9.length c12) [.int .i64 e7.at_, .slice a21 e7.regs.length c21, .slice a22 e7.cells.length c22, .slice a23 e7.map.length c23, .int .i64 e7.count], Box p6 [.int .i64 e1.a, .int .i64 e1.b, .int .i64 e1.c, .int .i64 e1.d], Own 3 (rowT z5) (.slice a9 z5.length c9), Own 3 (rowT z6) (.slice a10 z6.length c10), Own 3 (rowT z7) (.slice a11 z7.length c11), Box p1 [.slice a10 z6.length c10, .slice a11 z7.length c11, .int .i64 z8], Box p2 [.int .i64 0, .slice none 0 0, .slice none 0 0, .slice none 0 0, .int .i64 0], Own 3 (rowT y1) (.slice a1 y1.length c1), Own 3 (rowT y2) (.slice a2 y2.length c2), Box p3 [.slice a1 y1.length c1, .slice a2 y2.length c2, .int .i64 y3]] := HT
  have hc5 := HT.holeAt 3 rfl ha7
  refine wc_loadA (vs := [.int .i64 e7.at_, .slice a21 e7.regs.length c21, .slice a22 e7.cells.length c22, .slice a23 e7.map.length c23, .int .i64 e7.count]) HF rfl ag125 rfl (hc5.part 0 5) rfl rfl fun a HF => ?_
  refine wc_alloc (cs := [.int .i64 0, .slice none 0 0, .slice none 0 0, .slice none 0 0, .int .i64 0]) HF HT zr125 rfl rfl rfl (fun p9 w HT hb => ⟨nS, fun a HF => ?_⟩)
  refine wc_storeB (cs' := [.int .i64 e7.at_, .slice a21 e7.regs.length c21, .slice a22 e7.cells.length c22, .slice a23 e7.map.length c23, .int .i64 e7.count]) HF HT rfl rfl (fun w => (ag125 w).2) rfl rfl rfl rfl rfl (fun w HT => ⟨nS, ?_⟩)
  refine wc_end (then_n (wp_seq (wc_text (wm HF rfl rfl rfl fun a HF => ?_))))
  refine wm HF rfl rfl rfl fun a HF => ?_
  refine wc_lenR HF nS Try.underlying123 rfl rfl rfl fun a HF => ?_
  obtain ⟨hg7, h⟩ := grd h
  refine wc_bin HF nS rfl rfl (b_sub hg7) rfl rfl fun a HF => ?_
  have HT := HT.p4
  obtain ⟨HT, hcut⟩ := St.cutH HT (at?_some hx12).1 rfl
  refine wc_slrH HF nS el123 rfl rfl hcut rfl rfl fun a HF => ?_
  refine wa HF rfl rfl rfl fun a HF => ?_
  refine wc_end (then_n (wc_text (wm HF rfl rfl rfl fun a HF => ?_)))
  refine wm HF rfl rfl rfl fun a HF => ?_
  refine wc_faddr HF nS rfl fl125_0 rfl rfl fun a HF => ?_
  refine wc_load HF rfl sc3 ((HT.boxAt 1 rfl).get 0 rfl) rfl rfl fun a HF => ?_
  obtain ⟨e8, hx13, h⟩ := obs h
  refine wc_ixaddr HF nS el36 rfl ha1 ((HT.ro hr_x0).any).neq rfl hx13 rfl rfl fun a HF => ?_
  refine wc_faddr HF nS rfl fl85_1 rfl rfl fun a HF => ?_
  have hc6 := (HT.ro hr_x0).any.flatAt ha1 hx13
  refine wc_load HF rfl sc3 (hc6.get 1 rfl) rfl rfl fun a HF => ?_
  obtain ⟨e9, hx14, h⟩ := obs h
  obtain ⟨b8, o8, ha8⟩ := (HT.rdAt 6 rfl).addr hx14
  refine wc_ixaddr HF nS el22 rfl ha8 ((HT.rdAt 6 rfl)).neq rfl hx14 rfl rfl fun a HF => ?_
  have HT := HT.p6
  refine wc_storeR (i := e8.b) (j := 0) (x' := 1) HF HT ha8 rfl rfl (fun w => (sc3 w).2) rfl rfl hx14 rfl rfl rfl rfl (fun w HT => ⟨nS, ?_⟩)
  refine wc_end (blk_n ?_)
  have HT := HT.p1.p13.p13.p13.p13.p13.p13.p13.p8.t9
  exact then_n ⟨z5.set e8.b.toNat 1, z6, z7, z8, subl z9 0 ((z9.length : Int) - 1), z10 + 1, a9, z5.length, c9, a10, z6.length, c10, a11, z7.length, c11, a12, (subl z9 0 ((z9.length : Int) - 1)).length, c12, (Option.some.inj h).symm, (HF.keep (HF.keep (HF.keep (HF.keep (HF.keep (HF.keep (HF.keep (HF.keep (HF.keep HF.nil rfl) rfl) rfl) rfl) rfl) rfl) rfl) rfl) rfl), HT⟩
  have h := ifn hb7 h
  refine wp_if (b' := false) HF rfl (decide_eq_false hb7) ?_
  refine wp_seq (wc_text (wc_bin HF nS rfl rfl b_eq rfl rfl fun a HF => ?_))
  refine wa HF rfl rfl rfl fun a HF => ?_
  refine wc_end (then_n ?_)
  by_cases hb8 : e1.a = 10
  have h := ifp hb8 h
  refine wp_if (b' := true) HF rfl (decide_eq_true hb8) ?_
  refine wp_seq (wp_seq (wc_text (wm HF rfl rfl rfl fun a HF => ?_)))
  refine wc_lenR HF nS Try.underlying123 rfl rfl rfl fun a HF => ?_
  refine wc_bin HF nS rfl rfl b_eq rfl rfl fun a HF => ?_
  refine wc_end (then_n ?_)
  by_cases hb9 : (z9.length : Int) = 0
  have h := ifp hb9 h
  refine wp_if (b' := true) HF rfl (decide_eq_true hb9) ?_
  refine wp_seq (wc_text (wm HF rfl rfl rfl fun a HF => ?_))
  refine wc_loadA (vs := [.slice a1 y1.length c1, .slice a2 y2.length c2, .int .i64 y3]) HF rfl ag27 rfl ((HT.boxAt 8 rfl).part 0 3) rfl rfl fun a HF => ?_
  refine wc_build (cs := #[.int .i64 2, .slice a9 z5.length c9, .slice a1 y1.length c1, .slice a2 y2.length c2, .int .i64 y3]) HF nS bd49 rfl rfl rfl rfl fun a HF => ?_
  have HT := HT.p5
  refine wc_storeB (cs' := [.int .i64 2, .slice a9 z5.length c9, .slice a1 y1.length c1, .slice a2 y2.length c2, .int .i64 y3]) HF HT rfl rfl (fun w => (ag49 w).2) rfl rfl rfl rfl rfl (fun w HT => ⟨nS, ?_⟩)
  refine wc_end (then_n (wp_ret ?_))
  obtain rfl := Option.some.inj h
  have h := retM hk2
  obtain rfl := Option.some.inj h
  have h := retL hk1
  have hj1 := Option.some.inj h
  obtain ⟨rfl, hj2⟩ := Prod.mk.inj hj1
  obtain ⟨rfl, hj3⟩ := Prod.mk.inj hj2
  obtain ⟨rfl, hj4⟩ := Prod.mk.inj hj3
  obtain ⟨rfl, hj5⟩ := Prod.mk.inj hj4
  subst hj5
  refine then_r (blk_r (then_r (blk_r (then_r (blk_r (then_r (?_)))))))
  refine bp_ret HF (res_cell (vs := [.int .i64 2, .slice a9 z5.length c9, .slice a1 y1.length c1, .slice a2 y2.length c2, .int .i64 y3]) rfl HF rfl ag49 rfl (HT.boxAt 0 rfl)) ?_
  have HT := HT.p7.p7.p4.t3
  exact ⟨a9, z5.length, c9, a1, y1.length, c1, a2, y2.length, c2, rfl, HT⟩
  have h := ifn hb9 h
  refine wp_if (b' := false) HF rfl (decide_eq_false hb9) ?_
  refine wp_skip (then_n (wp_seq (wc_text (wm HF rfl rfl rfl fun a HF => ?_))))
  refine wm HF rfl rfl rfl fun a HF => ?_
  refine wc_lenR HF nS Try.underlying123 rfl rfl rfl fun a HF => ?_
  obtain ⟨hg8, h⟩ := grd h
  refine wc_bin HF nS rfl rfl (b_sub hg8) rfl rfl fun a HF => ?_
  obtain ⟨e10, hx15, h⟩ := obs h
  obtain ⟨b9, o9, ha9⟩ := (HT.rdAt 9 rfl).addr hx15
  refine wc_ixaddr HF nS el123 rfl ha9 ((HT.rdAt 9 rfl)).neq rfl hx15 rfl rfl fun a HF => ?_
  have hq2 := ((HT.rdAt 9 rfl)).neq
  have HT := HT.p9
  obtain ⟨us2, HT⟩ := HT.focus hx15
  obtain ⟨a24, c24, a25, c25, a26, c26, rfl, HT⟩ := HT.pieces_Mark
  have HT : St w0 (fun _ => False) w [OwnA (rowT e10.regs) (.slice a24 e10.regs.length c24), OwnA (rowT e10.cells) (.slice a25 e10.cells.length c25), OwnA (rowT e10.map) (.slice a26 e10.map.length c26), HoleR (some 125) z9 ((z9.length : Int) - 1 : Int).toNat (.slice a12 z9.length c12) [.int .i64 e10.at_, .slice a24 e10.regs.length c24, .slice a25 e10.cells.length c25, .slice a26 e10.map.length c26, .int .i64 e10.count], Box p6 [.int .i64 e1.a, .int .i64 e1.b, .int .i64 e1.c, .int .i64 e1.d], Own 3 (rowT z5) (.slice a9 z5.length c9), Own 3 (rowT z6) (.slice a10 z6.length c10), Own 3 (rowT z7) (.slice a11 z7.length c11), Box p1 [.slice a10 z6.length c10, .slice a11 z7.length c11, .int .i64 z8], Box p2 [.int .i64 0, .slice none 0 0, .slice none 0 0, .slice none 0 0, .int .i64 0], Own 3 (rowT y1) (.slice a1 y1.length c1), Own 3 (rowT y2) (.slice a2 y2.length c2), Box p3 [.slice a1 y1.length c1, .slice a2 y2.length c2, .int .i64 y3]] := HT
  have hc7 := HT.holeAt 3 rfl ha9
  refine wc_loadA (vs := [.int .i64 e10.at_, .slice a24 e10.regs.length c24, .slice a25 e10.cells.length c25, .slice a26 e10.map.length c26, .int .i64 e10.count]) HF rfl ag125 rfl (hc7.part 0 5) rfl rfl fun a HF => ?_
  refine wc_alloc (cs := [.int .i64 0, .slice none 0 0, .slice none 0 0, .slice none 0 0, .int .i64 0]) HF HT zr125 rfl rfl rfl (fun p10 w HT hb => ⟨nS, fun a HF => ?_⟩)
  refine wc_storeB (cs' := [.int .i64 e10.at_, .slice a24 e10.regs.length c24, .slice a25 e10.cells.length c25, .slice a26 e10.map.length c26, .int .i64 e10.count]) HF HT rfl rfl (fun w => (ag125 w).2) rfl rfl rfl rfl rfl (fun w HT => ⟨nS, ?_⟩)
  refine wc_end (then_n (wp_seq (wc_text (wm HF rfl rfl rfl fun a HF => ?_))))
  refine wm HF rfl rfl rfl fun a HF => ?_
  refine wc_lenR HF nS Try.underlying123 rfl rfl rfl fun a HF => ?_
  obtain ⟨hg9, h⟩ := grd h
  refine wc_bin HF nS rfl rfl (b_sub hg9) rfl rfl fun a HF => ?_
  have HT := HT.p4
  obtain ⟨HT, hcut⟩ := St.cutH HT (at?_some hx15).1 rfl
  refine wc_slrH HF nS el123 rfl rfl hcut rfl rfl fun a HF => ?_
  refine wa HF rfl rfl rfl fun a HF => ?_
  refine wc_end (then_n (wp_seq (wc_text (wc_bslice (l := ([] : List Int)) (cs := []) (A := []) HF HT bs22_0 rfl rfl (gives_flat rfl) rfl (by decide) rfl rfl (fun p11 w HT hb  => ⟨nS, fun a HF => ?_⟩)))))
  refine wc_faddr HF nS rfl fl125_1 rfl rfl fun a HF => ?_
  refine wc_load HF rfl sc22 ((HT.boxAt 2 rfl).get 1 rfl) rfl rfl fun a HF => ?_
  obtain ⟨hg10, h⟩ := grd h
  refine wc_appendR HF HT (HT.rdAAt 3 rfl) el22 rfl rfl hg10 rfl rfl rfl (fun a27 c27 w HT => ⟨nS, fun a HF => ?_⟩)
  refine wa HF rfl rfl rfl fun a HF => ?_
  refine wc_end (then_n (wp_seq (wc_text (wc_faddr HF nS rfl fl125_2 rfl rfl fun a HF => ?_))))
  refine wc_loadA (vs := [.slice a25 e10.cells.length c25, .slice a26 e10.map.length c26, .int .i64 e10.count]) HF rfl ag27 rfl ((HT.boxAt 2 rfl).part 2 3) rfl rfl fun a HF => ?_
  obtain ⟨y10, y11, y12, hx16, h⟩ := obs3 h
  refine wc_call HF cf80 rfl (w_spec_l7Copy fuel hx16 (HT.rdAAt 4 rfl) (HT.rdAAt 5 rfl)) rfl rfl ?_
  rintro e w ⟨a28, n18, c28, a29, n19, c29, rfl, hE⟩
  have hb := hE.below
  have HT := HT.pure hE
  obtain rfl := (HT.rdAt 0 rfl).neq
  obtain rfl := (HT.rdAt 1 rfl).neq
  have HT : St w0 (fun _ => False) w [Own 3 (rowT y10) (.slice a28 y10.length c28), Own 3 (rowT y11) (.slice a29 y11.length c29), Own 3 (rowT (([] : List Int) ++ e10.regs)) (.slice a27 ((([] : List Int) ++ e10.regs).length) c27), Own 125 (rowT (subl z9 0 ((z9.length : Int) - 1))) (.slice a12 ((subl z9 0 ((z9.length : Int) - 1)).length) c12), Box p10 [.int .i64 e10.at_, .slice a24 e10.regs.length c24, .slice a25 e10.cells.length c25, .slice a26 e10.map.length c26, .int .i64 e10.count], OwnA (rowT e10.regs) (.slice a24 e10.regs.length c24), OwnA (rowT e10.cells) (.slice a25 e10.cells.length c25), OwnA (rowT e10.map) (.slice a26 e10.map.length c26), Box p6 [.int .i64 e1.a, .int .i64 e1.b, .int .i64 e1.c, .int .i64 e1.d], Own 3 (rowT z5) (.slice a9 z5.length c9), Own 3 (rowT z6) (.slice a10 z6.length c10), Own 3 (rowT z7) (.slice a11 z7.length c11), Box p1 [.slice a10 z6.length c10, .slice a11 z7.length c11, .int .i64 z8], Box p2 [.int .i64 0, .slice none 0 0, .slice none 0 0, .slice none 0 0, .int .i64 0], Own 3 (rowT y1) (.slice a1 y1.length c1), Own 3 (rowT y2) (.slice a2 y2.length c2), Box p3 [.slice a1 y1.length c1, .slice a2 y2.length c2, .int .i64 y3]] := HT
  refine ⟨_, rfl, nS, fun a HF => ?_⟩
  have HT := HT.p12
  refine wc_storeB (cs' := [.slice a28 y10.length c28, .slice a29 y11.length c29, .int .i64 y12]) HF HT rfl rfl (fun w => (ag27 w).2) rfl rfl rfl rfl rfl (fun w HT => ⟨nS, ?_⟩)
  refine wc_end (then_n (wp_seq (wc_text (wm HF rfl rfl rfl fun a HF => ?_))))
  refine wm HF rfl rfl rfl fun a HF => ?_
  refine wc_faddr HF nS rfl fl125_0 rfl rfl fun a HF => ?_
  refine wc_load HF rfl sc3 ((HT.boxAt 5 rfl).get 0 rfl) rfl rfl fun a HF => ?_
  obtain ⟨e11, hx17, h⟩ := obs h
  refine wc_ixaddr HF nS el36 rfl ha1 ((HT.ro hr_x0).any).neq rfl hx17 rfl rfl fun a HF => ?_
  refine wc_faddr HF nS rfl fl85_1 rfl rfl fun a HF => ?_
  have hc8 := (HT.ro hr_x0).any.flatAt ha1 hx17
  refine wc_load HF rfl sc3 (hc8.get 1 rfl) rfl rfl fun a HF => ?_
  obtain ⟨e12, hx18, h⟩ := obs h
  obtain ⟨b10, o10, ha10⟩ := (HT.rdAt 3 rfl).addr hx18
  refine wc_ixaddr HF nS el22 rfl ha10 ((HT.rdAt 3 rfl)).neq rfl hx18 rfl rfl fun a HF => ?_
  have HT := HT.p3
  refine wc_storeR (i := e11.b) (j := 0) (x' := 0) HF HT ha10 rfl rfl (fun w => (sc3 w).2) rfl rfl hx18 rfl rfl rfl rfl (fun w HT => ⟨nS, ?_⟩)
  refine wc_end (then_n (wc_text (wm HF rfl rfl rfl fun a HF => ?_)))
  refine wc_faddr HF nS rfl fl125_0 rfl rfl fun a HF => ?_
  refine wc_load HF rfl sc3 ((HT.boxAt 5 rfl).get 0 rfl) rfl rfl fun a HF => ?_
  obtain ⟨y13, hx19, h⟩ := obs h
  refine wc_call HF cf99 rfl (w_spec_EndOf fuel hx19 (HT.ro hr_x0).any) rfl rfl ?_
  rintro e w ⟨rfl, hE⟩
  have hb := hE.below
  have HT := HT.pure hE
  have HT : St w0 (fun _ => False) w [Own 3 (rowT ((([] : List Int) ++ e10.regs).set e11.b.toNat 0)) (.slice a27 ((([] : List Int) ++ e10.regs).length) c27), Box p1 [.slice a28 y10.length c28, .slice a29 y11.length c29, .int .i64 y12], Own 3 (rowT y10) (.slice a28 y10.length c28), Own 3 (rowT y11) (.slice a29 y11.length c29), Own 125 (rowT (subl z9 0 ((z9.length : Int) - 1))) (.slice a12 ((subl z9 0 ((z9.length : Int) - 1)).length) c12), Box p10 [.int .i64 e10.at_, .slice a24 e10.regs.length c24, .slice a25 e10.cells.length c25, .slice a26 e10.map.length c26, .int .i64 e10.count], OwnA (rowT e10.regs) (.slice a24 e10.regs.length c24), OwnA (rowT e10.cells) (.slice a25 e10.cells.length c25), OwnA (rowT e10.map) (.slice a26 e10.map.length c26), Box p6 [.int .i64 e1.a, .int .i64 e1.b, .int .i64 e1.c, .int .i64 e1.d], Own 3 (rowT z5) (.slice a9 z5.length c9), Own 3 (rowT z6) (.slice a10 z6.length c10), Own 3 (rowT z7) (.slice a11 z7.length c11), Box p2 [.int .i64 0, .slice none 0 0, .slice none 0 0, .slice none 0 0, .int .i64 0], Own 3 (rowT y1) (.slice a1 y1.length c1), Own 3 (rowT y2) (.slice a2 y2.length c2), Box p3 [.slice a1 y1.length c1, .slice a2 y2.length c2, .int .i64 y3]] := HT
  refine ⟨_, rfl, nS, fun a HF => ?_⟩
  obtain ⟨hg11, h⟩ := grd h
  refine wc_bin HF nS rfl rfl (b_add hg11) rfl rfl fun a HF => ?_
  refine wa HF rfl rfl rfl fun a HF => ?_
  refine wc_end (blk_n ?_)
  have HT := HT.p4.p16.p16.p16.p16.p6.p8.p8.p8.t9
  exact then_n ⟨(([] : List Int) ++ e10.regs).set e11.b.toNat 0, y10, y11, y12, subl z9 0 ((z9.length : Int) - 1), y13 + 1, a27, (([] : List Int) ++ e10.regs).length, c27, a28, y10.length, c28, a29, y11.length, c29, a12, (subl z9 0 ((z9.length : Int) - 1)).length, c12, (Option.some.inj h).symm, (HF.keep (HF.keep (HF.keep (HF.keep (HF.keep (HF.keep (HF.keep (HF.keep (HF.keep HF.nil rfl) rfl) rfl) rfl) rfl) rfl) rfl) rfl) rfl), HT⟩
  have h := ifn hb8 h
  refine wp_if (b' := false) HF rfl (decide_eq_false hb8) ?_
  refine wp_seq (wc_text (wc_bin HF nS rfl rfl b_eq rfl rfl fun a HF => ?_))
  refine wa HF rfl rfl rfl fun a HF => ?_
  refine wc_end (then_n ?_)
  by_cases hb10 : e1.a = 11
  have h := ifp hb10 h
  refine wp_if (b' := true) HF rfl (decide_eq_true hb10) ?_
  refine wp_seq (wc_text (wm HF rfl rfl rfl fun a HF => ?_))
  refine wc_lenR HF nS Try.underlying51 rfl rfl rfl fun a HF => ?_
  obtain ⟨hg12, h⟩ := grd h
  refine wc_make (x := (0 : Int)) HF HT el22 rfl rfl hg12 rfl rfl rfl rfl (fun p12 w HT hb => ⟨nS, fun a HF => ?_⟩)
  refine wa HF rfl rfl rfl fun a HF => ?_
  refine wc_end (then_n ?_)
  obtain ⟨z17, z18, z19, z20, hx20, h⟩ := obs4 h
  refine wp_cut (fun a w => ∃ a30 n20 c30 a31 n21 c31, Fr a 292 [(0, .slice a_x0 x0.length c_x0), (1, .slice a_x1 x1.length c_x1), (2, .slice a_x2 x2.length c_x2), (3, .slice a9 z5.length c9), (9, .pointer (some ⟨p1, 0, none⟩)), (10, .pointer (some ⟨p2, 0, none⟩)), (11, .pointer (some ⟨p3, 0, none⟩)), (12, .slice a12 z9.length c12), (15, .int .i64 (z10 + 1)), (18, .slice (some ⟨p12, 0, none⟩) ((List.replicate ((x1.length : Int) : Int).toNat (0 : Int)).length) ((List.replicate ((x1.length : Int) : Int).toNat (0 : Int)).length))] ∧ St w0 (fun _ => False) w [Own 3 (rowT z5) (.slice a9 z5.length c9), Own 3 (rowT z17) (.slice a30 n20 c30), Own 3 (rowT z18) (.slice a31 n21 c31), Box p1 [.slice a30 n20 c30, .slice a31 n21 c31, .int .i64 z19], Box p2 [.int .i64 0, .slice none 0 0, .slice none 0 0, .slice none 0 0, .int .i64 0], Own 3 (rowT y1) (.slice a1 y1.length c1), Own 3 (rowT y2) (.slice a2 y2.length c2), Box p3 [.slice a1 y1.length c1, .slice a2 y2.length c2, .int .i64 y3], Own 125 (rowT z9) (.slice a12 z9.length c12), Own 3 (rowT z20) (.slice (some ⟨p12, 0, none⟩) ((List.replicate ((x1.length : Int) : Int).toNat (0 : Int)).length) ((List.replicate ((x1.length : Int) : Int).toNat (0 : Int)).length))]) ?_ ?_
  have hk3 := h
  have h := hx20
  refine wp_seq (wc_text (wa HF rfl rfl rfl fun a HF => ?_))
  refine wc_end (then_n (wp_block ?_))
  have HT := HT.p10.p10.p10.p10.p10.p10.p10.p10.p10.t10
  refine wp_loopN (fun k2 a w => ∃ z21 z22 z23 z24 z25 a32 n22 c32 a33 n23 c33, m_spec_l7Walk_L1 fuel x1 x2 rcf z5 z9 z10 k2 z21 z22 z23 z24 z25 = some (z17, z18, z19, z20) ∧ Fr a 292 [(0, .slice a_x0 x0.length c_x0), (1, .slice a_x1 x1.length c_x1), (2, .slice a_x2 x2.length c_x2), (3, .slice a9 z5.length c9), (9, .pointer (some ⟨p1, 0, none⟩)), (10, .pointer (some ⟨p2, 0, none⟩)), (11, .pointer (some ⟨p3, 0, none⟩)), (12, .slice a12 z9.length c12), (15, .int .i64 (z10 + 1)), (18, .slice (some ⟨p12, 0, none⟩) ((List.replicate ((x1.length : Int) : Int).toNat (0 : Int)).length) ((List.replicate ((x1.length : Int) : Int).toNat (0 : Int)).length)), (19, .int .i64 z25)] ∧ St w0 (fun _ => False) w [Own 3 (rowT z5) (.slice a9 z5.length c9), Own 3 (rowT z21) (.slice a32 n22 c32), Own 3 (rowT z22) (.slice a33 n23 c33), Box p1 [.slice a32 n22 c32, .slice a33 n23 c33, .int .i64 z23], Box p2 [.int .i64 0, .slice none 0 0, .slice none 0 0, .slice none 0 0, .int .i64 0], Own 3 (rowT y1) (.slice a1 y1.length c1), Own 3 (rowT y2) (.slice a2 y2.length c2), Box p3 [.slice a1 y1.length c1, .slice a2 y2.length c2, .int .i64 y3], Own 125 (rowT z9) (.slice a12 z9.length c12), Own 3 (rowT z24) (.slice (some ⟨p12, 0, none⟩) ((List.replicate ((x1.length : Int) : Int).toNat (0 : Int)).length) ((List.replicate ((x1.length : Int) : Int).toNat (0 : Int)).length))]) fuel ⟨z6, z7, z8, List.replicate ((x1.length : Int) : Int).toNat (0 : Int), 0, a10, z6.length, c10, a11, z7.length, c11, h, (HF.keep (HF.keep (HF.keep (HF.keep (HF.keep (HF.keep (HF.keep (HF.keep (HF.keep (HF.keep (HF.keep HF.nil rfl) rfl) rfl) rfl) rfl) rfl) rfl) rfl) rfl) rfl) rfl), HT⟩ ?_
  rintro k2 a w ⟨z21, z22, z23, z24, z25, a32, n22, c32, a33, n23, c33, h, HF, HT⟩
  rcases k2 with _ | k2
  cases h
  rw [m_spec_l7Walk_L1] at h
  obtain rfl := (HT.rdAt 1 rfl).neq
  obtain rfl := (HT.rdAt 2 rfl).neq
  refine ?_
  refine wp_seq (wp_seq (wc_text (wm HF rfl rfl rfl fun a HF => ?_)))
  refine wm HF rfl rfl rfl fun a HF => ?_
  refine wc_lenR HF nS Try.underlying22 rfl rfl rfl fun a HF => ?_
  refine wc_bin HF nS rfl rfl b_lt rfl rfl fun a HF => ?_
  refine wc_end (then_n ?_)
  by_cases hb11 : z25 < (x2.length : Int)
  have h := ifp hb11 h
  refine wp_if (b' := true) HF rfl (decide_eq_true hb11) ?_
  refine wp_skip (then_n ?_)
  obtain ⟨z26, z27, z28, z29, hx21, h⟩ := obs4 h
  refine wp_cut (fun a w => ∃ a34 n24 c34 a35 n25 c35, Fr a 292 [(0, .slice a_x0 x0.length c_x0), (1, .slice a_x1 x1.length c_x1), (2, .slice a_x2 x2.length c_x2), (3, .slice a9 z5.length c9), (9, .pointer (some ⟨p1, 0, none⟩)), (10, .pointer (some ⟨p2, 0, none⟩)), (11, .pointer (some ⟨p3, 0, none⟩)), (12, .slice a12 z9.length c12), (15, .int .i64 (z10 + 1)), (18, .slice (some ⟨p12, 0, none⟩) ((List.replicate ((x1.length : Int) : Int).toNat (0 : Int)).length) ((List.replicate ((x1.length : Int) : Int).toNat (0 : Int)).length)), (19, .int .i64 z25)] ∧ St w0 (fun _ => False) w [Own 3 (rowT z5) (.slice a9 z5.length c9), Own 3 (rowT z26) (.slice a34 n24 c34), Own 3 (rowT z27) (.slice a35 n25 c35), Box p1 [.slice a34 n24 c34, .slice a35 n25 c35, .int .i64 z28], Box p2 [.int .i64 0, .slice none 0 0, .slice none 0 0, .slice none 0 0, .int .i64 0], Own 3 (rowT y1) (.slice a1 y1.length c1), Own 3 (rowT y2) (.slice a2 y2.length c2), Box p3 [.slice a1 y1.length c1, .slice a2 y2.length c2, .int .i64 y3], Own 125 (rowT z9) (.slice a12 z9.length c12), Own 3 (rowT z29) (.slice (some ⟨p12, 0, none⟩) ((List.replicate ((x1.length : Int) : Int).toNat (0 : Int)).length) ((List.replicate ((x1.length : Int) : Int).toNat (0 : Int)).length))]) ?_ ?_
  have hk4 := h
  have h := hx21
  refine wp_block ?_
  obtain ⟨z30, z31, z32, z33, z34, hx22, h⟩ := obs5 h
  refine wp_cut (fun a w => ∃ a36 n26 c36 a37 n27 c37 a38 n28 c38 p13, Fr a 292 [(0, .slice a_x0 x0.length c_x0), (1, .slice a_x1 x1.length c_x1), (2, .slice a_x2 x2.length c_x2), (3, .slice a9 z5.length c9), (9, .pointer (some ⟨p1, 0, none⟩)), (10, .pointer (some ⟨p2, 0, none⟩)), (11, .pointer (some ⟨p3, 0, none⟩)), (12, .slice a12 z9.length c12), (15, .int .i64 (z10 + 1)), (18, .slice (some ⟨p12, 0, none⟩) ((List.replicate ((x1.length : Int) : Int).toNat (0 : Int)).length) ((List.replicate ((x1.length : Int) : Int).toNat (0 : Int)).length)), (19, .int .i64 z25), (20, .pointer (some ⟨p13, 0, none⟩))] ∧ St w0 (fun _ => False) w [Own 3 (rowT z5) (.slice a9 z5.length c9), Own 3 (rowT z21) (.slice a32 z21.length c32), Own 3 (rowT z22) (.slice a33 z22.length c33), Box p1 [.slice a32 z21.length c32, .slice a33 z22.length c33, .int .i64 z23], Box p2 [.int .i64 0, .slice none 0 0, .slice none 0 0, .slice none 0 0, .int .i64 0], Own 3 (rowT y1) (.slice a1 y1.length c1), Own 3 (rowT y2) (.slice a2 y2.length c2), Box p3 [.slice a1 y1.length c1, .slice a2 y2.length c2, .int .i64 y3], Own 125 (rowT z9) (.slice a12 z9.length c12), Own 3 (rowT z24) (.slice (some ⟨p12, 0, none⟩) ((List.replicate ((x1.length : Int) : Int).toNat (0 : Int)).length) ((List.replicate ((x1.length : Int) : Int).toNat (0 : Int)).length)), Own 3 (rowT z31) (.slice a36 n26 c36), Own 3 (rowT z32) (.slice a37 n27 c37), Own 3 (rowT z33) (.slice a38 n28 c38), Box p13 [.int .i64 z30, .slice a36 n26 c36, .slice a37 n27 c37, .slice a38 n28 c38, .int .i64 z34]]) ?_ ?_
  have hk5 := h
  have h := hx22
  obtain ⟨e13, hx23, h⟩ := obs h
  obtain ⟨b11, o11, ha11⟩ := (HT.ro hr_x2).any.addr hx23
  have hc9 := (HT.ro hr_x2).any.flatAt ha11 hx23
  obtain ⟨e14, hx24, h⟩ := obs h
  obtain ⟨b12, o12, ha12⟩ := (HT.ro hr_x1).any.addr hx24
  obtain ⟨_, hP1, hc10, hr1⟩ := hr_x1.elemAt ha12 hx24
  obtain ⟨a39, c39, rfl, hr2⟩ := cells_Kid hr1
  have hc11 := HT.roLd hP1 hc10
  refine wp_region_tree (.seg [(0, false), (1, false), (2, false), (3, false), (4, false), (5, false), (6, false), (7, false), (8, false), (9, false)] (.alt 10 true (.seg [(11, false), (12, true)] .stop) (.alt 11 false (.seg [(10, true), (12, true)] .stop) .none))) (fun w' => LdC w' b11 (o11 + (z25 : Int).toNat * Dat.size Int) [.int .i64 e13] ∧ LdC w' b12 (o12 + (e13 : Int).toNat * Dat.size KidD) [.slice a39 e14.code.length c39] ∧ LdC w' p1 0 [.slice a32 z21.length c32, .slice a33 z22.length c33, .int .i64 z23] ∧ True) (by kernel_rfl) (by kernel_rfl) ?_
  have HT := HT.drew
  refine wt_seg (wc_move HF (fun _ => ⟨((HT.ro hr_x2).any.flatAt ha11 hx23), (HT.roLd hP1 hc10), (HT.boxAt 3 rfl).part 0 3, trivial⟩) rfl rfl rfl fun a HF => ?_)
  refine wc_move HF (fun _ => ⟨((HT.ro hr_x2).any.flatAt ha11 hx23), (HT.roLd hP1 hc10), (HT.boxAt 3 rfl).part 0 3, trivial⟩) rfl rfl rfl fun a HF => ?_
  refine wc_move HF (fun _ => ⟨((HT.ro hr_x2).any.flatAt ha11 hx23), (HT.roLd hP1 hc10), (HT.boxAt 3 rfl).part 0 3, trivial⟩) rfl rfl rfl fun a HF => ?_
  refine wc_ixaddr HF (fun _ => ⟨((HT.ro hr_x2).any.flatAt ha11 hx23), (HT.roLd hP1 hc10), (HT.boxAt 3 rfl).part 0 3, trivial⟩) el22 rfl ha11 ((HT.ro hr_x2).any).neq rfl hx23 rfl rfl fun a HF => ?_
  refine wc_loadS HF ⟨((HT.ro hr_x2).any.flatAt ha11 hx23), (HT.roLd hP1 hc10), (HT.boxAt 3 rfl).part 0 3, trivial⟩ rfl sc3 (fun w hS => (hS.1).get 0 rfl) rfl rfl fun a HF => ?_
  refine wc_ixaddr HF (fun _ => ⟨((HT.ro hr_x2).any.flatAt ha11 hx23), (HT.roLd hP1 hc10), (HT.boxAt 3 rfl).part 0 3, trivial⟩) el51 rfl ha12 ((HT.ro hr_x1).any).neq rfl hx24 rfl rfl fun a HF => ?_
  refine wc_faddr HF (fun _ => ⟨((HT.ro hr_x2).any.flatAt ha11 hx23), (HT.roLd hP1 hc10), (HT.boxAt 3 rfl).part 0 3, trivial⟩) rfl fl127_0 rfl rfl fun a HF => ?_
  refine wc_loadS HF ⟨((HT.ro hr_x2).any.flatAt ha11 hx23), (HT.roLd hP1 hc10), (HT.boxAt 3 rfl).part 0 3, trivial⟩ rfl sc36 (fun w hS => (hS.2.1).get 0 rfl) rfl rfl fun a HF => ?_
  refine wc_move HF (fun _ => ⟨((HT.ro hr_x2).any.flatAt ha11 hx23), (HT.roLd hP1 hc10), (HT.boxAt 3 rfl).part 0 3, trivial⟩) rfl rfl rfl fun a HF => ?_
  refine wc_loadAS (vs := [.slice a32 z21.length c32, .slice a33 z22.length c33, .int .i64 z23]) HF ⟨((HT.ro hr_x2).any.flatAt ha11 hx23), (HT.roLd hP1 hc10), (HT.boxAt 3 rfl).part 0 3, trivial⟩ rfl ag27 rfl (fun w hS => hS.2.2.1) rfl rfl fun a HF => ?_
  refine wc_endT ?_
  obtain ⟨y14, y15, y16, y17, y18, hx25, h⟩ := obs5 h
  refine wt_alt ?_ ?_
  refine wc_call HF cf66 rfl (ih hx25 (HT.ro hr2).any (rd_nil (E := KidD) _ _) (rd_nil (E := Int) _ _) (HT.rdAt 0 rfl) (HT.rdAt 1 rfl) (HT.rdAt 2 rfl)) rfl rfl ?_
  rintro e w ⟨a43, n32, c43, a44, n33, c44, a45, n34, c45, rfl, hE⟩
  have hb := hE.below
  have HT := HT.pure hE
  obtain rfl := (HT.rdAt 0 rfl).neq
  obtain rfl := (HT.rdAt 1 rfl).neq
  obtain rfl := (HT.rdAt 2 rfl).neq
  have HT : St w0 (fun _ => False) w [Own 3 (rowT y15) (.slice a43 y15.length c43), Own 3 (rowT y16) (.slice a44 y16.length c44), Own 3 (rowT y17) (.slice a45 y17.length c45), Own 3 (rowT z5) (.slice a9 z5.length c9), Own 3 (rowT z21) (.slice a32 z21.length c32), Own 3 (rowT z22) (.slice a33 z22.length c33), Box p1 [.slice a32 z21.length c32, .slice a33 z22.length c33, .int .i64 z23], Box p2 [.int .i64 0, .slice none 0 0, .slice none 0 0, .slice none 0 0, .int .i64 0], Own 3 (rowT y1) (.slice a1 y1.length c1), Own 3 (rowT y2) (.slice a2 y2.length c2), Box p3 [.slice a1 y1.length c1, .slice a2 y2.length c2, .int .i64 y3], Own 125 (rowT z9) (.slice a12 z9.length c12), Own 3 (rowT z24) (.slice (some ⟨p12, 0, none⟩) ((List.replicate ((x1.length : Int) : Int).toNat (0 : Int)).length) ((List.replicate ((x1.length : Int) : Int).toNat (0 : Int)).length))] := HT
  refine ⟨_, rfl, nS, fun a HF => ?_⟩
  refine wc_endT (wt_seg (wc_alloc (cs := [.int .i64 0, .slice none 0 0, .slice none 0 0, .slice none 0 0, .int .i64 0]) HF HT zr49 rfl rfl rfl (fun p15 w HT hb => ⟨(fun _ => ⟨((HT.ro hr_x2).any.flatAt ha11 hx23), (HT.roLd hP1 hc10), (HT.boxAt 7 rfl).part 0 3, trivial⟩), fun a HF => ?_⟩)))
  refine wc_storeB (cs' := [.int .i64 y14, .slice a43 y15.length c43, .slice a44 y16.length c44, .slice a45 y17.length c45, .int .i64 y18]) HF HT rfl rfl (fun w => (ag49 w).2) rfl rfl rfl rfl rfl (fun w HT => ⟨nS, ?_⟩)
  refine wc_endT (wt_stop ?_)
  have HT := HT.p3.p3.p3.p13.p13.p13.p13.p13.p13.p13.p13.p13.p13
  have hj6 := Option.some.inj h
  obtain ⟨rfl, hj7⟩ := Prod.mk.inj hj6
  obtain ⟨rfl, hj8⟩ := Prod.mk.inj hj7
  obtain ⟨rfl, hj9⟩ := Prod.mk.inj hj8
  obtain ⟨rfl, hj10⟩ := Prod.mk.inj hj9
  subst hj10
  exact then_n ⟨a43, y15.length, c43, a44, y16.length, c44, a45, y17.length, c45, p15, (HF.keep (HF.keep (HF.keep (HF.keep (HF.keep (HF.keep (HF.keep (HF.keep (HF.keep (HF.keep (HF.keep (HF.keep HF.nil rfl) rfl) rfl) rfl) rfl) rfl) rfl) rfl) rfl) rfl) rfl) rfl), HT⟩
  refine wt_alt ?_ ?_
  refine wc_alloc (cs := [.int .i64 0, .slice none 0 0, .slice none 0 0, .slice none 0 0, .int .i64 0]) HF HT zr49 rfl rfl rfl (fun p16 w HT hb => ⟨(fun _ => ⟨((HT.ro hr_x2).any.flatAt ha11 hx23), (HT.roLd hP1 hc10), (HT.boxAt 4 rfl).part 0 3, trivial⟩), fun a HF => ?_⟩)
  refine wc_endT (wt_seg (wc_call HF cf66 rfl (ih hx25 (HT.ro hr2).any (rd_nil (E := KidD) _ _) (rd_nil (E := Int) _ _) (HT.rdAt 1 rfl) (HT.rdAt 2 rfl) (HT.rdAt 3 rfl)) rfl rfl ?_))
  rintro e w ⟨a46, n35, c46, a47, n36, c47, a48, n37, c48, rfl, hE⟩
  have hb := hE.below
  have HT := HT.pure hE
  obtain rfl := (HT.rdAt 0 rfl).neq
  obtain rfl := (HT.rdAt 1 rfl).neq
  obtain rfl := (HT.rdAt 2 rfl).neq
  have HT : St w0 (fun _ => False) w [Own 3 (rowT y15) (.slice a46 y15.length c46), Own 3 (rowT y16) (.slice a47 y16.length c47), Own 3 (rowT y17) (.slice a48 y17.length c48), Box p16 [.int .i64 0, .slice none 0 0, .slice none 0 0, .slice none 0 0, .int .i64 0], Own 3 (rowT z5) (.slice a9 z5.length c9), Own 3 (rowT z21) (.slice a32 z21.length c32), Own 3 (rowT z22) (.slice a33 z22.length c33), Box p1 [.slice a32 z21.length c32, .slice a33 z22.length c33, .int .i64 z23], Box p2 [.int .i64 0, .slice none 0 0, .slice none 0 0, .slice none 0 0, .int .i64 0], Own 3 (rowT y1) (.slice a1 y1.length c1), Own 3 (rowT y2) (.slice a2 y2.length c2), Box p3 [.slice a1 y1.length c1, .slice a2 y2.length c2, .int .i64 y3], Own 125 (rowT z9) (.slice a12 z9.length c12), Own 3 (rowT z24) (.slice (some ⟨p12, 0, none⟩) ((List.replicate ((x1.length : Int) : Int).toNat (0 : Int)).length) ((List.replicate ((x1.length : Int) : Int).toNat (0 : Int)).length))] := HT
  refine ⟨_, rfl, nS, fun a HF => ?_⟩
  have HT := HT.p3
  refine wc_storeB (cs' := [.int .i64 y14, .slice a46 y15.length c46, .slice a47 y16.length c47, .slice a48 y17.length c48, .int .i64 y18]) HF HT rfl rfl (fun w => (ag49 w).2) rfl rfl rfl rfl rfl (fun w HT => ⟨nS, ?_⟩)
  refine wc_endT (wt_stop ?_)
  have HT := HT.p3.p3.p3.p13.p13.p13.p13.p13.p13.p13.p13.p13.p13
  have hj11 := Option.some.inj h
  obtain ⟨rfl, hj12⟩ := Prod.mk.inj hj11
  obtain ⟨rfl, hj13⟩ := Prod.mk.inj hj12
  obtain ⟨rfl, hj14⟩ := Prod.mk.inj hj13
  obtain ⟨rfl, hj15⟩ := Prod.mk.inj hj14
  subst hj15
  exact then_n ⟨a46, y15.length, c46, a47, y16.length, c47, a48, y17.length, c48, p16, (HF.keep (HF.keep (HF.keep (HF.keep (HF.keep (HF.keep (HF.keep (HF.keep (HF.keep (HF.keep (HF.keep (HF.keep HF.nil rfl) rfl) rfl) rfl) rfl) rfl) rfl) rfl) rfl) rfl) rfl) rfl), HT⟩
  exact wt_none
  rintro a w ⟨a36, n26, c36, a37, n27, c37, a38, n28, c38, p13, HF, HT⟩
  obtain rfl := (HT.rdAt 10 rfl).neq
  obtain rfl := (HT.rdAt 11 rfl).neq
  obtain rfl := (HT.rdAt 12 rfl).neq
  refine ?_
  refine wp_seq (wc_text (wc_faddr HF nS rfl fl49_2 rfl rfl fun a HF => ?_))
  refine wc_loadA (vs := [.slice a37 z32.length c37, .slice a38 z33.length c38, .int .i64 z34]) HF rfl ag27 rfl ((HT.boxAt 13 rfl).part 2 3) rfl rfl fun a HF => ?_
  have HT := HT.p3
  refine wc_storeB (cs' := [.slice a37 z32.length c37, .slice a38 z33.length c38, .int .i64 z34]) HF HT rfl rfl (fun w => (ag27 w).2) rfl rfl rfl rfl rfl (fun w HT => ⟨nS, ?_⟩)
  refine wc_end (then_n (wp_seq (wc_text (wc_faddr HF nS rfl fl49_0 rfl rfl fun a HF => ?_))))
  refine wc_load HF rfl sc3 ((HT.boxAt 13 rfl).get 0 rfl) rfl rfl fun a HF => ?_
  refine wc_bin HF nS rfl rfl b_eq rfl rfl fun a HF => ?_
  refine wc_end (then_n ?_)
  by_cases hb12 : z30 = 1
  have h := ifp hb12 h
  refine wp_if (b' := true) HF rfl (decide_eq_true hb12) ?_
  refine wp_region_can [(0, true), (1, true), (2, true), (3, true), (4, true), (5, true), (6, true), (7, true), (8, true), (9, true), (10, true)] (fun w' => True) (by kernel_rfl) (by kernel_rfl) ?_
  have HT := HT.drew
  refine wm HF rfl rfl rfl fun a HF => ?_
  refine wm HF rfl rfl rfl fun a HF => ?_
  refine wm HF rfl rfl rfl fun a HF => ?_
  obtain ⟨e15, hx26, h⟩ := obs h
  obtain ⟨b13, o13, ha13⟩ := (HT.ro hr_x2).any.addr hx26
  refine wc_ixaddr HF nS el22 rfl ha13 ((HT.ro hr_x2).any).neq rfl hx26 rfl rfl fun a HF => ?_
  have hc12 := (HT.ro hr_x2).any.flatAt ha13 hx26
  refine wc_load HF rfl sc3 (hc12.get 0 rfl) rfl rfl fun a HF => ?_
  refine wc_faddr HF nS rfl fl49_1 rfl rfl fun a HF => ?_
  refine wc_load HF rfl sc22 ((HT.boxAt 13 rfl).get 1 rfl) rfl rfl fun a HF => ?_
  obtain ⟨e16, hx27, h⟩ := obs h
  obtain ⟨b14, o14, ha14⟩ := (HT.rdAt 10 rfl).addr hx27
  refine wc_ixaddr HF nS el22 rfl ha14 ((HT.rdAt 10 rfl)).neq rfl hx27 rfl rfl fun a HF => ?_
  have hc13 := (HT.rdAt 10 rfl).flatAt ha14 hx27
  refine wc_load HF rfl sc3 (hc13.get 0 rfl) rfl rfl fun a HF => ?_
  obtain ⟨e17, hx28, h⟩ := obs h
  refine wc_ixaddr HF nS el22 rfl rfl ((HT.rdAt 9 rfl)).neq rfl hx28 rfl rfl fun a HF => ?_
  have HT := HT.p9
  refine wc_storeR (i := e15) (j := 0) (x' := e16) HF HT rfl rfl rfl (fun w => (sc3 w).2) rfl rfl hx28 rfl rfl rfl rfl (fun w HT => ⟨nS, ?_⟩)
  refine wc_endN (blk_n ?_)
  have HT := HT.p9.p9.p9.p9.p9.p6.p12.p12.p9.t10
  have hj16 := Option.some.inj h
  obtain ⟨rfl, hj17⟩ := Prod.mk.inj hj16
  obtain ⟨rfl, hj18⟩ := Prod.mk.inj hj17
  obtain ⟨rfl, hj19⟩ := Prod.mk.inj hj18
  subst hj19
  exact then_n ⟨a37, z32.length, c37, a38, z33.length, c38, (HF.keep (HF.keep (HF.keep (HF.keep (HF.keep (HF.keep (HF.keep (HF.keep (HF.keep (HF.keep (HF.keep HF.nil rfl) rfl) rfl) rfl) rfl) rfl) rfl) rfl) rfl) rfl) rfl), HT⟩
  have h := ifn hb12 h
  refine wp_if (b' := false) HF rfl (decide_eq_false hb12) ?_
  refine wp_skip (blk_n ?_)
  have HT := HT.p9.p9.p9.p9.p9.p9.p6.p12.p12.p9.t10
  have hj20 := Option.some.inj h
  obtain ⟨rfl, hj21⟩ := Prod.mk.inj hj20
  obtain ⟨rfl, hj22⟩ := Prod.mk.inj hj21
  obtain ⟨rfl, hj23⟩ := Prod.mk.inj hj22
  subst hj23
  exact then_n ⟨a37, z32.length, c37, a38, z33.length, c38, (HF.keep (HF.keep (HF.keep (HF.keep (HF.keep (HF.keep (HF.keep (HF.keep (HF.keep (HF.keep (HF.keep HF.nil rfl) rfl) rfl) rfl) rfl) rfl) rfl) rfl) rfl) rfl) rfl), HT⟩
  rintro a w ⟨a34, n24, c34, a35, n25, c35, HF, HT⟩
  obtain rfl := (HT.rdAt 1 rfl).neq
  obtain rfl := (HT.rdAt 2 rfl).neq
  refine ?_
  refine wc_text (wm HF rfl rfl rfl fun a HF => ?_)
  obtain ⟨hg13, h⟩ := grd h
  refine wc_bin HF nS rfl rfl (b_add hg13) rfl rfl fun a HF => ?_
  refine wa HF rfl rfl rfl fun a HF => ?_
  exact wc_end (then_n ⟨k2, Nat.lt_succ_self k2, z26, z27, z28, z29, z25 + 1, a34, z26.length, c34, a35, z27.length, c35, h, (HF.keep (HF.keep (HF.keep (HF.keep (HF.keep (HF.keep (HF.keep (HF.keep (HF.keep (HF.keep (HF.keep HF.nil rfl) rfl) rfl) rfl) rfl) rfl) rfl) rfl) rfl) rfl) rfl), HT⟩)
  have h := ifn hb11 h
  refine wp_if (b' := false) HF rfl (decide_eq_false hb11) ?_
  refine wp_exit ?_
  refine then_x (then_x (?_))
  refine blk_x ?_
  have hj24 := Option.some.inj h
  obtain ⟨rfl, hj25⟩ := Prod.mk.inj hj24
  obtain ⟨rfl, hj26⟩ := Prod.mk.inj hj25
  obtain ⟨rfl, hj27⟩ := Prod.mk.inj hj26
  subst hj27
  exact then_n ⟨a32, z21.length, c32, a33, z22.length, c33, (HF.keep (HF.keep (HF.keep (HF.keep (HF.keep (HF.keep (HF.keep (HF.keep (HF.keep (HF.keep HF.nil rfl) rfl) rfl) rfl) rfl) rfl) rfl) rfl) rfl) rfl), HT⟩
  rintro a w ⟨a30, n20, c30, a31, n21, c31, HF, HT⟩
  obtain rfl := (HT.rdAt 1 rfl).neq
  obtain rfl := (HT.rdAt 2 rfl).neq
  refine ?_
  refine wp_seq (wc_text (wa HF rfl rfl rfl fun a HF => ?_))
  refine wc_end (then_n (wp_block (wp_loopN (fun k3 a w => ∃ z35 z36, m_spec_l7Walk_L2 fuel x1 z5 z6 z9 z10 z17 z18 z19 z20 k3 z35 z36 = some q2 ∧ Fr a 292 [(0, .slice a_x0 x0.length c_x0), (1, .slice a_x1 x1.length c_x1), (2, .slice a_x2 x2.length c_x2), (3, .slice a9 z5.length c9), (9, .pointer (some ⟨p1, 0, none⟩)), (10, .pointer (some ⟨p2, 0, none⟩)), (11, .pointer (some ⟨p3, 0, none⟩)), (12, .slice a12 z9.length c12), (15, .int .i64 (z10 + 1)), (18, .slice (some ⟨p12, 0, none⟩) ((List.replicate ((x1.length : Int) : Int).toNat (0 : Int)).length) ((List.replicate ((x1.length : Int) : Int).toNat (0 : Int)).length)), (21, .int .i64 z36)] ∧ St w0 (fun _ => False) w [Own 3 (rowT z35) (.slice a9 z5.length c9), Own 3 (rowT z17) (.slice a30 z17.length c30), Own 3 (rowT z18) (.slice a31 z18.length c31), Box p1 [.slice a30 z17.length c30, .slice a31 z18.length c31, .int .i64 z19], Box p2 [.int .i64 0, .slice none 0 0, .slice none 0 0, .slice none 0 0, .int .i64 0], Own 3 (rowT y1) (.slice a1 y1.length c1), Own 3 (rowT y2) (.slice a2 y2.length c2), Box p3 [.slice a1 y1.length c1, .slice a2 y2.length c2, .int .i64 y3], Own 125 (rowT z9) (.slice a12 z9.length c12), Own 3 (rowT z20) (.slice (some ⟨p12, 0, none⟩) ((List.replicate ((x1.length : Int) : Int).toNat (0 : Int)).length) ((List.replicate ((x1.length : Int) : Int).toNat (0 : Int)).length))]) fuel ⟨z5, 0, h, (HF.keep (HF.keep (HF.keep (HF.keep (HF.keep (HF.keep (HF.keep (HF.keep (HF.keep (HF.keep (HF.keep HF.nil rfl) rfl) rfl) rfl) rfl) rfl) rfl) rfl) rfl) rfl) rfl), HT⟩ ?_)))
  rintro k3 a w ⟨z35, z36, h, HF, HT⟩
  rcases k3 with _ | k3
  cases h
  rw [m_spec_l7Walk_L2] at h
  refine ?_
  refine wp_seq (wp_seq (wc_text (wm HF rfl rfl rfl fun a HF => ?_)))
  refine wm HF rfl rfl rfl fun a HF => ?_
  refine wc_lenR HF nS Try.underlying22 rfl rfl rfl fun a HF => ?_
  refine wc_bin HF nS rfl rfl b_lt rfl rfl fun a HF => ?_
  refine wc_end (then_n ?_)
  by_cases hb13 : z36 < ((List.replicate ((x1.length : Int) : Int).toNat (0 : Int)).length : Int)
  have h := ifp hb13 h
  refine wp_if (b' := true) HF rfl (decide_eq_true hb13) ?_
  refine wp_skip (then_n (wp_seq (wp_block (wc_text (wm HF rfl rfl rfl fun a HF => ?_)))))
  refine wm HF rfl rfl rfl fun a HF => ?_
  refine wm HF rfl rfl rfl fun a HF => ?_
  refine wm HF rfl rfl rfl fun a HF => ?_
  obtain ⟨e18, hx29, h⟩ := obs h
  refine wc_ixaddr HF nS el22 rfl rfl ((HT.rdAt 9 rfl)).neq rfl hx29 rfl rfl fun a HF => ?_
  have hc14 := (HT.rdAt 9 rfl).flatAt rfl hx29
  refine wc_load HF rfl sc3 (hc14.get 0 rfl) rfl rfl fun a HF => ?_
  obtain ⟨e19, hx30, h⟩ := obs h
  obtain ⟨b15, o15, ha15⟩ := (HT.rdAt 0 rfl).addr hx30
  refine wc_ixaddr HF nS el22 rfl ha15 ((HT.rdAt 0 rfl)).neq rfl hx30 rfl rfl fun a HF => ?_
  refine wc_storeR (i := z36) (j := 0) (x' := e18) HF HT ha15 rfl rfl (fun w => (sc3 w).2) rfl rfl hx30 rfl rfl rfl rfl (fun w HT => ⟨nS, ?_⟩)
  refine wc_end (blk_n (then_n (wc_text (wm HF rfl rfl rfl fun a HF => ?_))))
  obtain ⟨hg14, h⟩ := grd h
  refine wc_bin HF nS rfl rfl (b_add hg14) rfl rfl fun a HF => ?_
  refine wa HF rfl rfl rfl fun a HF => ?_
  exact wc_end (then_n ⟨k3, Nat.lt_succ_self k3, z35.set z36.toNat e18, z36 + 1, h, (HF.keep (HF.keep (HF.keep (HF.keep (HF.keep (HF.keep (HF.keep (HF.keep (HF.keep (HF.keep (HF.keep HF.nil rfl) rfl) rfl) rfl) rfl) rfl) rfl) rfl) rfl) rfl) rfl), HT⟩)
  have h := ifn hb13 h
  refine wp_if (b' := false) HF rfl (decide_eq_false hb13) ?_
  refine wp_exit ?_
  refine then_x (then_x (?_))
  refine blk_x ?_
  refine blk_n ?_
  have HT := HT.t9
  exact then_n ⟨z35, z17, z18, z19, z9, z10 + 1, a9, z5.length, c9, a30, z17.length, c30, a31, z18.length, c31, a12, z9.length, c12, (Option.some.inj h).symm, (HF.keep (HF.keep (HF.keep (HF.keep (HF.keep (HF.keep (HF.keep (HF.keep (HF.keep HF.nil rfl) rfl) rfl) rfl) rfl) rfl) rfl) rfl) rfl), HT⟩
  have h := ifn hb10 h
  refine wp_if (b' := false) HF rfl (decide_eq_false hb10) ?_
  refine wp_seq (wc_text (wc_bin HF nS rfl rfl b_eq rfl rfl fun a HF => ?_))
  refine wa HF rfl rfl rfl fun a HF => ?_
  refine wc_end (then_n ?_)
  by_cases hb14 : e1.a = 12
  have h := ifp hb14 h
  refine wp_if (b' := true) HF rfl (decide_eq_true hb14) ?_
  refine wp_seq (wc_text (wc_faddr HF nS rfl fl27_1 rfl rfl fun a HF => ?_))
  refine wc_load HF rfl sc22 ((HT.boxAt 4 rfl).get 1 rfl) rfl rfl fun a HF => ?_
  refine wc_faddr HF nS rfl fl85_1 rfl rfl fun a HF => ?_
  refine wc_load HF rfl sc3 ((HT.boxAt 0 rfl).get 1 rfl) rfl rfl fun a HF => ?_
  obtain ⟨e20, hx31, h⟩ := obs h
  obtain ⟨b16, o16, ha16⟩ := (HT.rdAt 3 rfl).addr hx31
  refine wc_ixaddr HF nS el22 rfl ha16 ((HT.rdAt 3 rfl)).neq rfl hx31 rfl rfl fun a HF => ?_
  have hc15 := (HT.rdAt 3 rfl).flatAt ha16 hx31
  refine wc_load HF rfl sc3 (hc15.get 0 rfl) rfl rfl fun a HF => ?_
  refine wa HF rfl rfl rfl fun a HF => ?_
  refine wc_end (then_n (wp_seq (wp_region_can [(0, true), (1, true), (2, true), (3, true), (4, true), (5, true), (6, true), (7, true), (8, true), (9, true), (10, true), (11, true)] (fun w' => True) (by kernel_rfl) (by kernel_rfl) ?_)))
  have HT := HT.drew
  refine wc_faddr HF nS rfl fl27_1 rfl rfl fun a HF => ?_
  refine wc_load HF rfl sc22 ((HT.boxAt 4 rfl).get 1 rfl) rfl rfl fun a HF => ?_
  refine wc_faddr HF nS rfl fl85_1 rfl rfl fun a HF => ?_
  refine wc_load HF rfl sc3 ((HT.boxAt 0 rfl).get 1 rfl) rfl rfl fun a HF => ?_
  refine wm HF rfl rfl rfl fun a HF => ?_
  refine wc_faddr HF nS rfl fl85_2 rfl rfl fun a HF => ?_
  refine wc_load HF rfl sc3 ((HT.boxAt 0 rfl).get 2 rfl) rfl rfl fun a HF => ?_
  obtain ⟨e21, hx32, h⟩ := obs h
  obtain ⟨b17, o17, ha17⟩ := (HT.rdAt 1 rfl).addr hx32
  refine wc_ixaddr HF nS el22 rfl ha17 ((HT.rdAt 1 rfl)).neq rfl hx32 rfl rfl fun a HF => ?_
  have hc16 := (HT.rdAt 1 rfl).flatAt ha17 hx32
  refine wc_load HF rfl sc3 (hc16.get 0 rfl) rfl rfl fun a HF => ?_
  obtain ⟨hg15, h⟩ := grd h
  refine wc_bin HF nS rfl rfl (b_add hg15) rfl rfl fun a HF => ?_
  refine wc_ixaddr HF nS el22 rfl ha16 ((HT.rdAt 3 rfl)).neq rfl hx31 rfl rfl fun a HF => ?_
  have HT := HT.p3
  refine wc_storeR (i := e1.b) (j := 0) (x' := 1 + e21) HF HT ha16 rfl rfl (fun w => (sc3 w).2) rfl rfl hx31 rfl rfl rfl rfl (fun w HT => ⟨nS, ?_⟩)
  refine wc_endN (then_n (wc_text (wm HF rfl rfl rfl fun a HF => ?_)))
  refine wc_faddr HF nS rfl fl85_3 rfl rfl fun a HF => ?_
  refine wc_load HF rfl sc3 ((HT.boxAt 1 rfl).get 3 rfl) rfl rfl fun a HF => ?_
  refine wm HF rfl rfl rfl fun a HF => ?_
  obtain ⟨hg16, h⟩ := grd h
  refine wc_bin HF nS rfl rfl (b_rem hg16) rfl rfl fun a HF => ?_
  obtain ⟨e22, hx33, h⟩ := obs h
  refine wc_ixaddr HF nS el22 rfl ha17 ((HT.rdAt 2 rfl)).neq rfl hx33 rfl rfl fun a HF => ?_
  have HT := HT.p2
  refine wc_storeR (i := e1.d) (j := 0) (x' := e20.tmod 65536) HF HT ha17 rfl rfl (fun w => (sc3 w).2) rfl rfl hx33 rfl rfl rfl rfl (fun w HT => ⟨nS, ?_⟩)
  refine wc_end (blk_n ?_)
  have HT := HT.p9.p9.p9.p9.p9.p9.p7.p9.p8.t9
  exact then_n ⟨z5.set e1.d.toNat (e20.tmod 65536), z6, z7.set e1.b.toNat (1 + e21), z8, z9, z10 + 1, a9, z5.length, c9, a10, z6.length, c10, a11, z7.length, c11, a12, z9.length, c12, (Option.some.inj h).symm, (HF.keep (HF.keep (HF.keep (HF.keep (HF.keep (HF.keep (HF.keep (HF.keep (HF.keep HF.nil rfl) rfl) rfl) rfl) rfl) rfl) rfl) rfl) rfl), HT⟩
  have h := ifn hb14 h
  refine wp_if (b' := false) HF rfl (decide_eq_false hb14) ?_
  refine wp_seq (wc_text (wc_bin HF nS rfl rfl b_eq rfl rfl fun a HF => ?_))
  refine wa HF rfl rfl rfl fun a HF => ?_
  refine wc_end (then_n ?_)
  by_cases hb15 : e1.a = 13
  have h := ifp hb15 h
  refine wp_if (b' := true) HF rfl (decide_eq_true hb15) ?_
  refine wp_region_can [(0, true), (1, true), (2, true), (3, true), (4, true), (5, true), (6, true), (7, true), (8, true), (9, true), (10, true), (11, true)] (fun w' => True) (by kernel_rfl) (by kernel_rfl) ?_
  have HT := HT.drew
  refine wm HF rfl rfl rfl fun a HF => ?_
  refine wc_faddr HF nS rfl fl85_1 rfl rfl fun a HF => ?_
  refine wc_load HF rfl sc3 ((HT.boxAt 0 rfl).get 1 rfl) rfl rfl fun a HF => ?_
  refine wc_faddr HF nS rfl fl27_1 rfl rfl fun a HF => ?_
  refine wc_load HF rfl sc22 ((HT.boxAt 4 rfl).get 1 rfl) rfl rfl fun a HF => ?_
  refine wc_faddr HF nS rfl fl85_2 rfl rfl fun a HF => ?_
  refine wc_load HF rfl sc3 ((HT.boxAt 0 rfl).get 2 rfl) rfl rfl fun a HF => ?_
  obtain ⟨e23, hx34, h⟩ := obs h
  obtain ⟨b18, o18, ha18⟩ := (HT.rdAt 3 rfl).addr hx34
  refine wc_ixaddr HF nS el22 rfl ha18 ((HT.rdAt 3 rfl)).neq rfl hx34 rfl rfl fun a HF => ?_
  have hc17 := (HT.rdAt 3 rfl).flatAt ha18 hx34
  refine wc_load HF rfl sc3 (hc17.get 0 rfl) rfl rfl fun a HF => ?_
  obtain ⟨hg17, h⟩ := grd h
  refine wc_bin HF nS rfl rfl (b_rem hg17) rfl rfl fun a HF => ?_
  obtain ⟨e24, hx35, h⟩ := obs h
  obtain ⟨b19, o19, ha19⟩ := (HT.rdAt 1 rfl).addr hx35
  refine wc_ixaddr HF nS el22 rfl ha19 ((HT.rdAt 1 rfl)).neq rfl hx35 rfl rfl fun a HF => ?_
  have HT := HT.p1
  refine wc_storeR (i := e1.b) (j := 0) (x' := e23.tmod 65536) HF HT ha19 rfl rfl (fun w => (sc3 w).2) rfl rfl hx35 rfl rfl rfl rfl (fun w HT => ⟨nS, ?_⟩)
  refine wc_endN (blk_n ?_)
  have HT := HT.p9.p9.p9.p9.p9.p9.p9.p9.p8.t9
  exact then_n ⟨z5.set e1.b.toNat (e23.tmod 65536), z6, z7, z8, z9, z10 + 1, a9, z5.length, c9, a10, z6.length, c10, a11, z7.length, c11, a12, z9.length, c12, (Option.some.inj h).symm, (HF.keep (HF.keep (HF.keep (HF.keep (HF.keep (HF.keep (HF.keep (HF.keep (HF.keep HF.nil rfl) rfl) rfl) rfl) rfl) rfl) rfl) rfl) rfl), HT⟩
  have h := ifn hb15 h
  refine wp_if (b' := false) HF rfl (decide_eq_false hb15) ?_
  refine wp_seq (wc_text (wc_bin HF nS rfl rfl b_eq rfl rfl fun a HF => ?_))
  refine wa HF rfl rfl rfl fun a HF => ?_
  refine wc_end (then_n ?_)
  by_cases hb16 : e1.a = 14
  have h := ifp hb16 h
  refine wp_if (b' := true) HF rfl (decide_eq_true hb16) ?_
  refine wp_seq (wc_text (wc_faddr HF nS rfl fl27_1 rfl rfl fun a HF => ?_))
  refine wc_load HF rfl sc22 ((HT.boxAt 4 rfl).get 1 rfl) rfl rfl fun a HF => ?_
  refine wc_faddr HF nS rfl fl85_1 rfl rfl fun a HF => ?_
  refine wc_load HF rfl sc3 ((HT.boxAt 0 rfl).get 1 rfl) rfl rfl fun a HF => ?_
  obtain ⟨e25, hx36, h⟩ := obs h
  obtain ⟨b20, o20, ha20⟩ := (HT.rdAt 3 rfl).addr hx36
  refine wc_ixaddr HF nS el22 rfl ha20 ((HT.rdAt 3 rfl)).neq rfl hx36 rfl rfl fun a HF => ?_
  have hc18 := (HT.rdAt 3 rfl).flatAt ha20 hx36
  refine wc_load HF rfl sc3 (hc18.get 0 rfl) rfl rfl fun a HF => ?_
  refine wa HF rfl rfl rfl fun a HF => ?_
  refine wc_end (then_n (wp_seq (wc_text (wc_faddr HF nS rfl fl27_1 rfl rfl fun a HF => ?_))))
  refine wc_load HF rfl sc22 ((HT.boxAt 4 rfl).get 1 rfl) rfl rfl fun a HF => ?_
  refine wc_faddr HF nS rfl fl85_1 rfl rfl fun a HF => ?_
  refine wc_load HF rfl sc3 ((HT.boxAt 0 rfl).get 1 rfl) rfl rfl fun a HF => ?_
  refine wc_ixaddr HF nS el22 rfl ha20 ((HT.rdAt 3 rfl)).neq rfl hx36 rfl rfl fun a HF => ?_
  have HT := HT.p3
  refine wc_storeR (i := e1.b) (j := 0) (x' := 0) HF HT ha20 rfl rfl (fun w => (sc3 w).2) rfl rfl hx36 rfl rfl rfl rfl (fun w HT => ⟨nS, ?_⟩)
  refine wc_end (then_n (wc_text (wm HF rfl rfl rfl fun a HF => ?_)))
  refine wc_faddr HF nS rfl fl85_2 rfl rfl fun a HF => ?_
  refine wc_load HF rfl sc3 ((HT.boxAt 1 rfl).get 2 rfl) rfl rfl fun a HF => ?_
  refine wm HF rfl rfl rfl fun a HF => ?_
  obtain ⟨hg18, h⟩ := grd h
  refine wc_bin HF nS rfl rfl (b_rem hg18) rfl rfl fun a HF => ?_
  obtain ⟨e26, hx37, h⟩ := obs h
  obtain ⟨b21, o21, ha21⟩ := (HT.rdAt 2 rfl).addr hx37
  refine wc_ixaddr HF nS el22 rfl ha21 ((HT.rdAt 2 rfl)).neq rfl hx37 rfl rfl fun a HF => ?_
  have HT := HT.p2
  refine wc_storeR (i := e1.c) (j := 0) (x' := e25.tmod 65536) HF HT ha21 rfl rfl (fun w => (sc3 w).2) rfl rfl hx37 rfl rfl rfl rfl (fun w HT => ⟨nS, ?_⟩)
  refine wc_end (blk_n ?_)
  have HT := HT.p9.p9.p9.p9.p9.p9.p7.p9.p8.t9
  exact then_n ⟨z5.set e1.c.toNat (e25.tmod 65536), z6, z7.set e1.b.toNat 0, z8, z9, z10 + 1, a9, z5.length, c9, a10, z6.length, c10, a11, z7.length, c11, a12, z9.length, c12, (Option.some.inj h).symm, (HF.keep (HF.keep (HF.keep (HF.keep (HF.keep (HF.keep (HF.keep (HF.keep (HF.keep HF.nil rfl) rfl) rfl) rfl) rfl) rfl) rfl) rfl) rfl), HT⟩
  have h := ifn hb16 h
  refine wp_if (b' := false) HF rfl (decide_eq_false hb16) ?_
  refine wp_seq (wc_text (wc_bin HF nS rfl rfl b_eq rfl rfl fun a HF => ?_))
  refine wa HF rfl rfl rfl fun a HF => ?_
  refine wc_end (then_n ?_)
  by_cases hb17 : e1.a = 15
  have h := ifp hb17 h
  refine wp_if (b' := true) HF rfl (decide_eq_true hb17) ?_
  refine wp_region_can [(0, true), (1, true), (2, true), (3, true), (4, true), (5, true), (6, true), (7, true), (8, true), (9, true), (10, true)] (fun w' => True) (by kernel_rfl) (by kernel_rfl) ?_
  have HT := HT.drew
  refine wc_faddr HF nS rfl fl27_2 rfl rfl fun a HF => ?_
  refine wc_load HF rfl sc3 ((HT.boxAt 4 rfl).get 2 rfl) rfl rfl fun a HF => ?_
  refine wm HF rfl rfl rfl fun a HF => ?_
  refine wc_faddr HF nS rfl fl85_1 rfl rfl fun a HF => ?_
  refine wc_load HF rfl sc3 ((HT.boxAt 0 rfl).get 1 rfl) rfl rfl fun a HF => ?_
  obtain ⟨e27, hx38, h⟩ := obs h
  obtain ⟨b22, o22, ha22⟩ := (HT.rdAt 1 rfl).addr hx38
  refine wc_ixaddr HF nS el22 rfl ha22 ((HT.rdAt 1 rfl)).neq rfl hx38 rfl rfl fun a HF => ?_
  have hc19 := (HT.rdAt 1 rfl).flatAt ha22 hx38
  refine wc_load HF rfl sc3 (hc19.get 0 rfl) rfl rfl fun a HF => ?_
  obtain ⟨hg19, h⟩ := grd h
  refine wc_bin HF nS rfl rfl (b_add hg19) rfl rfl fun a HF => ?_
  obtain ⟨hg20, h⟩ := grd h
  refine wc_bin HF nS rfl rfl (b_rem hg20) rfl rfl fun a HF => ?_
  refine wc_faddr HF nS rfl fl27_2 rfl rfl fun a HF => ?_
  have HT := HT.p4
  refine wc_storeB (cs' := [.slice a10 z6.length c10, .slice a11 z7.length c11, .int .i64 ((z8 + e27).tmod 65536)]) HF HT rfl rfl (fun w => (sc3 w).2) rfl rfl rfl rfl rfl (fun w HT => ⟨nS, ?_⟩)
  refine wc_endN (blk_n ?_)
  have HT := HT.p9.p9.p9.p9.p9.p5.p9.p9.p9.t9
  exact then_n ⟨z5, z6, z7, (z8 + e27).tmod 65536, z9, z10 + 1, a9, z5.length, c9, a10, z6.length, c10, a11, z7.length, c11, a12, z9.length, c12, (Option.some.inj h).symm, (HF.keep (HF.keep (HF.keep (HF.keep (HF.keep (HF.keep (HF.keep (HF.keep (HF.keep HF.nil rfl) rfl) rfl) rfl) rfl) rfl) rfl) rfl) rfl), HT⟩
  have h := ifn hb17 h
  refine wp_if (b' := false) HF rfl (decide_eq_false hb17) ?_
  refine wp_seq (wc_text (wc_bin HF nS rfl rfl b_eq rfl rfl fun a HF => ?_))
  refine wa HF rfl rfl rfl fun a HF => ?_
  refine wc_end (then_n ?_)
  by_cases hb18 : e1.a = 16
  have h := ifp hb18 h
  refine wp_if (b' := true) HF rfl (decide_eq_true hb18) ?_
  refine wc_text (wm HF rfl rfl rfl fun a HF => ?_)
  refine wc_faddr HF nS rfl fl85_1 rfl rfl fun a HF => ?_
  refine wc_load HF rfl sc3 ((HT.boxAt 0 rfl).get 1 rfl) rfl rfl fun a HF => ?_
  refine wc_faddr HF nS rfl fl27_2 rfl rfl fun a HF => ?_
  refine wc_load HF rfl sc3 ((HT.boxAt 4 rfl).get 2 rfl) rfl rfl fun a HF => ?_
  obtain ⟨e28, hx39, h⟩ := obs h
  obtain ⟨b23, o23, ha23⟩ := (HT.rdAt 1 rfl).addr hx39
  refine wc_ixaddr HF nS el22 rfl ha23 ((HT.rdAt 1 rfl)).neq rfl hx39 rfl rfl fun a HF => ?_
  have HT := HT.p1
  refine wc_storeR (i := e1.b) (j := 0) (x' := z8) HF HT ha23 rfl rfl (fun w => (sc3 w).2) rfl rfl hx39 rfl rfl rfl rfl (fun w HT => ⟨nS, ?_⟩)
  refine wc_end (blk_n ?_)
  have HT := HT.p9.p9.p9.p9.p9.p9.p9.p9.p8.t9
  exact then_n ⟨z5.set e1.b.toNat z8, z6, z7, z8, z9, z10 + 1, a9, z5.length, c9, a10, z6.length, c10, a11, z7.length, c11, a12, z9.length, c12, (Option.some.inj h).symm, (HF.keep (HF.keep (HF.keep (HF.keep (HF.keep (HF.keep (HF.keep (HF.keep (HF.keep HF.nil rfl) rfl) rfl) rfl) rfl) rfl) rfl) rfl) rfl), HT⟩
  have h := ifn hb18 h
  refine wp_if (b' := false) HF rfl (decide_eq_false hb18) ?_
  refine wp_seq (wc_text (wc_loadA (vs := [.int .i64 e1.a, .int .i64 e1.b, .int .i64 e1.c, .int .i64 e1.d]) HF rfl ag85 rfl ((HT.boxAt 0 rfl).part 0 4) rfl rfl fun a HF => ?_))
  refine wm HF rfl rfl rfl fun a HF => ?_
  obtain ⟨y19, y20, hx40, h⟩ := obs2 h
  refine wc_call HF cf100 rfl (w_spec_Calc fuel hx40 (HT.rdAt 1 rfl)) rfl rfl ?_
  rintro e w ⟨a49, n38, c49, rfl, hE⟩
  have hb := hE.below
  have HT := HT.pure hE
  obtain rfl := (HT.rdAt 0 rfl).neq
  have HT : St w0 (fun _ => False) w [Own 3 (rowT y19) (.slice a49 y19.length c49), Box p6 [.int .i64 e1.a, .int .i64 e1.b, .int .i64 e1.c, .int .i64 e1.d], Own 3 (rowT z5) (.slice a9 z5.length c9), Own 3 (rowT z6) (.slice a10 z6.length c10), Own 3 (rowT z7) (.slice a11 z7.length c11), Box p1 [.slice a10 z6.length c10, .slice a11 z7.length c11, .int .i64 z8], Box p2 [.int .i64 0, .slice none 0 0, .slice none 0 0, .slice none 0 0, .int .i64 0], Own 3 (rowT y1) (.slice a1 y1.length c1), Own 3 (rowT y2) (.slice a2 y2.length c2), Box p3 [.slice a1 y1.length c1, .slice a2 y2.length c2, .int .i64 y3], Own 125 (rowT z9) (.slice a12 z9.length c12)] := HT
  refine ⟨_, rfl, nS, fun a HF => ?_⟩
  refine wm HF rfl rfl rfl fun a HF => ?_
  refine wc_extract (v := .slice a49 y19.length c49) HF nS rfl rfl rfl rfl fun a HF => ?_
  refine wc_extract (v := .bool y20) HF nS rfl rfl rfl rfl fun a HF => ?_
  refine wa HF rfl rfl rfl fun a HF => ?_
  refine wa HF rfl rfl rfl fun a HF => ?_
  refine wc_end (then_n (wc_text (wm HF rfl rfl rfl fun a HF => ?_)))
  refine wa HF rfl rfl rfl fun a HF => ?_
  refine wc_end (blk_n ?_)
  have HT := HT.p10.p10.p10.p10.p10.p10.p10.p10.p8.t9
  exact then_n ⟨y19, z6, z7, z8, z9, z10 + 1, a49, y19.length, c49, a10, z6.length, c10, a11, z7.length, c11, a12, z9.length, c12, (Option.some.inj h).symm, (HF.keep (HF.keep (HF.keep (HF.keep (HF.keep (HF.keep (HF.keep (HF.keep (HF.keep HF.nil rfl) rfl) rfl) rfl) rfl) rfl) rfl) rfl) rfl), HT⟩
  rintro a w ⟨z11, z12, z13, z14, z15, z16, a13, n12, c13, a14, n13, c14, a15, n14, c15, a16, n15, c16, rfl, HF, HT⟩
  have h := brkM6 h
  obtain rfl := (HT.rdAt 0 rfl).neq
  obtain rfl := (HT.rdAt 1 rfl).neq
  obtain rfl := (HT.rdAt 2 rfl).neq
  obtain rfl := (HT.rdAt 8 rfl).neq
  refine ?_
  refine wc_text (wm HF rfl rfl rfl fun a HF => ?_)
  refine wa HF rfl rfl rfl fun a HF => ?_
  exact wc_end (blk_n (then_n ⟨k1, Nat.lt_succ_self k1, z11, z12, z13, z14, z15, z16, a13, z11.length, c13, a14, z12.length, c14, a15, z13.length, c15, a16, z15.length, c16, h, (HF.keep (HF.keep (HF.keep (HF.keep (HF.keep (HF.keep (HF.keep (HF.keep (HF.keep HF.nil rfl) rfl) rfl) rfl) rfl) rfl) rfl) rfl) rfl), HT⟩))
  have h := ifn hb1 h
  refine wp_if (b' := false) HF rfl (decide_eq_false hb1) ?_
  refine wp_exit ?_
  refine then_x (then_x (?_))
  refine blk_x ?_
  have HT := HT.t5
  exact then_n ⟨z5, z6, z7, z8, a9, z5.length, c9, a10, z6.length, c10, a11, z7.length, c11, (Option.some.inj h).symm, (HF.keep (HF.keep (HF.keep HF.nil rfl) rfl) rfl), HT⟩
  rintro a w ⟨z1, z2, z3, z4, a6, n5, c6, a7, n6, c7, a8, n7, c8, rfl, HF, HT⟩
  have h := brkL4 h
  obtain rfl := (HT.rdAt 0 rfl).neq
  obtain rfl := (HT.rdAt 1 rfl).neq
  obtain rfl := (HT.rdAt 2 rfl).neq
  refine ?_
  refine wp_seq (wc_text (wm HF rfl rfl rfl fun a HF => ?_))
  refine wc_loadA (vs := [.slice a7 z2.length c7, .slice a8 z3.length c8, .int .i64 z4]) HF rfl ag27 rfl ((HT.boxAt 3 rfl).part 0 3) rfl rfl fun a HF => ?_
  refine wc_build (cs := #[.int .i64 1, .slice a6 z1.length c6, .slice a7 z2.length c7, .slice a8 z3.length c8, .int .i64 z4]) HF nS bd49 rfl rfl rfl rfl fun a HF => ?_
  have HT := HT.p4
  refine wc_storeB (cs' := [.int .i64 1, .slice a6 z1.length c6, .slice a7 z2.length c7, .slice a8 z3.length c8, .int .i64 z4]) HF HT rfl rfl (fun w => (ag49 w).2) rfl rfl rfl rfl rfl (fun w HT => ⟨nS, ?_⟩)
  refine wc_end (then_n (wp_ret ?_))
  have hj28 := Option.some.inj h
  obtain ⟨rfl, hj29⟩ := Prod.mk.inj hj28
  obtain ⟨rfl, hj30⟩ := Prod.mk.inj hj29
  obtain ⟨rfl, hj31⟩ := Prod.mk.inj hj30
  obtain ⟨rfl, hj32⟩ := Prod.mk.inj hj31
  subst hj32
  refine bp_ret HF (res_cell (vs := [.int .i64 1, .slice a6 z1.length c6, .slice a7 z2.length c7, .slice a8 z3.length c8, .int .i64 z4]) rfl HF rfl ag49 rfl (HT.boxAt 0 rfl)) ?_
  have HT := HT.p3.p3.p3.t3
  exact ⟨a6, z1.length, c6, a7, z2.length, c7, a8, z3.length, c8, rfl, HT⟩

theorem w_spec_l7Walk_R (fuel : Nat) : ∀ (k : Nat) {x0 : List I4} {x1 : List KidD} {x2 : List Int} {x3 : List Int} {x4_0 : List Int} {x4_1 : List Int} {x4_2 : Int} {a_x0 : Option Addr} {n_x0 c_x0 : Nat} {a_x1 : Option Addr} {n_x1 c_x1 : Nat} {a_x2 : Option Addr} {n_x2 c_x2 : Nat} {a_x3 : Option Addr} {n_x3 c_x3 : Nat} {a_x4_0 : Option Addr} {n_x4_0 c_x4_0 : Nat} {a_x4_1 : Option Addr} {n_x4_1 c_x4_1 : Nat} {r0_0 : Int} {r0_1 : List Int} {r0_2 : List Int} {r0_3 : List Int} {r0_4 : Int} {w0 : World} (h : m_spec_l7Walk_R fuel k x0 x1 x2 x3 x4_0 x4_1 x4_2 = some (r0_0, r0_1, r0_2, r0_3, r0_4)) (hr_x0 : RdT (fun b => ¬ False) w0 (rowT x0) (.slice a_x0 n_x0 c_x0)) (hr_x1 : RdT (fun b => ¬ False) w0 (rowT x1) (.slice a_x1 n_x1 c_x1)) (hr_x2 : RdT (fun b => ¬ False) w0 (rowT x2) (.slice a_x2 n_x2 c_x2)) (hr_x3 : RdT (fun b => ¬ False) w0 (rowT x3) (.slice a_x3 n_x3 c_x3)) (hr_x4_0 : RdT (fun b => ¬ False) w0 (rowT x4_0) (.slice a_x4_0 n_x4_0 c_x4_0)) (hr_x4_1 : RdT (fun b => ¬ False) w0 (rowT x4_1) (.slice a_x4_1 n_x4_1 c_x4_1)), Calls Try.prog 66 #[.slice a_x0 n_x0 c_x0, .slice a_x1 n_x1 c_x1, .slice a_x2 n_x2 c_x2, .slice a_x3 n_x3 c_x3, .agg #[.slice a_x4_0 n_x4_0 c_x4_0, .slice a_x4_1 n_x4_1 c_x4_1, .int .i64 x4_2]] w0 fun e w => ∃ a_r0_1 n_r0_1 c_r0_1, ∃ a_r0_2 n_r0_2 c_r0_2, ∃ a_r0_3 n_r0_3 c_r0_3, e = .returned (.agg #[.int .i64 r0_0, .slice a_r0_1 n_r0_1 c_r0_1, .slice a_r0_2 n_r0_2 c_r0_2, .slice a_r0_3 n_r0_3 c_r0_3, .int .i64 r0_4]) ∧ St w0 (fun _ => False) w [Own 3 (rowT r0_1) (.slice a_r0_1 n_r0_1 c_r0_1), Own 3 (rowT r0_2) (.slice a_r0_2 n_r0_2 c_r0_2), Own 3 (rowT r0_3) (.slice a_r0_3 n_r0_3 c_r0_3)] := by
  intro k
  induction k with
  | zero => intro x0 x1 x2 x3 x4_0 x4_1 x4_2 a_x0 n_x0 c_x0 a_x1 n_x1 c_x1 a_x2 n_x2 c_x2 a_x3 n_x3 c_x3 a_x4_0 n_x4_0 c_x4_0 a_x4_1 n_x4_1 c_x4_1 r0_0 r0_1 r0_2 r0_3 r0_4 w0 h hr_x0 hr_x1 hr_x2 hr_x3 hr_x4_0 hr_x4_1; simp [m_spec_l7Walk_R] at h
  | succ k ih => intro x0 x1 x2 x3 x4_0 x4_1 x4_2 a_x0 n_x0 c_x0 a_x1 n_x1 c_x1 a_x2 n_x2 c_x2 a_x3 n_x3 c_x3 a_x4_0 n_x4_0 c_x4_0 a_x4_1 n_x4_1 c_x4_1 r0_0 r0_1 r0_2 r0_3 r0_4 w0 h hr_x0 hr_x1 hr_x2 hr_x3 hr_x4_0 hr_x4_1; exact w_spec_l7Walk_S (m_spec_l7Walk_R fuel k) (fun h hr_x0 hr_x1 hr_x2 hr_x3 hr_x4_0 hr_x4_1 => ih h hr_x0 hr_x1 hr_x2 hr_x3 hr_x4_0 hr_x4_1) fuel h hr_x0 hr_x1 hr_x2 hr_x3 hr_x4_0 hr_x4_1
theorem w_spec_l7Walk (fuel : Nat) {x0 : List I4} {x1 : List KidD} {x2 : List Int} {x3 : List Int} {x4_0 : List Int} {x4_1 : List Int} {x4_2 : Int} {a_x0 : Option Addr} {n_x0 c_x0 : Nat} {a_x1 : Option Addr} {n_x1 c_x1 : Nat} {a_x2 : Option Addr} {n_x2 c_x2 : Nat} {a_x3 : Option Addr} {n_x3 c_x3 : Nat} {a_x4_0 : Option Addr} {n_x4_0 c_x4_0 : Nat} {a_x4_1 : Option Addr} {n_x4_1 c_x4_1 : Nat} {r0_0 : Int} {r0_1 : List Int} {r0_2 : List Int} {r0_3 : List Int} {r0_4 : Int} {w0 : World} (h : m_spec_l7Walk fuel x0 x1 x2 x3 x4_0 x4_1 x4_2 = some (r0_0, r0_1, r0_2, r0_3, r0_4)) (hr_x0 : RdT (fun b => ¬ False) w0 (rowT x0) (.slice a_x0 n_x0 c_x0)) (hr_x1 : RdT (fun b => ¬ False) w0 (rowT x1) (.slice a_x1 n_x1 c_x1)) (hr_x2 : RdT (fun b => ¬ False) w0 (rowT x2) (.slice a_x2 n_x2 c_x2)) (hr_x3 : RdT (fun b => ¬ False) w0 (rowT x3) (.slice a_x3 n_x3 c_x3)) (hr_x4_0 : RdT (fun b => ¬ False) w0 (rowT x4_0) (.slice a_x4_0 n_x4_0 c_x4_0)) (hr_x4_1 : RdT (fun b => ¬ False) w0 (rowT x4_1) (.slice a_x4_1 n_x4_1 c_x4_1)) :
    Calls Try.prog 66 #[.slice a_x0 n_x0 c_x0, .slice a_x1 n_x1 c_x1, .slice a_x2 n_x2 c_x2, .slice a_x3 n_x3 c_x3, .agg #[.slice a_x4_0 n_x4_0 c_x4_0, .slice a_x4_1 n_x4_1 c_x4_1, .int .i64 x4_2]] w0 fun e w => ∃ a_r0_1 n_r0_1 c_r0_1, ∃ a_r0_2 n_r0_2 c_r0_2, ∃ a_r0_3 n_r0_3 c_r0_3, e = .returned (.agg #[.int .i64 r0_0, .slice a_r0_1 n_r0_1 c_r0_1, .slice a_r0_2 n_r0_2 c_r0_2, .slice a_r0_3 n_r0_3 c_r0_3, .int .i64 r0_4]) ∧ St w0 (fun _ => False) w [Own 3 (rowT r0_1) (.slice a_r0_1 n_r0_1 c_r0_1), Own 3 (rowT r0_2) (.slice a_r0_2 n_r0_2 c_r0_2), Own 3 (rowT r0_3) (.slice a_r0_3 n_r0_3 c_r0_3)] := w_spec_l7Walk_R fuel fuel h hr_x0 hr_x1 hr_x2 hr_x3 hr_x4_0 hr_x4_1

def m_impl_HasFork_1 (fuel : Nat) (x0_0 : Int) (x0_1 : Int) (x0_2 : Int) (x0_3 : Int) : Option Bool :=
  some (decide (x0_0 = 11))

set_option maxRecDepth 100000 in
set_option maxHeartbeats 4000000 in
theorem w_impl_HasFork_1 (fuel : Nat) {x0_0 : Int} {x0_1 : Int} {x0_2 : Int} {x0_3 : Int} {r0 : Bool} {w0 : World} (h : m_impl_HasFork_1 fuel x0_0 x0_1 x0_2 x0_3 = some r0) :
    Calls Try.prog 125 #[.agg #[.int .i64 x0_0, .int .i64 x0_1, .int .i64 x0_2, .int .i64 x0_3]] w0 fun e w => e = .returned (.bool r0) ∧ St w0 (fun _ => False) w [] := by
  have HT : St w0 (fun _ => False) w0 [] := St.init0
  rw [m_impl_HasFork_1] at h
  refine calls_fr (n := 6) [.agg #[.int .i64 x0_0, .int .i64 x0_1, .int .i64 x0_2, .int .i64 x0_3]] Try.func125 rfl rfl rfl fun a HF => ?_
  have HT : St w0 (fun _ => False) w0 [] := HT
  refine wp_seq (wc_text (wc_box (cs := [.int .i64 x0_0, .int .i64 x0_1, .int .i64 x0_2, .int .i64 x0_3]) HF HT rfl rfl rfl rfl (fun p1 w HT hb => ⟨nS, fun a HF => ?_⟩)))
  refine wa HF rfl rfl rfl fun a HF => ?_
  refine wc_end (then_n (wp_seq (wc_text (wc_faddr HF nS rfl fl85_0 rfl rfl fun a HF => ?_))))
  refine wc_load HF rfl sc3 ((HT.boxAt 0 rfl).get 0 rfl) rfl rfl fun a HF => ?_
  refine wc_bin HF nS rfl rfl b_eq rfl rfl fun a HF => ?_
  refine wa HF rfl rfl rfl fun a HF => ?_
  refine wc_end (then_n (wp_ret ?_))
  obtain rfl := Option.some.inj h
  refine bp_ret HF (res_one rfl HF rfl) ?_
  have HT := HT.t0
  exact ⟨rfl, HT⟩

def m_slices_IndexFunc___impl_Op_impl_Op__125_L0 (fuel : Nat) (x0 : List I4) : Nat → Int → Option (Lp Unit Int)
  | 0, _ => none
  | k1 + 1, z1 =>
    if z1 < (x0.length : Int) then
      (at? x0 z1).bind fun e1 =>
      (m_impl_HasFork_1 fuel e1.a e1.b e1.c e1.d).bind fun y1 =>
      if y1 = true then
        some (.ret z1)
      else
      if in64 (z1 + 1) then
        m_slices_IndexFunc___impl_Op_impl_Op__125_L0 fuel x0 k1 (z1 + 1)
      else none
    else
    some (.brk ())

def m_slices_IndexFunc___impl_Op_impl_Op__125 (fuel : Nat) (x0 : List I4) : Option Int :=
  (m_slices_IndexFunc___impl_Op_impl_Op__125_L0 fuel x0 fuel 0).bind <| contL <| un1 fun _ =>
  some (-1)

set_option maxRecDepth 100000 in
set_option maxHeartbeats 4000000 in
theorem w_slices_IndexFunc___impl_Op_impl_Op__125 (fuel : Nat) {x0 : List I4} {a_x0 : Option Addr} {n_x0 c_x0 : Nat} {r0 : Int} {w0 : World} (h : m_slices_IndexFunc___impl_Op_impl_Op__125 fuel x0 = some r0) (hr_x0 : RdT (fun b => ¬ False) w0 (rowT x0) (.slice a_x0 n_x0 c_x0)) :
    Calls Try.prog 136 #[.slice a_x0 n_x0 c_x0, .func (.func 125) #[] #[]] w0 fun e w => e = .returned (.int .i64 r0) ∧ St w0 (fun _ => False) w [] := by
  obtain rfl := hr_x0.neq
  have HT : St w0 (fun _ => False) w0 [] := St.init0
  rw [m_slices_IndexFunc___impl_Op_impl_Op__125] at h
  refine calls_fr (n := 19) [.slice a_x0 x0.length c_x0, .func (.func 125) #[] #[]] Try.func136 rfl rfl rfl fun a HF => ?_
  have HT : St w0 (fun _ => False) w0 [] := HT
  refine wp_seq (wc_text (wa HF rfl rfl rfl fun a HF => ?_))
  refine wc_end (then_n ?_)
  obtain ⟨q1, hx1, h⟩ := obs h
  refine wp_cut (fun a w => q1 = .brk () ∧ Fr a 19 [] ∧ St w0 (fun _ => False) w []) ?_ ?_
  have hk1 := h
  have h := hx1
  refine wp_seq (wc_text (wm HF rfl rfl rfl fun a HF => ?_))
  refine wc_lenR HF nS Try.underlying36 rfl rfl rfl fun a HF => ?_
  refine wm HF rfl rfl rfl fun a HF => ?_
  refine wc_end (then_n (wp_block (wp_loopN (fun k1 a w => ∃ z1, m_slices_IndexFunc___impl_Op_impl_Op__125_L0 fuel x0 k1 z1 = some q1 ∧ Fr a 19 [(0, .slice a_x0 x0.length c_x0), (1, .func (.func 125) #[] #[]), (7, .int .i64 (x0.length : Int)), (8, .int .i64 z1)] ∧ St w0 (fun _ => False) w []) fuel ⟨0, h, (HF.keep (HF.keep (HF.keep (HF.keep HF.nil rfl) rfl) rfl) rfl), HT⟩ ?_)))
  rintro k1 a w ⟨z1, h, HF, HT⟩
  rcases k1 with _ | k1
  cases h
  rw [m_slices_IndexFunc___impl_Op_impl_Op__125_L0] at h
  refine ?_
  refine wp_seq (wc_text (wc_bin HF nS rfl rfl b_lt rfl rfl fun a HF => ?_))
  refine wc_end (then_n (wp_seq ?_))
  by_cases hb1 : z1 < (x0.length : Int)
  have h := ifp hb1 h
  refine wp_if (b' := true) HF rfl (decide_eq_true hb1) ?_
  refine wp_skip (then_n (wp_seq (wp_block (wp_seq (wc_text (wm HF rfl rfl rfl fun a HF => ?_))))))
  refine wa HF rfl rfl rfl fun a HF => ?_
  refine wc_end (then_n (wp_seq (wc_text (wm HF rfl rfl rfl fun a HF => ?_))))
  refine wm HF rfl rfl rfl fun a HF => ?_
  refine wm HF rfl rfl rfl fun a HF => ?_
  obtain ⟨e1, hx2, h⟩ := obs h
  obtain ⟨b1, o1, ha1⟩ := (HT.ro hr_x0).any.addr hx2
  refine wc_ixaddr HF nS el36 rfl ha1 ((HT.ro hr_x0).any).neq rfl hx2 rfl rfl fun a HF => ?_
  have hc1 := (HT.ro hr_x0).any.flatAt ha1 hx2
  refine wc_loadA (vs := [.int .i64 e1.a, .int .i64 e1.b, .int .i64 e1.c, .int .i64 e1.d]) HF rfl ag85 rfl (hc1.part 0 4) rfl rfl fun a HF => ?_
  obtain ⟨y1, hx3, h⟩ := obs h
  refine wc_callv HF cf125 rfl rfl (w_impl_HasFork_1 fuel hx3) rfl rfl ?_
  rintro e w ⟨rfl, hE⟩
  have hb := hE.below
  have HT := HT.pure hE
  have HT : St w0 (fun _ => False) w [] := HT
  refine ⟨_, rfl, nS, fun a HF => ?_⟩
  refine wc_end (then_n ?_)
  by_cases hb2 : y1 = true
  have h := ifp hb2 h
  refine wp_if (b' := true) HF rfl hb2 ?_
  refine wp_seq (wc_text (wm HF rfl rfl rfl fun a HF => ?_))
  refine wa HF rfl rfl rfl fun a HF => ?_
  refine wc_end (then_n (wp_ret ?_))
  obtain rfl := Option.some.inj h
  have h := retL hk1
  obtain rfl := Option.some.inj h
  refine blk_r (then_r (then_r (blk_r (then_r (?_)))))
  refine bp_ret HF (res_one rfl HF rfl) ?_
  exact ⟨rfl, HT⟩
  have h := ifn hb2 h
  refine wp_if (b' := false) HF rfl (Bool.eq_false_iff.2 hb2) ?_
  refine wp_skip (blk_n (then_n (wc_text ?_)))
  obtain ⟨hg1, h⟩ := grd h
  refine wc_bin HF nS rfl rfl (b_add hg1) rfl rfl fun a HF => ?_
  refine wm HF rfl rfl rfl fun a HF => ?_
  exact wc_end (then_n ⟨k1, Nat.lt_succ_self k1, z1 + 1, h, (HF.keep (HF.keep (HF.keep (HF.keep HF.nil rfl) rfl) rfl) rfl), HT⟩)
  have h := ifn hb1 h
  refine wp_if (b' := false) HF rfl (decide_eq_false hb1) ?_
  refine wp_exit ?_
  refine then_x (then_x (?_))
  refine blk_x ?_
  exact then_n ⟨(Option.some.inj h).symm, HF.nil, HT⟩
  rintro a w ⟨rfl, HF, HT⟩
  have h := brkL1u h
  refine ?_
  refine wp_seq (wc_text (wa HF rfl rfl rfl fun a HF => ?_))
  refine wc_end (then_n (wp_ret ?_))
  obtain rfl := Option.some.inj h
  refine bp_ret HF (res_one rfl HF rfl) ?_
  exact ⟨rfl, HT⟩

def m_slices_ContainsFunc___impl_Op_impl_Op__125 (fuel : Nat) (x0 : List I4) : Option Bool :=
  (m_slices_IndexFunc___impl_Op_impl_Op__125 fuel x0).bind fun y1 =>
  some (decide (0 ≤ y1))

set_option maxRecDepth 100000 in
set_option maxHeartbeats 4000000 in
theorem w_slices_ContainsFunc___impl_Op_impl_Op__125 (fuel : Nat) {x0 : List I4} {a_x0 : Option Addr} {n_x0 c_x0 : Nat} {r0 : Bool} {w0 : World} (h : m_slices_ContainsFunc___impl_Op_impl_Op__125 fuel x0 = some r0) (hr_x0 : RdT (fun b => ¬ False) w0 (rowT x0) (.slice a_x0 n_x0 c_x0)) :
    Calls Try.prog 124 #[.slice a_x0 n_x0 c_x0, .func (.func 125) #[] #[]] w0 fun e w => e = .returned (.bool r0) ∧ St w0 (fun _ => False) w [] := by
  obtain rfl := hr_x0.neq
  have HT : St w0 (fun _ => False) w0 [] := St.init0
  rw [m_slices_ContainsFunc___impl_Op_impl_Op__125] at h
  refine calls_fr (n := 9) [.slice a_x0 x0.length c_x0, .func (.func 125) #[] #[]] Try.func124 rfl rfl rfl fun a HF => ?_
  have HT : St w0 (fun _ => False) w0 [] := HT
  refine wp_seq (wc_text (wa HF rfl rfl rfl fun a HF => ?_))
  refine wc_end (then_n (wp_seq (wc_text (wm HF rfl rfl rfl fun a HF => ?_))))
  refine wm HF rfl rfl rfl fun a HF => ?_
  obtain ⟨y1, hx1, h⟩ := obs h
  refine wc_call HF cf136 rfl (w_slices_IndexFunc___impl_Op_impl_Op__125 fuel hx1 (HT.ro hr_x0).any) rfl rfl ?_
  rintro e w ⟨rfl, hE⟩
  have hb := hE.below
  have HT := HT.pure hE
  have HT : St w0 (fun _ => False) w [] := HT
  refine ⟨_, rfl, nS, fun a HF => ?_⟩
  refine wc_bin HF nS rfl rfl b_ge rfl rfl fun a HF => ?_
  refine wa HF rfl rfl rfl fun a HF => ?_
  refine wc_end (then_n (wp_ret ?_))
  obtain rfl := Option.some.inj h
  refine bp_ret HF (res_one rfl HF rfl) ?_
  exact ⟨rfl, HT⟩

def m_impl_HasFork (fuel : Nat) (x0 : List I4) : Option Bool :=
  (m_slices_ContainsFunc___impl_Op_impl_Op__125 fuel x0).bind fun y1 =>
  some y1

set_option maxRecDepth 100000 in
set_option maxHeartbeats 4000000 in
theorem w_impl_HasFork (fuel : Nat) {x0 : List I4} {a_x0 : Option Addr} {n_x0 c_x0 : Nat} {r0 : Bool} {w0 : World} (h : m_impl_HasFork fuel x0 = some r0) (hr_x0 : RdT (fun b => ¬ False) w0 (rowT x0) (.slice a_x0 n_x0 c_x0)) :
    Calls Try.prog 110 #[.slice a_x0 n_x0 c_x0] w0 fun e w => e = .returned (.bool r0) ∧ St w0 (fun _ => False) w [] := by
  obtain rfl := hr_x0.neq
  have HT : St w0 (fun _ => False) w0 [] := St.init0
  rw [m_impl_HasFork] at h
  refine calls_fr (n := 5) [.slice a_x0 x0.length c_x0] Try.func110 rfl rfl rfl fun a HF => ?_
  have HT : St w0 (fun _ => False) w0 [] := HT
  refine wp_seq (wc_text (wa HF rfl rfl rfl fun a HF => ?_))
  refine wc_end (then_n (wp_seq (wc_text (wm HF rfl rfl rfl fun a HF => ?_))))
  obtain ⟨y1, hx1, h⟩ := obs h
  refine wc_call HF cf124 rfl (w_slices_ContainsFunc___impl_Op_impl_Op__125 fuel hx1 (HT.ro hr_x0).any) rfl rfl ?_
  rintro e w ⟨rfl, hE⟩
  have hb := hE.below
  have HT := HT.pure hE
  have HT : St w0 (fun _ => False) w [] := HT
  refine ⟨_, rfl, nS, fun a HF => ?_⟩
  refine wa HF rfl rfl rfl fun a HF => ?_
  refine wc_end (then_n (wp_ret ?_))
  obtain rfl := Option.some.inj h
  refine bp_ret HF (res_one rfl HF rfl) ?_
  exact ⟨rfl, HT⟩

def m_impl_ProgOk_L0 (fuel : Nat) (x0_1 : List KidD) : Nat → Int → Option (Lp Unit Bool)
  | 0, _ => none
  | k1 + 1, z1 =>
    if z1 < (x0_1.length : Int) then
      (at? x0_1 z1).bind fun e1 =>
      (m_impl_KidOk fuel e1.code).bind fun y1 =>
      if y1 = true then
        if in64 (z1 + 1) then
          m_impl_ProgOk_L0 fuel x0_1 k1 (z1 + 1)
        else none
      else
      some (.ret false)
    else
    some (.brk ())

def m_impl_ProgOk (fuel : Nat) (x0_0 : List I4) (x0_1 : List KidD) : Option Bool :=
  (m_impl_ProgOk_L0 fuel x0_1 fuel 0).bind <| contL <| un1 fun _ =>
  (m_impl_CodeOk fuel x0_0).bind fun y2 =>
  if y2 = true then
    if (x0_1.length : Int) ≤ 3 then
      (m_impl_HasFork fuel x0_0).bind fun y3 =>
      some (y3 == (decide (0 < (x0_1.length : Int))))
    else
    some false
  else
  some false

set_option maxRecDepth 100000 in
set_option maxHeartbeats 4000000 in
theorem w_impl_ProgOk (fuel : Nat) {x0_0 : List I4} {x0_1 : List KidD} {a_x0_0 : Option Addr} {n_x0_0 c_x0_0 : Nat} {a_x0_1 : Option Addr} {n_x0_1 c_x0_1 : Nat} {r0 : Bool} {w0 : World} (h : m_impl_ProgOk fuel x0_0 x0_1 = some r0) (hr_x0_0 : RdT (fun b => ¬ False) w0 (rowT x0_0) (.slice a_x0_0 n_x0_0 c_x0_0)) (hr_x0_1 : RdT (fun b => ¬ False) w0 (rowT x0_1) (.slice a_x0_1 n_x0_1 c_x0_1)) :
    Calls Try.prog 75 #[.agg #[.slice a_x0_0 n_x0_0 c_x0_0, .slice a_x0_1 n_x0_1 c_x0_1]] w0 fun e w => e = .returned (.bool r0) ∧ St w0 (fun _ => False) w [] := by
  obtain rfl := hr_x0_0.neq
  obtain rfl := hr_x0_1.neq
  have HT : St w0 (fun _ => False) w0 [] := St.init0
  rw [m_impl_ProgOk] at h
  refine calls_fr (n := 36) [.agg #[.slice a_x0_0 x0_0.length c_x0_0, .slice a_x0_1 x0_1.length c_x0_1]] Try.func75 rfl rfl rfl fun a HF => ?_
  have HT : St w0 (fun _ => False) w0 [] := HT
  refine wp_seq (wc_text (wc_box (cs := [.slice a_x0_0 x0_0.length c_x0_0, .slice a_x0_1 x0_1.length c_x0_1]) HF HT rfl rfl rfl rfl (fun p1 w HT hb => ⟨nS, fun a HF => ?_⟩)))
  refine wa HF rfl rfl rfl fun a HF => ?_
  refine wc_end (then_n ?_)
  obtain ⟨q1, hx1, h⟩ := obs h
  refine wp_cut (fun a w => q1 = .brk () ∧ Fr a 36 [(1, .pointer (some ⟨p1, 0, none⟩))] ∧ St w0 (fun _ => False) w [Box p1 [.slice a_x0_0 x0_0.length c_x0_0, .slice a_x0_1 x0_1.length c_x0_1]]) ?_ ?_
  have hk1 := h
  have h := hx1
  refine wp_seq (wc_text (wc_faddr HF nS rfl fl53_1 rfl rfl fun a HF => ?_))
  refine wc_load HF rfl sc51 ((HT.boxAt 0 rfl).get 1 rfl) rfl rfl fun a HF => ?_
  refine wc_lenR HF nS Try.underlying51 rfl rfl rfl fun a HF => ?_
  refine wm HF rfl rfl rfl fun a HF => ?_
  refine wc_end (then_n (wp_block (wp_loopN (fun k1 a w => ∃ z1, m_impl_ProgOk_L0 fuel x0_1 k1 z1 = some q1 ∧ Fr a 36 [(1, .pointer (some ⟨p1, 0, none⟩)), (6, .slice a_x0_1 x0_1.length c_x0_1), (7, .int .i64 (x0_1.length : Int)), (8, .int .i64 z1)] ∧ St w0 (fun _ => False) w [Box p1 [.slice a_x0_0 x0_0.length c_x0_0, .slice a_x0_1 x0_1.length c_x0_1]]) fuel ⟨0, h, (HF.keep (HF.keep (HF.keep (HF.keep HF.nil rfl) rfl) rfl) rfl), HT⟩ ?_)))
  rintro k1 a w ⟨z1, h, HF, HT⟩
  rcases k1 with _ | k1
  cases h
  rw [m_impl_ProgOk_L0] at h
  refine ?_
  refine wp_seq (wc_text (wc_bin HF nS rfl rfl b_lt rfl rfl fun a HF => ?_))
  refine wc_end (then_n (wp_seq ?_))
  by_cases hb1 : z1 < (x0_1.length : Int)
  have h := ifp hb1 h
  refine wp_if (b' := true) HF rfl (decide_eq_true hb1) ?_
  refine wp_skip (then_n (wp_seq (wp_block (wp_seq (wc_text ?_)))))
  obtain ⟨e1, hx2, h⟩ := obs h
  obtain ⟨b1, o1, ha1⟩ := (HT.ro hr_x0_1).any.addr hx2
  refine wc_ixaddr HF nS el51 rfl ha1 ((HT.ro hr_x0_1).any).neq rfl hx2 rfl rfl fun a HF => ?_
  obtain ⟨_, hP1, hc1, hr1⟩ := hr_x0_1.elemAt ha1 hx2
  obtain ⟨a1, c1, rfl, hr2⟩ := cells_Kid hr1
  have hc2 := HT.roLd hP1 hc1
  refine wc_loadA (vs := [.slice a1 e1.code.length c1]) HF rfl ag127 rfl (hc2.part 0 1) rfl rfl fun a HF => ?_
  refine wc_alloc (cs := [.slice none 0 0]) HF HT zr127 rfl rfl rfl (fun p2 w HT hb => ⟨nS, fun a HF => ?_⟩)
  refine wc_storeB (cs' := [.slice a1 e1.code.length c1]) HF HT rfl rfl (fun w => (ag127 w).2) rfl rfl rfl rfl rfl (fun w HT => ⟨nS, ?_⟩)
  refine wc_end (then_n (wp_seq (wc_text (wc_faddr HF nS rfl fl127_0 rfl rfl fun a HF => ?_))))
  refine wc_load HF rfl sc36 ((HT.boxAt 0 rfl).get 0 rfl) rfl rfl fun a HF => ?_
  obtain ⟨y1, hx3, h⟩ := obs h
  refine wc_call HF cf68 rfl (w_impl_KidOk fuel hx3 (HT.ro hr2).any) rfl rfl ?_
  rintro e w ⟨rfl, hE⟩
  have hb := hE.below
  have HT := HT.pure hE
  have HT : St w0 (fun _ => False) w [Box p2 [.slice a1 e1.code.length c1], Box p1 [.slice a_x0_0 x0_0.length c_x0_0, .slice a_x0_1 x0_1.length c_x0_1]] := HT
  refine ⟨_, rfl, nS, fun a HF => ?_⟩
  refine wc_not HF nS rfl rfl rfl fun a HF => ?_
  refine wc_end (then_n ?_)
  by_cases hb2 : y1 = true
  have h := ifp hb2 h
  refine wp_if (b' := false) HF rfl (notT hb2) ?_
  refine wp_skip (blk_n (then_n (wc_text ?_)))
  obtain ⟨hg1, h⟩ := grd h
  refine wc_bin HF nS rfl rfl (b_add hg1) rfl rfl fun a HF => ?_
  refine wm HF rfl rfl rfl fun a HF => ?_
  refine wc_end ?_
  have HT := HT.p1.t1
  exact then_n ⟨k1, Nat.lt_succ_self k1, z1 + 1, h, (HF.keep (HF.keep (HF.keep (HF.keep HF.nil rfl) rfl) rfl) rfl), HT⟩
  have h := ifn hb2 h
  refine wp_if (b' := true) HF rfl (notF (Bool.eq_false_iff.2 hb2)) ?_
  refine wp_seq (wc_text (wa HF rfl rfl rfl fun a HF => ?_))
  refine wc_end (then_n (wp_ret ?_))
  obtain rfl := Option.some.inj h
  have h := retL hk1
  obtain rfl := Option.some.inj h
  refine blk_r (then_r (then_r (blk_r (then_r (?_)))))
  refine bp_ret HF (res_one rfl HF rfl) ?_
  have HT := HT.t0
  exact ⟨rfl, HT⟩
  have h := ifn hb1 h
  refine wp_if (b' := false) HF rfl (decide_eq_false hb1) ?_
  refine wp_exit ?_
  refine then_x (then_x (?_))
  refine blk_x ?_
  exact then_n ⟨(Option.some.inj h).symm, (HF.keep HF.nil rfl), HT⟩
  rintro a w ⟨rfl, HF, HT⟩
  have h := brkL1u h
  refine ?_
  refine wp_seq (wp_region_can [(0, true), (1, true), (2, false), (3, true), (4, true), (5, true), (6, true), (7, true), (8, true), (9, true), (10, true), (11, true), (13, false), (14, false), (15, false), (16, false), (12, false), (17, true), (18, true), (19, true)] (fun w' => w'.cell? ⟨p1, 1, none⟩ = some (.slice a_x0_1 x0_1.length c_x0_1) ∧ True) (by kernel_rfl) (by kernel_rfl) ?_)
  have HT := HT.drew
  refine wc_faddr HF nS rfl fl53_0 rfl rfl fun a HF => ?_
  refine wc_load HF rfl sc36 ((HT.boxAt 0 rfl).get 0 rfl) rfl rfl fun a HF => ?_
  obtain ⟨y2, hx4, h⟩ := obs h
  refine wc_call HF cf102 rfl (w_impl_CodeOk fuel hx4 (HT.ro hr_x0_0).any) rfl rfl ?_
  rintro e w ⟨rfl, hE⟩
  have hb := hE.below
  have HT := HT.pure hE
  have HT : St w0 (fun _ => False) w [Box p1 [.slice a_x0_0 x0_0.length c_x0_0, .slice a_x0_1 x0_1.length c_x0_1]] := HT
  refine ⟨_, rfl, (fun _ => ⟨(HT.boxAt 0 rfl).get 1 rfl, trivial⟩), fun a HF => ?_⟩
  refine wm HF rfl rfl rfl fun a HF => ?_
  by_cases hb3 : y2 = true
  have h := ifp hb3 h
  refine wc_faddr HF nS rfl fl53_1 (HF.wy rfl rfl rfl rfl hb3) rfl fun a HF => ?_
  refine wc_load HF rfl sc51 ((HT.boxAt 0 rfl).get 1 rfl) (HF.wy rfl rfl rfl rfl hb3) rfl fun a HF => ?_
  refine wc_lenR HF nS Try.underlying51 rfl (HF.wy rfl rfl rfl rfl hb3) rfl fun a HF => ?_
  refine wc_bin HF nS rfl rfl b_le (HF.wy rfl rfl rfl rfl hb3) rfl fun a HF => ?_
  refine wc_pick (b := true) HF nS rfl hb3 rfl rfl rfl fun a HF => ?_
  refine wm HF rfl rfl rfl fun a HF => ?_
  by_cases hb4 : (x0_1.length : Int) ≤ 3
  have h := ifp hb4 h
  refine wc_faddr HF nS rfl fl53_0 (HF.wy rfl rfl rfl rfl (decide_eq_true hb4)) rfl fun a HF => ?_
  refine wc_load HF rfl sc36 ((HT.boxAt 0 rfl).get 0 rfl) (HF.wy rfl rfl rfl rfl (decide_eq_true hb4)) rfl fun a HF => ?_
  refine wc_faddr HF (fun _ => ⟨(HT.boxAt 0 rfl).get 1 rfl, trivial⟩) rfl fl53_1 (HF.wy rfl rfl rfl rfl (decide_eq_true hb4)) rfl fun a HF => ?_
  refine wc_loadS HF ⟨(HT.boxAt 0 rfl).get 1 rfl, trivial⟩ rfl sc51 (fun w hS => hS.1) (HF.wy rfl rfl rfl rfl (decide_eq_true hb4)) rfl fun a HF => ?_
  refine wc_lenR HF (fun _ => ⟨(HT.boxAt 0 rfl).get 1 rfl, trivial⟩) Try.underlying51 rfl (HF.wy rfl rfl rfl rfl (decide_eq_true hb4)) rfl fun a HF => ?_
  refine wc_bin HF (fun _ => ⟨(HT.boxAt 0 rfl).get 1 rfl, trivial⟩) rfl rfl b_gt (HF.wy rfl rfl rfl rfl (decide_eq_true hb4)) rfl fun a HF => ?_
  obtain ⟨y3, hx5, h⟩ := obs h
  refine wc_call HF cf110 rfl (w_impl_HasFork fuel hx5 (HT.ro hr_x0_0).any) (HF.wy rfl rfl rfl rfl (decide_eq_true hb4)) rfl ?_
  rintro e w ⟨rfl, hE⟩
  have hb := hE.below
  have HT := HT.pure hE
  have HT : St w0 (fun _ => False) w [Box p1 [.slice a_x0_0 x0_0.length c_x0_0, .slice a_x0_1 x0_1.length c_x0_1]] := HT
  refine ⟨_, rfl, (fun _ => ⟨(HT.boxAt 0 rfl).get 1 rfl, trivial⟩), fun a HF => ?_⟩
  refine wc_bin HF nS rfl rfl (b_beq Try.underlying4) (HF.wy rfl rfl rfl rfl (decide_eq_true hb4)) rfl fun a HF => ?_
  refine wc_pick (b := true) HF nS rfl (decide_eq_true hb4) rfl rfl rfl fun a HF => ?_
  refine wa HF rfl rfl rfl fun a HF => ?_
  refine wc_endN (then_n (wp_ret ?_))
  obtain rfl := Option.some.inj h
  refine bp_ret HF (res_one rfl HF rfl) ?_
  have HT := HT.t0
  exact ⟨rfl, HT⟩
  have h := ifn hb4 h
  refine wc_skip HF nS (HF.wn rfl rfl rfl rfl (decide_eq_false hb4)) rfl fun a HF => ?_
  refine wc_skip HF nS (HF.wn rfl rfl rfl rfl (decide_eq_false hb4)) rfl fun a HF => ?_
  refine wc_skip HF (fun _ => ⟨(HT.boxAt 0 rfl).get 1 rfl, trivial⟩) (HF.wn rfl rfl rfl rfl (decide_eq_false hb4)) rfl fun a HF => ?_
  refine wc_skip HF (fun _ => ⟨(HT.boxAt 0 rfl).get 1 rfl, trivial⟩) (HF.wn rfl rfl rfl rfl (decide_eq_false hb4)) rfl fun a HF => ?_
  refine wc_skip HF (fun _ => ⟨(HT.boxAt 0 rfl).get 1 rfl, trivial⟩) (HF.wn rfl rfl rfl rfl (decide_eq_false hb4)) rfl fun a HF => ?_
  refine wc_skip HF (fun _ => ⟨(HT.boxAt 0 rfl).get 1 rfl, trivial⟩) (HF.wn rfl rfl rfl rfl (decide_eq_false hb4)) rfl fun a HF => ?_
  refine wc_skip HF (fun _ => ⟨(HT.boxAt 0 rfl).get 1 rfl, trivial⟩) (HF.wn rfl rfl rfl rfl (decide_eq_false hb4)) rfl fun a HF => ?_
  refine wc_skip HF nS (HF.wn rfl rfl rfl rfl (decide_eq_false hb4)) rfl fun a HF => ?_
  refine wc_pick (b := false) HF nS rfl (decide_eq_false hb4) rfl rfl rfl fun a HF => ?_
  refine wa HF rfl rfl rfl fun a HF => ?_
  refine wc_endN (then_n (wp_ret ?_))
  obtain rfl := Option.some.inj h
  refine bp_ret HF (res_one rfl HF rfl) ?_
  have HT := HT.t0
  exact ⟨rfl, HT⟩
  have h := ifn hb3 h
  refine wc_skip HF nS (HF.wn rfl rfl rfl rfl (Bool.eq_false_iff.2 hb3)) rfl fun a HF => ?_
  refine wc_skip HF nS (HF.wn rfl rfl rfl rfl (Bool.eq_false_iff.2 hb3)) rfl fun a HF => ?_
  refine wc_skip HF nS (HF.wn rfl rfl rfl rfl (Bool.eq_false_iff.2 hb3)) rfl fun a HF => ?_
  refine wc_skip HF nS (HF.wn rfl rfl rfl rfl (Bool.eq_false_iff.2 hb3)) rfl fun a HF => ?_
  refine wc_pick (b := false) HF nS rfl (Bool.eq_false_iff.2 hb3) rfl rfl rfl fun a HF => ?_
  refine wm HF rfl rfl rfl fun a HF => ?_
  refine wc_skip HF nS (HF.wn rfl rfl rfl rfl rfl) rfl fun a HF => ?_
  refine wc_skip HF nS (HF.wn rfl rfl rfl rfl rfl) rfl fun a HF => ?_
  refine wc_skip HF (fun _ => ⟨(HT.boxAt 0 rfl).get 1 rfl, trivial⟩) (HF.wn rfl rfl rfl rfl rfl) rfl fun a HF => ?_
  refine wc_skip HF (fun _ => ⟨(HT.boxAt 0 rfl).get 1 rfl, trivial⟩) (HF.wn rfl rfl rfl rfl rfl) rfl fun a HF => ?_
  refine wc_skip HF (fun _ => ⟨(HT.boxAt 0 rfl).get 1 rfl, trivial⟩) (HF.wn rfl rfl rfl rfl rfl) rfl fun a HF => ?_
  refine wc_skip HF (fun _ => ⟨(HT.boxAt 0 rfl).get 1 rfl, trivial⟩) (HF.wn rfl rfl rfl rfl rfl) rfl fun a HF => ?_
  refine wc_skip HF (fun _ => ⟨(HT.boxAt 0 rfl).get 1 rfl, trivial⟩) (HF.wn rfl rfl rfl rfl rfl) rfl fun a HF => ?_
  refine wc_skip HF nS (HF.wn rfl rfl rfl rfl rfl) rfl fun a HF => ?_
  refine wc_pick (b := false) HF nS rfl rfl rfl rfl rfl fun a HF => ?_
  refine wa HF rfl rfl rfl fun a HF => ?_
  refine wc_endN (then_n (wp_ret ?_))
  obtain rfl := Option.some.inj h
  refine bp_ret HF (res_one rfl HF rfl) ?_
  have HT := HT.t0
  exact ⟨rfl, HT⟩

def m_impl_isMap_L0 (fuel : Nat) (x0 : List Int) : Nat → Int → Option (Lp Unit Bool)
  | 0, _ => none
  | k1 + 1, z1 =>
    if z1 < (x0.length : Int) then
      (at? x0 z1).bind fun e1 =>
      (m_impl_within fuel e1 0 65536).bind fun y1 =>
      if y1 = true then
        if in64 (z1 + 1) then
          m_impl_isMap_L0 fuel x0 k1 (z1 + 1)
        else none
      else
      some (.ret false)
    else
    some (.brk ())

def m_impl_isMap (fuel : Nat) (x0 : List Int) : Option Bool :=
  (m_impl_isMap_L0 fuel x0 fuel 0).bind <| contL <| un1 fun _ =>
  some (decide ((x0.length : Int) = 8))

set_option maxRecDepth 100000 in
set_option maxHeartbeats 4000000 in
theorem w_impl_isMap (fuel : Nat) {x0 : List Int} {a_x0 : Option Addr} {n_x0 c_x0 : Nat} {r0 : Bool} {w0 : World} (h : m_impl_isMap fuel x0 = some r0) (hr_x0 : RdT (fun b => ¬ False) w0 (rowT x0) (.slice a_x0 n_x0 c_x0)) :
    Calls Try.prog 63 #[.slice a_x0 n_x0 c_x0] w0 fun e w => e = .returned (.bool r0) ∧ St w0 (fun _ => False) w [] := by
  obtain rfl := hr_x0.neq
  have HT : St w0 (fun _ => False) w0 [] := St.init0
  rw [m_impl_isMap] at h
  refine calls_fr (n := 18) [.slice a_x0 x0.length c_x0] Try.func63 rfl rfl rfl fun a HF => ?_
  have HT : St w0 (fun _ => False) w0 [] := HT
  refine wp_seq (wc_text (wa HF rfl rfl rfl fun a HF => ?_))
  refine wc_end (then_n ?_)
  obtain ⟨q1, hx1, h⟩ := obs h
  refine wp_cut (fun a w => q1 = .brk () ∧ Fr a 18 [(0, .slice a_x0 x0.length c_x0)] ∧ St w0 (fun _ => False) w []) ?_ ?_
  have hk1 := h
  have h := hx1
  refine wp_seq (wc_text (wm HF rfl rfl rfl fun a HF => ?_))
  refine wc_lenR HF nS Try.underlying22 rfl rfl rfl fun a HF => ?_
  refine wm HF rfl rfl rfl fun a HF => ?_
  refine wc_end (then_n (wp_block (wp_loopN (fun k1 a w => ∃ z1, m_impl_isMap_L0 fuel x0 k1 z1 = some q1 ∧ Fr a 18 [(0, .slice a_x0 x0.length c_x0), (5, .slice a_x0 x0.length c_x0), (6, .int .i64 (x0.length : Int)), (7, .int .i64 z1)] ∧ St w0 (fun _ => False) w []) fuel ⟨0, h, (HF.keep (HF.keep (HF.keep (HF.keep HF.nil rfl) rfl) rfl) rfl), HT⟩ ?_)))
  rintro k1 a w ⟨z1, h, HF, HT⟩
  rcases k1 with _ | k1
  cases h
  rw [m_impl_isMap_L0] at h
  refine ?_
  refine wp_seq (wc_text (wc_bin HF nS rfl rfl b_lt rfl rfl fun a HF => ?_))
  refine wc_end (then_n (wp_seq ?_))
  by_cases hb1 : z1 < (x0.length : Int)
  have h := ifp hb1 h
  refine wp_if (b' := true) HF rfl (decide_eq_true hb1) ?_
  refine wp_skip (then_n (wp_seq (wp_block (wp_seq (wc_text ?_)))))
  obtain ⟨e1, hx2, h⟩ := obs h
  obtain ⟨b1, o1, ha1⟩ := (HT.ro hr_x0).any.addr hx2
  refine wc_ixaddr HF nS el22 rfl ha1 ((HT.ro hr_x0).any).neq rfl hx2 rfl rfl fun a HF => ?_
  have hc1 := (HT.ro hr_x0).any.flatAt ha1 hx2
  refine wc_load HF rfl sc3 (hc1.get 0 rfl) rfl rfl fun a HF => ?_
  refine wa HF rfl rfl rfl fun a HF => ?_
  refine wc_end (then_n (wp_seq (wc_text (wm HF rfl rfl rfl fun a HF => ?_))))
  obtain ⟨y1, hx3, h⟩ := obs h
  refine wc_call HF cf98 rfl (w_impl_within fuel hx3) rfl rfl ?_
  rintro e w ⟨rfl, hE⟩
  have hb := hE.below
  have HT := HT.pure hE
  have HT : St w0 (fun _ => False) w [] := HT
  refine ⟨_, rfl, nS, fun a HF => ?_⟩
  refine wc_not HF nS rfl rfl rfl fun a HF => ?_
  refine wc_end (then_n ?_)
  by_cases hb2 : y1 = true
  have h := ifp hb2 h
  refine wp_if (b' := false) HF rfl (notT hb2) ?_
  refine wp_skip (blk_n (then_n (wc_text ?_)))
  obtain ⟨hg1, h⟩ := grd h
  refine wc_bin HF nS rfl rfl (b_add hg1) rfl rfl fun a HF => ?_
  refine wm HF rfl rfl rfl fun a HF => ?_
  exact wc_end (then_n ⟨k1, Nat.lt_succ_self k1, z1 + 1, h, (HF.keep (HF.keep (HF.keep (HF.keep HF.nil rfl) rfl) rfl) rfl), HT⟩)
  have h := ifn hb2 h
  refine wp_if (b' := true) HF rfl (notF (Bool.eq_false_iff.2 hb2)) ?_
  refine wp_seq (wc_text (wa HF rfl rfl rfl fun a HF => ?_))
  refine wc_end (then_n (wp_ret ?_))
  obtain rfl := Option.some.inj h
  have h := retL hk1
  obtain rfl := Option.some.inj h
  refine blk_r (then_r (then_r (blk_r (then_r (?_)))))
  refine bp_ret HF (res_one rfl HF rfl) ?_
  exact ⟨rfl, HT⟩
  have h := ifn hb1 h
  refine wp_if (b' := false) HF rfl (decide_eq_false hb1) ?_
  refine wp_exit ?_
  refine then_x (then_x (?_))
  refine blk_x ?_
  exact then_n ⟨(Option.some.inj h).symm, (HF.keep HF.nil rfl), HT⟩
  rintro a w ⟨rfl, HF, HT⟩
  have h := brkL1u h
  refine ?_
  refine wp_seq (wc_text (wm HF rfl rfl rfl fun a HF => ?_))
  refine wc_lenR HF nS Try.underlying22 rfl rfl rfl fun a HF => ?_
  refine wc_bin HF nS rfl rfl b_eq rfl rfl fun a HF => ?_
  refine wa HF rfl rfl rfl fun a HF => ?_
  refine wc_end (then_n (wp_ret ?_))
  obtain rfl := Option.some.inj h
  refine bp_ret HF (res_one rfl HF rfl) ?_
  exact ⟨rfl, HT⟩

def m_impl_ThingsOk (fuel : Nat) (x0_0 : List Int) (x0_1 : List Int) (x0_2 : Int) : Option Bool :=
  (m_impl_areValues fuel x0_0 8).bind fun y1 =>
  if y1 = true then
    (m_impl_isMap fuel x0_1).bind fun y2 =>
    if y2 = true then
      (m_impl_isValue fuel x0_2).bind fun y3 =>
      some y3
    else
    some false
  else
  some false

set_option maxRecDepth 100000 in
set_option maxHeartbeats 4000000 in
theorem w_impl_ThingsOk (fuel : Nat) {x0_0 : List Int} {x0_1 : List Int} {x0_2 : Int} {a_x0_0 : Option Addr} {n_x0_0 c_x0_0 : Nat} {a_x0_1 : Option Addr} {n_x0_1 c_x0_1 : Nat} {r0 : Bool} {w0 : World} (h : m_impl_ThingsOk fuel x0_0 x0_1 x0_2 = some r0) (hr_x0_0 : RdT (fun b => ¬ False) w0 (rowT x0_0) (.slice a_x0_0 n_x0_0 c_x0_0)) (hr_x0_1 : RdT (fun b => ¬ False) w0 (rowT x0_1) (.slice a_x0_1 n_x0_1 c_x0_1)) :
    Calls Try.prog 16 #[.agg #[.slice a_x0_0 n_x0_0 c_x0_0, .slice a_x0_1 n_x0_1 c_x0_1, .int .i64 x0_2]] w0 fun e w => e = .returned (.bool r0) ∧ St w0 (fun _ => False) w [] := by
  obtain rfl := hr_x0_0.neq
  obtain rfl := hr_x0_1.neq
  have HT : St w0 (fun _ => False) w0 [] := St.init0
  rw [m_impl_ThingsOk] at h
  refine calls_fr (n := 16) [.agg #[.slice a_x0_0 x0_0.length c_x0_0, .slice a_x0_1 x0_1.length c_x0_1, .int .i64 x0_2]] Try.func16 rfl rfl rfl fun a HF => ?_
  have HT : St w0 (fun _ => False) w0 [] := HT
  refine wp_seq (wc_text (wc_box (cs := [.slice a_x0_0 x0_0.length c_x0_0, .slice a_x0_1 x0_1.length c_x0_1, .int .i64 x0_2]) HF HT rfl rfl rfl rfl (fun p1 w HT hb => ⟨nS, fun a HF => ?_⟩)))
  refine wa HF rfl rfl rfl fun a HF => ?_
  refine wc_end (then_n (wp_seq (wc_text (wc_faddr HF nS rfl fl27_0 rfl rfl fun a HF => ?_))))
  refine wc_load HF rfl sc22 ((HT.boxAt 0 rfl).get 0 rfl) rfl rfl fun a HF => ?_
  obtain ⟨y1, hx1, h⟩ := obs h
  refine wc_call HF cf62 rfl (w_impl_areValues fuel hx1 (HT.ro hr_x0_0).any) rfl rfl ?_
  rintro e w ⟨rfl, hE⟩
  have hb := hE.below
  have HT := HT.pure hE
  have HT : St w0 (fun _ => False) w [Box p1 [.slice a_x0_0 x0_0.length c_x0_0, .slice a_x0_1 x0_1.length c_x0_1, .int .i64 x0_2]] := HT
  refine ⟨_, rfl, nS, fun a HF => ?_⟩
  refine wm HF rfl rfl rfl fun a HF => ?_
  by_cases hb1 : y1 = true
  have h := ifp hb1 h
  refine wc_faddr HF nS rfl fl27_1 (HF.wy rfl rfl rfl rfl hb1) rfl fun a HF => ?_
  refine wc_load HF rfl sc22 ((HT.boxAt 0 rfl).get 1 rfl) (HF.wy rfl rfl rfl rfl hb1) rfl fun a HF => ?_
  obtain ⟨y2, hx2, h⟩ := obs h
  refine wc_call HF cf63 rfl (w_impl_isMap fuel hx2 (HT.ro hr_x0_1).any) (HF.wy rfl rfl rfl rfl hb1) rfl ?_
  rintro e w ⟨rfl, hE⟩
  have hb := hE.below
  have HT := HT.pure hE
  have HT : St w0 (fun _ => False) w [Box p1 [.slice a_x0_0 x0_0.length c_x0_0, .slice a_x0_1 x0_1.length c_x0_1, .int .i64 x0_2]] := HT
  refine ⟨_, rfl, nS, fun a HF => ?_⟩
  refine wc_pick (b := true) HF nS rfl hb1 rfl rfl rfl fun a HF => ?_
  refine wm HF rfl rfl rfl fun a HF => ?_
  by_cases hb2 : y2 = true
  have h := ifp hb2 h
  refine wc_faddr HF nS rfl fl27_2 (HF.wy rfl rfl rfl rfl hb2) rfl fun a HF => ?_
  refine wc_load HF rfl sc3 ((HT.boxAt 0 rfl).get 2 rfl) (HF.wy rfl rfl rfl rfl hb2) rfl fun a HF => ?_
  obtain ⟨y3, hx3, h⟩ := obs h
  refine wc_call HF cf64 rfl (w_impl_isValue fuel hx3) (HF.wy rfl rfl rfl rfl hb2) rfl ?_
  rintro e w ⟨rfl, hE⟩
  have hb := hE.below
  have HT := HT.pure hE
  have HT : St w0 (fun _ => False) w [Box p1 [.slice a_x0_0 x0_0.length c_x0_0, .slice a_x0_1 x0_1.length c_x0_1, .int .i64 x0_2]] := HT
  refine ⟨_, rfl, nS, fun a HF => ?_⟩
  refine wc_pick (b := true) HF nS rfl hb2 rfl rfl rfl fun a HF => ?_
  refine wa HF rfl rfl rfl fun a HF => ?_
  refine wc_end (then_n (wp_ret ?_))
  obtain rfl := Option.some.inj h
  refine bp_ret HF (res_one rfl HF rfl) ?_
  have HT := HT.t0
  exact ⟨rfl, HT⟩
  have h := ifn hb2 h
  refine wc_skip HF nS (HF.wn rfl rfl rfl rfl (Bool.eq_false_iff.2 hb2)) rfl fun a HF => ?_
  refine wc_skip HF nS (HF.wn rfl rfl rfl rfl (Bool.eq_false_iff.2 hb2)) rfl fun a HF => ?_
  refine wc_skip HF nS (HF.wn rfl rfl rfl rfl (Bool.eq_false_iff.2 hb2)) rfl fun a HF => ?_
  refine wc_pick (b := false) HF nS rfl (Bool.eq_false_iff.2 hb2) rfl rfl rfl fun a HF => ?_
  refine wa HF rfl rfl rfl fun a HF => ?_
  refine wc_end (then_n (wp_ret ?_))
  obtain rfl := Option.some.inj h
  refine bp_ret HF (res_one rfl HF rfl) ?_
  have HT := HT.t0
  exact ⟨rfl, HT⟩
  have h := ifn hb1 h
  refine wc_skip HF nS (HF.wn rfl rfl rfl rfl (Bool.eq_false_iff.2 hb1)) rfl fun a HF => ?_
  refine wc_skip HF nS (HF.wn rfl rfl rfl rfl (Bool.eq_false_iff.2 hb1)) rfl fun a HF => ?_
  refine wc_skip HF nS (HF.wn rfl rfl rfl rfl (Bool.eq_false_iff.2 hb1)) rfl fun a HF => ?_
  refine wc_pick (b := false) HF nS rfl (Bool.eq_false_iff.2 hb1) rfl rfl rfl fun a HF => ?_
  refine wm HF rfl rfl rfl fun a HF => ?_
  refine wc_skip HF nS (HF.wn rfl rfl rfl rfl rfl) rfl fun a HF => ?_
  refine wc_skip HF nS (HF.wn rfl rfl rfl rfl rfl) rfl fun a HF => ?_
  refine wc_skip HF nS (HF.wn rfl rfl rfl rfl rfl) rfl fun a HF => ?_
  refine wc_pick (b := false) HF nS rfl rfl rfl rfl rfl fun a HF => ?_
  refine wa HF rfl rfl rfl fun a HF => ?_
  refine wc_end (then_n (wp_ret ?_))
  obtain rfl := Option.some.inj h
  refine bp_ret HF (res_one rfl HF rfl) ?_
  have HT := HT.t0
  exact ⟨rfl, HT⟩

def m_impl_orderOk_L0 (fuel : Nat) (x0 : List Int) (x1 : Int) : Nat → Int → Option (Lp Unit Bool)
  | 0, _ => none
  | k1 + 1, z1 =>
    if z1 < (x0.length : Int) then
      (at? x0 z1).bind fun e1 =>
      if in64 (x1 - 1) then
        (m_impl_within fuel e1 0 (x1 - 1)).bind fun y1 =>
        if y1 = true then
          if 0 ≤ (0 : Int) ∧ (0 : Int) ≤ z1 ∧ z1 ≤ (x0.length : Int) then
            (m_slices_Contains___int_int_ fuel (subl x0 0 z1) e1).bind fun y2 =>
            if y2 = true then
              some (.ret false)
            else
            if in64 (z1 + 1) then
              m_impl_orderOk_L0 fuel x0 x1 k1 (z1 + 1)
            else none
          else none
        else
        some (.ret false)
      else none
    else
    some (.brk ())

def m_impl_orderOk (fuel : Nat) (x0 : List Int) (x1 : Int) : Option Bool :=
  (m_impl_orderOk_L0 fuel x0 x1 fuel 0).bind <| contL <| un1 fun _ =>
  some true

set_option maxRecDepth 100000 in
set_option maxHeartbeats 4000000 in
theorem w_impl_orderOk (fuel : Nat) {x0 : List Int} {x1 : Int} {a_x0 : Option Addr} {n_x0 c_x0 : Nat} {r0 : Bool} {w0 : World} (h : m_impl_orderOk fuel x0 x1 = some r0) (hr_x0 : RdT (fun b => ¬ False) w0 (rowT x0) (.slice a_x0 n_x0 c_x0)) :
    Calls Try.prog 76 #[.slice a_x0 n_x0 c_x0, .int .i64 x1] w0 fun e w => e = .returned (.bool r0) ∧ St w0 (fun _ => False) w [] := by
  obtain rfl := hr_x0.neq
  have HT : St w0 (fun _ => False) w0 [] := St.init0
  rw [m_impl_orderOk] at h
  refine calls_fr (n := 27) [.slice a_x0 x0.length c_x0, .int .i64 x1] Try.func76 rfl rfl rfl fun a HF => ?_
  have HT : St w0 (fun _ => False) w0 [] := HT
  refine wp_seq (wc_text (wa HF rfl rfl rfl fun a HF => ?_))
  refine wc_end (then_n ?_)
  obtain ⟨q1, hx1, h⟩ := obs h
  refine wp_cut (fun a w => q1 = .brk () ∧ Fr a 27 [] ∧ St w0 (fun _ => False) w []) ?_ ?_
  have hk1 := h
  have h := hx1
  refine wp_seq (wc_text (wm HF rfl rfl rfl fun a HF => ?_))
  refine wc_lenR HF nS Try.underlying22 rfl rfl rfl fun a HF => ?_
  refine wm HF rfl rfl rfl fun a HF => ?_
  refine wc_end (then_n (wp_block (wp_loopN (fun k1 a w => ∃ z1, m_impl_orderOk_L0 fuel x0 x1 k1 z1 = some q1 ∧ Fr a 27 [(0, .slice a_x0 x0.length c_x0), (1, .int .i64 x1), (7, .slice a_x0 x0.length c_x0), (8, .int .i64 (x0.length : Int)), (9, .int .i64 z1)] ∧ St w0 (fun _ => False) w []) fuel ⟨0, h, (HF.keep (HF.keep (HF.keep (HF.keep (HF.keep HF.nil rfl) rfl) rfl) rfl) rfl), HT⟩ ?_)))
  rintro k1 a w ⟨z1, h, HF, HT⟩
  rcases k1 with _ | k1
  cases h
  rw [m_impl_orderOk_L0] at h
  refine ?_
  refine wp_seq (wc_text (wc_bin HF nS rfl rfl b_lt rfl rfl fun a HF => ?_))
  refine wc_end (then_n (wp_seq ?_))
  by_cases hb1 : z1 < (x0.length : Int)
  have h := ifp hb1 h
  refine wp_if (b' := true) HF rfl (decide_eq_true hb1) ?_
  refine wp_skip (then_n (wp_seq (wp_block (wp_seq (wc_text (wm HF rfl rfl rfl fun a HF => ?_))))))
  obtain ⟨e1, hx2, h⟩ := obs h
  obtain ⟨b1, o1, ha1⟩ := (HT.ro hr_x0).any.addr hx2
  refine wc_ixaddr HF nS el22 rfl ha1 ((HT.ro hr_x0).any).neq rfl hx2 rfl rfl fun a HF => ?_
  have hc1 := (HT.ro hr_x0).any.flatAt ha1 hx2
  refine wc_load HF rfl sc3 (hc1.get 0 rfl) rfl rfl fun a HF => ?_
  refine wa HF rfl rfl rfl fun a HF => ?_
  refine wa HF rfl rfl rfl fun a HF => ?_
  refine wc_end (then_n (wp_seq (wc_text (wm HF rfl rfl rfl fun a HF => ?_))))
  refine wm HF rfl rfl rfl fun a HF => ?_
  obtain ⟨hg1, h⟩ := grd h
  refine wc_bin HF nS rfl rfl (b_sub hg1) rfl rfl fun a HF => ?_
  obtain ⟨y1, hx3, h⟩ := obs h
  refine wc_call HF cf98 rfl (w_impl_within fuel hx3) rfl rfl ?_
  rintro e w ⟨rfl, hE⟩
  have hb := hE.below
  have HT := HT.pure hE
  have HT : St w0 (fun _ => False) w [] := HT
  refine ⟨_, rfl, nS, fun a HF => ?_⟩
  refine wc_not HF nS rfl rfl rfl fun a HF => ?_
  refine wm HF rfl rfl rfl fun a HF => ?_
  by_cases hb2 : y1 = true
  have h := ifp hb2 h
  refine wc_move HF nS rfl (HF.wy rfl rfl rfl rfl (notT hb2)) rfl fun a HF => ?_
  refine wc_move HF nS rfl (HF.wy rfl rfl rfl rfl (notT hb2)) rfl fun a HF => ?_
  obtain ⟨hg2, h⟩ := grd h
  obtain ⟨a1, c1, hr1, hcut⟩ := RdT.cutI hr_x0 (hg2 : 0 ≤ (0 : Int) ∧ (0 : Int) ≤ z1 ∧ z1 ≤ (x0.length : Int))
  refine wc_slrH HF nS el22 rfl rfl hcut (HF.wy rfl rfl rfl rfl (notT hb2)) rfl fun a HF => ?_
  refine wc_move HF nS rfl (HF.wy rfl rfl rfl rfl (notT hb2)) rfl fun a HF => ?_
  obtain ⟨y2, hx4, h⟩ := obs h
  refine wc_call HF cf111 rfl (w_slices_Contains___int_int_ fuel hx4 (HT.ro hr1).any) (HF.wy rfl rfl rfl rfl (notT hb2)) rfl ?_
  rintro e w ⟨rfl, hE⟩
  have hb := hE.below
  have HT := HT.pure hE
  have HT : St w0 (fun _ => False) w [] := HT
  refine ⟨_, rfl, nS, fun a HF => ?_⟩
  refine wc_pick (b := false) HF nS rfl (notT hb2) rfl rfl rfl fun a HF => ?_
  refine wc_end (then_n ?_)
  by_cases hb3 : y2 = true
  have h := ifp hb3 h
  refine wp_if (b' := true) HF rfl hb3 ?_
  refine wp_seq (wc_text (wa HF rfl rfl rfl fun a HF => ?_))
  refine wc_end (then_n (wp_ret ?_))
  obtain rfl := Option.some.inj h
  have h := retL hk1
  obtain rfl := Option.some.inj h
  refine blk_r (then_r (then_r (blk_r (then_r (?_)))))
  refine bp_ret HF (res_one rfl HF rfl) ?_
  exact ⟨rfl, HT⟩
  have h := ifn hb3 h
  refine wp_if (b' := false) HF rfl (Bool.eq_false_iff.2 hb3) ?_
  refine wp_skip (blk_n (then_n (wc_text ?_)))
  obtain ⟨hg3, h⟩ := grd h
  refine wc_bin HF nS rfl rfl (b_add hg3) rfl rfl fun a HF => ?_
  refine wm HF rfl rfl rfl fun a HF => ?_
  exact wc_end (then_n ⟨k1, Nat.lt_succ_self k1, z1 + 1, h, (HF.keep (HF.keep (HF.keep (HF.keep (HF.keep HF.nil rfl) rfl) rfl) rfl) rfl), HT⟩)
  have h := ifn hb2 h
  refine wc_skip HF nS (HF.wn rfl rfl rfl rfl (notF (Bool.eq_false_iff.2 hb2))) rfl fun a HF => ?_
  refine wc_skip HF nS (HF.wn rfl rfl rfl rfl (notF (Bool.eq_false_iff.2 hb2))) rfl fun a HF => ?_
  refine wc_skip HF nS (HF.wn rfl rfl rfl rfl (notF (Bool.eq_false_iff.2 hb2))) rfl fun a HF => ?_
  refine wc_skip HF nS (HF.wn rfl rfl rfl rfl (notF (Bool.eq_false_iff.2 hb2))) rfl fun a HF => ?_
  refine wc_skip HF nS (HF.wn rfl rfl rfl rfl (notF (Bool.eq_false_iff.2 hb2))) rfl fun a HF => ?_
  refine wc_pick (b := true) HF nS rfl (notF (Bool.eq_false_iff.2 hb2)) rfl rfl rfl fun a HF => ?_
  refine wc_end (then_n (wp_if (b' := true) HF rfl rfl ?_))
  refine wp_seq (wc_text (wa HF rfl rfl rfl fun a HF => ?_))
  refine wc_end (then_n (wp_ret ?_))
  obtain rfl := Option.some.inj h
  have h := retL hk1
  obtain rfl := Option.some.inj h
  refine blk_r (then_r (then_r (blk_r (then_r (?_)))))
  refine bp_ret HF (res_one rfl HF rfl) ?_
  exact ⟨rfl, HT⟩
  have h := ifn hb1 h
  refine wp_if (b' := false) HF rfl (decide_eq_false hb1) ?_
  refine wp_exit ?_
  refine then_x (then_x (?_))
  refine blk_x ?_
  exact then_n ⟨(Option.some.inj h).symm, HF.nil, HT⟩
  rintro a w ⟨rfl, HF, HT⟩
  have h := brkL1u h
  refine ?_
  refine wp_seq (wc_text (wa HF rfl rfl rfl fun a HF => ?_))
  refine wc_end (then_n (wp_ret ?_))
  obtain rfl := Option.some.inj h
  refine bp_ret HF (res_one rfl HF rfl) ?_
  exact ⟨rfl, HT⟩

def m_impl_Serial (fuel : Nat) (x0_0 : List I4) (x0_1 : List KidD) (x1 : List Int) (x2_0 : List Int) (x2_1 : List Int) (x2_2 : Int) : Option (Int × List Int × List Int × List Int × Int) :=
  (
    (
      (m_impl_ProgOk fuel x0_0 x0_1).bind fun y1 =>
      if y1 = true then
        (m_impl_orderOk fuel x1 (x0_1.length : Int)).bind fun y2 =>
        if y2 = true then
          (m_impl_ThingsOk fuel x2_0 x2_1 x2_2).bind fun y3 =>
          some !(y3)
        else
        some true
      else
      some true).bind fun z1 =>
    if z1 = true then
      some (.ret (0, ([] : List Int), ([] : List Int), ([] : List Int), 0))
    else
    some (.brk ())).bind <| contL <| un1 fun _ =>
  if 0 ≤ (4 : Int) ∧ (4 : Int) ≤ 1048576 then
    bind5 (m_impl_serial fuel x0_0 x0_1 x1 (List.replicate (4 : Int).toNat (0 : Int)) x2_0 x2_1 x2_2) fun y4 y5 y6 y7 y8 =>
    some (y4, y5, y6, y7, y8)
  else none

set_option maxRecDepth 100000 in
set_option maxHeartbeats 4000000 in
theorem w_impl_Serial (fuel : Nat) {x0_0 : List I4} {x0_1 : List KidD} {x1 : List Int} {x2_0 : List Int} {x2_1 : List Int} {x2_2 : Int} {a_x0_0 : Option Addr} {n_x0_0 c_x0_0 : Nat} {a_x0_1 : Option Addr} {n_x0_1 c_x0_1 : Nat} {a_x1 : Option Addr} {n_x1 c_x1 : Nat} {a_x2_0 : Option Addr} {n_x2_0 c_x2_0 : Nat} {a_x2_1 : Option Addr} {n_x2_1 c_x2_1 : Nat} {r0_0 : Int} {r0_1 : List Int} {r0_2 : List Int} {r0_3 : List Int} {r0_4 : Int} {w0 : World} (h : m_impl_Serial fuel x0_0 x0_1 x1 x2_0 x2_1 x2_2 = some (r0_0, r0_1, r0_2, r0_3, r0_4)) (hr_x0_0 : RdT (fun b => ¬ False) w0 (rowT x0_0) (.slice a_x0_0 n_x0_0 c_x0_0)) (hr_x0_1 : RdT (fun b => ¬ False) w0 (rowT x0_1) (.slice a_x0_1 n_x0_1 c_x0_1)) (hr_x1 : RdT (fun b => ¬ False) w0 (rowT x1) (.slice a_x1 n_x1 c_x1)) (hr_x2_0 : RdT (fun b => ¬ False) w0 (rowT x2_0) (.slice a_x2_0 n_x2_0 c_x2_0)) (hr_x2_1 : RdT (fun b => ¬ False) w0 (rowT x2_1) (.slice a_x2_1 n_x2_1 c_x2_1)) :
    Calls Try.prog 30 #[.agg #[.slice a_x0_0 n_x0_0 c_x0_0, .slice a_x0_1 n_x0_1 c_x0_1], .slice a_x1 n_x1 c_x1, .agg #[.slice a_x2_0 n_x2_0 c_x2_0, .slice a_x2_1 n_x2_1 c_x2_1, .int .i64 x2_2]] w0 fun e w => ∃ a_r0_1 n_r0_1 c_r0_1, ∃ a_r0_2 n_r0_2 c_r0_2, ∃ a_r0_3 n_r0_3 c_r0_3, e = .returned (.agg #[.int .i64 r0_0, .slice a_r0_1 n_r0_1 c_r0_1, .slice a_r0_2 n_r0_2 c_r0_2, .slice a_r0_3 n_r0_3 c_r0_3, .int .i64 r0_4]) ∧ St w0 (fun _ => False) w [OwnA (rowT r0_1) (.slice a_r0_1 n_r0_1 c_r0_1), OwnA (rowT r0_2) (.slice a_r0_2 n_r0_2 c_r0_2), OwnA (rowT r0_3) (.slice a_r0_3 n_r0_3 c_r0_3)] := by
  obtain rfl := hr_x0_0.neq
  obtain rfl := hr_x0_1.neq
  obtain rfl := hr_x1.neq
  obtain rfl := hr_x2_0.neq
  obtain rfl := hr_x2_1.neq
  have HT : St w0 (fun _ => False) w0 [] := St.init0
  rw [m_impl_Serial] at h
  refine calls_fr (n := 32) [.agg #[.slice a_x0_0 x0_0.length c_x0_0, .slice a_x0_1 x0_1.length c_x0_1], .slice a_x1 x1.length c_x1, .agg #[.slice a_x2_0 x2_0.length c_x2_0, .slice a_x2_1 x2_1.length c_x2_1, .int .i64 x2_2]] Try.func30 rfl rfl rfl fun a HF => ?_
  have HT : St w0 (fun _ => False) w0 [] := HT
  refine wp_seq (wc_text (wc_box (cs := [.slice a_x0_0 x0_0.length c_x0_0, .slice a_x0_1 x0_1.length c_x0_1]) HF HT rfl rfl rfl rfl (fun p1 w HT hb => ⟨nS, fun a HF => ?_⟩)))
  refine wc_box (cs := [.slice a_x2_0 x2_0.length c_x2_0, .slice a_x2_1 x2_1.length c_x2_1, .int .i64 x2_2]) HF HT rfl rfl rfl rfl (fun p2 w HT hb => ⟨nS, fun a HF => ?_⟩)
  refine wc_alloc (cs := [.int .i64 0, .slice none 0 0, .slice none 0 0, .slice none 0 0, .int .i64 0]) HF HT zr49 rfl rfl rfl (fun p3 w HT hb => ⟨nS, fun a HF => ?_⟩)
  refine wc_end (then_n ?_)
  obtain ⟨q1, hx1, h⟩ := obs h
  refine wp_cut (fun a w => q1 = .brk () ∧ Fr a 32 [(1, .slice a_x1 x1.length c_x1), (3, .pointer (some ⟨p1, 0, none⟩)), (5, .pointer (some ⟨p2, 0, none⟩)), (6, .pointer (some ⟨p3, 0, none⟩))] ∧ St w0 (fun _ => False) w [Box p1 [.slice a_x0_0 x0_0.length c_x0_0, .slice a_x0_1 x0_1.length c_x0_1], Box p2 [.slice a_x2_0 x2_0.length c_x2_0, .slice a_x2_1 x2_1.length c_x2_1, .int .i64 x2_2], Box p3 [.int .i64 0, .slice none 0 0, .slice none 0 0, .slice none 0 0, .int .i64 0]]) ?_ ?_
  have hk1 := h
  have h := hx1
  obtain ⟨z1, hx2, h⟩ := obs h
  refine wp_cut (fun a w => Fr a 32 [(1, .slice a_x1 x1.length c_x1), (3, .pointer (some ⟨p1, 0, none⟩)), (5, .pointer (some ⟨p2, 0, none⟩)), (6, .pointer (some ⟨p3, 0, none⟩)), (22, .bool z1)] ∧ St w0 (fun _ => False) w [Box p1 [.slice a_x0_0 x0_0.length c_x0_0, .slice a_x0_1 x0_1.length c_x0_1], Box p2 [.slice a_x2_0 x2_0.length c_x2_0, .slice a_x2_1 x2_1.length c_x2_1, .int .i64 x2_2], Box p3 [.int .i64 0, .slice none 0 0, .slice none 0 0, .slice none 0 0, .int .i64 0]]) ?_ ?_
  have hk2 := h
  have h := hx2
  refine wc_text (wc_loadA (vs := [.slice a_x0_0 x0_0.length c_x0_0, .slice a_x0_1 x0_1.length c_x0_1]) HF rfl ag53 rfl ((HT.boxAt 2 rfl).part 0 2) rfl rfl fun a HF => ?_)
  obtain ⟨y1, hx3, h⟩ := obs h
  refine wc_call HF cf75 rfl (w_impl_ProgOk fuel hx3 (HT.ro hr_x0_0).any (HT.ro hr_x0_1).any) rfl rfl ?_
  rintro e w ⟨rfl, hE⟩
  have hb := hE.below
  have HT := HT.pure hE
  have HT : St w0 (fun _ => False) w [Box p3 [.int .i64 0, .slice none 0 0, .slice none 0 0, .slice none 0 0, .int .i64 0], Box p2 [.slice a_x2_0 x2_0.length c_x2_0, .slice a_x2_1 x2_1.length c_x2_1, .int .i64 x2_2], Box p1 [.slice a_x0_0 x0_0.length c_x0_0, .slice a_x0_1 x0_1.length c_x0_1]] := HT
  refine ⟨_, rfl, nS, fun a HF => ?_⟩
  refine wc_not HF nS rfl rfl rfl fun a HF => ?_
  refine wm HF rfl rfl rfl fun a HF => ?_
  by_cases hb1 : y1 = true
  have h := ifp hb1 h
  refine wc_move HF nS rfl (HF.wy rfl rfl rfl rfl (notT hb1)) rfl fun a HF => ?_
  refine wc_faddr HF nS rfl fl53_1 (HF.wy rfl rfl rfl rfl (notT hb1)) rfl fun a HF => ?_
  refine wc_load HF rfl sc51 ((HT.boxAt 2 rfl).get 1 rfl) (HF.wy rfl rfl rfl rfl (notT hb1)) rfl fun a HF => ?_
  refine wc_lenR HF nS Try.underlying51 rfl (HF.wy rfl rfl rfl rfl (notT hb1)) rfl fun a HF => ?_
  obtain ⟨y2, hx4, h⟩ := obs h
  refine wc_call HF cf76 rfl (w_impl_orderOk fuel hx4 (HT.ro hr_x1).any) (HF.wy rfl rfl rfl rfl (notT hb1)) rfl ?_
  rintro e w ⟨rfl, hE⟩
  have hb := hE.below
  have HT := HT.pure hE
  have HT : St w0 (fun _ => False) w [Box p3 [.int .i64 0, .slice none 0 0, .slice none 0 0, .slice none 0 0, .int .i64 0], Box p2 [.slice a_x2_0 x2_0.length c_x2_0, .slice a_x2_1 x2_1.length c_x2_1, .int .i64 x2_2], Box p1 [.slice a_x0_0 x0_0.length c_x0_0, .slice a_x0_1 x0_1.length c_x0_1]] := HT
  refine ⟨_, rfl, nS, fun a HF => ?_⟩
  refine wc_not HF nS rfl (HF.wy rfl rfl rfl rfl (notT hb1)) rfl fun a HF => ?_
  refine wc_pick (b := false) HF nS rfl (notT hb1) rfl rfl rfl fun a HF => ?_
  refine wm HF rfl rfl rfl fun a HF => ?_
  by_cases hb2 : y2 = true
  have h := ifp hb2 h
  refine wc_loadA (vs := [.slice a_x2_0 x2_0.length c_x2_0, .slice a_x2_1 x2_1.length c_x2_1, .int .i64 x2_2]) HF rfl ag27 rfl ((HT.boxAt 1 rfl).part 0 3) (HF.wy rfl rfl rfl rfl (notT hb2)) rfl fun a HF => ?_
  obtain ⟨y3, hx5, h⟩ := obs h
  refine wc_call HF cf16 rfl (w_impl_ThingsOk fuel hx5 (HT.ro hr_x2_0).any (HT.ro hr_x2_1).any) (HF.wy rfl rfl rfl rfl (notT hb2)) rfl ?_
  rintro e w ⟨rfl, hE⟩
  have hb := hE.below
  have HT := HT.pure hE
  have HT : St w0 (fun _ => False) w [Box p3 [.int .i64 0, .slice none 0 0, .slice none 0 0, .slice none 0 0, .int .i64 0], Box p2 [.slice a_x2_0 x2_0.length c_x2_0, .slice a_x2_1 x2_1.length c_x2_1, .int .i64 x2_2], Box p1 [.slice a_x0_0 x0_0.length c_x0_0, .slice a_x0_1 x0_1.length c_x0_1]] := HT
  refine ⟨_, rfl, nS, fun a HF => ?_⟩
  refine wc_not HF nS rfl (HF.wy rfl rfl rfl rfl (notT hb2)) rfl fun a HF => ?_
  refine wc_pick (b := false) HF nS rfl (notT hb2) rfl rfl rfl fun a HF => ?_
  refine wc_end ?_
  have HT := HT.p1.p2
  obtain rfl := Option.some.inj h
  exact then_n ⟨(HF.keep (HF.keep (HF.keep (HF.keep (HF.keep HF.nil rfl) rfl) rfl) rfl) rfl), HT⟩
  have h := ifn hb2 h
  refine wc_skip HF nS (HF.wn rfl rfl rfl rfl (notF (Bool.eq_false_iff.2 hb2))) rfl fun a HF => ?_
  refine wc_skip HF nS (HF.wn rfl rfl rfl rfl (notF (Bool.eq_false_iff.2 hb2))) rfl fun a HF => ?_
  refine wc_skip HF nS (HF.wn rfl rfl rfl rfl (notF (Bool.eq_false_iff.2 hb2))) rfl fun a HF => ?_
  refine wc_pick (b := true) HF nS rfl (notF (Bool.eq_false_iff.2 hb2)) rfl rfl rfl fun a HF => ?_
  refine wc_end ?_
  have HT := HT.p1.p2
  obtain rfl := Option.some.inj h
  exact then_n ⟨(HF.keep (HF.keep (HF.keep (HF.keep (HF.keep HF.nil rfl) rfl) rfl) rfl) rfl), HT⟩
  have h := ifn hb1 h
  refine wc_skip HF nS (HF.wn rfl rfl rfl rfl (notF (Bool.eq_false_iff.2 hb1))) rfl fun a HF => ?_
  refine wc_skip HF nS (HF.wn rfl rfl rfl rfl (notF (Bool.eq_false_iff.2 hb1))) rfl fun a HF => ?_
  refine wc_skip HF nS (HF.wn rfl rfl rfl rfl (notF (Bool.eq_false_iff.2 hb1))) rfl fun a HF => ?_
  refine wc_skip HF nS (HF.wn rfl rfl rfl rfl (notF (Bool.eq_false_iff.2 hb1))) rfl fun a HF => ?_
  refine wc_skip HF nS (HF.wn rfl rfl rfl rfl (notF (Bool.eq_false_iff.2 hb1))) rfl fun a HF => ?_
  refine wc_skip HF nS (HF.wn rfl rfl rfl rfl (notF (Bool.eq_false_iff.2 hb1))) rfl fun a HF => ?_
  refine wc_pick (b := true) HF nS rfl (notF (Bool.eq_false_iff.2 hb1)) rfl rfl rfl fun a HF => ?_
  refine wm HF rfl rfl rfl fun a HF => ?_
  refine wc_skip HF nS (HF.wn rfl rfl rfl rfl rfl) rfl fun a HF => ?_
  refine wc_skip HF nS (HF.wn rfl rfl rfl rfl rfl) rfl fun a HF => ?_
  refine wc_skip HF nS (HF.wn rfl rfl rfl rfl rfl) rfl fun a HF => ?_
  refine wc_pick (b := true) HF nS rfl rfl rfl rfl rfl fun a HF => ?_
  refine wc_end ?_
  have HT := HT.p1.p2
  obtain rfl := Option.some.inj h
  exact then_n ⟨(HF.keep (HF.keep (HF.keep (HF.keep (HF.keep HF.nil rfl) rfl) rfl) rfl) rfl), HT⟩
  rintro a w ⟨HF, HT⟩
  refine ?_
  by_cases hb3 : z1 = true
  have h := ifp hb3 h
  refine wp_if (b' := true) HF rfl hb3 ?_
  refine wp_seq (wc_text (wc_build (cs := #[.int .i64 0, .slice none 0 0, .slice none 0 0, .slice none 0 0, .int .i64 0]) HF nS bd49 rfl rfl rfl rfl fun a HF => ?_))
  have HT := HT.p2
  refine wc_storeB (cs' := [.int .i64 0, .slice none 0 0, .slice none 0 0, .slice none 0 0, .int .i64 0]) HF HT rfl rfl (fun w => (ag49 w).2) rfl rfl rfl rfl rfl (fun w HT => ⟨nS, ?_⟩)
  refine wc_end (then_n (wp_ret ?_))
  have HT := HT.nilrow (E := Int) 3
  have HT := HT.weak
  have HT := HT.nilrow (E := Int) 3
  have HT := HT.weak
  have HT := HT.nilrow (E := Int) 3
  have HT := HT.weak
  obtain rfl := Option.some.inj h
  have h := retL hk1
  have hj1 := Option.some.inj h
  obtain ⟨rfl, hj2⟩ := Prod.mk.inj hj1
  obtain ⟨rfl, hj3⟩ := Prod.mk.inj hj2
  obtain ⟨rfl, hj4⟩ := Prod.mk.inj hj3
  obtain ⟨rfl, hj5⟩ := Prod.mk.inj hj4
  subst hj5
  refine then_r (?_)
  refine bp_ret HF (res_cell (vs := [.int .i64 0, .slice none 0 0, .slice none 0 0, .slice none 0 0, .int .i64 0]) rfl HF rfl ag49 rfl (HT.boxAt 3 rfl)) ?_
  have HT := HT.p1.p2.t3
  exact ⟨none, 0, 0, none, 0, 0, none, 0, 0, rfl, HT⟩
  have h := ifn hb3 h
  refine wp_if (b' := false) HF rfl (Bool.eq_false_iff.2 hb3) ?_
  exact wp_skip (then_n ⟨(Option.some.inj h).symm, (HF.keep (HF.keep (HF.keep (HF.keep HF.nil rfl) rfl) rfl) rfl), HT⟩)
  rintro a w ⟨rfl, HF, HT⟩
  have h := brkL1u h
  refine ?_
  refine wp_seq (wp_region_can [(0, false), (1, false), (2, false), (3, false), (4, false), (6, false), (5, false), (7, true), (8, true)] (fun w' => w'.cell? ⟨p1, 0, none⟩ = some (.slice a_x0_0 x0_0.length c_x0_0) ∧ w'.cell? ⟨p1, 1, none⟩ = some (.slice a_x0_1 x0_1.length c_x0_1) ∧ LdC w' p2 0 [.slice a_x2_0 x2_0.length c_x2_0, .slice a_x2_1 x2_1.length c_x2_1, .int .i64 x2_2] ∧ True) (by kernel_rfl) (by kernel_rfl) ?_)
  have HT := HT.drew
  refine wc_faddr HF (fun _ => ⟨(HT.boxAt 0 rfl).get 0 rfl, (HT.boxAt 0 rfl).get 1 rfl, (HT.boxAt 1 rfl).part 0 3, trivial⟩) rfl fl53_0 rfl rfl fun a HF => ?_
  refine wc_loadS HF ⟨(HT.boxAt 0 rfl).get 0 rfl, (HT.boxAt 0 rfl).get 1 rfl, (HT.boxAt 1 rfl).part 0 3, trivial⟩ rfl sc36 (fun w hS => hS.1) rfl rfl fun a HF => ?_
  refine wc_faddr HF (fun _ => ⟨(HT.boxAt 0 rfl).get 0 rfl, (HT.boxAt 0 rfl).get 1 rfl, (HT.boxAt 1 rfl).part 0 3, trivial⟩) rfl fl53_1 rfl rfl fun a HF => ?_
  refine wc_loadS HF ⟨(HT.boxAt 0 rfl).get 0 rfl, (HT.boxAt 0 rfl).get 1 rfl, (HT.boxAt 1 rfl).part 0 3, trivial⟩ rfl sc51 (fun w hS => hS.2.1) rfl rfl fun a HF => ?_
  refine wc_move HF (fun _ => ⟨(HT.boxAt 0 rfl).get 0 rfl, (HT.boxAt 0 rfl).get 1 rfl, (HT.boxAt 1 rfl).part 0 3, trivial⟩) rfl rfl rfl fun a HF => ?_
  refine wc_loadAS (vs := [.slice a_x2_0 x2_0.length c_x2_0, .slice a_x2_1 x2_1.length c_x2_1, .int .i64 x2_2]) HF ⟨(HT.boxAt 0 rfl).get 0 rfl, (HT.boxAt 0 rfl).get 1 rfl, (HT.boxAt 1 rfl).part 0 3, trivial⟩ rfl ag27 rfl (fun w hS => hS.2.2.1) rfl rfl fun a HF => ?_
  obtain ⟨hg1, h⟩ := grd h
  refine wc_make (x := (0 : Int)) HF HT el22 rfl rfl hg1 rfl rfl rfl rfl (fun p4 w HT hb => ⟨(fun _ => ⟨(HT.boxAt 1 rfl).get 0 rfl, (HT.boxAt 1 rfl).get 1 rfl, (HT.boxAt 2 rfl).part 0 3, trivial⟩), fun a HF => ?_⟩)
  obtain ⟨y4, y5, y6, y7, y8, hx6, h⟩ := obs5 h
  refine wc_call HF cf69 rfl (w_impl_serial fuel hx6 (HT.ro hr_x0_0).any (HT.ro hr_x0_1).any (HT.ro hr_x1).any (HT.rdAt 0 rfl) (HT.ro hr_x2_0).any (HT.ro hr_x2_1).any) rfl rfl ?_
  rintro e w ⟨a1, n1, c1, a2, n2, c2, a3, n3, c3, rfl, hE⟩
  have hb := hE.below
  have HT := HT.pure hE
  obtain rfl := (HT.rdAAt 0 rfl).neq
  obtain rfl := (HT.rdAAt 1 rfl).neq
  obtain rfl := (HT.rdAAt 2 rfl).neq
  have HT : St w0 (fun _ => False) w [OwnA (rowT y5) (.slice a1 y5.length c1), OwnA (rowT y6) (.slice a2 y6.length c2), OwnA (rowT y7) (.slice a3 y7.length c3), Own 3 (rowT (List.replicate (4 : Int).toNat (0 : Int))) (.slice (some ⟨p4, 0, none⟩) ((List.replicate (4 : Int).toNat (0 : Int)).length) ((List.replicate (4 : Int).toNat (0 : Int)).length)), Box p1 [.slice a_x0_0 x0_0.length c_x0_0, .slice a_x0_1 x0_1.length c_x0_1], Box p2 [.slice a_x2_0 x2_0.length c_x2_0, .slice a_x2_1 x2_1.length c_x2_1, .int .i64 x2_2], Box p3 [.int .i64 0, .slice none 0 0, .slice none 0 0, .slice none 0 0, .int .i64 0]] := HT
  refine ⟨_, rfl, nS, fun a HF => ?_⟩
  have HT := HT.p6
  refine wc_storeB (cs' := [.int .i64 y4, .slice a1 y5.length c1, .slice a2 y6.length c2, .slice a3 y7.length c3, .int .i64 y8]) HF HT rfl rfl (fun w => (ag49 w).2) rfl rfl rfl rfl rfl (fun w HT => ⟨nS, ?_⟩)
  refine wc_endN (then_n (wp_ret ?_))
  have hj6 := Option.some.inj h
  obtain ⟨rfl, hj7⟩ := Prod.mk.inj hj6
  obtain ⟨rfl, hj8⟩ := Prod.mk.inj hj7
  obtain ⟨rfl, hj9⟩ := Prod.mk.inj hj8
  obtain ⟨rfl, hj10⟩ := Prod.mk.inj hj9
  subst hj10
  refine bp_ret HF (res_cell (vs := [.int .i64 y4, .slice a1 y5.length c1, .slice a2 y6.length c2, .slice a3 y7.length c3, .int .i64 y8]) rfl HF rfl ag49 rfl (HT.boxAt 0 rfl)) ?_
  have HT := HT.p3.p3.p3.t3
  exact ⟨a1, y5.length, c1, a2, y6.length, c2, a3, y7.length, c3, rfl, HT⟩

end Go.Proofs.Ytknghnmcckjjbaa
