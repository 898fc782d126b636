/- Closed facts on the types and functions of the program. -/
import Derived.Test.YtikfmmfifhnbjaaRows
import Derived.Test.YtikfmmfifhnbjaaCt
namespace Go.Proofs.Ytikfmmfifhnbjaa
open Go Go.RowKit
set_option linter.unusedVariables false
set_option linter.unusedSimpArgs false
theorem cf5 : CfR Try.prog 5 := fun vs w => by kernel_rfl
theorem cf17 : CfR Try.prog 17 := fun vs w => by kernel_rfl
theorem cf18 : CfR Try.prog 18 := fun vs w => by kernel_rfl
theorem cf19 : CfR Try.prog 19 := fun vs w => by kernel_rfl
theorem cf22 : CfR Try.prog 22 := fun vs w => by kernel_rfl
theorem el36 : Elem Try.prog 36 45 (.agg #[.int .i64 0, .int .i64 0, .int .i64 0, .int .i64 0]) 4 32 := ⟨Try.underlying36, by kernel_rfl, rfl, by decide⟩
theorem fl45_0 : Fld Try.prog 45 0 0 := fun p o w => by kernel_rfl
theorem sc3 : Sc Try.prog 3 := fun w => ⟨by kernel_rfl, by kernel_rfl⟩
theorem cf23 : CfR Try.prog 23 := fun vs w => by kernel_rfl
theorem zr42 : Zr Try.prog 42 (.agg #[.slice none 0 0, .slice none 0 0]) := fun w => by kernel_rfl
theorem bd42 : Bld Try.prog 42 #[.slice none 0 0, .slice none 0 0] #[(0, 1), (1, 1)] := Bld.mk zr42 Try.underlying42 (fun w => by kernel_rfl)
theorem cf24 : CfR Try.prog 24 := fun vs w => by kernel_rfl
theorem cf20 : CfR Try.prog 20 := fun vs w => by kernel_rfl
theorem cf21 : CfR Try.prog 21 := fun vs w => by kernel_rfl
theorem cf34 : CfR Try.prog 34 := fun vs w => by kernel_rfl
theorem ag45 : Ag Try.prog 45 4 := fun w => ⟨by kernel_rfl, by kernel_rfl⟩
theorem zr45 : Zr Try.prog 45 (.agg #[.int .i64 0, .int .i64 0, .int .i64 0, .int .i64 0]) := fun w => by kernel_rfl
theorem cf35 : CfR Try.prog 35 := fun vs w => by kernel_rfl
theorem fl45_2 : Fld Try.prog 45 2 2 := fun p o w => by kernel_rfl
theorem cf40 : CfR Try.prog 40 := fun vs w => by kernel_rfl
theorem fl45_1 : Fld Try.prog 45 1 1 := fun p o w => by kernel_rfl
theorem cf50 : CfR Try.prog 50 := fun vs w => by kernel_rfl
theorem cf51 : CfR Try.prog 51 := fun vs w => by kernel_rfl
theorem fl45_3 : Fld Try.prog 45 3 3 := fun p o w => by kernel_rfl
theorem cf52 : CfR Try.prog 52 := fun vs w => by kernel_rfl
theorem cf28 : CfR Try.prog 28 := fun vs w => by kernel_rfl
theorem cf53 : CfR Try.prog 53 := fun vs w => by kernel_rfl
theorem cf38 : CfR Try.prog 38 := fun vs w => by kernel_rfl
theorem fl42_1 : Fld Try.prog 42 1 1 := fun p o w => by kernel_rfl
theorem sc40 : Sc Try.prog 40 := fun w => ⟨by kernel_rfl, by kernel_rfl⟩
theorem el40 : Elem Try.prog 40 61 (.agg #[.slice none 0 0]) 1 24 := ⟨Try.underlying40, by kernel_rfl, rfl, by decide⟩
theorem ag61 : Ag Try.prog 61 1 := fun w => ⟨by kernel_rfl, by kernel_rfl⟩
theorem zr61 : Zr Try.prog 61 (.agg #[.slice none 0 0]) := fun w => by kernel_rfl
theorem fl61_0 : Fld Try.prog 61 0 0 := fun p o w => by kernel_rfl
theorem sc36 : Sc Try.prog 36 := fun w => ⟨by kernel_rfl, by kernel_rfl⟩
theorem fl42_0 : Fld Try.prog 42 0 0 := fun p o w => by kernel_rfl
theorem cf39 : CfR Try.prog 39 := fun vs w => by kernel_rfl
theorem cf57 : CfR Try.prog 57 := fun vs w => by kernel_rfl
theorem cf61 : CfR Try.prog 61 := fun vs w => by kernel_rfl
theorem cf58 : CfR Try.prog 58 := fun vs w => by kernel_rfl
theorem cf41 : CfR Try.prog 41 := fun vs w => by kernel_rfl
theorem cf42 : CfR Try.prog 42 := fun vs w => by kernel_rfl
theorem cf43 : CfR Try.prog 43 := fun vs w => by kernel_rfl
theorem eq45 : EqA Try.prog 45 4 := fun x y hx hy w => ⟨by
  rw [show (10000 : Nat) = 9999 + 1 from rfl, run_equalIn_agg w 9999 45 _ _ (by kernel_rfl) (by kernel_rfl)]
  simp only [Program.fieldsOf, Try.underlying45]
  match x, y, hx, hy with
  | [a, b, c, d], [a', b', c', d'], _, _ =>
    rw [show (9999 : Nat) = 9998 + 1 from rfl, eqF_cons Try.underlying3 _ _ _ _ _ (by decide) rfl rfl rfl, eqF_cons Try.underlying3 _ _ _ _ _ (by decide) rfl rfl rfl, eqF_cons Try.underlying3 _ _ _ _ _ (by decide) rfl rfl rfl, eqF_cons Try.underlying3 _ _ _ _ _ (by decide) rfl rfl rfl, eqF_nil]
    simp only [List.cons.injEq, and_true]
    by_cases ha : a = a' <;> by_cases hb : b = b' <;> by_cases hc : c = c' <;> by_cases hd : d = d' <;> simp [ha, hb, hc, hd], by kernel_rfl⟩
theorem cf36 : CfR Try.prog 36 := fun vs w => by kernel_rfl
theorem cf37 : CfR Try.prog 37 := fun vs w => by kernel_rfl
theorem cf54 : CfR Try.prog 54 := fun vs w => by kernel_rfl
theorem cf55 : CfR Try.prog 55 := fun vs w => by kernel_rfl
theorem cf56 : CfR Try.prog 56 := fun vs w => by kernel_rfl
theorem cf47 : CfR Try.prog 47 := fun vs w => by kernel_rfl
theorem cf25 : CfR Try.prog 25 := fun vs w => by kernel_rfl
theorem cf33 : CfR Try.prog 33 := fun vs w => by kernel_rfl
theorem el22 : Elem Try.prog 22 5 (.int .u8 0) 1 1 := ⟨Try.underlying22, by kernel_rfl, rfl, by decide⟩
theorem sc5 : Sc Try.prog 5 := fun w => ⟨by kernel_rfl, by kernel_rfl⟩
theorem zr66 : Zr Try.prog 66 (.agg #[.slice none 0 0, .int .i64 0, .int .i64 0]) := fun w => by kernel_rfl
theorem bd66 : Bld Try.prog 66 #[.slice none 0 0, .int .i64 0, .int .i64 0] #[(0, 1), (1, 1), (2, 1)] := Bld.mk zr66 Try.underlying66 (fun w => by kernel_rfl)
theorem cf31 : CfR Try.prog 31 := fun vs w => by kernel_rfl
theorem cf48 : CfR Try.prog 48 := fun vs w => by kernel_rfl
theorem ag42 : Ag Try.prog 42 2 := fun w => ⟨by kernel_rfl, by kernel_rfl⟩
theorem cf49 : CfR Try.prog 49 := fun vs w => by kernel_rfl
theorem cf44 : CfR Try.prog 44 := fun vs w => by kernel_rfl
theorem cf46 : CfR Try.prog 46 := fun vs w => by kernel_rfl
theorem fl66_2 : Fld Try.prog 66 2 2 := fun p o w => by kernel_rfl
theorem fl66_1 : Fld Try.prog 66 1 1 := fun p o w => by kernel_rfl
theorem fl66_0 : Fld Try.prog 66 0 0 := fun p o w => by kernel_rfl
theorem sc22 : Sc Try.prog 22 := fun w => ⟨by kernel_rfl, by kernel_rfl⟩
theorem bs36_0 : BldS Try.prog 36 45 4 0 #[] := BldS.mk Try.underlying36 (fun w => by kernel_rfl) (by decide) zr45 (by kernel_rfl)
theorem bd45 : Bld Try.prog 45 #[.int .i64 0, .int .i64 0, .int .i64 0, .int .i64 0] #[(0, 1), (1, 1), (2, 1), (3, 1)] := Bld.mk zr45 Try.underlying45 (fun w => by kernel_rfl)
theorem bs36_1 : BldS Try.prog 36 45 4 1 #[.int .i64 0, .int .i64 0, .int .i64 0, .int .i64 0] := BldS.mk Try.underlying36 (fun w => by kernel_rfl) (by decide) zr45 (by kernel_rfl)
theorem cf60 : CfR Try.prog 60 := fun vs w => by kernel_rfl
theorem cf62 : CfR Try.prog 62 := fun vs w => by kernel_rfl
theorem zr3 : Zr Try.prog 3 (.int .i64 0) := fun w => by kernel_rfl
theorem bs69_3 : BldS Try.prog 69 3 1 3 #[.int .i64 0, .int .i64 0, .int .i64 0] := BldS.mk Try.underlying69 (fun w => by kernel_rfl) (by decide) zr3 (by kernel_rfl)
theorem cf45 : CfR Try.prog 45 := fun vs w => by kernel_rfl
theorem bs69_5 : BldS Try.prog 69 3 1 5 #[.int .i64 0, .int .i64 0, .int .i64 0, .int .i64 0, .int .i64 0] := BldS.mk Try.underlying69 (fun w => by kernel_rfl) (by decide) zr3 (by kernel_rfl)
theorem el69 : Elem Try.prog 69 3 (.int .i64 0) 1 8 := ⟨Try.underlying69, by kernel_rfl, rfl, by decide⟩
theorem cf63 : CfR Try.prog 63 := fun vs w => by kernel_rfl
theorem cf64 : CfR Try.prog 64 := fun vs w => by kernel_rfl
theorem cf65 : CfR Try.prog 65 := fun vs w => by kernel_rfl
theorem cf66 : CfR Try.prog 66 := fun vs w => by kernel_rfl
theorem bs69_4 : BldS Try.prog 69 3 1 4 #[.int .i64 0, .int .i64 0, .int .i64 0, .int .i64 0] := BldS.mk Try.underlying69 (fun w => by kernel_rfl) (by decide) zr3 (by kernel_rfl)
theorem cf59 : CfR Try.prog 59 := fun vs w => by kernel_rfl
theorem bd61 : Bld Try.prog 61 #[.slice none 0 0] #[(0, 1)] := Bld.mk zr61 Try.underlying61 (fun w => by kernel_rfl)
theorem bs40_1 : BldS Try.prog 40 61 1 1 #[.slice none 0 0] := BldS.mk Try.underlying40 (fun w => by kernel_rfl) (by decide) zr61 (by kernel_rfl)
theorem cf6 : CfR Try.prog 6 := fun vs w => by kernel_rfl
theorem cf7 : CfR Try.prog 7 := fun vs w => by kernel_rfl
theorem cf8 : CfR Try.prog 8 := fun vs w => by kernel_rfl
theorem cf9 : CfR Try.prog 9 := fun vs w => by kernel_rfl
theorem cf10 : CfR Try.prog 10 := fun vs w => by kernel_rfl
theorem cf11 : CfR Try.prog 11 := fun vs w => by kernel_rfl
theorem cf13 : CfR Try.prog 13 := fun vs w => by kernel_rfl
theorem cf12 : CfR Try.prog 12 := fun vs w => by kernel_rfl
theorem cf15 : CfR Try.prog 15 := fun vs w => by kernel_rfl
theorem cf14 : CfR Try.prog 14 := fun vs w => by kernel_rfl
theorem cf16 : CfR Try.prog 16 := fun vs w => by kernel_rfl
theorem zr5 : Zr Try.prog 5 (.int .u8 0) := fun w => by kernel_rfl
theorem bs22_0 : BldS Try.prog 22 5 1 0 #[] := BldS.mk Try.underlying22 (fun w => by kernel_rfl) (by decide) zr5 (by kernel_rfl)
theorem bs22_1 : BldS Try.prog 22 5 1 1 #[.int .u8 0] := BldS.mk Try.underlying22 (fun w => by kernel_rfl) (by decide) zr5 (by kernel_rfl)
theorem bs22_2 : BldS Try.prog 22 5 1 2 #[.int .u8 0, .int .u8 0] := BldS.mk Try.underlying22 (fun w => by kernel_rfl) (by decide) zr5 (by kernel_rfl)
theorem cf29 : CfR Try.prog 29 := fun vs w => by kernel_rfl
theorem cf27 : CfR Try.prog 27 := fun vs w => by kernel_rfl
theorem cf26 : CfR Try.prog 26 := fun vs w => by kernel_rfl
theorem cf30 : CfR Try.prog 30 := fun vs w => by kernel_rfl
theorem cf32 : CfR Try.prog 32 := fun vs w => by kernel_rfl
theorem bs69_17 : BldS Try.prog 69 3 1 17 #[.int .i64 0, .int .i64 0, .int .i64 0, .int .i64 0, .int .i64 0, .int .i64 0, .int .i64 0, .int .i64 0, .int .i64 0, .int .i64 0, .int .i64 0, .int .i64 0, .int .i64 0, .int .i64 0, .int .i64 0, .int .i64 0, .int .i64 0] := BldS.mk Try.underlying69 (fun w => by kernel_rfl) (by decide) zr3 (by kernel_rfl)
end Go.Proofs.Ytikfmmfifhnbjaa
