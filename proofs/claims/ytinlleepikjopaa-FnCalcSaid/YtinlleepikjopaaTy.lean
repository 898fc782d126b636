/- Closed facts on the types and functions of the program. -/
import Derived.Test.YtinlleepikjopaaRows
import Derived.Test.YtinlleepikjopaaSq
namespace Go.Proofs.Ytinlleepikjopaa
open Go Go.RowKit
set_option linter.unusedVariables false
set_option linter.unusedSimpArgs false
theorem zr25 : Zr Try.prog 25 (.agg #[.int .i64 0, .int .i64 0, .int .i64 0, .int .i64 0]) := fun w => by kernel_rfl
theorem fl23_0 : Fld Try.prog 23 0 0 := fun p o w => by kernel_rfl
theorem sc3 : Sc Try.prog 3 := fun w => ⟨by kernel_rfl, by kernel_rfl⟩
theorem fl25_0 : Fld Try.prog 25 0 0 := fun p o w => by kernel_rfl
theorem fl23_1 : Fld Try.prog 23 1 1 := fun p o w => by kernel_rfl
theorem fl25_1 : Fld Try.prog 25 1 1 := fun p o w => by kernel_rfl
theorem fl23_2 : Fld Try.prog 23 2 2 := fun p o w => by kernel_rfl
theorem fl25_2 : Fld Try.prog 25 2 2 := fun p o w => by kernel_rfl
theorem fl23_3 : Fld Try.prog 23 3 3 := fun p o w => by kernel_rfl
theorem fl25_3 : Fld Try.prog 25 3 3 := fun p o w => by kernel_rfl
theorem ag25 : Ag Try.prog 25 4 := fun w => ⟨by kernel_rfl, by kernel_rfl⟩
theorem cf53 : CfR Try.prog 53 := fun vs w => by kernel_rfl
theorem cf50 : CfR Try.prog 50 := fun vs w => by kernel_rfl
theorem cf51 : CfR Try.prog 51 := fun vs w => by kernel_rfl
theorem cf52 : CfR Try.prog 52 := fun vs w => by kernel_rfl
theorem cf57 : CfR Try.prog 57 := fun vs w => by kernel_rfl
theorem cf54 : CfR Try.prog 54 := fun vs w => by kernel_rfl
theorem cf55 : CfR Try.prog 55 := fun vs w => by kernel_rfl
theorem cf56 : CfR Try.prog 56 := fun vs w => by kernel_rfl
theorem cf58 : CfR Try.prog 58 := fun vs w => by kernel_rfl
theorem ag23 : Ag Try.prog 23 4 := fun w => ⟨by kernel_rfl, by kernel_rfl⟩
theorem cf16 : CfR Try.prog 16 := fun vs w => by kernel_rfl
theorem cf15 : CfR Try.prog 15 := fun vs w => by kernel_rfl
theorem cf17 : CfR Try.prog 17 := fun vs w => by kernel_rfl
theorem cf18 : CfR Try.prog 18 := fun vs w => by kernel_rfl
theorem cf19 : CfR Try.prog 19 := fun vs w => by kernel_rfl
theorem el43 : Elem Try.prog 43 25 (.agg #[.int .i64 0, .int .i64 0, .int .i64 0, .int .i64 0]) 4 32 := ⟨Try.underlying43, by kernel_rfl, rfl, by decide⟩
theorem el40 : Elem Try.prog 40 23 (.agg #[.int .i64 0, .int .i64 0, .int .i64 0, .int .i64 0]) 4 32 := ⟨Try.underlying40, by kernel_rfl, rfl, by decide⟩
theorem cf71 : CfR Try.prog 71 := fun vs w => by kernel_rfl
theorem cf70 : CfR Try.prog 70 := fun vs w => by kernel_rfl
theorem cf29 : CfR Try.prog 29 := fun vs w => by kernel_rfl
theorem cf31 : CfR Try.prog 31 := fun vs w => by kernel_rfl
theorem cf34 : CfR Try.prog 34 := fun vs w => by kernel_rfl
theorem cf35 : CfR Try.prog 35 := fun vs w => by kernel_rfl
theorem cf33 : CfR Try.prog 33 := fun vs w => by kernel_rfl
theorem cf36 : CfR Try.prog 36 := fun vs w => by kernel_rfl
theorem cf37 : CfR Try.prog 37 := fun vs w => by kernel_rfl
theorem cf72 : CfR Try.prog 72 := fun vs w => by kernel_rfl
theorem cf73 : CfR Try.prog 73 := fun vs w => by kernel_rfl
theorem cf38 : CfR Try.prog 38 := fun vs w => by kernel_rfl
theorem cf39 : CfR Try.prog 39 := fun vs w => by kernel_rfl
theorem el29 : Elem Try.prog 29 3 (.int .i64 0) 1 8 := ⟨Try.underlying29, by kernel_rfl, rfl, by decide⟩
theorem zr3 : Zr Try.prog 3 (.int .i64 0) := fun w => by kernel_rfl
theorem bs29_0 : BldS Try.prog 29 3 1 0 #[] := BldS.mk Try.underlying29 (fun w => by kernel_rfl) (by decide) zr3 (by kernel_rfl)
theorem cf59 : CfR Try.prog 59 := fun vs w => by kernel_rfl
theorem cf60 : CfR Try.prog 60 := fun vs w => by kernel_rfl
theorem cf61 : CfR Try.prog 61 := fun vs w => by kernel_rfl
theorem cf21 : CfR Try.prog 21 := fun vs w => by kernel_rfl
theorem cf20 : CfR Try.prog 20 := fun vs w => by kernel_rfl
theorem cf22 : CfR Try.prog 22 := fun vs w => by kernel_rfl
theorem cf23 : CfR Try.prog 23 := fun vs w => by kernel_rfl
theorem cf24 : CfR Try.prog 24 := fun vs w => by kernel_rfl
theorem cf25 : CfR Try.prog 25 := fun vs w => by kernel_rfl
theorem cf30 : CfR Try.prog 30 := fun vs w => by kernel_rfl
theorem cf40 : CfR Try.prog 40 := fun vs w => by kernel_rfl
theorem cf41 : CfR Try.prog 41 := fun vs w => by kernel_rfl
theorem cf32 : CfR Try.prog 32 := fun vs w => by kernel_rfl
theorem cf68 : CfR Try.prog 68 := fun vs w => by kernel_rfl
theorem cf87 : CfR Try.prog 87 := fun vs w => by kernel_rfl
theorem cf69 : CfR Try.prog 69 := fun vs w => by kernel_rfl
theorem fl56_0 : Fld Try.prog 56 0 0 := fun p o w => by kernel_rfl
theorem sc43 : Sc Try.prog 43 := fun w => ⟨by kernel_rfl, by kernel_rfl⟩
theorem cf78 : CfR Try.prog 78 := fun vs w => by kernel_rfl
theorem fl56_1 : Fld Try.prog 56 1 1 := fun p o w => by kernel_rfl
theorem sc54 : Sc Try.prog 54 := fun w => ⟨by kernel_rfl, by kernel_rfl⟩
theorem cf79 : CfR Try.prog 79 := fun vs w => by kernel_rfl
theorem el54 : Elem Try.prog 54 78 (.agg #[.slice none 0 0]) 1 24 := ⟨Try.underlying54, by kernel_rfl, rfl, by decide⟩
theorem ag78 : Ag Try.prog 78 1 := fun w => ⟨by kernel_rfl, by kernel_rfl⟩
theorem zr78 : Zr Try.prog 78 (.agg #[.slice none 0 0]) := fun w => by kernel_rfl
theorem cf80 : CfR Try.prog 80 := fun vs w => by kernel_rfl
theorem fl78_0 : Fld Try.prog 78 0 0 := fun p o w => by kernel_rfl
theorem eq25 : EqA Try.prog 25 4 := fun x y hx hy w => ⟨by
  rw [show (10000 : Nat) = 9999 + 1 from rfl, run_equalIn_agg w 9999 25 _ _ (by kernel_rfl) (by kernel_rfl)]
  simp only [Program.fieldsOf, Try.underlying25]
  match x, y, hx, hy with
  | [a, b, c, d], [a', b', c', d'], _, _ =>
    rw [show (9999 : Nat) = 9998 + 1 from rfl, eqF_cons Try.underlying3 _ _ _ _ _ (by decide) rfl rfl rfl, eqF_cons Try.underlying3 _ _ _ _ _ (by decide) rfl rfl rfl, eqF_cons Try.underlying3 _ _ _ _ _ (by decide) rfl rfl rfl, eqF_cons Try.underlying3 _ _ _ _ _ (by decide) rfl rfl rfl, eqF_nil]
    simp only [List.cons.injEq, and_true]
    by_cases ha : a = a' <;> by_cases hb : b = b' <;> by_cases hc : c = c' <;> by_cases hd : d = d' <;> simp [ha, hb, hc, hd], by kernel_rfl⟩
theorem cf77 : CfR Try.prog 77 := fun vs w => by kernel_rfl
theorem ag51 : Ag Try.prog 51 2 := fun w => ⟨by kernel_rfl, by kernel_rfl⟩
theorem cf42 : CfR Try.prog 42 := fun vs w => by kernel_rfl
theorem cf44 : CfR Try.prog 44 := fun vs w => by kernel_rfl
theorem cf47 : CfR Try.prog 47 := fun vs w => by kernel_rfl
theorem zr56 : Zr Try.prog 56 (.agg #[.slice none 0 0, .slice none 0 0]) := fun w => by kernel_rfl
theorem ag56 : Ag Try.prog 56 2 := fun w => ⟨by kernel_rfl, by kernel_rfl⟩
theorem cf48 : CfR Try.prog 48 := fun vs w => by kernel_rfl
theorem cf46 : CfR Try.prog 46 := fun vs w => by kernel_rfl
theorem cf76 : CfR Try.prog 76 := fun vs w => by kernel_rfl
theorem cf90 : CfR Try.prog 90 := fun vs w => by kernel_rfl
theorem fl51_0 : Fld Try.prog 51 0 0 := fun p o w => by kernel_rfl
theorem sc40 : Sc Try.prog 40 := fun w => ⟨by kernel_rfl, by kernel_rfl⟩
theorem fl51_1 : Fld Try.prog 51 1 1 := fun p o w => by kernel_rfl
theorem sc49 : Sc Try.prog 49 := fun w => ⟨by kernel_rfl, by kernel_rfl⟩
theorem cf74 : CfR Try.prog 74 := fun vs w => by kernel_rfl
theorem el49 : Elem Try.prog 49 90 (.agg #[.slice none 0 0]) 1 24 := ⟨Try.underlying49, by kernel_rfl, rfl, by decide⟩
theorem ag90 : Ag Try.prog 90 1 := fun w => ⟨by kernel_rfl, by kernel_rfl⟩
theorem cf88 : CfR Try.prog 88 := fun vs w => by kernel_rfl
theorem fl90_0 : Fld Try.prog 90 0 0 := fun p o w => by kernel_rfl
theorem cf75 : CfR Try.prog 75 := fun vs w => by kernel_rfl
theorem cf89 : CfR Try.prog 89 := fun vs w => by kernel_rfl
theorem cf43 : CfR Try.prog 43 := fun vs w => by kernel_rfl
theorem cf45 : CfR Try.prog 45 := fun vs w => by kernel_rfl
theorem cf26 : CfR Try.prog 26 := fun vs w => by kernel_rfl
theorem cf27 : CfR Try.prog 27 := fun vs w => by kernel_rfl
theorem bd25 : Bld Try.prog 25 #[.int .i64 0, .int .i64 0, .int .i64 0, .int .i64 0] #[(0, 1), (1, 1), (2, 1), (3, 1)] := Bld.mk zr25 Try.underlying25 (fun w => by kernel_rfl)
theorem cf28 : CfR Try.prog 28 := fun vs w => by kernel_rfl
theorem cf62 : CfR Try.prog 62 := fun vs w => by kernel_rfl
theorem cf64 : CfR Try.prog 64 := fun vs w => by kernel_rfl
theorem cf63 : CfR Try.prog 63 := fun vs w => by kernel_rfl
theorem cf65 : CfR Try.prog 65 := fun vs w => by kernel_rfl
theorem cf66 : CfR Try.prog 66 := fun vs w => by kernel_rfl
theorem cf67 : CfR Try.prog 67 := fun vs w => by kernel_rfl
theorem bs29_4 : BldS Try.prog 29 3 1 4 #[.int .i64 0, .int .i64 0, .int .i64 0, .int .i64 0] := BldS.mk Try.underlying29 (fun w => by kernel_rfl) (by decide) zr3 (by kernel_rfl)
theorem cf85 : CfR Try.prog 85 := fun vs w => by kernel_rfl
theorem fl85_2 : Fld Try.prog 85 2 2 := fun p o w => by kernel_rfl
theorem fl85_1 : Fld Try.prog 85 1 1 := fun p o w => by kernel_rfl
theorem fl85_0 : Fld Try.prog 85 0 0 := fun p o w => by kernel_rfl
theorem sc36 : Sc Try.prog 36 := fun w => ⟨by kernel_rfl, by kernel_rfl⟩
theorem el36 : Elem Try.prog 36 5 (.int .u8 0) 1 1 := ⟨Try.underlying36, by kernel_rfl, rfl, by decide⟩
theorem sc5 : Sc Try.prog 5 := fun w => ⟨by kernel_rfl, by kernel_rfl⟩
theorem zr85 : Zr Try.prog 85 (.agg #[.slice none 0 0, .int .i64 0, .int .i64 0]) := fun w => by kernel_rfl
theorem bd85 : Bld Try.prog 85 #[.slice none 0 0, .int .i64 0, .int .i64 0] #[(0, 1), (1, 1), (2, 1)] := Bld.mk zr85 Try.underlying85 (fun w => by kernel_rfl)
theorem cf86 : CfR Try.prog 86 := fun vs w => by kernel_rfl
theorem bs29_3 : BldS Try.prog 29 3 1 3 #[.int .i64 0, .int .i64 0, .int .i64 0] := BldS.mk Try.underlying29 (fun w => by kernel_rfl) (by decide) zr3 (by kernel_rfl)
theorem bs29_5 : BldS Try.prog 29 3 1 5 #[.int .i64 0, .int .i64 0, .int .i64 0, .int .i64 0, .int .i64 0] := BldS.mk Try.underlying29 (fun w => by kernel_rfl) (by decide) zr3 (by kernel_rfl)
theorem cf82 : CfR Try.prog 82 := fun vs w => by kernel_rfl
theorem cf83 : CfR Try.prog 83 := fun vs w => by kernel_rfl
theorem cf84 : CfR Try.prog 84 := fun vs w => by kernel_rfl
end Go.Proofs.Ytinlleepikjopaa
