/- Closed facts on the types and functions of the program. -/
import Derived.Test.YtpbfppelmgjfpaaRows
import Derived.Test.YtpbfppelmgjfpaaCt
namespace Go.Proofs.Ytpbfppelmgjfpaa
open Go Go.RowKit
set_option linter.unusedVariables false
set_option linter.unusedSimpArgs false
theorem cf13 : CfR Try.prog 13 := fun vs w => by kernel_rfl
theorem zr25 : Zr Try.prog 25 (.agg #[.int .i64 0, .int .i64 0, .int .i64 0, .int .i64 0]) := fun w => by kernel_rfl
theorem ag25 : Ag Try.prog 25 4 := fun w => ⟨by kernel_rfl, by kernel_rfl⟩
theorem cf14 : CfR Try.prog 14 := fun vs w => by kernel_rfl
theorem cf50 : CfR Try.prog 50 := fun vs w => by kernel_rfl
theorem bd25 : Bld Try.prog 25 #[.int .i64 0, .int .i64 0, .int .i64 0, .int .i64 0] #[(0, 1), (1, 1), (2, 1), (3, 1)] := Bld.mk zr25 Try.underlying25 (fun w => by kernel_rfl)
theorem el62 : Elem Try.prog 62 9 (sv []) 1 16 := ⟨Try.underlying62, by kernel_rfl, rfl, by decide⟩
theorem cf45 : CfR Try.prog 45 := fun vs w => by kernel_rfl
theorem sc9 : Sc Try.prog 9 := fun w => ⟨by kernel_rfl, by kernel_rfl⟩
theorem fl25_0 : Fld Try.prog 25 0 0 := fun p o w => by kernel_rfl
theorem sc3 : Sc Try.prog 3 := fun w => ⟨by kernel_rfl, by kernel_rfl⟩
theorem cf46 : CfR Try.prog 46 := fun vs w => by kernel_rfl
theorem zr70 : Zr Try.prog 70 (.agg #[.int .i64 0, .int .i64 0, .int .i64 0]) := fun w => by kernel_rfl
theorem cf51 : CfR Try.prog 51 := fun vs w => by kernel_rfl
theorem ar70 : ArrT Try.prog 70 3 3 1 := ⟨Try.underlying70, fun w => by kernel_rfl⟩
theorem fl25_1 : Fld Try.prog 25 1 1 := fun p o w => by kernel_rfl
theorem fl25_2 : Fld Try.prog 25 2 2 := fun p o w => by kernel_rfl
theorem fl25_3 : Fld Try.prog 25 3 3 := fun p o w => by kernel_rfl
theorem cf12 : CfR Try.prog 12 := fun vs w => by kernel_rfl
theorem cf80 : CfR Try.prog 80 := fun vs w => by kernel_rfl
theorem cf47 : CfR Try.prog 47 := fun vs w => by kernel_rfl
theorem zr5 : Zr Try.prog 5 (.int .u8 0) := fun w => by kernel_rfl
theorem bs56_0 : BldS Try.prog 56 5 1 0 #[] := BldS.mk Try.underlying56 (fun w => by kernel_rfl) (by decide) zr5 (by kernel_rfl)
theorem bs56_1 : BldS Try.prog 56 5 1 1 #[.int .u8 0] := BldS.mk Try.underlying56 (fun w => by kernel_rfl) (by decide) zr5 (by kernel_rfl)
theorem el56 : Elem Try.prog 56 5 (.int .u8 0) 1 1 := ⟨Try.underlying56, by kernel_rfl, rfl, by decide⟩
theorem sc5 : Sc Try.prog 5 := fun w => ⟨by kernel_rfl, by kernel_rfl⟩
theorem cf44 : CfR Try.prog 44 := fun vs w => by kernel_rfl
theorem zr3 : Zr Try.prog 3 (.int .i64 0) := fun w => by kernel_rfl
theorem bs66_3 : BldS Try.prog 66 3 1 3 #[.int .i64 0, .int .i64 0, .int .i64 0] := BldS.mk Try.underlying66 (fun w => by kernel_rfl) (by decide) zr3 (by kernel_rfl)
theorem el66 : Elem Try.prog 66 3 (.int .i64 0) 1 8 := ⟨Try.underlying66, by kernel_rfl, rfl, by decide⟩
theorem cf77 : CfR Try.prog 77 := fun vs w => by kernel_rfl
theorem cf78 : CfR Try.prog 78 := fun vs w => by kernel_rfl
theorem cf79 : CfR Try.prog 79 := fun vs w => by kernel_rfl
theorem cf81 : CfR Try.prog 81 := fun vs w => by kernel_rfl
theorem zr9 : Zr Try.prog 9 (sv []) := fun w => by kernel_rfl
theorem bs62_16 : BldS Try.prog 62 9 1 16 #[sv [], sv [], sv [], sv [], sv [], sv [], sv [], sv [], sv [], sv [], sv [], sv [], sv [], sv [], sv [], sv []] := BldS.mk Try.underlying62 (fun w => by kernel_rfl) (by decide) zr9 (by kernel_rfl)
theorem bs62_0 : BldS Try.prog 62 9 1 0 #[] := BldS.mk Try.underlying62 (fun w => by kernel_rfl) (by decide) zr9 (by kernel_rfl)
theorem bs62_1 : BldS Try.prog 62 9 1 1 #[sv []] := BldS.mk Try.underlying62 (fun w => by kernel_rfl) (by decide) zr9 (by kernel_rfl)
theorem cf48 : CfR Try.prog 48 := fun vs w => by kernel_rfl
theorem cf41 : CfR Try.prog 41 := fun vs w => by kernel_rfl
theorem cf42 : CfR Try.prog 42 := fun vs w => by kernel_rfl
theorem cf49 : CfR Try.prog 49 := fun vs w => by kernel_rfl
theorem cf10 : CfR Try.prog 10 := fun vs w => by kernel_rfl
theorem cf43 : CfR Try.prog 43 := fun vs w => by kernel_rfl
theorem cf40 : CfR Try.prog 40 := fun vs w => by kernel_rfl
theorem cf73 : CfR Try.prog 73 := fun vs w => by kernel_rfl
theorem cf74 : CfR Try.prog 74 := fun vs w => by kernel_rfl
theorem cf75 : CfR Try.prog 75 := fun vs w => by kernel_rfl
theorem cf76 : CfR Try.prog 76 := fun vs w => by kernel_rfl
theorem bs62_17 : BldS Try.prog 62 9 1 17 #[sv [], sv [], sv [], sv [], sv [], sv [], sv [], sv [], sv [], sv [], sv [], sv [], sv [], sv [], sv [], sv [], sv []] := BldS.mk Try.underlying62 (fun w => by kernel_rfl) (by decide) zr9 (by kernel_rfl)
theorem cf21 : CfR Try.prog 21 := fun vs w => by kernel_rfl
theorem cf22 : CfR Try.prog 22 := fun vs w => by kernel_rfl
theorem cf55 : CfR Try.prog 55 := fun vs w => by kernel_rfl
theorem bs35_0 : BldS Try.prog 35 25 4 0 #[] := BldS.mk Try.underlying35 (fun w => by kernel_rfl) (by decide) zr25 (by kernel_rfl)
theorem bs35_1 : BldS Try.prog 35 25 4 1 #[.int .i64 0, .int .i64 0, .int .i64 0, .int .i64 0] := BldS.mk Try.underlying35 (fun w => by kernel_rfl) (by decide) zr25 (by kernel_rfl)
theorem el35 : Elem Try.prog 35 25 (.agg #[.int .i64 0, .int .i64 0, .int .i64 0, .int .i64 0]) 4 32 := ⟨Try.underlying35, by kernel_rfl, rfl, by decide⟩
theorem cf53 : CfR Try.prog 53 := fun vs w => by kernel_rfl
theorem cf83 : CfR Try.prog 83 := fun vs w => by kernel_rfl
theorem cf84 : CfR Try.prog 84 := fun vs w => by kernel_rfl
theorem cf99 : CfR Try.prog 99 := fun vs w => by kernel_rfl
theorem cf54 : CfR Try.prog 54 := fun vs w => by kernel_rfl
theorem cf52 : CfR Try.prog 52 := fun vs w => by kernel_rfl
theorem cf82 : CfR Try.prog 82 := fun vs w => by kernel_rfl
theorem cf30 : CfR Try.prog 30 := fun vs w => by kernel_rfl
theorem zr49 : Zr Try.prog 49 (.agg #[.slice none 0 0, .slice none 0 0]) := fun w => by kernel_rfl
theorem ag49 : Ag Try.prog 49 2 := fun w => ⟨by kernel_rfl, by kernel_rfl⟩
theorem cf31 : CfR Try.prog 31 := fun vs w => by kernel_rfl
theorem bd49 : Bld Try.prog 49 #[.slice none 0 0, .slice none 0 0] #[(0, 1), (1, 1)] := Bld.mk zr49 Try.underlying49 (fun w => by kernel_rfl)
theorem fl49_0 : Fld Try.prog 49 0 0 := fun p o w => by kernel_rfl
theorem sc35 : Sc Try.prog 35 := fun w => ⟨by kernel_rfl, by kernel_rfl⟩
theorem fl49_1 : Fld Try.prog 49 1 1 := fun p o w => by kernel_rfl
theorem sc47 : Sc Try.prog 47 := fun w => ⟨by kernel_rfl, by kernel_rfl⟩
theorem zr77 : Zr Try.prog 77 (.agg #[.slice none 0 0]) := fun w => by kernel_rfl
theorem bd77 : Bld Try.prog 77 #[.slice none 0 0] #[(0, 1)] := Bld.mk zr77 Try.underlying77 (fun w => by kernel_rfl)
theorem bs47_1 : BldS Try.prog 47 77 1 1 #[.slice none 0 0] := BldS.mk Try.underlying47 (fun w => by kernel_rfl) (by decide) zr77 (by kernel_rfl)
theorem el47 : Elem Try.prog 47 77 (.agg #[.slice none 0 0]) 1 24 := ⟨Try.underlying47, by kernel_rfl, rfl, by decide⟩
theorem cf58 : CfR Try.prog 58 := fun vs w => by kernel_rfl
theorem ag77 : Ag Try.prog 77 1 := fun w => ⟨by kernel_rfl, by kernel_rfl⟩
theorem fl77_0 : Fld Try.prog 77 0 0 := fun p o w => by kernel_rfl
theorem cf87 : CfR Try.prog 87 := fun vs w => by kernel_rfl
theorem cf88 : CfR Try.prog 88 := fun vs w => by kernel_rfl
theorem cf101 : CfR Try.prog 101 := fun vs w => by kernel_rfl
theorem cf105 : CfR Try.prog 105 := fun vs w => by kernel_rfl
theorem cf102 : CfR Try.prog 102 := fun vs w => by kernel_rfl
theorem cf100 : CfR Try.prog 100 := fun vs w => by kernel_rfl
theorem cf36 : CfR Try.prog 36 := fun vs w => by kernel_rfl
theorem cf64 : CfR Try.prog 64 := fun vs w => by kernel_rfl
theorem cf65 : CfR Try.prog 65 := fun vs w => by kernel_rfl
theorem cf91 : CfR Try.prog 91 := fun vs w => by kernel_rfl
theorem cf34 : CfR Try.prog 34 := fun vs w => by kernel_rfl
theorem cf35 : CfR Try.prog 35 := fun vs w => by kernel_rfl
theorem cf28 : CfR Try.prog 28 := fun vs w => by kernel_rfl
theorem cf37 : CfR Try.prog 37 := fun vs w => by kernel_rfl
theorem cf38 : CfR Try.prog 38 := fun vs w => by kernel_rfl
theorem cf39 : CfR Try.prog 39 := fun vs w => by kernel_rfl
theorem cf19 : CfR Try.prog 19 := fun vs w => by kernel_rfl
theorem cf62 : CfR Try.prog 62 := fun vs w => by kernel_rfl
theorem cf69 : CfR Try.prog 69 := fun vs w => by kernel_rfl
theorem cf72 : CfR Try.prog 72 := fun vs w => by kernel_rfl
theorem cf70 : CfR Try.prog 70 := fun vs w => by kernel_rfl
theorem bs62_12 : BldS Try.prog 62 9 1 12 #[sv [], sv [], sv [], sv [], sv [], sv [], sv [], sv [], sv [], sv [], sv [], sv []] := BldS.mk Try.underlying62 (fun w => by kernel_rfl) (by decide) zr9 (by kernel_rfl)
theorem cf71 : CfR Try.prog 71 := fun vs w => by kernel_rfl
theorem cf93 : CfR Try.prog 93 := fun vs w => by kernel_rfl
theorem fl99_2 : Fld Try.prog 99 2 2 := fun p o w => by kernel_rfl
theorem fl99_1 : Fld Try.prog 99 1 1 := fun p o w => by kernel_rfl
theorem fl99_0 : Fld Try.prog 99 0 0 := fun p o w => by kernel_rfl
theorem sc56 : Sc Try.prog 56 := fun w => ⟨by kernel_rfl, by kernel_rfl⟩
theorem zr99 : Zr Try.prog 99 (.agg #[.slice none 0 0, .int .i64 0, .int .i64 0]) := fun w => by kernel_rfl
theorem bd99 : Bld Try.prog 99 #[.slice none 0 0, .int .i64 0, .int .i64 0] #[(0, 1), (1, 1), (2, 1)] := Bld.mk zr99 Try.underlying99 (fun w => by kernel_rfl)
theorem cf94 : CfR Try.prog 94 := fun vs w => by kernel_rfl
theorem cf95 : CfR Try.prog 95 := fun vs w => by kernel_rfl
theorem cf96 : CfR Try.prog 96 := fun vs w => by kernel_rfl
theorem cf97 : CfR Try.prog 97 := fun vs w => by kernel_rfl
theorem cf98 : CfR Try.prog 98 := fun vs w => by kernel_rfl
theorem cf68 : CfR Try.prog 68 := fun vs w => by kernel_rfl
theorem bs66_4 : BldS Try.prog 66 3 1 4 #[.int .i64 0, .int .i64 0, .int .i64 0, .int .i64 0] := BldS.mk Try.underlying66 (fun w => by kernel_rfl) (by decide) zr3 (by kernel_rfl)
theorem cf104 : CfR Try.prog 104 := fun vs w => by kernel_rfl
theorem cf67 : CfR Try.prog 67 := fun vs w => by kernel_rfl
theorem cf26 : CfR Try.prog 26 := fun vs w => by kernel_rfl
theorem bs62_5 : BldS Try.prog 62 9 1 5 #[sv [], sv [], sv [], sv [], sv []] := BldS.mk Try.underlying62 (fun w => by kernel_rfl) (by decide) zr9 (by kernel_rfl)
theorem cf17 : CfR Try.prog 17 := fun vs w => by kernel_rfl
theorem cf92 : CfR Try.prog 92 := fun vs w => by kernel_rfl
theorem cf63 : CfR Try.prog 63 := fun vs w => by kernel_rfl
theorem cf90 : CfR Try.prog 90 := fun vs w => by kernel_rfl
theorem cf103 : CfR Try.prog 103 := fun vs w => by kernel_rfl
theorem bs66_5 : BldS Try.prog 66 3 1 5 #[.int .i64 0, .int .i64 0, .int .i64 0, .int .i64 0, .int .i64 0] := BldS.mk Try.underlying66 (fun w => by kernel_rfl) (by decide) zr3 (by kernel_rfl)
theorem cf66 : CfR Try.prog 66 := fun vs w => by kernel_rfl
theorem eq25 : EqA Try.prog 25 4 := fun x y hx hy w => ⟨by
  rw [show (10000 : Nat) = 9999 + 1 from rfl, run_equalIn_agg w 9999 25 _ _ (by kernel_rfl) (by kernel_rfl)]
  simp only [Program.fieldsOf, Try.underlying25]
  match x, y, hx, hy with
  | [a, b, c, d], [a', b', c', d'], _, _ =>
    rw [show (9999 : Nat) = 9998 + 1 from rfl, eqF_cons Try.underlying3 _ _ _ _ _ (by decide) rfl rfl rfl, eqF_cons Try.underlying3 _ _ _ _ _ (by decide) rfl rfl rfl, eqF_cons Try.underlying3 _ _ _ _ _ (by decide) rfl rfl rfl, eqF_cons Try.underlying3 _ _ _ _ _ (by decide) rfl rfl rfl, eqF_nil]
    simp only [List.cons.injEq, and_true]
    by_cases ha : a = a' <;> by_cases hb : b = b' <;> by_cases hc : c = c' <;> by_cases hd : d = d' <;> simp [ha, hb, hc, hd], by kernel_rfl⟩
end Go.Proofs.Ytpbfppelmgjfpaa
