/- Closed facts on the types and functions of the program. -/
import Derived.Test.YtknghnmcckjjbaaRows
import Derived.Test.YtknghnmcckjjbaaCt
namespace Go.Proofs.Ytknghnmcckjjbaa
open Go Go.RowKit
set_option linter.unusedVariables false
set_option linter.unusedSimpArgs false
theorem cf17 : CfR Try.prog 17 := fun vs w => by kernel_rfl
theorem cf19 : CfR Try.prog 19 := fun vs w => by kernel_rfl
theorem cf20 : CfR Try.prog 20 := fun vs w => by kernel_rfl
theorem cf22 : CfR Try.prog 22 := fun vs w => by kernel_rfl
theorem cf23 : CfR Try.prog 23 := fun vs w => by kernel_rfl
theorem cf24 : CfR Try.prog 24 := fun vs w => by kernel_rfl
theorem cf25 : CfR Try.prog 25 := fun vs w => by kernel_rfl
theorem cf26 : CfR Try.prog 26 := fun vs w => by kernel_rfl
theorem cf68 : CfR Try.prog 68 := fun vs w => by kernel_rfl
theorem cf62 : CfR Try.prog 62 := fun vs w => by kernel_rfl
theorem el22 : Elem Try.prog 22 3 (.int .i64 0) 1 8 := ⟨Try.underlying22, by kernel_rfl, rfl, by decide⟩
theorem zr27 : Zr Try.prog 27 (.agg #[.slice none 0 0, .slice none 0 0, .int .i64 0]) := fun w => by kernel_rfl
theorem bd27 : Bld Try.prog 27 #[.slice none 0 0, .slice none 0 0, .int .i64 0] #[(0, 1), (1, 1), (2, 1)] := Bld.mk zr27 Try.underlying27 (fun w => by kernel_rfl)
theorem cf69 : CfR Try.prog 69 := fun vs w => by kernel_rfl
theorem zr49 : Zr Try.prog 49 (.agg #[.int .i64 0, .slice none 0 0, .slice none 0 0, .slice none 0 0, .int .i64 0]) := fun w => by kernel_rfl
theorem ag49 : Ag Try.prog 49 5 := fun w => ⟨by kernel_rfl, by kernel_rfl⟩
theorem fl49_0 : Fld Try.prog 49 0 0 := fun p o w => by kernel_rfl
theorem sc3 : Sc Try.prog 3 := fun w => ⟨by kernel_rfl, by kernel_rfl⟩
theorem fl49_1 : Fld Try.prog 49 1 1 := fun p o w => by kernel_rfl
theorem sc22 : Sc Try.prog 22 := fun w => ⟨by kernel_rfl, by kernel_rfl⟩
theorem fl49_2 : Fld Try.prog 49 2 2 := fun p o w => by kernel_rfl
theorem fl27_0 : Fld Try.prog 27 0 0 := fun p o w => by kernel_rfl
theorem el36 : Elem Try.prog 36 85 (.agg #[.int .i64 0, .int .i64 0, .int .i64 0, .int .i64 0]) 4 32 := ⟨Try.underlying36, by kernel_rfl, rfl, by decide⟩
theorem ag85 : Ag Try.prog 85 4 := fun w => ⟨by kernel_rfl, by kernel_rfl⟩
theorem zr85 : Zr Try.prog 85 (.agg #[.int .i64 0, .int .i64 0, .int .i64 0, .int .i64 0]) := fun w => by kernel_rfl
theorem fl85_0 : Fld Try.prog 85 0 0 := fun p o w => by kernel_rfl
theorem cf101 : CfR Try.prog 101 := fun vs w => by kernel_rfl
theorem cf102 : CfR Try.prog 102 := fun vs w => by kernel_rfl
theorem cf121 : CfR Try.prog 121 := fun vs w => by kernel_rfl
theorem cf120 : CfR Try.prog 120 := fun vs w => by kernel_rfl
theorem fl85_2 : Fld Try.prog 85 2 2 := fun p o w => by kernel_rfl
theorem cf122 : CfR Try.prog 122 := fun vs w => by kernel_rfl
theorem cf123 : CfR Try.prog 123 := fun vs w => by kernel_rfl
theorem fl85_1 : Fld Try.prog 85 1 1 := fun p o w => by kernel_rfl
theorem cf133 : CfR Try.prog 133 := fun vs w => by kernel_rfl
theorem cf64 : CfR Try.prog 64 := fun vs w => by kernel_rfl
theorem fl85_3 : Fld Try.prog 85 3 3 := fun p o w => by kernel_rfl
theorem cf134 : CfR Try.prog 134 := fun vs w => by kernel_rfl
theorem cf98 : CfR Try.prog 98 := fun vs w => by kernel_rfl
theorem cf135 : CfR Try.prog 135 := fun vs w => by kernel_rfl
theorem cf103 : CfR Try.prog 103 := fun vs w => by kernel_rfl
theorem ag27 : Ag Try.prog 27 3 := fun w => ⟨by kernel_rfl, by kernel_rfl⟩
theorem cf82 : CfR Try.prog 82 := fun vs w => by kernel_rfl
theorem zr131 : Zr Try.prog 131 (.agg #[.int .i64 0, .slice none 0 0, .slice none 0 0, .slice none 0 0, .int .i64 0]) := fun w => by kernel_rfl
theorem bs129_0 : BldS Try.prog 129 131 5 0 #[] := BldS.mk Try.underlying129 (fun w => by kernel_rfl) (by decide) zr131 (by kernel_rfl)
theorem cf104 : CfR Try.prog 104 := fun vs w => by kernel_rfl
theorem bd131 : Bld Try.prog 131 #[.int .i64 0, .slice none 0 0, .slice none 0 0, .slice none 0 0, .int .i64 0] #[(0, 1), (1, 1), (2, 3)] := Bld.mk zr131 Try.underlying131 (fun w => by kernel_rfl)
theorem bs129_1 : BldS Try.prog 129 131 5 1 #[.int .i64 0, .slice none 0 0, .slice none 0 0, .slice none 0 0, .int .i64 0] := BldS.mk Try.underlying129 (fun w => by kernel_rfl) (by decide) zr131 (by kernel_rfl)
theorem el129 : Elem Try.prog 129 131 (.agg #[.int .i64 0, .slice none 0 0, .slice none 0 0, .slice none 0 0, .int .i64 0]) 5 88 := ⟨Try.underlying129, by kernel_rfl, rfl, by decide⟩
theorem ag131 : Ag Try.prog 131 5 := fun w => ⟨by kernel_rfl, by kernel_rfl⟩
theorem fl131_0 : Fld Try.prog 131 0 0 := fun p o w => by kernel_rfl
theorem bd49 : Bld Try.prog 49 #[.int .i64 0, .slice none 0 0, .slice none 0 0, .slice none 0 0, .int .i64 0] #[(0, 1), (1, 1), (2, 3)] := Bld.mk zr49 Try.underlying49 (fun w => by kernel_rfl)
theorem fl131_1 : Fld Try.prog 131 1 1 := fun p o w => by kernel_rfl
theorem fl131_2 : Fld Try.prog 131 2 2 := fun p o w => by kernel_rfl
theorem cf105 : CfR Try.prog 105 := fun vs w => by kernel_rfl
theorem cf106 : CfR Try.prog 106 := fun vs w => by kernel_rfl
theorem el51 : Elem Try.prog 51 127 (.agg #[.slice none 0 0]) 1 24 := ⟨Try.underlying51, by kernel_rfl, rfl, by decide⟩
theorem fl127_0 : Fld Try.prog 127 0 0 := fun p o w => by kernel_rfl
theorem sc36 : Sc Try.prog 36 := fun w => ⟨by kernel_rfl, by kernel_rfl⟩
theorem cf107 : CfR Try.prog 107 := fun vs w => by kernel_rfl
theorem fl27_1 : Fld Try.prog 27 1 1 := fun p o w => by kernel_rfl
theorem fl27_2 : Fld Try.prog 27 2 2 := fun p o w => by kernel_rfl
theorem cf111 : CfR Try.prog 111 := fun vs w => by kernel_rfl
theorem zr3 : Zr Try.prog 3 (.int .i64 0) := fun w => by kernel_rfl
theorem bs22_1 : BldS Try.prog 22 3 1 1 #[.int .i64 0] := BldS.mk Try.underlying22 (fun w => by kernel_rfl) (by decide) zr3 (by kernel_rfl)
theorem cf126 : CfR Try.prog 126 := fun vs w => by kernel_rfl
theorem cf70 : CfR Try.prog 70 := fun vs w => by kernel_rfl
theorem el32 : Elem Try.prog 32 96 (.agg #[.int .i64 0, .int .i64 0, .int .i64 0, .int .i64 0]) 4 32 := ⟨Try.underlying32, by kernel_rfl, rfl, by decide⟩
theorem ag96 : Ag Try.prog 96 4 := fun w => ⟨by kernel_rfl, by kernel_rfl⟩
theorem cf67 : CfR Try.prog 67 := fun vs w => by kernel_rfl
theorem fl96_0 : Fld Try.prog 96 0 0 := fun p o w => by kernel_rfl
theorem fl96_1 : Fld Try.prog 96 1 1 := fun p o w => by kernel_rfl
theorem fl96_2 : Fld Try.prog 96 2 2 := fun p o w => by kernel_rfl
theorem fl96_3 : Fld Try.prog 96 3 3 := fun p o w => by kernel_rfl
theorem cf53 : CfR Try.prog 53 := fun vs w => by kernel_rfl
theorem cf65 : CfR Try.prog 65 := fun vs w => by kernel_rfl
theorem cf59 : CfR Try.prog 59 := fun vs w => by kernel_rfl
theorem bs22_0 : BldS Try.prog 22 3 1 0 #[] := BldS.mk Try.underlying22 (fun w => by kernel_rfl) (by decide) zr3 (by kernel_rfl)
theorem cf66 : CfR Try.prog 66 := fun vs w => by kernel_rfl
theorem cf91 : CfR Try.prog 91 := fun vs w => by kernel_rfl
theorem cf92 : CfR Try.prog 92 := fun vs w => by kernel_rfl
theorem cf93 : CfR Try.prog 93 := fun vs w => by kernel_rfl
theorem cf117 : CfR Try.prog 117 := fun vs w => by kernel_rfl
theorem cf118 : CfR Try.prog 118 := fun vs w => by kernel_rfl
theorem cf131 : CfR Try.prog 131 := fun vs w => by kernel_rfl
theorem cf60 : CfR Try.prog 60 := fun vs w => by kernel_rfl
theorem cf132 : CfR Try.prog 132 := fun vs w => by kernel_rfl
theorem cf61 : CfR Try.prog 61 := fun vs w => by kernel_rfl
theorem cf80 : CfR Try.prog 80 := fun vs w => by kernel_rfl
theorem zr125 : Zr Try.prog 125 (.agg #[.int .i64 0, .slice none 0 0, .slice none 0 0, .slice none 0 0, .int .i64 0]) := fun w => by kernel_rfl
theorem bs123_0 : BldS Try.prog 123 125 5 0 #[] := BldS.mk Try.underlying123 (fun w => by kernel_rfl) (by decide) zr125 (by kernel_rfl)
theorem bd125 : Bld Try.prog 125 #[.int .i64 0, .slice none 0 0, .slice none 0 0, .slice none 0 0, .int .i64 0] #[(0, 1), (1, 1), (2, 3)] := Bld.mk zr125 Try.underlying125 (fun w => by kernel_rfl)
theorem bs123_1 : BldS Try.prog 123 125 5 1 #[.int .i64 0, .slice none 0 0, .slice none 0 0, .slice none 0 0, .int .i64 0] := BldS.mk Try.underlying123 (fun w => by kernel_rfl) (by decide) zr125 (by kernel_rfl)
theorem el123 : Elem Try.prog 123 125 (.agg #[.int .i64 0, .slice none 0 0, .slice none 0 0, .slice none 0 0, .int .i64 0]) 5 88 := ⟨Try.underlying123, by kernel_rfl, rfl, by decide⟩
theorem ag125 : Ag Try.prog 125 5 := fun w => ⟨by kernel_rfl, by kernel_rfl⟩
theorem fl125_0 : Fld Try.prog 125 0 0 := fun p o w => by kernel_rfl
theorem fl125_1 : Fld Try.prog 125 1 1 := fun p o w => by kernel_rfl
theorem fl125_2 : Fld Try.prog 125 2 2 := fun p o w => by kernel_rfl
theorem cf99 : CfR Try.prog 99 := fun vs w => by kernel_rfl
theorem cf100 : CfR Try.prog 100 := fun vs w => by kernel_rfl
theorem ag46 : Ag Try.prog 46 2 := fun w => ⟨by kernel_rfl, by kernel_rfl⟩
theorem cf27 : CfR Try.prog 27 := fun vs w => by kernel_rfl
theorem ag24 : Ag Try.prog 24 3 := fun w => ⟨by kernel_rfl, by kernel_rfl⟩
theorem cf10 : CfR Try.prog 10 := fun vs w => by kernel_rfl
theorem cf29 : CfR Try.prog 29 := fun vs w => by kernel_rfl
theorem cf12 : CfR Try.prog 12 := fun vs w => by kernel_rfl
theorem cf28 : CfR Try.prog 28 := fun vs w => by kernel_rfl
theorem zr53 : Zr Try.prog 53 (.agg #[.slice none 0 0, .slice none 0 0]) := fun w => by kernel_rfl
theorem ag53 : Ag Try.prog 53 2 := fun w => ⟨by kernel_rfl, by kernel_rfl⟩
theorem cf30 : CfR Try.prog 30 := fun vs w => by kernel_rfl
theorem cf31 : CfR Try.prog 31 := fun vs w => by kernel_rfl
theorem cf32 : CfR Try.prog 32 := fun vs w => by kernel_rfl
theorem cf14 : CfR Try.prog 14 := fun vs w => by kernel_rfl
theorem cf34 : CfR Try.prog 34 := fun vs w => by kernel_rfl
theorem cf75 : CfR Try.prog 75 := fun vs w => by kernel_rfl
theorem fl53_1 : Fld Try.prog 53 1 1 := fun p o w => by kernel_rfl
theorem sc51 : Sc Try.prog 51 := fun w => ⟨by kernel_rfl, by kernel_rfl⟩
theorem cf76 : CfR Try.prog 76 := fun vs w => by kernel_rfl
theorem cf16 : CfR Try.prog 16 := fun vs w => by kernel_rfl
theorem fl53_0 : Fld Try.prog 53 0 0 := fun p o w => by kernel_rfl
theorem ag127 : Ag Try.prog 127 1 := fun w => ⟨by kernel_rfl, by kernel_rfl⟩
theorem zr127 : Zr Try.prog 127 (.agg #[.slice none 0 0]) := fun w => by kernel_rfl
theorem cf110 : CfR Try.prog 110 := fun vs w => by kernel_rfl
theorem cf124 : CfR Try.prog 124 := fun vs w => by kernel_rfl
theorem cf136 : CfR Try.prog 136 := fun vs w => by kernel_rfl
theorem cf125 : CfR Try.prog 125 := fun vs w => by kernel_rfl
theorem cf63 : CfR Try.prog 63 := fun vs w => by kernel_rfl
theorem cf77 : CfR Try.prog 77 := fun vs w => by kernel_rfl
theorem cf112 : CfR Try.prog 112 := fun vs w => by kernel_rfl
theorem cf50 : CfR Try.prog 50 := fun vs w => by kernel_rfl
theorem cf78 : CfR Try.prog 78 := fun vs w => by kernel_rfl
theorem fl46_0 : Fld Try.prog 46 0 0 := fun p o w => by kernel_rfl
theorem sc32 : Sc Try.prog 32 := fun w => ⟨by kernel_rfl, by kernel_rfl⟩
theorem fl46_1 : Fld Try.prog 46 1 1 := fun p o w => by kernel_rfl
theorem sc44 : Sc Try.prog 44 := fun w => ⟨by kernel_rfl, by kernel_rfl⟩
theorem cf71 : CfR Try.prog 71 := fun vs w => by kernel_rfl
theorem el44 : Elem Try.prog 44 137 (.agg #[.slice none 0 0]) 1 24 := ⟨Try.underlying44, by kernel_rfl, rfl, by decide⟩
theorem ag137 : Ag Try.prog 137 1 := fun w => ⟨by kernel_rfl, by kernel_rfl⟩
theorem cf108 : CfR Try.prog 108 := fun vs w => by kernel_rfl
theorem fl137_0 : Fld Try.prog 137 0 0 := fun p o w => by kernel_rfl
theorem fl24_0 : Fld Try.prog 24 0 0 := fun p o w => by kernel_rfl
theorem cf56 : CfR Try.prog 56 := fun vs w => by kernel_rfl
theorem fl24_1 : Fld Try.prog 24 1 1 := fun p o w => by kernel_rfl
theorem cf74 : CfR Try.prog 74 := fun vs w => by kernel_rfl
theorem cf109 : CfR Try.prog 109 := fun vs w => by kernel_rfl
theorem fl24_2 : Fld Try.prog 24 2 2 := fun p o w => by kernel_rfl
theorem cf72 : CfR Try.prog 72 := fun vs w => by kernel_rfl
theorem cf15 : CfR Try.prog 15 := fun vs w => by kernel_rfl
theorem cf73 : CfR Try.prog 73 := fun vs w => by kernel_rfl
theorem el138 : Elem Try.prog 138 4 (.bool false) 1 1 := ⟨Try.underlying138, by kernel_rfl, rfl, by decide⟩
theorem sc4 : Sc Try.prog 4 := fun w => ⟨by kernel_rfl, by kernel_rfl⟩
theorem cf37 : CfR Try.prog 37 := fun vs w => by kernel_rfl
theorem cf38 : CfR Try.prog 38 := fun vs w => by kernel_rfl
theorem cf40 : CfR Try.prog 40 := fun vs w => by kernel_rfl
theorem cf41 : CfR Try.prog 41 := fun vs w => by kernel_rfl
theorem cf39 : CfR Try.prog 39 := fun vs w => by kernel_rfl
theorem cf42 : CfR Try.prog 42 := fun vs w => by kernel_rfl
theorem cf43 : CfR Try.prog 43 := fun vs w => by kernel_rfl
theorem cf44 : CfR Try.prog 44 := fun vs w => by kernel_rfl
theorem cf45 : CfR Try.prog 45 := fun vs w => by kernel_rfl
theorem cf46 : CfR Try.prog 46 := fun vs w => by kernel_rfl
theorem cf47 : CfR Try.prog 47 := fun vs w => by kernel_rfl
theorem cf48 : CfR Try.prog 48 := fun vs w => by kernel_rfl
theorem cf49 : CfR Try.prog 49 := fun vs w => by kernel_rfl
theorem bs65_0 : BldS Try.prog 65 49 5 0 #[] := BldS.mk Try.underlying65 (fun w => by kernel_rfl) (by decide) zr49 (by kernel_rfl)
theorem el68 : Elem Try.prog 68 53 (.agg #[.slice none 0 0, .slice none 0 0]) 2 48 := ⟨Try.underlying68, by kernel_rfl, rfl, by decide⟩
theorem el70 : Elem Try.prog 70 89 (.agg #[.slice none 0 0]) 1 24 := ⟨Try.underlying70, by kernel_rfl, rfl, by decide⟩
theorem fl89_0 : Fld Try.prog 89 0 0 := fun p o w => by kernel_rfl
theorem bs65_1 : BldS Try.prog 65 49 5 1 #[.int .i64 0, .slice none 0 0, .slice none 0 0, .slice none 0 0, .int .i64 0] := BldS.mk Try.underlying65 (fun w => by kernel_rfl) (by decide) zr49 (by kernel_rfl)
theorem el65 : Elem Try.prog 65 49 (.agg #[.int .i64 0, .slice none 0 0, .slice none 0 0, .slice none 0 0, .int .i64 0]) 5 88 := ⟨Try.underlying65, by kernel_rfl, rfl, by decide⟩
theorem ag89 : Ag Try.prog 89 1 := fun w => ⟨by kernel_rfl, by kernel_rfl⟩
theorem cf83 : CfR Try.prog 83 := fun vs w => by kernel_rfl
theorem el62 : Elem Try.prog 62 106 (.agg #[.slice none 0 0]) 1 24 := ⟨Try.underlying62, by kernel_rfl, rfl, by decide⟩
theorem ag106 : Ag Try.prog 106 1 := fun w => ⟨by kernel_rfl, by kernel_rfl⟩
theorem cf79 : CfR Try.prog 79 := fun vs w => by kernel_rfl
theorem fl106_0 : Fld Try.prog 106 0 0 := fun p o w => by kernel_rfl
theorem el61 : Elem Try.prog 61 46 (.agg #[.slice none 0 0, .slice none 0 0]) 2 48 := ⟨Try.underlying61, by kernel_rfl, rfl, by decide⟩
theorem cf81 : CfR Try.prog 81 := fun vs w => by kernel_rfl
theorem zr89 : Zr Try.prog 89 (.agg #[.slice none 0 0]) := fun w => by kernel_rfl
end Go.Proofs.Ytknghnmcckjjbaa
