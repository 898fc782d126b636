/- Closed facts on the types and functions of the program. -/
import Derived.Test.YtknghnmcckjjbaaRows
import Derived.Test.YtknghnmcckjjbaaCt
namespace Go.Proofs.Ytknghnmcckjjbaa
open Go Go.RowKit
set_option linter.unusedVariables false
set_option linter.unusedSimpArgs false
theorem cf68 : CfR Try.prog 68 := fun vs w => by kernel_rfl
theorem cf62 : CfR Try.prog 62 := fun vs w => by kernel_rfl
theorem el22 : Elem Try.prog 22 3 (.int .i64 0) 1 8 := ⟨Try.underlying22, by kernel_rfl, rfl, by decide⟩
theorem zr27 : Zr Try.prog 27 (.agg #[.slice none 0 0, .slice none 0 0, .int .i64 0]) := fun w => by kernel_rfl
theorem bd27 : Bld Try.prog 27 #[.slice none 0 0, .slice none 0 0, .int .i64 0] #[(0, 1), (1, 1), (2, 1)] := Bld.mk zr27 Try.underlying27 (fun w => by kernel_rfl)
theorem cf69 : CfR Try.prog 69 := fun vs w => by kernel_rfl
theorem zr49 : Zr Try.prog 49 (.agg #[.int .i64 0, .slice none 0 0, .slice none 0 0, .slice none 0 0, .int .i64 0]) := fun w => by kernel_rfl
theorem ag49 : Ag Try.prog 49 5 := fun w => ⟨by kernel_rfl, by kernel_rfl⟩
theorem fl49_0 : Fld Try.prog 49 0 0 := fun p o w => by kernel_rfl
theorem sc3 : Sc Try.prog 3 := fun w => ⟨by kernel_rfl, by kernel_rfl⟩
theorem fl49_1 : Fld Try.prog 49 1 1 := fun p o w => by kernel_rfl
theorem sc22 : Sc Try.prog 22 := fun w => ⟨by kernel_rfl, by kernel_rfl⟩
theorem fl49_2 : Fld Try.prog 49 2 2 := fun p o w => by kernel_rfl
theorem fl27_0 : Fld Try.prog 27 0 0 := fun p o w => by kernel_rfl
theorem el36 : Elem Try.prog 36 85 (.agg #[.int .i64 0, .int .i64 0, .int .i64 0, .int .i64 0]) 4 32 := ⟨Try.underlying36, by kernel_rfl, rfl, by decide⟩
theorem ag85 : Ag Try.prog 85 4 := fun w => ⟨by kernel_rfl, by kernel_rfl⟩
theorem zr85 : Zr Try.prog 85 (.agg #[.int .i64 0, .int .i64 0, .int .i64 0, .int .i64 0]) := fun w => by kernel_rfl
theorem fl85_0 : Fld Try.prog 85 0 0 := fun p o w => by kernel_rfl
theorem cf101 : CfR Try.prog 101 := fun vs w => by kernel_rfl
theorem cf102 : CfR Try.prog 102 := fun vs w => by kernel_rfl
theorem cf121 : CfR Try.prog 121 := fun vs w => by kernel_rfl
theorem cf120 : CfR Try.prog 120 := fun vs w => by kernel_rfl
theorem fl85_2 : Fld Try.prog 85 2 2 := fun p o w => by kernel_rfl
theorem cf122 : CfR Try.prog 122 := fun vs w => by kernel_rfl
theorem cf123 : CfR Try.prog 123 := fun vs w => by kernel_rfl
theorem fl85_1 : Fld Try.prog 85 1 1 := fun p o w => by kernel_rfl
theorem cf133 : CfR Try.prog 133 := fun vs w => by kernel_rfl
theorem cf64 : CfR Try.prog 64 := fun vs w => by kernel_rfl
theorem fl85_3 : Fld Try.prog 85 3 3 := fun p o w => by kernel_rfl
theorem cf134 : CfR Try.prog 134 := fun vs w => by kernel_rfl
theorem cf98 : CfR Try.prog 98 := fun vs w => by kernel_rfl
theorem cf135 : CfR Try.prog 135 := fun vs w => by kernel_rfl
theorem cf103 : CfR Try.prog 103 := fun vs w => by kernel_rfl
theorem ag27 : Ag Try.prog 27 3 := fun w => ⟨by kernel_rfl, by kernel_rfl⟩
theorem cf82 : CfR Try.prog 82 := fun vs w => by kernel_rfl
theorem zr131 : Zr Try.prog 131 (.agg #[.int .i64 0, .slice none 0 0, .slice none 0 0, .slice none 0 0, .int .i64 0]) := fun w => by kernel_rfl
theorem bs129_0 : BldS Try.prog 129 131 5 0 #[] := BldS.mk Try.underlying129 (fun w => by kernel_rfl) (by decide) zr131 (by kernel_rfl)
theorem cf104 : CfR Try.prog 104 := fun vs w => by kernel_rfl
theorem bd131 : Bld Try.prog 131 #[.int .i64 0, .slice none 0 0, .slice none 0 0, .slice none 0 0, .int .i64 0] #[(0, 1), (1, 1), (2, 3)] := Bld.mk zr131 Try.underlying131 (fun w => by kernel_rfl)
theorem bs129_1 : BldS Try.prog 129 131 5 1 #[.int .i64 0, .slice none 0 0, .slice none 0 0, .slice none 0 0, .int .i64 0] := BldS.mk Try.underlying129 (fun w => by kernel_rfl) (by decide) zr131 (by kernel_rfl)
theorem el129 : Elem Try.prog 129 131 (.agg #[.int .i64 0, .slice none 0 0, .slice none 0 0, .slice none 0 0, .int .i64 0]) 5 88 := ⟨Try.underlying129, by kernel_rfl, rfl, by decide⟩
theorem ag131 : Ag Try.prog 131 5 := fun w => ⟨by kernel_rfl, by kernel_rfl⟩
theorem fl131_0 : Fld Try.prog 131 0 0 := fun p o w => by kernel_rfl
theorem bd49 : Bld Try.prog 49 #[.int .i64 0, .slice none 0 0, .slice none 0 0, .slice none 0 0, .int .i64 0] #[(0, 1), (1, 1), (2, 3)] := Bld.mk zr49 Try.underlying49 (fun w => by kernel_rfl)
theorem fl131_1 : Fld Try.prog 131 1 1 := fun p o w => by kernel_rfl
theorem fl131_2 : Fld Try.prog 131 2 2 := fun p o w => by kernel_rfl
theorem cf105 : CfR Try.prog 105 := fun vs w => by kernel_rfl
theorem cf106 : CfR Try.prog 106 := fun vs w => by kernel_rfl
theorem el51 : Elem Try.prog 51 127 (.agg #[.slice none 0 0]) 1 24 := ⟨Try.underlying51, by kernel_rfl, rfl, by decide⟩
theorem fl127_0 : Fld Try.prog 127 0 0 := fun p o w => by kernel_rfl
theorem sc36 : Sc Try.prog 36 := fun w => ⟨by kernel_rfl, by kernel_rfl⟩
theorem cf107 : CfR Try.prog 107 := fun vs w => by kernel_rfl
theorem fl27_1 : Fld Try.prog 27 1 1 := fun p o w => by kernel_rfl
theorem fl27_2 : Fld Try.prog 27 2 2 := fun p o w => by kernel_rfl
theorem cf111 : CfR Try.prog 111 := fun vs w => by kernel_rfl
theorem zr3 : Zr Try.prog 3 (.int .i64 0) := fun w => by kernel_rfl
theorem bs22_1 : BldS Try.prog 22 3 1 1 #[.int .i64 0] := BldS.mk Try.underlying22 (fun w => by kernel_rfl) (by decide) zr3 (by kernel_rfl)
theorem cf126 : CfR Try.prog 126 := fun vs w => by kernel_rfl
theorem cf53 : CfR Try.prog 53 := fun vs w => by kernel_rfl
theorem cf65 : CfR Try.prog 65 := fun vs w => by kernel_rfl
theorem cf59 : CfR Try.prog 59 := fun vs w => by kernel_rfl
theorem bs22_0 : BldS Try.prog 22 3 1 0 #[] := BldS.mk Try.underlying22 (fun w => by kernel_rfl) (by decide) zr3 (by kernel_rfl)
theorem cf66 : CfR Try.prog 66 := fun vs w => by kernel_rfl
theorem cf91 : CfR Try.prog 91 := fun vs w => by kernel_rfl
theorem cf92 : CfR Try.prog 92 := fun vs w => by kernel_rfl
theorem cf93 : CfR Try.prog 93 := fun vs w => by kernel_rfl
theorem cf117 : CfR Try.prog 117 := fun vs w => by kernel_rfl
theorem cf118 : CfR Try.prog 118 := fun vs w => by kernel_rfl
theorem cf131 : CfR Try.prog 131 := fun vs w => by kernel_rfl
theorem cf60 : CfR Try.prog 60 := fun vs w => by kernel_rfl
theorem cf132 : CfR Try.prog 132 := fun vs w => by kernel_rfl
theorem cf61 : CfR Try.prog 61 := fun vs w => by kernel_rfl
theorem cf80 : CfR Try.prog 80 := fun vs w => by kernel_rfl
theorem zr125 : Zr Try.prog 125 (.agg #[.int .i64 0, .slice none 0 0, .slice none 0 0, .slice none 0 0, .int .i64 0]) := fun w => by kernel_rfl
theorem bs123_0 : BldS Try.prog 123 125 5 0 #[] := BldS.mk Try.underlying123 (fun w => by kernel_rfl) (by decide) zr125 (by kernel_rfl)
theorem bd125 : Bld Try.prog 125 #[.int .i64 0, .slice none 0 0, .slice none 0 0, .slice none 0 0, .int .i64 0] #[(0, 1), (1, 1), (2, 3)] := Bld.mk zr125 Try.underlying125 (fun w => by kernel_rfl)
theorem bs123_1 : BldS Try.prog 123 125 5 1 #[.int .i64 0, .slice none 0 0, .slice none 0 0, .slice none 0 0, .int .i64 0] := BldS.mk Try.underlying123 (fun w => by kernel_rfl) (by decide) zr125 (by kernel_rfl)
theorem el123 : Elem Try.prog 123 125 (.agg #[.int .i64 0, .slice none 0 0, .slice none 0 0, .slice none 0 0, .int .i64 0]) 5 88 := ⟨Try.underlying123, by kernel_rfl, rfl, by decide⟩
theorem ag125 : Ag Try.prog 125 5 := fun w => ⟨by kernel_rfl, by kernel_rfl⟩
theorem fl125_0 : Fld Try.prog 125 0 0 := fun p o w => by kernel_rfl
theorem fl125_1 : Fld Try.prog 125 1 1 := fun p o w => by kernel_rfl
theorem fl125_2 : Fld Try.prog 125 2 2 := fun p o w => by kernel_rfl
theorem cf99 : CfR Try.prog 99 := fun vs w => by kernel_rfl
theorem cf100 : CfR Try.prog 100 := fun vs w => by kernel_rfl
theorem cf28 : CfR Try.prog 28 := fun vs w => by kernel_rfl
theorem zr53 : Zr Try.prog 53 (.agg #[.slice none 0 0, .slice none 0 0]) := fun w => by kernel_rfl
theorem ag53 : Ag Try.prog 53 2 := fun w => ⟨by kernel_rfl, by kernel_rfl⟩
theorem cf30 : CfR Try.prog 30 := fun vs w => by kernel_rfl
theorem cf75 : CfR Try.prog 75 := fun vs w => by kernel_rfl
theorem fl53_1 : Fld Try.prog 53 1 1 := fun p o w => by kernel_rfl
theorem sc51 : Sc Try.prog 51 := fun w => ⟨by kernel_rfl, by kernel_rfl⟩
theorem cf76 : CfR Try.prog 76 := fun vs w => by kernel_rfl
theorem cf16 : CfR Try.prog 16 := fun vs w => by kernel_rfl
theorem fl53_0 : Fld Try.prog 53 0 0 := fun p o w => by kernel_rfl
theorem ag127 : Ag Try.prog 127 1 := fun w => ⟨by kernel_rfl, by kernel_rfl⟩
theorem zr127 : Zr Try.prog 127 (.agg #[.slice none 0 0]) := fun w => by kernel_rfl
theorem cf110 : CfR Try.prog 110 := fun vs w => by kernel_rfl
theorem cf124 : CfR Try.prog 124 := fun vs w => by kernel_rfl
theorem cf136 : CfR Try.prog 136 := fun vs w => by kernel_rfl
theorem cf125 : CfR Try.prog 125 := fun vs w => by kernel_rfl
theorem cf63 : CfR Try.prog 63 := fun vs w => by kernel_rfl
theorem cf72 : CfR Try.prog 72 := fun vs w => by kernel_rfl
theorem cf15 : CfR Try.prog 15 := fun vs w => by kernel_rfl
theorem cf73 : CfR Try.prog 73 := fun vs w => by kernel_rfl
theorem el138 : Elem Try.prog 138 4 (.bool false) 1 1 := ⟨Try.underlying138, by kernel_rfl, rfl, by decide⟩
theorem sc4 : Sc Try.prog 4 := fun w => ⟨by kernel_rfl, by kernel_rfl⟩
theorem cf51 : CfR Try.prog 51 := fun vs w => by kernel_rfl
theorem bd85 : Bld Try.prog 85 #[.int .i64 0, .int .i64 0, .int .i64 0, .int .i64 0] #[(0, 1), (1, 1), (2, 1), (3, 1)] := Bld.mk zr85 Try.underlying85 (fun w => by kernel_rfl)
theorem bs36_1 : BldS Try.prog 36 85 4 1 #[.int .i64 0, .int .i64 0, .int .i64 0, .int .i64 0] := BldS.mk Try.underlying36 (fun w => by kernel_rfl) (by decide) zr85 (by kernel_rfl)
theorem cf54 : CfR Try.prog 54 := fun vs w => by kernel_rfl
theorem cf84 : CfR Try.prog 84 := fun vs w => by kernel_rfl
theorem cf85 : CfR Try.prog 85 := fun vs w => by kernel_rfl
theorem cf86 : CfR Try.prog 86 := fun vs w => by kernel_rfl
theorem cf88 : CfR Try.prog 88 := fun vs w => by kernel_rfl
theorem bs22_4 : BldS Try.prog 22 3 1 4 #[.int .i64 0, .int .i64 0, .int .i64 0, .int .i64 0] := BldS.mk Try.underlying22 (fun w => by kernel_rfl) (by decide) zr3 (by kernel_rfl)
theorem cf89 : CfR Try.prog 89 := fun vs w => by kernel_rfl
theorem cf90 : CfR Try.prog 90 := fun vs w => by kernel_rfl
theorem cf116 : CfR Try.prog 116 := fun vs w => by kernel_rfl
theorem fl142_2 : Fld Try.prog 142 2 2 := fun p o w => by kernel_rfl
theorem fl142_1 : Fld Try.prog 142 1 1 := fun p o w => by kernel_rfl
theorem fl142_0 : Fld Try.prog 142 0 0 := fun p o w => by kernel_rfl
theorem sc79 : Sc Try.prog 79 := fun w => ⟨by kernel_rfl, by kernel_rfl⟩
theorem el79 : Elem Try.prog 79 5 (.int .u8 0) 1 1 := ⟨Try.underlying79, by kernel_rfl, rfl, by decide⟩
theorem sc5 : Sc Try.prog 5 := fun w => ⟨by kernel_rfl, by kernel_rfl⟩
theorem zr142 : Zr Try.prog 142 (.agg #[.slice none 0 0, .int .i64 0, .int .i64 0]) := fun w => by kernel_rfl
theorem bd142 : Bld Try.prog 142 #[.slice none 0 0, .int .i64 0, .int .i64 0] #[(0, 1), (1, 1), (2, 1)] := Bld.mk zr142 Try.underlying142 (fun w => by kernel_rfl)
theorem cf115 : CfR Try.prog 115 := fun vs w => by kernel_rfl
theorem cf94 : CfR Try.prog 94 := fun vs w => by kernel_rfl
theorem cf114 : CfR Try.prog 114 := fun vs w => by kernel_rfl
theorem bs36_0 : BldS Try.prog 36 85 4 0 #[] := BldS.mk Try.underlying36 (fun w => by kernel_rfl) (by decide) zr85 (by kernel_rfl)
theorem cf130 : CfR Try.prog 130 := fun vs w => by kernel_rfl
theorem cf113 : CfR Try.prog 113 := fun vs w => by kernel_rfl
theorem bs22_3 : BldS Try.prog 22 3 1 3 #[.int .i64 0, .int .i64 0, .int .i64 0] := BldS.mk Try.underlying22 (fun w => by kernel_rfl) (by decide) zr3 (by kernel_rfl)
theorem bs22_5 : BldS Try.prog 22 3 1 5 #[.int .i64 0, .int .i64 0, .int .i64 0, .int .i64 0, .int .i64 0] := BldS.mk Try.underlying22 (fun w => by kernel_rfl) (by decide) zr3 (by kernel_rfl)
theorem cf127 : CfR Try.prog 127 := fun vs w => by kernel_rfl
theorem cf128 : CfR Try.prog 128 := fun vs w => by kernel_rfl
theorem cf129 : CfR Try.prog 129 := fun vs w => by kernel_rfl
theorem bd53 : Bld Try.prog 53 #[.slice none 0 0, .slice none 0 0] #[(0, 1), (1, 1)] := Bld.mk zr53 Try.underlying53 (fun w => by kernel_rfl)
theorem bd127 : Bld Try.prog 127 #[.slice none 0 0] #[(0, 1)] := Bld.mk zr127 Try.underlying127 (fun w => by kernel_rfl)
theorem bs51_1 : BldS Try.prog 51 127 1 1 #[.slice none 0 0] := BldS.mk Try.underlying51 (fun w => by kernel_rfl) (by decide) zr127 (by kernel_rfl)
theorem cf39 : CfR Try.prog 39 := fun vs w => by kernel_rfl
theorem cf42 : CfR Try.prog 42 := fun vs w => by kernel_rfl
theorem bs65_0 : BldS Try.prog 65 49 5 0 #[] := BldS.mk Try.underlying65 (fun w => by kernel_rfl) (by decide) zr49 (by kernel_rfl)
theorem el68 : Elem Try.prog 68 53 (.agg #[.slice none 0 0, .slice none 0 0]) 2 48 := ⟨Try.underlying68, by kernel_rfl, rfl, by decide⟩
theorem el70 : Elem Try.prog 70 89 (.agg #[.slice none 0 0]) 1 24 := ⟨Try.underlying70, by kernel_rfl, rfl, by decide⟩
theorem fl89_0 : Fld Try.prog 89 0 0 := fun p o w => by kernel_rfl
theorem bs65_1 : BldS Try.prog 65 49 5 1 #[.int .i64 0, .slice none 0 0, .slice none 0 0, .slice none 0 0, .int .i64 0] := BldS.mk Try.underlying65 (fun w => by kernel_rfl) (by decide) zr49 (by kernel_rfl)
theorem el65 : Elem Try.prog 65 49 (.agg #[.int .i64 0, .slice none 0 0, .slice none 0 0, .slice none 0 0, .int .i64 0]) 5 88 := ⟨Try.underlying65, by kernel_rfl, rfl, by decide⟩
theorem zr89 : Zr Try.prog 89 (.agg #[.slice none 0 0]) := fun w => by kernel_rfl
theorem cf55 : CfR Try.prog 55 := fun vs w => by kernel_rfl
theorem cf11 : CfR Try.prog 11 := fun vs w => by kernel_rfl
theorem bs68_0 : BldS Try.prog 68 53 2 0 #[] := BldS.mk Try.underlying68 (fun w => by kernel_rfl) (by decide) zr53 (by kernel_rfl)
theorem bs70_0 : BldS Try.prog 70 89 1 0 #[] := BldS.mk Try.underlying70 (fun w => by kernel_rfl) (by decide) zr89 (by kernel_rfl)
theorem cf95 : CfR Try.prog 95 := fun vs w => by kernel_rfl
theorem bs68_1 : BldS Try.prog 68 53 2 1 #[.slice none 0 0, .slice none 0 0] := BldS.mk Try.underlying68 (fun w => by kernel_rfl) (by decide) zr53 (by kernel_rfl)
theorem cf96 : CfR Try.prog 96 := fun vs w => by kernel_rfl
theorem bd89 : Bld Try.prog 89 #[.slice none 0 0] #[(0, 1)] := Bld.mk zr89 Try.underlying89 (fun w => by kernel_rfl)
theorem bs70_1 : BldS Try.prog 70 89 1 1 #[.slice none 0 0] := BldS.mk Try.underlying70 (fun w => by kernel_rfl) (by decide) zr89 (by kernel_rfl)
theorem cf97 : CfR Try.prog 97 := fun vs w => by kernel_rfl
theorem cf119 : CfR Try.prog 119 := fun vs w => by kernel_rfl
theorem cf57 : CfR Try.prog 57 := fun vs w => by kernel_rfl
end Go.Proofs.Ytknghnmcckjjbaa
