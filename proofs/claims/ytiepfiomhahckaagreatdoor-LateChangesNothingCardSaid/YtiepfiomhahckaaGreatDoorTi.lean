/- What AX knows of the types of the program. -/
import Derived.Test.YtiepfiomhahckaaGreatDoorAx32
import Derived.Test.YtiepfiomhahckaaGreatDoorChecked
import Derived.KernelRfl
set_option linter.unusedSimpArgs false
set_option linter.unusedVariables false
namespace Go.AX
open Go Go.Proofs
@[go_sem] theorem ti1 : tiOf Tryz.prog 1 = some ⟨.func, 1, 8, .k .nilFunc⟩ := by kernel_rfl
@[go_sem] theorem ti2 : tiOf Tryz.prog 2 = some ⟨.int .i64, 1, 8, .d (.int .i64 0)⟩ := by kernel_rfl
@[go_sem] theorem ti3 : tiOf Tryz.prog 3 = some ⟨.int .i64, 1, 8, .d (.int .i64 0)⟩ := by kernel_rfl
@[go_sem] theorem ti4 : tiOf Tryz.prog 4 = some ⟨.bool, 1, 1, .d (.bool false)⟩ := by kernel_rfl
@[go_sem] theorem ti5 : tiOf Tryz.prog 5 = some ⟨.int .u8, 1, 1, .d (.int .u8 0)⟩ := by kernel_rfl
@[go_sem] theorem ti6 : tiOf Tryz.prog 6 = some ⟨.int .u8, 1, 1, .d (.int .u8 0)⟩ := by kernel_rfl
@[go_sem] theorem ti7 : tiOf Tryz.prog 7 = some ⟨.struct [(0, 2), (1, 3), (2, 4), (3, 6)], 4, 24, .d (.agg [.int .i64 0, .int .i64 0, .bool false, .int .u8 0])⟩ := by kernel_rfl
@[go_sem] theorem eq7 : eqOk Tryz.prog 7 = true := by kernel_rfl
@[go_sem] theorem ti8 : tiOf Tryz.prog 8 = some ⟨.struct [(0, 2), (1, 3), (2, 4), (3, 6)], 4, 24, .d (.agg [.int .i64 0, .int .i64 0, .bool false, .int .u8 0])⟩ := by kernel_rfl
@[go_sem] theorem eq8 : eqOk Tryz.prog 8 = true := by kernel_rfl
@[go_sem] theorem ti9 : tiOf Tryz.prog 9 = some ⟨.str, 1, 16, .d (.str [])⟩ := by kernel_rfl
@[go_sem] theorem ti10 : tiOf Tryz.prog 10 = some ⟨.str, 1, 16, .d (.str [])⟩ := by kernel_rfl
@[go_sem] theorem ti11 : tiOf Tryz.prog 11 = some ⟨.str, 1, 16, .d (.str [])⟩ := by kernel_rfl
@[go_sem] theorem ti12 : tiOf Tryz.prog 12 = some ⟨.int .u64, 1, 8, .d (.int .u64 0)⟩ := by kernel_rfl
@[go_sem] theorem ti13 : tiOf Tryz.prog 13 = some ⟨.struct [(0, 9), (1, 12)], 2, 24, .d (.agg [.str [], .int .u64 0])⟩ := by kernel_rfl
@[go_sem] theorem ti14 : tiOf Tryz.prog 14 = some ⟨.struct [(0, 9), (1, 12)], 2, 24, .d (.agg [.str [], .int .u64 0])⟩ := by kernel_rfl
@[go_sem] theorem ti15 : tiOf Tryz.prog 15 = some ⟨.ptr 197, 1, 8, .d (.nilp)⟩ := by kernel_rfl
@[go_sem] theorem ti16 : tiOf Tryz.prog 16 = some ⟨.ptr 200, 1, 8, .d (.nilp)⟩ := by kernel_rfl
@[go_sem] theorem ti17 : tiOf Tryz.prog 17 = some ⟨.ptr 207, 1, 8, .d (.nilp)⟩ := by kernel_rfl
@[go_sem] theorem ti18 : tiOf Tryz.prog 18 = some ⟨.struct [(0, 17)], 1, 8, .d (.agg [.nilp])⟩ := by kernel_rfl
@[go_sem] theorem ti19 : tiOf Tryz.prog 19 = some ⟨.struct [(0, 17)], 1, 8, .d (.agg [.nilp])⟩ := by kernel_rfl
@[go_sem] theorem ti20 : tiOf Tryz.prog 20 = some ⟨.iface, 1, 16, .d (.nili)⟩ := by kernel_rfl
@[go_sem] theorem ti21 : tiOf Tryz.prog 21 = some ⟨.int .i32, 1, 4, .d (.int .i32 0)⟩ := by kernel_rfl
@[go_sem] theorem ti22 : tiOf Tryz.prog 22 = some ⟨.slice 3, 1, 24, .nils⟩ := by kernel_rfl
@[go_sem] theorem ti23 : tiOf Tryz.prog 23 = some ⟨.ptr 25, 1, 8, .d (.nilp)⟩ := by kernel_rfl
@[go_sem] theorem ti24 : tiOf Tryz.prog 24 = some ⟨.struct [(0, 22), (1, 3)], 2, 32, .agg [.nils, .d (.int .i64 0)]⟩ := by kernel_rfl
@[go_sem] theorem eq24 : eqOk Tryz.prog 24 = true := by kernel_rfl
@[go_sem] theorem ti25 : tiOf Tryz.prog 25 = some ⟨.struct [(0, 22), (1, 3)], 2, 32, .agg [.nils, .d (.int .i64 0)]⟩ := by kernel_rfl
@[go_sem] theorem eq25 : eqOk Tryz.prog 25 = true := by kernel_rfl
@[go_sem] theorem ti26 : tiOf Tryz.prog 26 = some ⟨.slice 60, 1, 24, .nils⟩ := by kernel_rfl
@[go_sem] theorem ti27 : tiOf Tryz.prog 27 = some ⟨.struct [(0, 3), (1, 3), (2, 3), (3, 26)], 4, 48, .agg [.d (.int .i64 0), .d (.int .i64 0), .d (.int .i64 0), .nils]⟩ := by kernel_rfl
@[go_sem] theorem eq27 : eqOk Tryz.prog 27 = true := by kernel_rfl
@[go_sem] theorem ti28 : tiOf Tryz.prog 28 = some ⟨.struct [(0, 3), (1, 3), (2, 3), (3, 26)], 4, 48, .agg [.d (.int .i64 0), .d (.int .i64 0), .d (.int .i64 0), .nils]⟩ := by kernel_rfl
@[go_sem] theorem eq28 : eqOk Tryz.prog 28 = true := by kernel_rfl
@[go_sem] theorem ti29 : tiOf Tryz.prog 29 = some ⟨.func, 1, 8, .k .nilFunc⟩ := by kernel_rfl
@[go_sem] theorem ti30 : tiOf Tryz.prog 30 = some ⟨.slice 37, 1, 24, .nils⟩ := by kernel_rfl
@[go_sem] theorem ti31 : tiOf Tryz.prog 31 = some ⟨.func, 1, 8, .k .nilFunc⟩ := by kernel_rfl
@[go_sem] theorem ti32 : tiOf Tryz.prog 32 = some ⟨.func, 1, 8, .k .nilFunc⟩ := by kernel_rfl
@[go_sem] theorem ti33 : tiOf Tryz.prog 33 = some ⟨.int .i64, 1, 8, .d (.int .i64 0)⟩ := by kernel_rfl
@[go_sem] theorem ti34 : tiOf Tryz.prog 34 = some ⟨.func, 1, 8, .k .nilFunc⟩ := by kernel_rfl
@[go_sem] theorem ti35 : tiOf Tryz.prog 35 = some ⟨.func, 1, 8, .k .nilFunc⟩ := by kernel_rfl
@[go_sem] theorem ti36 : tiOf Tryz.prog 36 = some ⟨.struct [(0, 9), (1, 3), (2, 3), (3, 9), (4, 9)], 5, 64, .d (.agg [.str [], .int .i64 0, .int .i64 0, .str [], .str []])⟩ := by kernel_rfl
@[go_sem] theorem eq36 : eqOk Tryz.prog 36 = true := by kernel_rfl
@[go_sem] theorem ti37 : tiOf Tryz.prog 37 = some ⟨.struct [(0, 9), (1, 3), (2, 3), (3, 9), (4, 9)], 5, 64, .d (.agg [.str [], .int .i64 0, .int .i64 0, .str [], .str []])⟩ := by kernel_rfl
@[go_sem] theorem eq37 : eqOk Tryz.prog 37 = true := by kernel_rfl
@[go_sem] theorem ti39 : tiOf Tryz.prog 39 = some ⟨.func, 1, 8, .k .nilFunc⟩ := by kernel_rfl
@[go_sem] theorem ti40 : tiOf Tryz.prog 40 = some ⟨.slice 45, 1, 24, .nils⟩ := by kernel_rfl
@[go_sem] theorem ti42 : tiOf Tryz.prog 42 = some ⟨.func, 1, 8, .k .nilFunc⟩ := by kernel_rfl
@[go_sem] theorem ti43 : tiOf Tryz.prog 43 = some ⟨.func, 1, 8, .k .nilFunc⟩ := by kernel_rfl
@[go_sem] theorem ti44 : tiOf Tryz.prog 44 = some ⟨.struct [(0, 9), (1, 3), (2, 9), (3, 9), (4, 3)], 5, 64, .d (.agg [.str [], .int .i64 0, .str [], .str [], .int .i64 0])⟩ := by kernel_rfl
@[go_sem] theorem eq44 : eqOk Tryz.prog 44 = true := by kernel_rfl
@[go_sem] theorem ti45 : tiOf Tryz.prog 45 = some ⟨.struct [(0, 9), (1, 3), (2, 9), (3, 9), (4, 3)], 5, 64, .d (.agg [.str [], .int .i64 0, .str [], .str [], .int .i64 0])⟩ := by kernel_rfl
@[go_sem] theorem eq45 : eqOk Tryz.prog 45 = true := by kernel_rfl
@[go_sem] theorem ti47 : tiOf Tryz.prog 47 = some ⟨.func, 1, 8, .k .nilFunc⟩ := by kernel_rfl
@[go_sem] theorem ti48 : tiOf Tryz.prog 48 = some ⟨.func, 1, 8, .k .nilFunc⟩ := by kernel_rfl
@[go_sem] theorem ti49 : tiOf Tryz.prog 49 = some ⟨.func, 1, 8, .k .nilFunc⟩ := by kernel_rfl
@[go_sem] theorem ti51 : tiOf Tryz.prog 51 = some ⟨.func, 1, 8, .k .nilFunc⟩ := by kernel_rfl
@[go_sem] theorem ti52 : tiOf Tryz.prog 52 = some ⟨.func, 1, 8, .k .nilFunc⟩ := by kernel_rfl
@[go_sem] theorem ti53 : tiOf Tryz.prog 53 = some ⟨.ptr 86, 1, 8, .d (.nilp)⟩ := by kernel_rfl
@[go_sem] theorem ti55 : tiOf Tryz.prog 55 = some ⟨.func, 1, 8, .k .nilFunc⟩ := by kernel_rfl
@[go_sem] theorem ti57 : tiOf Tryz.prog 57 = some ⟨.func, 1, 8, .k .nilFunc⟩ := by kernel_rfl
@[go_sem] theorem ti58 : tiOf Tryz.prog 58 = some ⟨.func, 1, 8, .k .nilFunc⟩ := by kernel_rfl
@[go_sem] theorem ti59 : tiOf Tryz.prog 59 = some ⟨.struct [(0, 9), (1, 3)], 2, 24, .d (.agg [.str [], .int .i64 0])⟩ := by kernel_rfl
@[go_sem] theorem eq59 : eqOk Tryz.prog 59 = true := by kernel_rfl
@[go_sem] theorem ti60 : tiOf Tryz.prog 60 = some ⟨.struct [(0, 9), (1, 3)], 2, 24, .d (.agg [.str [], .int .i64 0])⟩ := by kernel_rfl
@[go_sem] theorem eq60 : eqOk Tryz.prog 60 = true := by kernel_rfl
@[go_sem] theorem ti61 : tiOf Tryz.prog 61 = some ⟨.func, 1, 8, .k .nilFunc⟩ := by kernel_rfl
@[go_sem] theorem ti62 : tiOf Tryz.prog 62 = some ⟨.func, 1, 8, .k .nilFunc⟩ := by kernel_rfl
@[go_sem] theorem ti63 : tiOf Tryz.prog 63 = some ⟨.func, 1, 8, .k .nilFunc⟩ := by kernel_rfl
@[go_sem] theorem ti64 : tiOf Tryz.prog 64 = some ⟨.func, 1, 8, .k .nilFunc⟩ := by kernel_rfl
@[go_sem] theorem ti65 : tiOf Tryz.prog 65 = some ⟨.func, 1, 8, .k .nilFunc⟩ := by kernel_rfl
@[go_sem] theorem ti66 : tiOf Tryz.prog 66 = some ⟨.slice 9, 1, 24, .nils⟩ := by kernel_rfl
@[go_sem] theorem ti67 : tiOf Tryz.prog 67 = some ⟨.func, 1, 8, .k .nilFunc⟩ := by kernel_rfl
@[go_sem] theorem ti68 : tiOf Tryz.prog 68 = some ⟨.func, 1, 8, .k .nilFunc⟩ := by kernel_rfl
@[go_sem] theorem ti69 : tiOf Tryz.prog 69 = some ⟨.func, 1, 8, .k .nilFunc⟩ := by kernel_rfl
@[go_sem] theorem ti70 : tiOf Tryz.prog 70 = some ⟨.func, 1, 8, .k .nilFunc⟩ := by kernel_rfl
@[go_sem] theorem ti71 : tiOf Tryz.prog 71 = some ⟨.func, 1, 8, .k .nilFunc⟩ := by kernel_rfl
@[go_sem] theorem ti73 : tiOf Tryz.prog 73 = some ⟨.func, 1, 8, .k .nilFunc⟩ := by kernel_rfl
@[go_sem] theorem ti74 : tiOf Tryz.prog 74 = some ⟨.func, 1, 8, .k .nilFunc⟩ := by kernel_rfl
@[go_sem] theorem ti75 : tiOf Tryz.prog 75 = some ⟨.map 9 30, 1, 8, .d (.map [] [])⟩ := by kernel_rfl
@[go_sem] theorem ti76 : tiOf Tryz.prog 76 = some ⟨.func, 1, 8, .k .nilFunc⟩ := by kernel_rfl
@[go_sem] theorem ti77 : tiOf Tryz.prog 77 = some ⟨.func, 1, 8, .k .nilFunc⟩ := by kernel_rfl
@[go_sem] theorem ti78 : tiOf Tryz.prog 78 = some ⟨.func, 1, 8, .k .nilFunc⟩ := by kernel_rfl
@[go_sem] theorem ti79 : tiOf Tryz.prog 79 = some ⟨.func, 1, 8, .k .nilFunc⟩ := by kernel_rfl
@[go_sem] theorem ti80 : tiOf Tryz.prog 80 = some ⟨.func, 1, 8, .k .nilFunc⟩ := by kernel_rfl
@[go_sem] theorem ti81 : tiOf Tryz.prog 81 = some ⟨.func, 1, 8, .k .nilFunc⟩ := by kernel_rfl
@[go_sem] theorem ti82 : tiOf Tryz.prog 82 = some ⟨.func, 1, 8, .k .nilFunc⟩ := by kernel_rfl
@[go_sem] theorem ti83 : tiOf Tryz.prog 83 = some ⟨.func, 1, 8, .k .nilFunc⟩ := by kernel_rfl
@[go_sem] theorem ti84 : tiOf Tryz.prog 84 = some ⟨.func, 1, 8, .k .nilFunc⟩ := by kernel_rfl
@[go_sem] theorem ti85 : tiOf Tryz.prog 85 = some ⟨.struct [(0, 28), (4, 30)], 5, 72, .agg [.d (.int .i64 0), .d (.int .i64 0), .d (.int .i64 0), .nils, .nils]⟩ := by kernel_rfl
@[go_sem] theorem eq85 : eqOk Tryz.prog 85 = true := by kernel_rfl
@[go_sem] theorem ti86 : tiOf Tryz.prog 86 = some ⟨.struct [(0, 28), (4, 30)], 5, 72, .agg [.d (.int .i64 0), .d (.int .i64 0), .d (.int .i64 0), .nils, .nils]⟩ := by kernel_rfl
@[go_sem] theorem eq86 : eqOk Tryz.prog 86 = true := by kernel_rfl
@[go_sem] theorem ti88 : tiOf Tryz.prog 88 = some ⟨.func, 1, 8, .k .nilFunc⟩ := by kernel_rfl
@[go_sem] theorem ti89 : tiOf Tryz.prog 89 = some ⟨.func, 1, 8, .k .nilFunc⟩ := by kernel_rfl
@[go_sem] theorem ti90 : tiOf Tryz.prog 90 = some ⟨.func, 1, 8, .k .nilFunc⟩ := by kernel_rfl
@[go_sem] theorem ti91 : tiOf Tryz.prog 91 = some ⟨.func, 1, 8, .k .nilFunc⟩ := by kernel_rfl
@[go_sem] theorem ti92 : tiOf Tryz.prog 92 = some ⟨.func, 1, 8, .k .nilFunc⟩ := by kernel_rfl
@[go_sem] theorem ti93 : tiOf Tryz.prog 93 = some ⟨.func, 1, 8, .k .nilFunc⟩ := by kernel_rfl
@[go_sem] theorem ti94 : tiOf Tryz.prog 94 = some ⟨.func, 1, 8, .k .nilFunc⟩ := by kernel_rfl
@[go_sem] theorem ti95 : tiOf Tryz.prog 95 = some ⟨.func, 1, 8, .k .nilFunc⟩ := by kernel_rfl
@[go_sem] theorem ti96 : tiOf Tryz.prog 96 = some ⟨.slice 131, 1, 24, .nils⟩ := by kernel_rfl
@[go_sem] theorem ti97 : tiOf Tryz.prog 97 = some ⟨.func, 1, 8, .k .nilFunc⟩ := by kernel_rfl
@[go_sem] theorem ti98 : tiOf Tryz.prog 98 = some ⟨.func, 1, 8, .k .nilFunc⟩ := by kernel_rfl
@[go_sem] theorem ti99 : tiOf Tryz.prog 99 = some ⟨.func, 1, 8, .k .nilFunc⟩ := by kernel_rfl
@[go_sem] theorem ti100 : tiOf Tryz.prog 100 = some ⟨.func, 1, 8, .k .nilFunc⟩ := by kernel_rfl
@[go_sem] theorem ti101 : tiOf Tryz.prog 101 = some ⟨.func, 1, 8, .k .nilFunc⟩ := by kernel_rfl
@[go_sem] theorem ti102 : tiOf Tryz.prog 102 = some ⟨.func, 1, 8, .k .nilFunc⟩ := by kernel_rfl
@[go_sem] theorem ti103 : tiOf Tryz.prog 103 = some ⟨.ptr 37, 1, 8, .d (.nilp)⟩ := by kernel_rfl
@[go_sem] theorem ti104 : tiOf Tryz.prog 104 = some ⟨.arr 4 103, 4, 32, .d (.agg [.nilp, .nilp, .nilp, .nilp])⟩ := by kernel_rfl
@[go_sem] theorem ti105 : tiOf Tryz.prog 105 = some ⟨.slice 103, 1, 24, .nils⟩ := by kernel_rfl
@[go_sem] theorem ti106 : tiOf Tryz.prog 106 = some ⟨.int .u64, 1, 8, .d (.int .u64 0)⟩ := by kernel_rfl
@[go_sem] theorem ti107 : tiOf Tryz.prog 107 = some ⟨.func, 1, 8, .k .nilFunc⟩ := by kernel_rfl
@[go_sem] theorem ti108 : tiOf Tryz.prog 108 = some ⟨.func, 1, 8, .k .nilFunc⟩ := by kernel_rfl
@[go_sem] theorem ti109 : tiOf Tryz.prog 109 = some ⟨.func, 1, 8, .k .nilFunc⟩ := by kernel_rfl
@[go_sem] theorem ti110 : tiOf Tryz.prog 110 = some ⟨.func, 1, 8, .k .nilFunc⟩ := by kernel_rfl
@[go_sem] theorem ti112 : tiOf Tryz.prog 112 = some ⟨.func, 1, 8, .k .nilFunc⟩ := by kernel_rfl
@[go_sem] theorem ti113 : tiOf Tryz.prog 113 = some ⟨.func, 1, 8, .k .nilFunc⟩ := by kernel_rfl
@[go_sem] theorem ti114 : tiOf Tryz.prog 114 = some ⟨.ptr 117, 1, 8, .d (.nilp)⟩ := by kernel_rfl
@[go_sem] theorem ti115 : tiOf Tryz.prog 115 = some ⟨.slice 5, 1, 24, .nils⟩ := by kernel_rfl
@[go_sem] theorem ti116 : tiOf Tryz.prog 116 = some ⟨.struct [(0, 114), (1, 115)], 2, 32, .agg [.d (.nilp), .nils]⟩ := by kernel_rfl
@[go_sem] theorem eq116 : eqOk Tryz.prog 116 = true := by kernel_rfl
@[go_sem] theorem ti117 : tiOf Tryz.prog 117 = some ⟨.struct [(0, 114), (1, 115)], 2, 32, .agg [.d (.nilp), .nils]⟩ := by kernel_rfl
@[go_sem] theorem eq117 : eqOk Tryz.prog 117 = true := by kernel_rfl
@[go_sem] theorem ti118 : tiOf Tryz.prog 118 = some ⟨.func, 1, 8, .k .nilFunc⟩ := by kernel_rfl
@[go_sem] theorem ti119 : tiOf Tryz.prog 119 = some ⟨.iface, 1, 16, .d (.nili)⟩ := by kernel_rfl
@[go_sem] theorem ti120 : tiOf Tryz.prog 120 = some ⟨.iface, 1, 16, .d (.nili)⟩ := by kernel_rfl
@[go_sem] theorem ti122 : tiOf Tryz.prog 122 = some ⟨.func, 1, 8, .k .nilFunc⟩ := by kernel_rfl
@[go_sem] theorem ti123 : tiOf Tryz.prog 123 = some ⟨.func, 1, 8, .k .nilFunc⟩ := by kernel_rfl
@[go_sem] theorem ti124 : tiOf Tryz.prog 124 = some ⟨.func, 1, 8, .k .nilFunc⟩ := by kernel_rfl
@[go_sem] theorem ti125 : tiOf Tryz.prog 125 = some ⟨.func, 1, 8, .k .nilFunc⟩ := by kernel_rfl
@[go_sem] theorem ti126 : tiOf Tryz.prog 126 = some ⟨.func, 1, 8, .k .nilFunc⟩ := by kernel_rfl
@[go_sem] theorem ti127 : tiOf Tryz.prog 127 = some ⟨.func, 1, 8, .k .nilFunc⟩ := by kernel_rfl
@[go_sem] theorem ti128 : tiOf Tryz.prog 128 = some ⟨.struct [(0, 3), (1, 3)], 2, 16, .d (.agg [.int .i64 0, .int .i64 0])⟩ := by kernel_rfl
@[go_sem] theorem eq128 : eqOk Tryz.prog 128 = true := by kernel_rfl
@[go_sem] theorem ti129 : tiOf Tryz.prog 129 = some ⟨.struct [(0, 3), (1, 3)], 2, 16, .d (.agg [.int .i64 0, .int .i64 0])⟩ := by kernel_rfl
@[go_sem] theorem eq129 : eqOk Tryz.prog 129 = true := by kernel_rfl
@[go_sem] theorem ti130 : tiOf Tryz.prog 130 = some ⟨.struct [(0, 9), (1, 129)], 3, 32, .d (.agg [.str [], .int .i64 0, .int .i64 0])⟩ := by kernel_rfl
@[go_sem] theorem eq130 : eqOk Tryz.prog 130 = true := by kernel_rfl
@[go_sem] theorem ti131 : tiOf Tryz.prog 131 = some ⟨.struct [(0, 9), (1, 129)], 3, 32, .d (.agg [.str [], .int .i64 0, .int .i64 0])⟩ := by kernel_rfl
@[go_sem] theorem eq131 : eqOk Tryz.prog 131 = true := by kernel_rfl
@[go_sem] theorem ti132 : tiOf Tryz.prog 132 = some ⟨.func, 1, 8, .k .nilFunc⟩ := by kernel_rfl
@[go_sem] theorem ti133 : tiOf Tryz.prog 133 = some ⟨.func, 1, 8, .k .nilFunc⟩ := by kernel_rfl
@[go_sem] theorem ti134 : tiOf Tryz.prog 134 = some ⟨.func, 1, 8, .k .nilFunc⟩ := by kernel_rfl
@[go_sem] theorem ti135 : tiOf Tryz.prog 135 = some ⟨.func, 1, 8, .k .nilFunc⟩ := by kernel_rfl
@[go_sem] theorem ti136 : tiOf Tryz.prog 136 = some ⟨.func, 1, 8, .k .nilFunc⟩ := by kernel_rfl
@[go_sem] theorem ti137 : tiOf Tryz.prog 137 = some ⟨.func, 1, 8, .k .nilFunc⟩ := by kernel_rfl
@[go_sem] theorem ti138 : tiOf Tryz.prog 138 = some ⟨.func, 1, 8, .k .nilFunc⟩ := by kernel_rfl
@[go_sem] theorem ti139 : tiOf Tryz.prog 139 = some ⟨.int .i64, 1, 8, .d (.int .i64 0)⟩ := by kernel_rfl
@[go_sem] theorem ti141 : tiOf Tryz.prog 141 = some ⟨.func, 1, 8, .k .nilFunc⟩ := by kernel_rfl
@[go_sem] theorem ti142 : tiOf Tryz.prog 142 = some ⟨.func, 1, 8, .k .nilFunc⟩ := by kernel_rfl
@[go_sem] theorem ti143 : tiOf Tryz.prog 143 = some ⟨.func, 1, 8, .k .nilFunc⟩ := by kernel_rfl
@[go_sem] theorem ti144 : tiOf Tryz.prog 144 = some ⟨.func, 1, 8, .k .nilFunc⟩ := by kernel_rfl
@[go_sem] theorem ti145 : tiOf Tryz.prog 145 = some ⟨.func, 1, 8, .k .nilFunc⟩ := by kernel_rfl
@[go_sem] theorem ti146 : tiOf Tryz.prog 146 = some ⟨.int .u32, 1, 4, .d (.int .u32 0)⟩ := by kernel_rfl
@[go_sem] theorem ti147 : tiOf Tryz.prog 147 = some ⟨.func, 1, 8, .k .nilFunc⟩ := by kernel_rfl
@[go_sem] theorem ti148 : tiOf Tryz.prog 148 = some ⟨.int .u64, 1, 8, .d (.int .u64 0)⟩ := by kernel_rfl
@[go_sem] theorem ti150 : tiOf Tryz.prog 150 = some ⟨.func, 1, 8, .k .nilFunc⟩ := by kernel_rfl
@[go_sem] theorem ti152 : tiOf Tryz.prog 152 = some ⟨.func, 1, 8, .k .nilFunc⟩ := by kernel_rfl
@[go_sem] theorem ti153 : tiOf Tryz.prog 153 = some ⟨.ptr 5, 1, 8, .d (.nilp)⟩ := by kernel_rfl
@[go_sem] theorem ti154 : tiOf Tryz.prog 154 = some ⟨.func, 1, 8, .k .nilFunc⟩ := by kernel_rfl
@[go_sem] theorem ti155 : tiOf Tryz.prog 155 = some ⟨.func, 1, 8, .k .nilFunc⟩ := by kernel_rfl
@[go_sem] theorem ti159 : tiOf Tryz.prog 159 = some ⟨.func, 1, 8, .k .nilFunc⟩ := by kernel_rfl
@[go_sem] theorem ti160 : tiOf Tryz.prog 160 = some ⟨.func, 1, 8, .k .nilFunc⟩ := by kernel_rfl
@[go_sem] theorem ti161 : tiOf Tryz.prog 161 = some ⟨.ptr 157, 1, 8, .d (.nilp)⟩ := by kernel_rfl
@[go_sem] theorem ti162 : tiOf Tryz.prog 162 = some ⟨.func, 1, 8, .k .nilFunc⟩ := by kernel_rfl
@[go_sem] theorem ti164 : tiOf Tryz.prog 164 = some ⟨.struct [(0, 5), (1, 5)], 2, 2, .d (.agg [.int .u8 0, .int .u8 0])⟩ := by kernel_rfl
@[go_sem] theorem eq164 : eqOk Tryz.prog 164 = true := by kernel_rfl
@[go_sem] theorem ti165 : tiOf Tryz.prog 165 = some ⟨.struct [(0, 5), (1, 5)], 2, 2, .d (.agg [.int .u8 0, .int .u8 0])⟩ := by kernel_rfl
@[go_sem] theorem eq165 : eqOk Tryz.prog 165 = true := by kernel_rfl
@[go_sem] theorem ti166 : tiOf Tryz.prog 166 = some ⟨.arr 16 165, 32, 32, .d (.agg [.int .u8 0, .int .u8 0, .int .u8 0, .int .u8 0, .int .u8 0, .int .u8 0, .int .u8 0, .int .u8 0, .int .u8 0, .int .u8 0, .int .u8 0, .int .u8 0, .int .u8 0, .int .u8 0, .int .u8 0, .int .u8 0, .int .u8 0, .int .u8 0, .int .u8 0, .int .u8 0, .int .u8 0, .int .u8 0, .int .u8 0, .int .u8 0, .int .u8 0, .int .u8 0, .int .u8 0, .int .u8 0, .int .u8 0, .int .u8 0, .int .u8 0, .int .u8 0])⟩ := by kernel_rfl
@[go_sem] theorem ti167 : tiOf Tryz.prog 167 = some ⟨.func, 1, 8, .k .nilFunc⟩ := by kernel_rfl
@[go_sem] theorem ti168 : tiOf Tryz.prog 168 = some ⟨.func, 1, 8, .k .nilFunc⟩ := by kernel_rfl
@[go_sem] theorem ti169 : tiOf Tryz.prog 169 = some ⟨.func, 1, 8, .k .nilFunc⟩ := by kernel_rfl
@[go_sem] theorem ti170 : tiOf Tryz.prog 170 = some ⟨.func, 1, 8, .k .nilFunc⟩ := by kernel_rfl
@[go_sem] theorem ti171 : tiOf Tryz.prog 171 = some ⟨.func, 1, 8, .k .nilFunc⟩ := by kernel_rfl
@[go_sem] theorem ti172 : tiOf Tryz.prog 172 = some ⟨.func, 1, 8, .k .nilFunc⟩ := by kernel_rfl
@[go_sem] theorem ti173 : tiOf Tryz.prog 173 = some ⟨.int .u64, 1, 8, .d (.int .u64 0)⟩ := by kernel_rfl
@[go_sem] theorem ti174 : tiOf Tryz.prog 174 = some ⟨.func, 1, 8, .k .nilFunc⟩ := by kernel_rfl
@[go_sem] theorem ti175 : tiOf Tryz.prog 175 = some ⟨.func, 1, 8, .k .nilFunc⟩ := by kernel_rfl
@[go_sem] theorem ti176 : tiOf Tryz.prog 176 = some ⟨.func, 1, 8, .k .nilFunc⟩ := by kernel_rfl
@[go_sem] theorem ti177 : tiOf Tryz.prog 177 = some ⟨.ptr 3, 1, 8, .d (.nilp)⟩ := by kernel_rfl
@[go_sem] theorem ti178 : tiOf Tryz.prog 178 = some ⟨.func, 1, 8, .k .nilFunc⟩ := by kernel_rfl
@[go_sem] theorem ti179 : tiOf Tryz.prog 179 = some ⟨.uptr, 1, 8, .d (.nilp)⟩ := by kernel_rfl
@[go_sem] theorem ti180 : tiOf Tryz.prog 180 = some ⟨.func, 1, 8, .k .nilFunc⟩ := by kernel_rfl
@[go_sem] theorem ti181 : tiOf Tryz.prog 181 = some ⟨.func, 1, 8, .k .nilFunc⟩ := by kernel_rfl
@[go_sem] theorem ti182 : tiOf Tryz.prog 182 = some ⟨.func, 1, 8, .k .nilFunc⟩ := by kernel_rfl
@[go_sem] theorem ti184 : tiOf Tryz.prog 184 = some ⟨.func, 1, 8, .k .nilFunc⟩ := by kernel_rfl
@[go_sem] theorem ti185 : tiOf Tryz.prog 185 = some ⟨.func, 1, 8, .k .nilFunc⟩ := by kernel_rfl
@[go_sem] theorem ti186 : tiOf Tryz.prog 186 = some ⟨.func, 1, 8, .k .nilFunc⟩ := by kernel_rfl
@[go_sem] theorem ti187 : tiOf Tryz.prog 187 = some ⟨.func, 1, 8, .k .nilFunc⟩ := by kernel_rfl
@[go_sem] theorem ti188 : tiOf Tryz.prog 188 = some ⟨.ptr 173, 1, 8, .d (.nilp)⟩ := by kernel_rfl
@[go_sem] theorem ti190 : tiOf Tryz.prog 190 = some ⟨.func, 1, 8, .k .nilFunc⟩ := by kernel_rfl
@[go_sem] theorem ti191 : tiOf Tryz.prog 191 = some ⟨.func, 1, 8, .k .nilFunc⟩ := by kernel_rfl
@[go_sem] theorem ti192 : tiOf Tryz.prog 192 = some ⟨.func, 1, 8, .k .nilFunc⟩ := by kernel_rfl
@[go_sem] theorem ti193 : tiOf Tryz.prog 193 = some ⟨.func, 1, 8, .k .nilFunc⟩ := by kernel_rfl
@[go_sem] theorem ti194 : tiOf Tryz.prog 194 = some ⟨.func, 1, 8, .k .nilFunc⟩ := by kernel_rfl
@[go_sem] theorem ti195 : tiOf Tryz.prog 195 = some ⟨.func, 1, 8, .k .nilFunc⟩ := by kernel_rfl
@[go_sem] theorem ti196 : tiOf Tryz.prog 196 = some ⟨.struct [(0, 17), (1, 17), (2, 17), (3, 9)], 4, 40, .d (.agg [.nilp, .nilp, .nilp, .str []])⟩ := by kernel_rfl
@[go_sem] theorem ti197 : tiOf Tryz.prog 197 = some ⟨.struct [(0, 17), (1, 17), (2, 17), (3, 9)], 4, 40, .d (.agg [.nilp, .nilp, .nilp, .str []])⟩ := by kernel_rfl
@[go_sem] theorem ti198 : tiOf Tryz.prog 198 = some ⟨.arr 0 16, 0, 0, .d (.agg [])⟩ := by kernel_rfl
@[go_sem] theorem ti199 : tiOf Tryz.prog 199 = some ⟨.struct [(0, 198)], 0, 0, .d (.agg [])⟩ := by kernel_rfl
@[go_sem] theorem ti200 : tiOf Tryz.prog 200 = some ⟨.struct [(0, 198)], 0, 0, .d (.agg [])⟩ := by kernel_rfl
@[go_sem] theorem ti201 : tiOf Tryz.prog 201 = some ⟨.int .u8, 1, 1, .d (.int .u8 0)⟩ := by kernel_rfl
@[go_sem] theorem ti202 : tiOf Tryz.prog 202 = some ⟨.int .u8, 1, 1, .d (.int .u8 0)⟩ := by kernel_rfl
@[go_sem] theorem ti203 : tiOf Tryz.prog 203 = some ⟨.func, 1, 8, .k .nilFunc⟩ := by kernel_rfl
@[go_sem] theorem ti204 : tiOf Tryz.prog 204 = some ⟨.int .i32, 1, 4, .d (.int .i32 0)⟩ := by kernel_rfl
@[go_sem] theorem ti205 : tiOf Tryz.prog 205 = some ⟨.int .i32, 1, 4, .d (.int .i32 0)⟩ := by kernel_rfl
@[go_sem] theorem ti206 : tiOf Tryz.prog 206 = some ⟨.struct [(0, 12), (1, 12), (2, 146), (3, 201), (4, 5), (5, 5), (6, 202), (7, 203), (8, 153), (9, 204), (10, 205)], 11, 48, .agg [.d (.int .u64 0), .d (.int .u64 0), .d (.int .u32 0), .d (.int .u8 0), .d (.int .u8 0), .d (.int .u8 0), .d (.int .u8 0), .k .nilFunc, .d (.nilp), .d (.int .i32 0), .d (.int .i32 0)]⟩ := by kernel_rfl
@[go_sem] theorem ti207 : tiOf Tryz.prog 207 = some ⟨.struct [(0, 12), (1, 12), (2, 146), (3, 201), (4, 5), (5, 5), (6, 202), (7, 203), (8, 153), (9, 204), (10, 205)], 11, 48, .agg [.d (.int .u64 0), .d (.int .u64 0), .d (.int .u32 0), .d (.int .u8 0), .d (.int .u8 0), .d (.int .u8 0), .d (.int .u8 0), .k .nilFunc, .d (.nilp), .d (.int .i32 0), .d (.int .i32 0)]⟩ := by kernel_rfl
theorem hmix : Tryz.prog.follows .mixedOrders = true := by kernel_rfl
end Go.AX
