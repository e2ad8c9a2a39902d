/- What AX knows of the types of the program. -/
import Derived.Test.YtmcchfkclhpbhaaGreatDoorAx32
import Derived.Test.YtmcchfkclhpbhaaGreatDoorChecked
import Derived.KernelRfl
set_option linter.unusedSimpArgs false
set_option linter.unusedVariables false
namespace Go.AX
open Go Go.Proofs
@[go_sem] theorem ti1 : tiOf Tryz.prog 1 = some ⟨.func, 1, 8, .k .nilFunc⟩ := by kernel_rfl
@[go_sem] theorem ti2 : tiOf Tryz.prog 2 = some ⟨.int .i64, 1, 8, .d (.int .i64 0)⟩ := by kernel_rfl
@[go_sem] theorem ti3 : tiOf Tryz.prog 3 = some ⟨.int .i64, 1, 8, .d (.int .i64 0)⟩ := by kernel_rfl
@[go_sem] theorem ti4 : tiOf Tryz.prog 4 = some ⟨.bool, 1, 1, .d (.bool false)⟩ := by kernel_rfl
@[go_sem] theorem ti5 : tiOf Tryz.prog 5 = some ⟨.int .u8, 1, 1, .d (.int .u8 0)⟩ := by kernel_rfl
@[go_sem] theorem ti6 : tiOf Tryz.prog 6 = some ⟨.int .u8, 1, 1, .d (.int .u8 0)⟩ := by kernel_rfl
@[go_sem] theorem ti7 : tiOf Tryz.prog 7 = some ⟨.struct [(0, 2), (1, 3), (2, 4), (3, 6)], 4, 24, .d (.agg [.int .i64 0, .int .i64 0, .bool false, .int .u8 0])⟩ := by kernel_rfl
@[go_sem] theorem eq7 : eqOk Tryz.prog 7 = true := by kernel_rfl
@[go_sem] theorem ti8 : tiOf Tryz.prog 8 = some ⟨.struct [(0, 2), (1, 3), (2, 4), (3, 6)], 4, 24, .d (.agg [.int .i64 0, .int .i64 0, .bool false, .int .u8 0])⟩ := by kernel_rfl
@[go_sem] theorem eq8 : eqOk Tryz.prog 8 = true := by kernel_rfl
@[go_sem] theorem ti9 : tiOf Tryz.prog 9 = some ⟨.str, 1, 16, .d (.str [])⟩ := by kernel_rfl
@[go_sem] theorem ti10 : tiOf Tryz.prog 10 = some ⟨.str, 1, 16, .d (.str [])⟩ := by kernel_rfl
@[go_sem] theorem ti11 : tiOf Tryz.prog 11 = some ⟨.str, 1, 16, .d (.str [])⟩ := by kernel_rfl
@[go_sem] theorem ti12 : tiOf Tryz.prog 12 = some ⟨.int .u64, 1, 8, .d (.int .u64 0)⟩ := by kernel_rfl
@[go_sem] theorem ti13 : tiOf Tryz.prog 13 = some ⟨.struct [(0, 9), (1, 12)], 2, 24, .d (.agg [.str [], .int .u64 0])⟩ := by kernel_rfl
@[go_sem] theorem ti14 : tiOf Tryz.prog 14 = some ⟨.struct [(0, 9), (1, 12)], 2, 24, .d (.agg [.str [], .int .u64 0])⟩ := by kernel_rfl
@[go_sem] theorem ti15 : tiOf Tryz.prog 15 = some ⟨.ptr 195, 1, 8, .d (.nilp)⟩ := by kernel_rfl
@[go_sem] theorem ti16 : tiOf Tryz.prog 16 = some ⟨.ptr 198, 1, 8, .d (.nilp)⟩ := by kernel_rfl
@[go_sem] theorem ti17 : tiOf Tryz.prog 17 = some ⟨.ptr 207, 1, 8, .d (.nilp)⟩ := by kernel_rfl
@[go_sem] theorem ti18 : tiOf Tryz.prog 18 = some ⟨.struct [(0, 17)], 1, 8, .d (.agg [.nilp])⟩ := by kernel_rfl
@[go_sem] theorem ti19 : tiOf Tryz.prog 19 = some ⟨.struct [(0, 17)], 1, 8, .d (.agg [.nilp])⟩ := by kernel_rfl
@[go_sem] theorem ti20 : tiOf Tryz.prog 20 = some ⟨.iface, 1, 16, .d (.nili)⟩ := by kernel_rfl
@[go_sem] theorem ti21 : tiOf Tryz.prog 21 = some ⟨.int .i32, 1, 4, .d (.int .i32 0)⟩ := by kernel_rfl
@[go_sem] theorem ti22 : tiOf Tryz.prog 22 = some ⟨.slice 3, 1, 24, .nils⟩ := by kernel_rfl
@[go_sem] theorem ti23 : tiOf Tryz.prog 23 = some ⟨.ptr 25, 1, 8, .d (.nilp)⟩ := by kernel_rfl
@[go_sem] theorem ti24 : tiOf Tryz.prog 24 = some ⟨.struct [(0, 22), (1, 3)], 2, 32, .agg [.nils, .d (.int .i64 0)]⟩ := by kernel_rfl
@[go_sem] theorem eq24 : eqOk Tryz.prog 24 = true := by kernel_rfl
@[go_sem] theorem ti25 : tiOf Tryz.prog 25 = some ⟨.struct [(0, 22), (1, 3)], 2, 32, .agg [.nils, .d (.int .i64 0)]⟩ := by kernel_rfl
@[go_sem] theorem eq25 : eqOk Tryz.prog 25 = true := by kernel_rfl
@[go_sem] theorem ti26 : tiOf Tryz.prog 26 = some ⟨.slice 39, 1, 24, .nils⟩ := by kernel_rfl
@[go_sem] theorem ti27 : tiOf Tryz.prog 27 = some ⟨.func, 1, 8, .k .nilFunc⟩ := by kernel_rfl
@[go_sem] theorem ti28 : tiOf Tryz.prog 28 = some ⟨.int .i64, 1, 8, .d (.int .i64 0)⟩ := by kernel_rfl
@[go_sem] theorem ti29 : tiOf Tryz.prog 29 = some ⟨.func, 1, 8, .k .nilFunc⟩ := by kernel_rfl
@[go_sem] theorem ti30 : tiOf Tryz.prog 30 = some ⟨.func, 1, 8, .k .nilFunc⟩ := by kernel_rfl
@[go_sem] theorem ti31 : tiOf Tryz.prog 31 = some ⟨.struct [(0, 3), (1, 3)], 2, 16, .d (.agg [.int .i64 0, .int .i64 0])⟩ := by kernel_rfl
@[go_sem] theorem eq31 : eqOk Tryz.prog 31 = true := by kernel_rfl
@[go_sem] theorem ti32 : tiOf Tryz.prog 32 = some ⟨.struct [(0, 3), (1, 3)], 2, 16, .d (.agg [.int .i64 0, .int .i64 0])⟩ := by kernel_rfl
@[go_sem] theorem eq32 : eqOk Tryz.prog 32 = true := by kernel_rfl
@[go_sem] theorem ti34 : tiOf Tryz.prog 34 = some ⟨.func, 1, 8, .k .nilFunc⟩ := by kernel_rfl
@[go_sem] theorem ti35 : tiOf Tryz.prog 35 = some ⟨.func, 1, 8, .k .nilFunc⟩ := by kernel_rfl
@[go_sem] theorem ti36 : tiOf Tryz.prog 36 = some ⟨.struct [(0, 9), (1, 9)], 2, 32, .d (.agg [.str [], .str []])⟩ := by kernel_rfl
@[go_sem] theorem eq36 : eqOk Tryz.prog 36 = true := by kernel_rfl
@[go_sem] theorem ti37 : tiOf Tryz.prog 37 = some ⟨.struct [(0, 9), (1, 9)], 2, 32, .d (.agg [.str [], .str []])⟩ := by kernel_rfl
@[go_sem] theorem eq37 : eqOk Tryz.prog 37 = true := by kernel_rfl
@[go_sem] theorem ti38 : tiOf Tryz.prog 38 = some ⟨.struct [(0, 37), (2, 3)], 3, 40, .d (.agg [.str [], .str [], .int .i64 0])⟩ := by kernel_rfl
@[go_sem] theorem eq38 : eqOk Tryz.prog 38 = true := by kernel_rfl
@[go_sem] theorem ti39 : tiOf Tryz.prog 39 = some ⟨.struct [(0, 37), (2, 3)], 3, 40, .d (.agg [.str [], .str [], .int .i64 0])⟩ := by kernel_rfl
@[go_sem] theorem eq39 : eqOk Tryz.prog 39 = true := by kernel_rfl
@[go_sem] theorem ti40 : tiOf Tryz.prog 40 = some ⟨.map 9 3, 1, 8, .d (.map [] [])⟩ := by kernel_rfl
@[go_sem] theorem ti42 : tiOf Tryz.prog 42 = some ⟨.func, 1, 8, .k .nilFunc⟩ := by kernel_rfl
@[go_sem] theorem ti43 : tiOf Tryz.prog 43 = some ⟨.func, 1, 8, .k .nilFunc⟩ := by kernel_rfl
@[go_sem] theorem ti44 : tiOf Tryz.prog 44 = some ⟨.func, 1, 8, .k .nilFunc⟩ := by kernel_rfl
@[go_sem] theorem ti46 : tiOf Tryz.prog 46 = some ⟨.func, 1, 8, .k .nilFunc⟩ := by kernel_rfl
@[go_sem] theorem ti47 : tiOf Tryz.prog 47 = some ⟨.slice 9, 1, 24, .nils⟩ := by kernel_rfl
@[go_sem] theorem ti49 : tiOf Tryz.prog 49 = some ⟨.func, 1, 8, .k .nilFunc⟩ := by kernel_rfl
@[go_sem] theorem ti50 : tiOf Tryz.prog 50 = some ⟨.func, 1, 8, .k .nilFunc⟩ := by kernel_rfl
@[go_sem] theorem ti51 : tiOf Tryz.prog 51 = some ⟨.func, 1, 8, .k .nilFunc⟩ := by kernel_rfl
@[go_sem] theorem ti52 : tiOf Tryz.prog 52 = some ⟨.func, 1, 8, .k .nilFunc⟩ := by kernel_rfl
@[go_sem] theorem ti53 : tiOf Tryz.prog 53 = some ⟨.func, 1, 8, .k .nilFunc⟩ := by kernel_rfl
@[go_sem] theorem ti54 : tiOf Tryz.prog 54 = some ⟨.func, 1, 8, .k .nilFunc⟩ := by kernel_rfl
@[go_sem] theorem ti56 : tiOf Tryz.prog 56 = some ⟨.func, 1, 8, .k .nilFunc⟩ := by kernel_rfl
@[go_sem] theorem ti57 : tiOf Tryz.prog 57 = some ⟨.func, 1, 8, .k .nilFunc⟩ := by kernel_rfl
@[go_sem] theorem ti59 : tiOf Tryz.prog 59 = some ⟨.func, 1, 8, .k .nilFunc⟩ := by kernel_rfl
@[go_sem] theorem ti60 : tiOf Tryz.prog 60 = some ⟨.func, 1, 8, .k .nilFunc⟩ := by kernel_rfl
@[go_sem] theorem ti62 : tiOf Tryz.prog 62 = some ⟨.func, 1, 8, .k .nilFunc⟩ := by kernel_rfl
@[go_sem] theorem ti63 : tiOf Tryz.prog 63 = some ⟨.func, 1, 8, .k .nilFunc⟩ := by kernel_rfl
@[go_sem] theorem ti64 : tiOf Tryz.prog 64 = some ⟨.func, 1, 8, .k .nilFunc⟩ := by kernel_rfl
@[go_sem] theorem ti65 : tiOf Tryz.prog 65 = some ⟨.func, 1, 8, .k .nilFunc⟩ := by kernel_rfl
@[go_sem] theorem ti66 : tiOf Tryz.prog 66 = some ⟨.ptr 39, 1, 8, .d (.nilp)⟩ := by kernel_rfl
@[go_sem] theorem ti67 : tiOf Tryz.prog 67 = some ⟨.func, 1, 8, .k .nilFunc⟩ := by kernel_rfl
@[go_sem] theorem ti68 : tiOf Tryz.prog 68 = some ⟨.func, 1, 8, .k .nilFunc⟩ := by kernel_rfl
@[go_sem] theorem ti69 : tiOf Tryz.prog 69 = some ⟨.func, 1, 8, .k .nilFunc⟩ := by kernel_rfl
@[go_sem] theorem ti70 : tiOf Tryz.prog 70 = some ⟨.func, 1, 8, .k .nilFunc⟩ := by kernel_rfl
@[go_sem] theorem ti71 : tiOf Tryz.prog 71 = some ⟨.func, 1, 8, .k .nilFunc⟩ := by kernel_rfl
@[go_sem] theorem ti72 : tiOf Tryz.prog 72 = some ⟨.ptr 79, 1, 8, .d (.nilp)⟩ := by kernel_rfl
@[go_sem] theorem ti74 : tiOf Tryz.prog 74 = some ⟨.func, 1, 8, .k .nilFunc⟩ := by kernel_rfl
@[go_sem] theorem ti75 : tiOf Tryz.prog 75 = some ⟨.func, 1, 8, .k .nilFunc⟩ := by kernel_rfl
@[go_sem] theorem ti76 : tiOf Tryz.prog 76 = some ⟨.func, 1, 8, .k .nilFunc⟩ := by kernel_rfl
@[go_sem] theorem ti77 : tiOf Tryz.prog 77 = some ⟨.map 9 26, 1, 8, .d (.map [] [])⟩ := by kernel_rfl
@[go_sem] theorem ti78 : tiOf Tryz.prog 78 = some ⟨.struct [(0, 26), (1, 77), (2, 77)], 3, 40, .agg [.nils, .d (.map [] []), .d (.map [] [])]⟩ := by kernel_rfl
@[go_sem] theorem eq78 : eqOk Tryz.prog 78 = true := by kernel_rfl
@[go_sem] theorem ti79 : tiOf Tryz.prog 79 = some ⟨.struct [(0, 26), (1, 77), (2, 77)], 3, 40, .agg [.nils, .d (.map [] []), .d (.map [] [])]⟩ := by kernel_rfl
@[go_sem] theorem eq79 : eqOk Tryz.prog 79 = true := by kernel_rfl
@[go_sem] theorem ti80 : tiOf Tryz.prog 80 = some ⟨.func, 1, 8, .k .nilFunc⟩ := by kernel_rfl
@[go_sem] theorem ti81 : tiOf Tryz.prog 81 = some ⟨.func, 1, 8, .k .nilFunc⟩ := by kernel_rfl
@[go_sem] theorem ti82 : tiOf Tryz.prog 82 = some ⟨.func, 1, 8, .k .nilFunc⟩ := by kernel_rfl
@[go_sem] theorem ti83 : tiOf Tryz.prog 83 = some ⟨.func, 1, 8, .k .nilFunc⟩ := by kernel_rfl
@[go_sem] theorem ti84 : tiOf Tryz.prog 84 = some ⟨.func, 1, 8, .k .nilFunc⟩ := by kernel_rfl
@[go_sem] theorem ti85 : tiOf Tryz.prog 85 = some ⟨.func, 1, 8, .k .nilFunc⟩ := by kernel_rfl
@[go_sem] theorem ti86 : tiOf Tryz.prog 86 = some ⟨.func, 1, 8, .k .nilFunc⟩ := by kernel_rfl
@[go_sem] theorem ti87 : tiOf Tryz.prog 87 = some ⟨.slice 98, 1, 24, .nils⟩ := by kernel_rfl
@[go_sem] theorem ti89 : tiOf Tryz.prog 89 = some ⟨.func, 1, 8, .k .nilFunc⟩ := by kernel_rfl
@[go_sem] theorem ti90 : tiOf Tryz.prog 90 = some ⟨.arr 2 32, 4, 32, .d (.agg [.int .i64 0, .int .i64 0, .int .i64 0, .int .i64 0])⟩ := by kernel_rfl
@[go_sem] theorem ti91 : tiOf Tryz.prog 91 = some ⟨.func, 1, 8, .k .nilFunc⟩ := by kernel_rfl
@[go_sem] theorem ti92 : tiOf Tryz.prog 92 = some ⟨.func, 1, 8, .k .nilFunc⟩ := by kernel_rfl
@[go_sem] theorem ti94 : tiOf Tryz.prog 94 = some ⟨.func, 1, 8, .k .nilFunc⟩ := by kernel_rfl
@[go_sem] theorem ti95 : tiOf Tryz.prog 95 = some ⟨.func, 1, 8, .k .nilFunc⟩ := by kernel_rfl
@[go_sem] theorem ti96 : tiOf Tryz.prog 96 = some ⟨.func, 1, 8, .k .nilFunc⟩ := by kernel_rfl
@[go_sem] theorem ti97 : tiOf Tryz.prog 97 = some ⟨.struct [(0, 9), (1, 3)], 2, 24, .d (.agg [.str [], .int .i64 0])⟩ := by kernel_rfl
@[go_sem] theorem eq97 : eqOk Tryz.prog 97 = true := by kernel_rfl
@[go_sem] theorem ti98 : tiOf Tryz.prog 98 = some ⟨.struct [(0, 9), (1, 3)], 2, 24, .d (.agg [.str [], .int .i64 0])⟩ := by kernel_rfl
@[go_sem] theorem eq98 : eqOk Tryz.prog 98 = true := by kernel_rfl
@[go_sem] theorem ti99 : tiOf Tryz.prog 99 = some ⟨.func, 1, 8, .k .nilFunc⟩ := by kernel_rfl
@[go_sem] theorem ti100 : tiOf Tryz.prog 100 = some ⟨.func, 1, 8, .k .nilFunc⟩ := by kernel_rfl
@[go_sem] theorem ti101 : tiOf Tryz.prog 101 = some ⟨.map 9 90, 1, 8, .d (.map [] [])⟩ := by kernel_rfl
@[go_sem] theorem ti102 : tiOf Tryz.prog 102 = some ⟨.func, 1, 8, .k .nilFunc⟩ := by kernel_rfl
@[go_sem] theorem ti103 : tiOf Tryz.prog 103 = some ⟨.func, 1, 8, .k .nilFunc⟩ := by kernel_rfl
@[go_sem] theorem ti104 : tiOf Tryz.prog 104 = some ⟨.func, 1, 8, .k .nilFunc⟩ := by kernel_rfl
@[go_sem] theorem ti105 : tiOf Tryz.prog 105 = some ⟨.func, 1, 8, .k .nilFunc⟩ := by kernel_rfl
@[go_sem] theorem ti106 : tiOf Tryz.prog 106 = some ⟨.func, 1, 8, .k .nilFunc⟩ := by kernel_rfl
@[go_sem] theorem ti107 : tiOf Tryz.prog 107 = some ⟨.func, 1, 8, .k .nilFunc⟩ := by kernel_rfl
@[go_sem] theorem ti108 : tiOf Tryz.prog 108 = some ⟨.ptr 112, 1, 8, .d (.nilp)⟩ := by kernel_rfl
@[go_sem] theorem ti109 : tiOf Tryz.prog 109 = some ⟨.func, 1, 8, .k .nilFunc⟩ := by kernel_rfl
@[go_sem] theorem ti110 : tiOf Tryz.prog 110 = some ⟨.slice 22, 1, 24, .nils⟩ := by kernel_rfl
@[go_sem] theorem ti111 : tiOf Tryz.prog 111 = some ⟨.struct [(0, 47), (1, 110)], 2, 48, .agg [.nils, .nils]⟩ := by kernel_rfl
@[go_sem] theorem eq111 : eqOk Tryz.prog 111 = true := by kernel_rfl
@[go_sem] theorem ti112 : tiOf Tryz.prog 112 = some ⟨.struct [(0, 47), (1, 110)], 2, 48, .agg [.nils, .nils]⟩ := by kernel_rfl
@[go_sem] theorem eq112 : eqOk Tryz.prog 112 = true := by kernel_rfl
@[go_sem] theorem ti113 : tiOf Tryz.prog 113 = some ⟨.func, 1, 8, .k .nilFunc⟩ := by kernel_rfl
@[go_sem] theorem ti114 : tiOf Tryz.prog 114 = some ⟨.func, 1, 8, .k .nilFunc⟩ := by kernel_rfl
@[go_sem] theorem ti115 : tiOf Tryz.prog 115 = some ⟨.map 9 4, 1, 8, .d (.map [] [])⟩ := by kernel_rfl
@[go_sem] theorem ti116 : tiOf Tryz.prog 116 = some ⟨.func, 1, 8, .k .nilFunc⟩ := by kernel_rfl
@[go_sem] theorem ti117 : tiOf Tryz.prog 117 = some ⟨.func, 1, 8, .k .nilFunc⟩ := by kernel_rfl
@[go_sem] theorem ti118 : tiOf Tryz.prog 118 = some ⟨.func, 1, 8, .k .nilFunc⟩ := by kernel_rfl
@[go_sem] theorem ti119 : tiOf Tryz.prog 119 = some ⟨.func, 1, 8, .k .nilFunc⟩ := by kernel_rfl
@[go_sem] theorem ti120 : tiOf Tryz.prog 120 = some ⟨.func, 1, 8, .k .nilFunc⟩ := by kernel_rfl
@[go_sem] theorem ti121 : tiOf Tryz.prog 121 = some ⟨.func, 1, 8, .k .nilFunc⟩ := by kernel_rfl
@[go_sem] theorem ti122 : tiOf Tryz.prog 122 = some ⟨.func, 1, 8, .k .nilFunc⟩ := by kernel_rfl
@[go_sem] theorem ti123 : tiOf Tryz.prog 123 = some ⟨.func, 1, 8, .k .nilFunc⟩ := by kernel_rfl
@[go_sem] theorem ti124 : tiOf Tryz.prog 124 = some ⟨.func, 1, 8, .k .nilFunc⟩ := by kernel_rfl
@[go_sem] theorem ti125 : tiOf Tryz.prog 125 = some ⟨.func, 1, 8, .k .nilFunc⟩ := by kernel_rfl
@[go_sem] theorem ti126 : tiOf Tryz.prog 126 = some ⟨.int .u64, 1, 8, .d (.int .u64 0)⟩ := by kernel_rfl
@[go_sem] theorem ti127 : tiOf Tryz.prog 127 = some ⟨.map 9 131, 1, 8, .d (.map [] [])⟩ := by kernel_rfl
@[go_sem] theorem ti128 : tiOf Tryz.prog 128 = some ⟨.func, 1, 8, .k .nilFunc⟩ := by kernel_rfl
@[go_sem] theorem ti129 : tiOf Tryz.prog 129 = some ⟨.func, 1, 8, .k .nilFunc⟩ := by kernel_rfl
@[go_sem] theorem ti130 : tiOf Tryz.prog 130 = some ⟨.struct [(0, 32), (2, 32)], 4, 32, .d (.agg [.int .i64 0, .int .i64 0, .int .i64 0, .int .i64 0])⟩ := by kernel_rfl
@[go_sem] theorem eq130 : eqOk Tryz.prog 130 = true := by kernel_rfl
@[go_sem] theorem ti131 : tiOf Tryz.prog 131 = some ⟨.struct [(0, 32), (2, 32)], 4, 32, .d (.agg [.int .i64 0, .int .i64 0, .int .i64 0, .int .i64 0])⟩ := by kernel_rfl
@[go_sem] theorem eq131 : eqOk Tryz.prog 131 = true := by kernel_rfl
@[go_sem] theorem ti132 : tiOf Tryz.prog 132 = some ⟨.func, 1, 8, .k .nilFunc⟩ := by kernel_rfl
@[go_sem] theorem ti133 : tiOf Tryz.prog 133 = some ⟨.func, 1, 8, .k .nilFunc⟩ := by kernel_rfl
@[go_sem] theorem ti134 : tiOf Tryz.prog 134 = some ⟨.func, 1, 8, .k .nilFunc⟩ := by kernel_rfl
@[go_sem] theorem ti135 : tiOf Tryz.prog 135 = some ⟨.func, 1, 8, .k .nilFunc⟩ := by kernel_rfl
@[go_sem] theorem ti136 : tiOf Tryz.prog 136 = some ⟨.func, 1, 8, .k .nilFunc⟩ := by kernel_rfl
@[go_sem] theorem ti137 : tiOf Tryz.prog 137 = some ⟨.func, 1, 8, .k .nilFunc⟩ := by kernel_rfl
@[go_sem] theorem ti138 : tiOf Tryz.prog 138 = some ⟨.func, 1, 8, .k .nilFunc⟩ := by kernel_rfl
@[go_sem] theorem ti139 : tiOf Tryz.prog 139 = some ⟨.func, 1, 8, .k .nilFunc⟩ := by kernel_rfl
@[go_sem] theorem ti140 : tiOf Tryz.prog 140 = some ⟨.int .i64, 1, 8, .d (.int .i64 0)⟩ := by kernel_rfl
@[go_sem] theorem ti142 : tiOf Tryz.prog 142 = some ⟨.func, 1, 8, .k .nilFunc⟩ := by kernel_rfl
@[go_sem] theorem ti143 : tiOf Tryz.prog 143 = some ⟨.func, 1, 8, .k .nilFunc⟩ := by kernel_rfl
@[go_sem] theorem ti144 : tiOf Tryz.prog 144 = some ⟨.func, 1, 8, .k .nilFunc⟩ := by kernel_rfl
@[go_sem] theorem ti145 : tiOf Tryz.prog 145 = some ⟨.func, 1, 8, .k .nilFunc⟩ := by kernel_rfl
@[go_sem] theorem ti146 : tiOf Tryz.prog 146 = some ⟨.func, 1, 8, .k .nilFunc⟩ := by kernel_rfl
@[go_sem] theorem ti147 : tiOf Tryz.prog 147 = some ⟨.func, 1, 8, .k .nilFunc⟩ := by kernel_rfl
@[go_sem] theorem ti148 : tiOf Tryz.prog 148 = some ⟨.int .u32, 1, 4, .d (.int .u32 0)⟩ := by kernel_rfl
@[go_sem] theorem ti149 : tiOf Tryz.prog 149 = some ⟨.func, 1, 8, .k .nilFunc⟩ := by kernel_rfl
@[go_sem] theorem ti150 : tiOf Tryz.prog 150 = some ⟨.int .u64, 1, 8, .d (.int .u64 0)⟩ := by kernel_rfl
@[go_sem] theorem ti151 : tiOf Tryz.prog 151 = some ⟨.func, 1, 8, .k .nilFunc⟩ := by kernel_rfl
@[go_sem] theorem ti152 : tiOf Tryz.prog 152 = some ⟨.func, 1, 8, .k .nilFunc⟩ := by kernel_rfl
@[go_sem] theorem ti154 : tiOf Tryz.prog 154 = some ⟨.func, 1, 8, .k .nilFunc⟩ := by kernel_rfl
@[go_sem] theorem ti155 : tiOf Tryz.prog 155 = some ⟨.func, 1, 8, .k .nilFunc⟩ := by kernel_rfl
@[go_sem] theorem ti156 : tiOf Tryz.prog 156 = some ⟨.func, 1, 8, .k .nilFunc⟩ := by kernel_rfl
@[go_sem] theorem ti157 : tiOf Tryz.prog 157 = some ⟨.func, 1, 8, .k .nilFunc⟩ := by kernel_rfl
@[go_sem] theorem ti161 : tiOf Tryz.prog 161 = some ⟨.func, 1, 8, .k .nilFunc⟩ := by kernel_rfl
@[go_sem] theorem ti162 : tiOf Tryz.prog 162 = some ⟨.func, 1, 8, .k .nilFunc⟩ := by kernel_rfl
@[go_sem] theorem ti163 : tiOf Tryz.prog 163 = some ⟨.ptr 159, 1, 8, .d (.nilp)⟩ := by kernel_rfl
@[go_sem] theorem ti164 : tiOf Tryz.prog 164 = some ⟨.func, 1, 8, .k .nilFunc⟩ := by kernel_rfl
@[go_sem] theorem ti165 : tiOf Tryz.prog 165 = some ⟨.func, 1, 8, .k .nilFunc⟩ := by kernel_rfl
@[go_sem] theorem ti166 : tiOf Tryz.prog 166 = some ⟨.int .u64, 1, 8, .d (.int .u64 0)⟩ := by kernel_rfl
@[go_sem] theorem ti167 : tiOf Tryz.prog 167 = some ⟨.func, 1, 8, .k .nilFunc⟩ := by kernel_rfl
@[go_sem] theorem ti168 : tiOf Tryz.prog 168 = some ⟨.func, 1, 8, .k .nilFunc⟩ := by kernel_rfl
@[go_sem] theorem ti169 : tiOf Tryz.prog 169 = some ⟨.func, 1, 8, .k .nilFunc⟩ := by kernel_rfl
@[go_sem] theorem ti170 : tiOf Tryz.prog 170 = some ⟨.ptr 3, 1, 8, .d (.nilp)⟩ := by kernel_rfl
@[go_sem] theorem ti171 : tiOf Tryz.prog 171 = some ⟨.func, 1, 8, .k .nilFunc⟩ := by kernel_rfl
@[go_sem] theorem ti172 : tiOf Tryz.prog 172 = some ⟨.func, 1, 8, .k .nilFunc⟩ := by kernel_rfl
@[go_sem] theorem ti174 : tiOf Tryz.prog 174 = some ⟨.func, 1, 8, .k .nilFunc⟩ := by kernel_rfl
@[go_sem] theorem ti175 : tiOf Tryz.prog 175 = some ⟨.func, 1, 8, .k .nilFunc⟩ := by kernel_rfl
@[go_sem] theorem ti176 : tiOf Tryz.prog 176 = some ⟨.func, 1, 8, .k .nilFunc⟩ := by kernel_rfl
@[go_sem] theorem ti177 : tiOf Tryz.prog 177 = some ⟨.func, 1, 8, .k .nilFunc⟩ := by kernel_rfl
@[go_sem] theorem ti178 : tiOf Tryz.prog 178 = some ⟨.func, 1, 8, .k .nilFunc⟩ := by kernel_rfl
@[go_sem] theorem ti179 : tiOf Tryz.prog 179 = some ⟨.func, 1, 8, .k .nilFunc⟩ := by kernel_rfl
@[go_sem] theorem ti180 : tiOf Tryz.prog 180 = some ⟨.func, 1, 8, .k .nilFunc⟩ := by kernel_rfl
@[go_sem] theorem ti181 : tiOf Tryz.prog 181 = some ⟨.ptr 166, 1, 8, .d (.nilp)⟩ := by kernel_rfl
@[go_sem] theorem ti182 : tiOf Tryz.prog 182 = some ⟨.func, 1, 8, .k .nilFunc⟩ := by kernel_rfl
@[go_sem] theorem ti183 : tiOf Tryz.prog 183 = some ⟨.func, 1, 8, .k .nilFunc⟩ := by kernel_rfl
@[go_sem] theorem ti184 : tiOf Tryz.prog 184 = some ⟨.func, 1, 8, .k .nilFunc⟩ := by kernel_rfl
@[go_sem] theorem ti185 : tiOf Tryz.prog 185 = some ⟨.func, 1, 8, .k .nilFunc⟩ := by kernel_rfl
@[go_sem] theorem ti187 : tiOf Tryz.prog 187 = some ⟨.struct [(0, 5), (1, 5)], 2, 2, .d (.agg [.int .u8 0, .int .u8 0])⟩ := by kernel_rfl
@[go_sem] theorem eq187 : eqOk Tryz.prog 187 = true := by kernel_rfl
@[go_sem] theorem ti188 : tiOf Tryz.prog 188 = some ⟨.struct [(0, 5), (1, 5)], 2, 2, .d (.agg [.int .u8 0, .int .u8 0])⟩ := by kernel_rfl
@[go_sem] theorem eq188 : eqOk Tryz.prog 188 = true := by kernel_rfl
@[go_sem] theorem ti189 : tiOf Tryz.prog 189 = some ⟨.arr 16 188, 32, 32, .d (.agg [.int .u8 0, .int .u8 0, .int .u8 0, .int .u8 0, .int .u8 0, .int .u8 0, .int .u8 0, .int .u8 0, .int .u8 0, .int .u8 0, .int .u8 0, .int .u8 0, .int .u8 0, .int .u8 0, .int .u8 0, .int .u8 0, .int .u8 0, .int .u8 0, .int .u8 0, .int .u8 0, .int .u8 0, .int .u8 0, .int .u8 0, .int .u8 0, .int .u8 0, .int .u8 0, .int .u8 0, .int .u8 0, .int .u8 0, .int .u8 0, .int .u8 0, .int .u8 0])⟩ := by kernel_rfl
@[go_sem] theorem ti190 : tiOf Tryz.prog 190 = some ⟨.func, 1, 8, .k .nilFunc⟩ := by kernel_rfl
@[go_sem] theorem ti191 : tiOf Tryz.prog 191 = some ⟨.func, 1, 8, .k .nilFunc⟩ := by kernel_rfl
@[go_sem] theorem ti192 : tiOf Tryz.prog 192 = some ⟨.func, 1, 8, .k .nilFunc⟩ := by kernel_rfl
@[go_sem] theorem ti193 : tiOf Tryz.prog 193 = some ⟨.func, 1, 8, .k .nilFunc⟩ := by kernel_rfl
@[go_sem] theorem ti194 : tiOf Tryz.prog 194 = some ⟨.struct [(0, 17), (1, 17), (2, 17), (3, 9)], 4, 40, .d (.agg [.nilp, .nilp, .nilp, .str []])⟩ := by kernel_rfl
@[go_sem] theorem ti195 : tiOf Tryz.prog 195 = some ⟨.struct [(0, 17), (1, 17), (2, 17), (3, 9)], 4, 40, .d (.agg [.nilp, .nilp, .nilp, .str []])⟩ := by kernel_rfl
@[go_sem] theorem ti196 : tiOf Tryz.prog 196 = some ⟨.arr 0 16, 0, 0, .d (.agg [])⟩ := by kernel_rfl
@[go_sem] theorem ti197 : tiOf Tryz.prog 197 = some ⟨.struct [(0, 196)], 0, 0, .d (.agg [])⟩ := by kernel_rfl
@[go_sem] theorem ti198 : tiOf Tryz.prog 198 = some ⟨.struct [(0, 196)], 0, 0, .d (.agg [])⟩ := by kernel_rfl
@[go_sem] theorem ti199 : tiOf Tryz.prog 199 = some ⟨.func, 1, 8, .k .nilFunc⟩ := by kernel_rfl
@[go_sem] theorem ti200 : tiOf Tryz.prog 200 = some ⟨.int .u8, 1, 1, .d (.int .u8 0)⟩ := by kernel_rfl
@[go_sem] theorem ti201 : tiOf Tryz.prog 201 = some ⟨.int .u8, 1, 1, .d (.int .u8 0)⟩ := by kernel_rfl
@[go_sem] theorem ti202 : tiOf Tryz.prog 202 = some ⟨.func, 1, 8, .k .nilFunc⟩ := by kernel_rfl
@[go_sem] theorem ti203 : tiOf Tryz.prog 203 = some ⟨.ptr 5, 1, 8, .d (.nilp)⟩ := by kernel_rfl
@[go_sem] theorem ti204 : tiOf Tryz.prog 204 = some ⟨.int .i32, 1, 4, .d (.int .i32 0)⟩ := by kernel_rfl
@[go_sem] theorem ti205 : tiOf Tryz.prog 205 = some ⟨.int .i32, 1, 4, .d (.int .i32 0)⟩ := by kernel_rfl
@[go_sem] theorem ti206 : tiOf Tryz.prog 206 = some ⟨.struct [(0, 12), (1, 12), (2, 148), (3, 200), (4, 5), (5, 5), (6, 201), (7, 202), (8, 203), (9, 204), (10, 205)], 11, 48, .agg [.d (.int .u64 0), .d (.int .u64 0), .d (.int .u32 0), .d (.int .u8 0), .d (.int .u8 0), .d (.int .u8 0), .d (.int .u8 0), .k .nilFunc, .d (.nilp), .d (.int .i32 0), .d (.int .i32 0)]⟩ := by kernel_rfl
@[go_sem] theorem ti207 : tiOf Tryz.prog 207 = some ⟨.struct [(0, 12), (1, 12), (2, 148), (3, 200), (4, 5), (5, 5), (6, 201), (7, 202), (8, 203), (9, 204), (10, 205)], 11, 48, .agg [.d (.int .u64 0), .d (.int .u64 0), .d (.int .u32 0), .d (.int .u8 0), .d (.int .u8 0), .d (.int .u8 0), .d (.int .u8 0), .k .nilFunc, .d (.nilp), .d (.int .i32 0), .d (.int .i32 0)]⟩ := by kernel_rfl
@[go_sem] theorem ti208 : tiOf Tryz.prog 208 = some ⟨.uptr, 1, 8, .d (.nilp)⟩ := by kernel_rfl
theorem hmix : Tryz.prog.follows .mixedOrders = true := by kernel_rfl
end Go.AX
