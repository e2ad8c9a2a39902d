/- What AX knows of the types of the program. -/
import Derived.Test.YtafkgameionciaaDoorAx24
import Derived.Test.YtafkgameionciaaDoorChecked
import Derived.KernelRfl
set_option linter.unusedSimpArgs false
set_option linter.unusedVariables false
namespace Go.AX
open Go Go.Proofs
@[go_sem] theorem ti1 : tiOf Tryd.prog 1 = some ⟨.func, 1, 8, .k .nilFunc⟩ := by kernel_rfl
@[go_sem] theorem ti2 : tiOf Tryd.prog 2 = some ⟨.int .i64, 1, 8, .d (.int .i64 0)⟩ := by kernel_rfl
@[go_sem] theorem ti3 : tiOf Tryd.prog 3 = some ⟨.int .i64, 1, 8, .d (.int .i64 0)⟩ := by kernel_rfl
@[go_sem] theorem ti4 : tiOf Tryd.prog 4 = some ⟨.bool, 1, 1, .d (.bool false)⟩ := by kernel_rfl
@[go_sem] theorem ti5 : tiOf Tryd.prog 5 = some ⟨.int .u8, 1, 1, .d (.int .u8 0)⟩ := by kernel_rfl
@[go_sem] theorem ti6 : tiOf Tryd.prog 6 = some ⟨.int .u8, 1, 1, .d (.int .u8 0)⟩ := by kernel_rfl
@[go_sem] theorem ti7 : tiOf Tryd.prog 7 = some ⟨.struct [(0, 2), (1, 3), (2, 4), (3, 6)], 4, 24, .d (.agg [.int .i64 0, .int .i64 0, .bool false, .int .u8 0])⟩ := by kernel_rfl
@[go_sem] theorem eq7 : eqOk Tryd.prog 7 = true := by kernel_rfl
@[go_sem] theorem ti8 : tiOf Tryd.prog 8 = some ⟨.struct [(0, 2), (1, 3), (2, 4), (3, 6)], 4, 24, .d (.agg [.int .i64 0, .int .i64 0, .bool false, .int .u8 0])⟩ := by kernel_rfl
@[go_sem] theorem eq8 : eqOk Tryd.prog 8 = true := by kernel_rfl
@[go_sem] theorem ti9 : tiOf Tryd.prog 9 = some ⟨.str, 1, 16, .d (.str [])⟩ := by kernel_rfl
@[go_sem] theorem ti10 : tiOf Tryd.prog 10 = some ⟨.str, 1, 16, .d (.str [])⟩ := by kernel_rfl
@[go_sem] theorem ti11 : tiOf Tryd.prog 11 = some ⟨.str, 1, 16, .d (.str [])⟩ := by kernel_rfl
@[go_sem] theorem ti12 : tiOf Tryd.prog 12 = some ⟨.int .u64, 1, 8, .d (.int .u64 0)⟩ := by kernel_rfl
@[go_sem] theorem ti13 : tiOf Tryd.prog 13 = some ⟨.struct [(0, 9), (1, 12)], 2, 24, .d (.agg [.str [], .int .u64 0])⟩ := by kernel_rfl
@[go_sem] theorem ti14 : tiOf Tryd.prog 14 = some ⟨.struct [(0, 9), (1, 12)], 2, 24, .d (.agg [.str [], .int .u64 0])⟩ := by kernel_rfl
@[go_sem] theorem ti15 : tiOf Tryd.prog 15 = some ⟨.ptr 183, 1, 8, .d (.nilp)⟩ := by kernel_rfl
@[go_sem] theorem ti16 : tiOf Tryd.prog 16 = some ⟨.ptr 186, 1, 8, .d (.nilp)⟩ := by kernel_rfl
@[go_sem] theorem ti17 : tiOf Tryd.prog 17 = some ⟨.ptr 193, 1, 8, .d (.nilp)⟩ := by kernel_rfl
@[go_sem] theorem ti18 : tiOf Tryd.prog 18 = some ⟨.struct [(0, 17)], 1, 8, .d (.agg [.nilp])⟩ := by kernel_rfl
@[go_sem] theorem ti19 : tiOf Tryd.prog 19 = some ⟨.struct [(0, 17)], 1, 8, .d (.agg [.nilp])⟩ := by kernel_rfl
@[go_sem] theorem ti20 : tiOf Tryd.prog 20 = some ⟨.iface, 1, 16, .d (.nili)⟩ := by kernel_rfl
@[go_sem] theorem ti21 : tiOf Tryd.prog 21 = some ⟨.int .i32, 1, 4, .d (.int .i32 0)⟩ := by kernel_rfl
@[go_sem] theorem ti22 : tiOf Tryd.prog 22 = some ⟨.slice 3, 1, 24, .nils⟩ := by kernel_rfl
@[go_sem] theorem ti23 : tiOf Tryd.prog 23 = some ⟨.ptr 25, 1, 8, .d (.nilp)⟩ := by kernel_rfl
@[go_sem] theorem ti24 : tiOf Tryd.prog 24 = some ⟨.struct [(0, 22), (1, 3)], 2, 32, .agg [.nils, .d (.int .i64 0)]⟩ := by kernel_rfl
@[go_sem] theorem eq24 : eqOk Tryd.prog 24 = true := by kernel_rfl
@[go_sem] theorem ti25 : tiOf Tryd.prog 25 = some ⟨.struct [(0, 22), (1, 3)], 2, 32, .agg [.nils, .d (.int .i64 0)]⟩ := by kernel_rfl
@[go_sem] theorem eq25 : eqOk Tryd.prog 25 = true := by kernel_rfl
@[go_sem] theorem ti26 : tiOf Tryd.prog 26 = some ⟨.slice 38, 1, 24, .nils⟩ := by kernel_rfl
@[go_sem] theorem ti27 : tiOf Tryd.prog 27 = some ⟨.func, 1, 8, .k .nilFunc⟩ := by kernel_rfl
@[go_sem] theorem ti28 : tiOf Tryd.prog 28 = some ⟨.slice 36, 1, 24, .nils⟩ := by kernel_rfl
@[go_sem] theorem ti29 : tiOf Tryd.prog 29 = some ⟨.func, 1, 8, .k .nilFunc⟩ := by kernel_rfl
@[go_sem] theorem ti30 : tiOf Tryd.prog 30 = some ⟨.int .i64, 1, 8, .d (.int .i64 0)⟩ := by kernel_rfl
@[go_sem] theorem ti31 : tiOf Tryd.prog 31 = some ⟨.func, 1, 8, .k .nilFunc⟩ := by kernel_rfl
@[go_sem] theorem ti32 : tiOf Tryd.prog 32 = some ⟨.func, 1, 8, .k .nilFunc⟩ := by kernel_rfl
@[go_sem] theorem ti34 : tiOf Tryd.prog 34 = some ⟨.func, 1, 8, .k .nilFunc⟩ := by kernel_rfl
@[go_sem] theorem ti35 : tiOf Tryd.prog 35 = some ⟨.struct [(0, 9), (1, 3)], 2, 24, .d (.agg [.str [], .int .i64 0])⟩ := by kernel_rfl
@[go_sem] theorem eq35 : eqOk Tryd.prog 35 = true := by kernel_rfl
@[go_sem] theorem ti36 : tiOf Tryd.prog 36 = some ⟨.struct [(0, 9), (1, 3)], 2, 24, .d (.agg [.str [], .int .i64 0])⟩ := by kernel_rfl
@[go_sem] theorem eq36 : eqOk Tryd.prog 36 = true := by kernel_rfl
@[go_sem] theorem ti37 : tiOf Tryd.prog 37 = some ⟨.struct [(0, 9), (1, 9)], 2, 32, .d (.agg [.str [], .str []])⟩ := by kernel_rfl
@[go_sem] theorem eq37 : eqOk Tryd.prog 37 = true := by kernel_rfl
@[go_sem] theorem ti38 : tiOf Tryd.prog 38 = some ⟨.struct [(0, 9), (1, 9)], 2, 32, .d (.agg [.str [], .str []])⟩ := by kernel_rfl
@[go_sem] theorem eq38 : eqOk Tryd.prog 38 = true := by kernel_rfl
@[go_sem] theorem ti39 : tiOf Tryd.prog 39 = some ⟨.slice 9, 1, 24, .nils⟩ := by kernel_rfl
@[go_sem] theorem ti41 : tiOf Tryd.prog 41 = some ⟨.func, 1, 8, .k .nilFunc⟩ := by kernel_rfl
@[go_sem] theorem ti42 : tiOf Tryd.prog 42 = some ⟨.func, 1, 8, .k .nilFunc⟩ := by kernel_rfl
@[go_sem] theorem ti43 : tiOf Tryd.prog 43 = some ⟨.func, 1, 8, .k .nilFunc⟩ := by kernel_rfl
@[go_sem] theorem ti44 : tiOf Tryd.prog 44 = some ⟨.func, 1, 8, .k .nilFunc⟩ := by kernel_rfl
@[go_sem] theorem ti45 : tiOf Tryd.prog 45 = some ⟨.func, 1, 8, .k .nilFunc⟩ := by kernel_rfl
@[go_sem] theorem ti46 : tiOf Tryd.prog 46 = some ⟨.func, 1, 8, .k .nilFunc⟩ := by kernel_rfl
@[go_sem] theorem ti47 : tiOf Tryd.prog 47 = some ⟨.func, 1, 8, .k .nilFunc⟩ := by kernel_rfl
@[go_sem] theorem ti48 : tiOf Tryd.prog 48 = some ⟨.func, 1, 8, .k .nilFunc⟩ := by kernel_rfl
@[go_sem] theorem ti49 : tiOf Tryd.prog 49 = some ⟨.struct [(0, 3), (1, 3)], 2, 16, .d (.agg [.int .i64 0, .int .i64 0])⟩ := by kernel_rfl
@[go_sem] theorem eq49 : eqOk Tryd.prog 49 = true := by kernel_rfl
@[go_sem] theorem ti50 : tiOf Tryd.prog 50 = some ⟨.struct [(0, 3), (1, 3)], 2, 16, .d (.agg [.int .i64 0, .int .i64 0])⟩ := by kernel_rfl
@[go_sem] theorem eq50 : eqOk Tryd.prog 50 = true := by kernel_rfl
@[go_sem] theorem ti52 : tiOf Tryd.prog 52 = some ⟨.func, 1, 8, .k .nilFunc⟩ := by kernel_rfl
@[go_sem] theorem ti53 : tiOf Tryd.prog 53 = some ⟨.func, 1, 8, .k .nilFunc⟩ := by kernel_rfl
@[go_sem] theorem ti55 : tiOf Tryd.prog 55 = some ⟨.func, 1, 8, .k .nilFunc⟩ := by kernel_rfl
@[go_sem] theorem ti57 : tiOf Tryd.prog 57 = some ⟨.func, 1, 8, .k .nilFunc⟩ := by kernel_rfl
@[go_sem] theorem ti58 : tiOf Tryd.prog 58 = some ⟨.func, 1, 8, .k .nilFunc⟩ := by kernel_rfl
@[go_sem] theorem ti59 : tiOf Tryd.prog 59 = some ⟨.func, 1, 8, .k .nilFunc⟩ := by kernel_rfl
@[go_sem] theorem ti60 : tiOf Tryd.prog 60 = some ⟨.func, 1, 8, .k .nilFunc⟩ := by kernel_rfl
@[go_sem] theorem ti61 : tiOf Tryd.prog 61 = some ⟨.func, 1, 8, .k .nilFunc⟩ := by kernel_rfl
@[go_sem] theorem ti62 : tiOf Tryd.prog 62 = some ⟨.func, 1, 8, .k .nilFunc⟩ := by kernel_rfl
@[go_sem] theorem ti63 : tiOf Tryd.prog 63 = some ⟨.func, 1, 8, .k .nilFunc⟩ := by kernel_rfl
@[go_sem] theorem ti64 : tiOf Tryd.prog 64 = some ⟨.func, 1, 8, .k .nilFunc⟩ := by kernel_rfl
@[go_sem] theorem ti65 : tiOf Tryd.prog 65 = some ⟨.func, 1, 8, .k .nilFunc⟩ := by kernel_rfl
@[go_sem] theorem ti66 : tiOf Tryd.prog 66 = some ⟨.map 9 39, 1, 8, .d (.map [] [])⟩ := by kernel_rfl
@[go_sem] theorem ti67 : tiOf Tryd.prog 67 = some ⟨.map 9 39, 1, 8, .d (.map [] [])⟩ := by kernel_rfl
@[go_sem] theorem ti69 : tiOf Tryd.prog 69 = some ⟨.func, 1, 8, .k .nilFunc⟩ := by kernel_rfl
@[go_sem] theorem ti70 : tiOf Tryd.prog 70 = some ⟨.func, 1, 8, .k .nilFunc⟩ := by kernel_rfl
@[go_sem] theorem ti71 : tiOf Tryd.prog 71 = some ⟨.struct [(0, 9), (1, 9), (2, 50)], 4, 48, .d (.agg [.str [], .str [], .int .i64 0, .int .i64 0])⟩ := by kernel_rfl
@[go_sem] theorem eq71 : eqOk Tryd.prog 71 = true := by kernel_rfl
@[go_sem] theorem ti72 : tiOf Tryd.prog 72 = some ⟨.struct [(0, 9), (1, 9), (2, 50)], 4, 48, .d (.agg [.str [], .str [], .int .i64 0, .int .i64 0])⟩ := by kernel_rfl
@[go_sem] theorem eq72 : eqOk Tryd.prog 72 = true := by kernel_rfl
@[go_sem] theorem ti73 : tiOf Tryd.prog 73 = some ⟨.func, 1, 8, .k .nilFunc⟩ := by kernel_rfl
@[go_sem] theorem ti74 : tiOf Tryd.prog 74 = some ⟨.func, 1, 8, .k .nilFunc⟩ := by kernel_rfl
@[go_sem] theorem ti75 : tiOf Tryd.prog 75 = some ⟨.func, 1, 8, .k .nilFunc⟩ := by kernel_rfl
@[go_sem] theorem ti76 : tiOf Tryd.prog 76 = some ⟨.func, 1, 8, .k .nilFunc⟩ := by kernel_rfl
@[go_sem] theorem ti77 : tiOf Tryd.prog 77 = some ⟨.func, 1, 8, .k .nilFunc⟩ := by kernel_rfl
@[go_sem] theorem ti78 : tiOf Tryd.prog 78 = some ⟨.func, 1, 8, .k .nilFunc⟩ := by kernel_rfl
@[go_sem] theorem ti79 : tiOf Tryd.prog 79 = some ⟨.func, 1, 8, .k .nilFunc⟩ := by kernel_rfl
@[go_sem] theorem ti81 : tiOf Tryd.prog 81 = some ⟨.func, 1, 8, .k .nilFunc⟩ := by kernel_rfl
@[go_sem] theorem ti83 : tiOf Tryd.prog 83 = some ⟨.func, 1, 8, .k .nilFunc⟩ := by kernel_rfl
@[go_sem] theorem ti84 : tiOf Tryd.prog 84 = some ⟨.func, 1, 8, .k .nilFunc⟩ := by kernel_rfl
@[go_sem] theorem ti85 : tiOf Tryd.prog 85 = some ⟨.slice 90, 1, 24, .nils⟩ := by kernel_rfl
@[go_sem] theorem ti86 : tiOf Tryd.prog 86 = some ⟨.func, 1, 8, .k .nilFunc⟩ := by kernel_rfl
@[go_sem] theorem ti87 : tiOf Tryd.prog 87 = some ⟨.struct [(0, 3), (1, 3)], 2, 16, .d (.agg [.int .i64 0, .int .i64 0])⟩ := by kernel_rfl
@[go_sem] theorem eq87 : eqOk Tryd.prog 87 = true := by kernel_rfl
@[go_sem] theorem ti88 : tiOf Tryd.prog 88 = some ⟨.struct [(0, 3), (1, 3)], 2, 16, .d (.agg [.int .i64 0, .int .i64 0])⟩ := by kernel_rfl
@[go_sem] theorem eq88 : eqOk Tryd.prog 88 = true := by kernel_rfl
@[go_sem] theorem ti89 : tiOf Tryd.prog 89 = some ⟨.struct [(0, 9), (1, 88)], 3, 32, .d (.agg [.str [], .int .i64 0, .int .i64 0])⟩ := by kernel_rfl
@[go_sem] theorem eq89 : eqOk Tryd.prog 89 = true := by kernel_rfl
@[go_sem] theorem ti90 : tiOf Tryd.prog 90 = some ⟨.struct [(0, 9), (1, 88)], 3, 32, .d (.agg [.str [], .int .i64 0, .int .i64 0])⟩ := by kernel_rfl
@[go_sem] theorem eq90 : eqOk Tryd.prog 90 = true := by kernel_rfl
@[go_sem] theorem ti91 : tiOf Tryd.prog 91 = some ⟨.ptr 94, 1, 8, .d (.nilp)⟩ := by kernel_rfl
@[go_sem] theorem ti92 : tiOf Tryd.prog 92 = some ⟨.slice 5, 1, 24, .nils⟩ := by kernel_rfl
@[go_sem] theorem ti93 : tiOf Tryd.prog 93 = some ⟨.struct [(0, 91), (1, 92)], 2, 32, .agg [.d (.nilp), .nils]⟩ := by kernel_rfl
@[go_sem] theorem eq93 : eqOk Tryd.prog 93 = true := by kernel_rfl
@[go_sem] theorem ti94 : tiOf Tryd.prog 94 = some ⟨.struct [(0, 91), (1, 92)], 2, 32, .agg [.d (.nilp), .nils]⟩ := by kernel_rfl
@[go_sem] theorem eq94 : eqOk Tryd.prog 94 = true := by kernel_rfl
@[go_sem] theorem ti95 : tiOf Tryd.prog 95 = some ⟨.func, 1, 8, .k .nilFunc⟩ := by kernel_rfl
@[go_sem] theorem ti96 : tiOf Tryd.prog 96 = some ⟨.iface, 1, 16, .d (.nili)⟩ := by kernel_rfl
@[go_sem] theorem ti97 : tiOf Tryd.prog 97 = some ⟨.iface, 1, 16, .d (.nili)⟩ := by kernel_rfl
@[go_sem] theorem ti99 : tiOf Tryd.prog 99 = some ⟨.func, 1, 8, .k .nilFunc⟩ := by kernel_rfl
@[go_sem] theorem ti101 : tiOf Tryd.prog 101 = some ⟨.func, 1, 8, .k .nilFunc⟩ := by kernel_rfl
@[go_sem] theorem ti102 : tiOf Tryd.prog 102 = some ⟨.func, 1, 8, .k .nilFunc⟩ := by kernel_rfl
@[go_sem] theorem ti103 : tiOf Tryd.prog 103 = some ⟨.func, 1, 8, .k .nilFunc⟩ := by kernel_rfl
@[go_sem] theorem ti104 : tiOf Tryd.prog 104 = some ⟨.func, 1, 8, .k .nilFunc⟩ := by kernel_rfl
@[go_sem] theorem ti105 : tiOf Tryd.prog 105 = some ⟨.func, 1, 8, .k .nilFunc⟩ := by kernel_rfl
@[go_sem] theorem ti106 : tiOf Tryd.prog 106 = some ⟨.func, 1, 8, .k .nilFunc⟩ := by kernel_rfl
@[go_sem] theorem ti107 : tiOf Tryd.prog 107 = some ⟨.func, 1, 8, .k .nilFunc⟩ := by kernel_rfl
@[go_sem] theorem ti108 : tiOf Tryd.prog 108 = some ⟨.func, 1, 8, .k .nilFunc⟩ := by kernel_rfl
@[go_sem] theorem ti109 : tiOf Tryd.prog 109 = some ⟨.func, 1, 8, .k .nilFunc⟩ := by kernel_rfl
@[go_sem] theorem ti111 : tiOf Tryd.prog 111 = some ⟨.func, 1, 8, .k .nilFunc⟩ := by kernel_rfl
@[go_sem] theorem ti112 : tiOf Tryd.prog 112 = some ⟨.func, 1, 8, .k .nilFunc⟩ := by kernel_rfl
@[go_sem] theorem ti113 : tiOf Tryd.prog 113 = some ⟨.func, 1, 8, .k .nilFunc⟩ := by kernel_rfl
@[go_sem] theorem ti114 : tiOf Tryd.prog 114 = some ⟨.func, 1, 8, .k .nilFunc⟩ := by kernel_rfl
@[go_sem] theorem ti115 : tiOf Tryd.prog 115 = some ⟨.func, 1, 8, .k .nilFunc⟩ := by kernel_rfl
@[go_sem] theorem ti116 : tiOf Tryd.prog 116 = some ⟨.func, 1, 8, .k .nilFunc⟩ := by kernel_rfl
@[go_sem] theorem ti117 : tiOf Tryd.prog 117 = some ⟨.func, 1, 8, .k .nilFunc⟩ := by kernel_rfl
@[go_sem] theorem ti118 : tiOf Tryd.prog 118 = some ⟨.func, 1, 8, .k .nilFunc⟩ := by kernel_rfl
@[go_sem] theorem ti119 : tiOf Tryd.prog 119 = some ⟨.func, 1, 8, .k .nilFunc⟩ := by kernel_rfl
@[go_sem] theorem ti120 : tiOf Tryd.prog 120 = some ⟨.func, 1, 8, .k .nilFunc⟩ := by kernel_rfl
@[go_sem] theorem ti121 : tiOf Tryd.prog 121 = some ⟨.int .u64, 1, 8, .d (.int .u64 0)⟩ := by kernel_rfl
@[go_sem] theorem ti123 : tiOf Tryd.prog 123 = some ⟨.func, 1, 8, .k .nilFunc⟩ := by kernel_rfl
@[go_sem] theorem ti124 : tiOf Tryd.prog 124 = some ⟨.func, 1, 8, .k .nilFunc⟩ := by kernel_rfl
@[go_sem] theorem ti125 : tiOf Tryd.prog 125 = some ⟨.func, 1, 8, .k .nilFunc⟩ := by kernel_rfl
@[go_sem] theorem ti126 : tiOf Tryd.prog 126 = some ⟨.slice 88, 1, 24, .nils⟩ := by kernel_rfl
@[go_sem] theorem ti127 : tiOf Tryd.prog 127 = some ⟨.func, 1, 8, .k .nilFunc⟩ := by kernel_rfl
@[go_sem] theorem ti128 : tiOf Tryd.prog 128 = some ⟨.func, 1, 8, .k .nilFunc⟩ := by kernel_rfl
@[go_sem] theorem ti129 : tiOf Tryd.prog 129 = some ⟨.func, 1, 8, .k .nilFunc⟩ := by kernel_rfl
@[go_sem] theorem ti130 : tiOf Tryd.prog 130 = some ⟨.func, 1, 8, .k .nilFunc⟩ := by kernel_rfl
@[go_sem] theorem ti131 : tiOf Tryd.prog 131 = some ⟨.slice 135, 1, 24, .nils⟩ := by kernel_rfl
@[go_sem] theorem ti132 : tiOf Tryd.prog 132 = some ⟨.func, 1, 8, .k .nilFunc⟩ := by kernel_rfl
@[go_sem] theorem ti133 : tiOf Tryd.prog 133 = some ⟨.func, 1, 8, .k .nilFunc⟩ := by kernel_rfl
@[go_sem] theorem ti134 : tiOf Tryd.prog 134 = some ⟨.struct [(0, 3), (1, 3), (2, 3)], 3, 24, .d (.agg [.int .i64 0, .int .i64 0, .int .i64 0])⟩ := by kernel_rfl
@[go_sem] theorem eq134 : eqOk Tryd.prog 134 = true := by kernel_rfl
@[go_sem] theorem ti135 : tiOf Tryd.prog 135 = some ⟨.struct [(0, 3), (1, 3), (2, 3)], 3, 24, .d (.agg [.int .i64 0, .int .i64 0, .int .i64 0])⟩ := by kernel_rfl
@[go_sem] theorem eq135 : eqOk Tryd.prog 135 = true := by kernel_rfl
@[go_sem] theorem ti136 : tiOf Tryd.prog 136 = some ⟨.func, 1, 8, .k .nilFunc⟩ := by kernel_rfl
@[go_sem] theorem ti137 : tiOf Tryd.prog 137 = some ⟨.func, 1, 8, .k .nilFunc⟩ := by kernel_rfl
@[go_sem] theorem ti138 : tiOf Tryd.prog 138 = some ⟨.map 9 9, 1, 8, .d (.map [] [])⟩ := by kernel_rfl
@[go_sem] theorem ti140 : tiOf Tryd.prog 140 = some ⟨.ptr 5, 1, 8, .d (.nilp)⟩ := by kernel_rfl
@[go_sem] theorem ti141 : tiOf Tryd.prog 141 = some ⟨.func, 1, 8, .k .nilFunc⟩ := by kernel_rfl
@[go_sem] theorem ti142 : tiOf Tryd.prog 142 = some ⟨.func, 1, 8, .k .nilFunc⟩ := by kernel_rfl
@[go_sem] theorem ti146 : tiOf Tryd.prog 146 = some ⟨.func, 1, 8, .k .nilFunc⟩ := by kernel_rfl
@[go_sem] theorem ti147 : tiOf Tryd.prog 147 = some ⟨.func, 1, 8, .k .nilFunc⟩ := by kernel_rfl
@[go_sem] theorem ti148 : tiOf Tryd.prog 148 = some ⟨.ptr 144, 1, 8, .d (.nilp)⟩ := by kernel_rfl
@[go_sem] theorem ti149 : tiOf Tryd.prog 149 = some ⟨.func, 1, 8, .k .nilFunc⟩ := by kernel_rfl
@[go_sem] theorem ti150 : tiOf Tryd.prog 150 = some ⟨.slice 50, 1, 24, .nils⟩ := by kernel_rfl
@[go_sem] theorem ti151 : tiOf Tryd.prog 151 = some ⟨.func, 1, 8, .k .nilFunc⟩ := by kernel_rfl
@[go_sem] theorem ti152 : tiOf Tryd.prog 152 = some ⟨.func, 1, 8, .k .nilFunc⟩ := by kernel_rfl
@[go_sem] theorem ti153 : tiOf Tryd.prog 153 = some ⟨.func, 1, 8, .k .nilFunc⟩ := by kernel_rfl
@[go_sem] theorem ti154 : tiOf Tryd.prog 154 = some ⟨.int .u32, 1, 4, .d (.int .u32 0)⟩ := by kernel_rfl
@[go_sem] theorem ti156 : tiOf Tryd.prog 156 = some ⟨.func, 1, 8, .k .nilFunc⟩ := by kernel_rfl
@[go_sem] theorem ti157 : tiOf Tryd.prog 157 = some ⟨.int .u64, 1, 8, .d (.int .u64 0)⟩ := by kernel_rfl
@[go_sem] theorem ti159 : tiOf Tryd.prog 159 = some ⟨.func, 1, 8, .k .nilFunc⟩ := by kernel_rfl
@[go_sem] theorem ti160 : tiOf Tryd.prog 160 = some ⟨.func, 1, 8, .k .nilFunc⟩ := by kernel_rfl
@[go_sem] theorem ti161 : tiOf Tryd.prog 161 = some ⟨.func, 1, 8, .k .nilFunc⟩ := by kernel_rfl
@[go_sem] theorem ti162 : tiOf Tryd.prog 162 = some ⟨.slice 22, 1, 24, .nils⟩ := by kernel_rfl
@[go_sem] theorem ti163 : tiOf Tryd.prog 163 = some ⟨.slice 4, 1, 24, .nils⟩ := by kernel_rfl
@[go_sem] theorem ti164 : tiOf Tryd.prog 164 = some ⟨.uptr, 1, 8, .d (.nilp)⟩ := by kernel_rfl
@[go_sem] theorem ti165 : tiOf Tryd.prog 165 = some ⟨.func, 1, 8, .k .nilFunc⟩ := by kernel_rfl
@[go_sem] theorem ti166 : tiOf Tryd.prog 166 = some ⟨.func, 1, 8, .k .nilFunc⟩ := by kernel_rfl
@[go_sem] theorem ti168 : tiOf Tryd.prog 168 = some ⟨.func, 1, 8, .k .nilFunc⟩ := by kernel_rfl
@[go_sem] theorem ti169 : tiOf Tryd.prog 169 = some ⟨.func, 1, 8, .k .nilFunc⟩ := by kernel_rfl
@[go_sem] theorem ti170 : tiOf Tryd.prog 170 = some ⟨.func, 1, 8, .k .nilFunc⟩ := by kernel_rfl
@[go_sem] theorem ti171 : tiOf Tryd.prog 171 = some ⟨.func, 1, 8, .k .nilFunc⟩ := by kernel_rfl
@[go_sem] theorem ti172 : tiOf Tryd.prog 172 = some ⟨.func, 1, 8, .k .nilFunc⟩ := by kernel_rfl
@[go_sem] theorem ti173 : tiOf Tryd.prog 173 = some ⟨.func, 1, 8, .k .nilFunc⟩ := by kernel_rfl
@[go_sem] theorem ti174 : tiOf Tryd.prog 174 = some ⟨.func, 1, 8, .k .nilFunc⟩ := by kernel_rfl
@[go_sem] theorem ti175 : tiOf Tryd.prog 175 = some ⟨.func, 1, 8, .k .nilFunc⟩ := by kernel_rfl
@[go_sem] theorem ti177 : tiOf Tryd.prog 177 = some ⟨.struct [(0, 5), (1, 5)], 2, 2, .d (.agg [.int .u8 0, .int .u8 0])⟩ := by kernel_rfl
@[go_sem] theorem eq177 : eqOk Tryd.prog 177 = true := by kernel_rfl
@[go_sem] theorem ti178 : tiOf Tryd.prog 178 = some ⟨.struct [(0, 5), (1, 5)], 2, 2, .d (.agg [.int .u8 0, .int .u8 0])⟩ := by kernel_rfl
@[go_sem] theorem eq178 : eqOk Tryd.prog 178 = true := by kernel_rfl
@[go_sem] theorem ti179 : tiOf Tryd.prog 179 = some ⟨.arr 16 178, 32, 32, .d (.agg [.int .u8 0, .int .u8 0, .int .u8 0, .int .u8 0, .int .u8 0, .int .u8 0, .int .u8 0, .int .u8 0, .int .u8 0, .int .u8 0, .int .u8 0, .int .u8 0, .int .u8 0, .int .u8 0, .int .u8 0, .int .u8 0, .int .u8 0, .int .u8 0, .int .u8 0, .int .u8 0, .int .u8 0, .int .u8 0, .int .u8 0, .int .u8 0, .int .u8 0, .int .u8 0, .int .u8 0, .int .u8 0, .int .u8 0, .int .u8 0, .int .u8 0, .int .u8 0])⟩ := by kernel_rfl
@[go_sem] theorem ti180 : tiOf Tryd.prog 180 = some ⟨.func, 1, 8, .k .nilFunc⟩ := by kernel_rfl
@[go_sem] theorem ti181 : tiOf Tryd.prog 181 = some ⟨.func, 1, 8, .k .nilFunc⟩ := by kernel_rfl
@[go_sem] theorem ti182 : tiOf Tryd.prog 182 = some ⟨.struct [(0, 17), (1, 17), (2, 17), (3, 9)], 4, 40, .d (.agg [.nilp, .nilp, .nilp, .str []])⟩ := by kernel_rfl
@[go_sem] theorem ti183 : tiOf Tryd.prog 183 = some ⟨.struct [(0, 17), (1, 17), (2, 17), (3, 9)], 4, 40, .d (.agg [.nilp, .nilp, .nilp, .str []])⟩ := by kernel_rfl
@[go_sem] theorem ti184 : tiOf Tryd.prog 184 = some ⟨.arr 0 16, 0, 0, .d (.agg [])⟩ := by kernel_rfl
@[go_sem] theorem ti185 : tiOf Tryd.prog 185 = some ⟨.struct [(0, 184)], 0, 0, .d (.agg [])⟩ := by kernel_rfl
@[go_sem] theorem ti186 : tiOf Tryd.prog 186 = some ⟨.struct [(0, 184)], 0, 0, .d (.agg [])⟩ := by kernel_rfl
@[go_sem] theorem ti187 : tiOf Tryd.prog 187 = some ⟨.int .u8, 1, 1, .d (.int .u8 0)⟩ := by kernel_rfl
@[go_sem] theorem ti188 : tiOf Tryd.prog 188 = some ⟨.int .u8, 1, 1, .d (.int .u8 0)⟩ := by kernel_rfl
@[go_sem] theorem ti189 : tiOf Tryd.prog 189 = some ⟨.func, 1, 8, .k .nilFunc⟩ := by kernel_rfl
@[go_sem] theorem ti190 : tiOf Tryd.prog 190 = some ⟨.int .i32, 1, 4, .d (.int .i32 0)⟩ := by kernel_rfl
@[go_sem] theorem ti191 : tiOf Tryd.prog 191 = some ⟨.int .i32, 1, 4, .d (.int .i32 0)⟩ := by kernel_rfl
@[go_sem] theorem ti192 : tiOf Tryd.prog 192 = some ⟨.struct [(0, 12), (1, 12), (2, 154), (3, 187), (4, 5), (5, 5), (6, 188), (7, 189), (8, 140), (9, 190), (10, 191)], 11, 48, .agg [.d (.int .u64 0), .d (.int .u64 0), .d (.int .u32 0), .d (.int .u8 0), .d (.int .u8 0), .d (.int .u8 0), .d (.int .u8 0), .k .nilFunc, .d (.nilp), .d (.int .i32 0), .d (.int .i32 0)]⟩ := by kernel_rfl
@[go_sem] theorem ti193 : tiOf Tryd.prog 193 = some ⟨.struct [(0, 12), (1, 12), (2, 154), (3, 187), (4, 5), (5, 5), (6, 188), (7, 189), (8, 140), (9, 190), (10, 191)], 11, 48, .agg [.d (.int .u64 0), .d (.int .u64 0), .d (.int .u32 0), .d (.int .u8 0), .d (.int .u8 0), .d (.int .u8 0), .d (.int .u8 0), .k .nilFunc, .d (.nilp), .d (.int .i32 0), .d (.int .i32 0)]⟩ := by kernel_rfl
theorem hmix : Tryd.prog.follows .mixedOrders = true := by kernel_rfl
end Go.AX
