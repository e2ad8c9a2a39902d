/- What AX knows of the types of the program. -/
import Derived.Test.YtmijnlfmphcbbaaDoorAx32
import Derived.Test.YtmijnlfmphcbbaaDoorChecked
import Derived.KernelRfl
set_option linter.unusedSimpArgs false
set_option linter.unusedVariables false
namespace Go.AX
open Go Go.Proofs
@[go_sem] theorem ti1 : tiOf Tryd.prog 1 = some ⟨.func, 1, 8, .k .nilFunc⟩ := by kernel_rfl
@[go_sem] theorem ti2 : tiOf Tryd.prog 2 = some ⟨.int .i64, 1, 8, .d (.int .i64 0)⟩ := by kernel_rfl
@[go_sem] theorem ti3 : tiOf Tryd.prog 3 = some ⟨.int .i64, 1, 8, .d (.int .i64 0)⟩ := by kernel_rfl
@[go_sem] theorem ti4 : tiOf Tryd.prog 4 = some ⟨.bool, 1, 1, .d (.bool false)⟩ := by kernel_rfl
@[go_sem] theorem ti5 : tiOf Tryd.prog 5 = some ⟨.int .u8, 1, 1, .d (.int .u8 0)⟩ := by kernel_rfl
@[go_sem] theorem ti6 : tiOf Tryd.prog 6 = some ⟨.int .u8, 1, 1, .d (.int .u8 0)⟩ := by kernel_rfl
@[go_sem] theorem ti7 : tiOf Tryd.prog 7 = some ⟨.struct [(0, 2), (1, 3), (2, 4), (3, 6)], 4, 24, .d (.agg [.int .i64 0, .int .i64 0, .bool false, .int .u8 0])⟩ := by kernel_rfl
@[go_sem] theorem eq7 : eqOk Tryd.prog 7 = true := by kernel_rfl
@[go_sem] theorem ti8 : tiOf Tryd.prog 8 = some ⟨.struct [(0, 2), (1, 3), (2, 4), (3, 6)], 4, 24, .d (.agg [.int .i64 0, .int .i64 0, .bool false, .int .u8 0])⟩ := by kernel_rfl
@[go_sem] theorem eq8 : eqOk Tryd.prog 8 = true := by kernel_rfl
@[go_sem] theorem ti9 : tiOf Tryd.prog 9 = some ⟨.str, 1, 16, .d (.str [])⟩ := by kernel_rfl
@[go_sem] theorem ti10 : tiOf Tryd.prog 10 = some ⟨.str, 1, 16, .d (.str [])⟩ := by kernel_rfl
@[go_sem] theorem ti11 : tiOf Tryd.prog 11 = some ⟨.str, 1, 16, .d (.str [])⟩ := by kernel_rfl
@[go_sem] theorem ti12 : tiOf Tryd.prog 12 = some ⟨.int .u64, 1, 8, .d (.int .u64 0)⟩ := by kernel_rfl
@[go_sem] theorem ti13 : tiOf Tryd.prog 13 = some ⟨.struct [(0, 9), (1, 12)], 2, 24, .d (.agg [.str [], .int .u64 0])⟩ := by kernel_rfl
@[go_sem] theorem ti14 : tiOf Tryd.prog 14 = some ⟨.struct [(0, 9), (1, 12)], 2, 24, .d (.agg [.str [], .int .u64 0])⟩ := by kernel_rfl
@[go_sem] theorem ti15 : tiOf Tryd.prog 15 = some ⟨.ptr 122, 1, 8, .d (.nilp)⟩ := by kernel_rfl
@[go_sem] theorem ti16 : tiOf Tryd.prog 16 = some ⟨.ptr 125, 1, 8, .d (.nilp)⟩ := by kernel_rfl
@[go_sem] theorem ti17 : tiOf Tryd.prog 17 = some ⟨.ptr 132, 1, 8, .d (.nilp)⟩ := by kernel_rfl
@[go_sem] theorem ti18 : tiOf Tryd.prog 18 = some ⟨.struct [(0, 17)], 1, 8, .d (.agg [.nilp])⟩ := by kernel_rfl
@[go_sem] theorem ti19 : tiOf Tryd.prog 19 = some ⟨.struct [(0, 17)], 1, 8, .d (.agg [.nilp])⟩ := by kernel_rfl
@[go_sem] theorem ti20 : tiOf Tryd.prog 20 = some ⟨.iface, 1, 16, .d (.nili)⟩ := by kernel_rfl
@[go_sem] theorem ti21 : tiOf Tryd.prog 21 = some ⟨.int .i32, 1, 4, .d (.int .i32 0)⟩ := by kernel_rfl
@[go_sem] theorem ti22 : tiOf Tryd.prog 22 = some ⟨.slice 3, 1, 24, .nils⟩ := by kernel_rfl
@[go_sem] theorem ti23 : tiOf Tryd.prog 23 = some ⟨.ptr 25, 1, 8, .d (.nilp)⟩ := by kernel_rfl
@[go_sem] theorem ti24 : tiOf Tryd.prog 24 = some ⟨.struct [(0, 22), (1, 3)], 2, 32, .agg [.nils, .d (.int .i64 0)]⟩ := by kernel_rfl
@[go_sem] theorem eq24 : eqOk Tryd.prog 24 = true := by kernel_rfl
@[go_sem] theorem ti25 : tiOf Tryd.prog 25 = some ⟨.struct [(0, 22), (1, 3)], 2, 32, .agg [.nils, .d (.int .i64 0)]⟩ := by kernel_rfl
@[go_sem] theorem eq25 : eqOk Tryd.prog 25 = true := by kernel_rfl
@[go_sem] theorem ti26 : tiOf Tryd.prog 26 = some ⟨.func, 1, 8, .k .nilFunc⟩ := by kernel_rfl
@[go_sem] theorem ti27 : tiOf Tryd.prog 27 = some ⟨.func, 1, 8, .k .nilFunc⟩ := by kernel_rfl
@[go_sem] theorem ti28 : tiOf Tryd.prog 28 = some ⟨.int .i64, 1, 8, .d (.int .i64 0)⟩ := by kernel_rfl
@[go_sem] theorem ti29 : tiOf Tryd.prog 29 = some ⟨.func, 1, 8, .k .nilFunc⟩ := by kernel_rfl
@[go_sem] theorem ti30 : tiOf Tryd.prog 30 = some ⟨.func, 1, 8, .k .nilFunc⟩ := by kernel_rfl
@[go_sem] theorem ti31 : tiOf Tryd.prog 31 = some ⟨.struct [(0, 3), (1, 3)], 2, 16, .d (.agg [.int .i64 0, .int .i64 0])⟩ := by kernel_rfl
@[go_sem] theorem eq31 : eqOk Tryd.prog 31 = true := by kernel_rfl
@[go_sem] theorem ti32 : tiOf Tryd.prog 32 = some ⟨.struct [(0, 3), (1, 3)], 2, 16, .d (.agg [.int .i64 0, .int .i64 0])⟩ := by kernel_rfl
@[go_sem] theorem eq32 : eqOk Tryd.prog 32 = true := by kernel_rfl
@[go_sem] theorem ti34 : tiOf Tryd.prog 34 = some ⟨.func, 1, 8, .k .nilFunc⟩ := by kernel_rfl
@[go_sem] theorem ti35 : tiOf Tryd.prog 35 = some ⟨.slice 9, 1, 24, .nils⟩ := by kernel_rfl
@[go_sem] theorem ti36 : tiOf Tryd.prog 36 = some ⟨.func, 1, 8, .k .nilFunc⟩ := by kernel_rfl
@[go_sem] theorem ti37 : tiOf Tryd.prog 37 = some ⟨.func, 1, 8, .k .nilFunc⟩ := by kernel_rfl
@[go_sem] theorem ti38 : tiOf Tryd.prog 38 = some ⟨.func, 1, 8, .k .nilFunc⟩ := by kernel_rfl
@[go_sem] theorem ti39 : tiOf Tryd.prog 39 = some ⟨.func, 1, 8, .k .nilFunc⟩ := by kernel_rfl
@[go_sem] theorem ti40 : tiOf Tryd.prog 40 = some ⟨.func, 1, 8, .k .nilFunc⟩ := by kernel_rfl
@[go_sem] theorem ti41 : tiOf Tryd.prog 41 = some ⟨.func, 1, 8, .k .nilFunc⟩ := by kernel_rfl
@[go_sem] theorem ti42 : tiOf Tryd.prog 42 = some ⟨.func, 1, 8, .k .nilFunc⟩ := by kernel_rfl
@[go_sem] theorem ti44 : tiOf Tryd.prog 44 = some ⟨.func, 1, 8, .k .nilFunc⟩ := by kernel_rfl
@[go_sem] theorem ti46 : tiOf Tryd.prog 46 = some ⟨.func, 1, 8, .k .nilFunc⟩ := by kernel_rfl
@[go_sem] theorem ti47 : tiOf Tryd.prog 47 = some ⟨.func, 1, 8, .k .nilFunc⟩ := by kernel_rfl
@[go_sem] theorem ti48 : tiOf Tryd.prog 48 = some ⟨.slice 53, 1, 24, .nils⟩ := by kernel_rfl
@[go_sem] theorem ti49 : tiOf Tryd.prog 49 = some ⟨.func, 1, 8, .k .nilFunc⟩ := by kernel_rfl
@[go_sem] theorem ti50 : tiOf Tryd.prog 50 = some ⟨.struct [(0, 3), (1, 3)], 2, 16, .d (.agg [.int .i64 0, .int .i64 0])⟩ := by kernel_rfl
@[go_sem] theorem eq50 : eqOk Tryd.prog 50 = true := by kernel_rfl
@[go_sem] theorem ti51 : tiOf Tryd.prog 51 = some ⟨.struct [(0, 3), (1, 3)], 2, 16, .d (.agg [.int .i64 0, .int .i64 0])⟩ := by kernel_rfl
@[go_sem] theorem eq51 : eqOk Tryd.prog 51 = true := by kernel_rfl
@[go_sem] theorem ti52 : tiOf Tryd.prog 52 = some ⟨.struct [(0, 9), (1, 51)], 3, 32, .d (.agg [.str [], .int .i64 0, .int .i64 0])⟩ := by kernel_rfl
@[go_sem] theorem eq52 : eqOk Tryd.prog 52 = true := by kernel_rfl
@[go_sem] theorem ti53 : tiOf Tryd.prog 53 = some ⟨.struct [(0, 9), (1, 51)], 3, 32, .d (.agg [.str [], .int .i64 0, .int .i64 0])⟩ := by kernel_rfl
@[go_sem] theorem eq53 : eqOk Tryd.prog 53 = true := by kernel_rfl
@[go_sem] theorem ti54 : tiOf Tryd.prog 54 = some ⟨.int .u64, 1, 8, .d (.int .u64 0)⟩ := by kernel_rfl
@[go_sem] theorem ti56 : tiOf Tryd.prog 56 = some ⟨.func, 1, 8, .k .nilFunc⟩ := by kernel_rfl
@[go_sem] theorem ti57 : tiOf Tryd.prog 57 = some ⟨.func, 1, 8, .k .nilFunc⟩ := by kernel_rfl
@[go_sem] theorem ti58 : tiOf Tryd.prog 58 = some ⟨.ptr 61, 1, 8, .d (.nilp)⟩ := by kernel_rfl
@[go_sem] theorem ti59 : tiOf Tryd.prog 59 = some ⟨.slice 5, 1, 24, .nils⟩ := by kernel_rfl
@[go_sem] theorem ti60 : tiOf Tryd.prog 60 = some ⟨.struct [(0, 58), (1, 59)], 2, 32, .agg [.d (.nilp), .nils]⟩ := by kernel_rfl
@[go_sem] theorem eq60 : eqOk Tryd.prog 60 = true := by kernel_rfl
@[go_sem] theorem ti61 : tiOf Tryd.prog 61 = some ⟨.struct [(0, 58), (1, 59)], 2, 32, .agg [.d (.nilp), .nils]⟩ := by kernel_rfl
@[go_sem] theorem eq61 : eqOk Tryd.prog 61 = true := by kernel_rfl
@[go_sem] theorem ti62 : tiOf Tryd.prog 62 = some ⟨.func, 1, 8, .k .nilFunc⟩ := by kernel_rfl
@[go_sem] theorem ti63 : tiOf Tryd.prog 63 = some ⟨.iface, 1, 16, .d (.nili)⟩ := by kernel_rfl
@[go_sem] theorem ti64 : tiOf Tryd.prog 64 = some ⟨.iface, 1, 16, .d (.nili)⟩ := by kernel_rfl
@[go_sem] theorem ti66 : tiOf Tryd.prog 66 = some ⟨.func, 1, 8, .k .nilFunc⟩ := by kernel_rfl
@[go_sem] theorem ti67 : tiOf Tryd.prog 67 = some ⟨.func, 1, 8, .k .nilFunc⟩ := by kernel_rfl
@[go_sem] theorem ti68 : tiOf Tryd.prog 68 = some ⟨.func, 1, 8, .k .nilFunc⟩ := by kernel_rfl
@[go_sem] theorem ti69 : tiOf Tryd.prog 69 = some ⟨.slice 51, 1, 24, .nils⟩ := by kernel_rfl
@[go_sem] theorem ti70 : tiOf Tryd.prog 70 = some ⟨.func, 1, 8, .k .nilFunc⟩ := by kernel_rfl
@[go_sem] theorem ti71 : tiOf Tryd.prog 71 = some ⟨.func, 1, 8, .k .nilFunc⟩ := by kernel_rfl
@[go_sem] theorem ti72 : tiOf Tryd.prog 72 = some ⟨.func, 1, 8, .k .nilFunc⟩ := by kernel_rfl
@[go_sem] theorem ti74 : tiOf Tryd.prog 74 = some ⟨.func, 1, 8, .k .nilFunc⟩ := by kernel_rfl
@[go_sem] theorem ti75 : tiOf Tryd.prog 75 = some ⟨.func, 1, 8, .k .nilFunc⟩ := by kernel_rfl
@[go_sem] theorem ti76 : tiOf Tryd.prog 76 = some ⟨.slice 80, 1, 24, .nils⟩ := by kernel_rfl
@[go_sem] theorem ti77 : tiOf Tryd.prog 77 = some ⟨.func, 1, 8, .k .nilFunc⟩ := by kernel_rfl
@[go_sem] theorem ti78 : tiOf Tryd.prog 78 = some ⟨.func, 1, 8, .k .nilFunc⟩ := by kernel_rfl
@[go_sem] theorem ti79 : tiOf Tryd.prog 79 = some ⟨.struct [(0, 3), (1, 3), (2, 3)], 3, 24, .d (.agg [.int .i64 0, .int .i64 0, .int .i64 0])⟩ := by kernel_rfl
@[go_sem] theorem eq79 : eqOk Tryd.prog 79 = true := by kernel_rfl
@[go_sem] theorem ti80 : tiOf Tryd.prog 80 = some ⟨.struct [(0, 3), (1, 3), (2, 3)], 3, 24, .d (.agg [.int .i64 0, .int .i64 0, .int .i64 0])⟩ := by kernel_rfl
@[go_sem] theorem eq80 : eqOk Tryd.prog 80 = true := by kernel_rfl
@[go_sem] theorem ti81 : tiOf Tryd.prog 81 = some ⟨.func, 1, 8, .k .nilFunc⟩ := by kernel_rfl
@[go_sem] theorem ti82 : tiOf Tryd.prog 82 = some ⟨.func, 1, 8, .k .nilFunc⟩ := by kernel_rfl
@[go_sem] theorem ti83 : tiOf Tryd.prog 83 = some ⟨.int .u32, 1, 4, .d (.int .u32 0)⟩ := by kernel_rfl
@[go_sem] theorem ti85 : tiOf Tryd.prog 85 = some ⟨.func, 1, 8, .k .nilFunc⟩ := by kernel_rfl
@[go_sem] theorem ti86 : tiOf Tryd.prog 86 = some ⟨.int .u64, 1, 8, .d (.int .u64 0)⟩ := by kernel_rfl
@[go_sem] theorem ti88 : tiOf Tryd.prog 88 = some ⟨.func, 1, 8, .k .nilFunc⟩ := by kernel_rfl
@[go_sem] theorem ti89 : tiOf Tryd.prog 89 = some ⟨.ptr 5, 1, 8, .d (.nilp)⟩ := by kernel_rfl
@[go_sem] theorem ti90 : tiOf Tryd.prog 90 = some ⟨.func, 1, 8, .k .nilFunc⟩ := by kernel_rfl
@[go_sem] theorem ti91 : tiOf Tryd.prog 91 = some ⟨.func, 1, 8, .k .nilFunc⟩ := by kernel_rfl
@[go_sem] theorem ti92 : tiOf Tryd.prog 92 = some ⟨.func, 1, 8, .k .nilFunc⟩ := by kernel_rfl
@[go_sem] theorem ti93 : tiOf Tryd.prog 93 = some ⟨.func, 1, 8, .k .nilFunc⟩ := by kernel_rfl
@[go_sem] theorem ti94 : tiOf Tryd.prog 94 = some ⟨.slice 22, 1, 24, .nils⟩ := by kernel_rfl
@[go_sem] theorem ti95 : tiOf Tryd.prog 95 = some ⟨.slice 4, 1, 24, .nils⟩ := by kernel_rfl
@[go_sem] theorem ti96 : tiOf Tryd.prog 96 = some ⟨.func, 1, 8, .k .nilFunc⟩ := by kernel_rfl
@[go_sem] theorem ti97 : tiOf Tryd.prog 97 = some ⟨.uptr, 1, 8, .d (.nilp)⟩ := by kernel_rfl
@[go_sem] theorem ti98 : tiOf Tryd.prog 98 = some ⟨.func, 1, 8, .k .nilFunc⟩ := by kernel_rfl
@[go_sem] theorem ti99 : tiOf Tryd.prog 99 = some ⟨.func, 1, 8, .k .nilFunc⟩ := by kernel_rfl
@[go_sem] theorem ti100 : tiOf Tryd.prog 100 = some ⟨.func, 1, 8, .k .nilFunc⟩ := by kernel_rfl
@[go_sem] theorem ti101 : tiOf Tryd.prog 101 = some ⟨.func, 1, 8, .k .nilFunc⟩ := by kernel_rfl
@[go_sem] theorem ti105 : tiOf Tryd.prog 105 = some ⟨.func, 1, 8, .k .nilFunc⟩ := by kernel_rfl
@[go_sem] theorem ti106 : tiOf Tryd.prog 106 = some ⟨.func, 1, 8, .k .nilFunc⟩ := by kernel_rfl
@[go_sem] theorem ti107 : tiOf Tryd.prog 107 = some ⟨.ptr 103, 1, 8, .d (.nilp)⟩ := by kernel_rfl
@[go_sem] theorem ti108 : tiOf Tryd.prog 108 = some ⟨.func, 1, 8, .k .nilFunc⟩ := by kernel_rfl
@[go_sem] theorem ti110 : tiOf Tryd.prog 110 = some ⟨.struct [(0, 5), (1, 5)], 2, 2, .d (.agg [.int .u8 0, .int .u8 0])⟩ := by kernel_rfl
@[go_sem] theorem eq110 : eqOk Tryd.prog 110 = true := by kernel_rfl
@[go_sem] theorem ti111 : tiOf Tryd.prog 111 = some ⟨.struct [(0, 5), (1, 5)], 2, 2, .d (.agg [.int .u8 0, .int .u8 0])⟩ := by kernel_rfl
@[go_sem] theorem eq111 : eqOk Tryd.prog 111 = true := by kernel_rfl
@[go_sem] theorem ti112 : tiOf Tryd.prog 112 = some ⟨.arr 16 111, 32, 32, .d (.agg [.int .u8 0, .int .u8 0, .int .u8 0, .int .u8 0, .int .u8 0, .int .u8 0, .int .u8 0, .int .u8 0, .int .u8 0, .int .u8 0, .int .u8 0, .int .u8 0, .int .u8 0, .int .u8 0, .int .u8 0, .int .u8 0, .int .u8 0, .int .u8 0, .int .u8 0, .int .u8 0, .int .u8 0, .int .u8 0, .int .u8 0, .int .u8 0, .int .u8 0, .int .u8 0, .int .u8 0, .int .u8 0, .int .u8 0, .int .u8 0, .int .u8 0, .int .u8 0])⟩ := by kernel_rfl
@[go_sem] theorem ti113 : tiOf Tryd.prog 113 = some ⟨.func, 1, 8, .k .nilFunc⟩ := by kernel_rfl
@[go_sem] theorem ti114 : tiOf Tryd.prog 114 = some ⟨.func, 1, 8, .k .nilFunc⟩ := by kernel_rfl
@[go_sem] theorem ti116 : tiOf Tryd.prog 116 = some ⟨.func, 1, 8, .k .nilFunc⟩ := by kernel_rfl
@[go_sem] theorem ti117 : tiOf Tryd.prog 117 = some ⟨.func, 1, 8, .k .nilFunc⟩ := by kernel_rfl
@[go_sem] theorem ti118 : tiOf Tryd.prog 118 = some ⟨.func, 1, 8, .k .nilFunc⟩ := by kernel_rfl
@[go_sem] theorem ti119 : tiOf Tryd.prog 119 = some ⟨.func, 1, 8, .k .nilFunc⟩ := by kernel_rfl
@[go_sem] theorem ti120 : tiOf Tryd.prog 120 = some ⟨.func, 1, 8, .k .nilFunc⟩ := by kernel_rfl
@[go_sem] theorem ti121 : tiOf Tryd.prog 121 = some ⟨.struct [(0, 17), (1, 17), (2, 17), (3, 9)], 4, 40, .d (.agg [.nilp, .nilp, .nilp, .str []])⟩ := by kernel_rfl
@[go_sem] theorem ti122 : tiOf Tryd.prog 122 = some ⟨.struct [(0, 17), (1, 17), (2, 17), (3, 9)], 4, 40, .d (.agg [.nilp, .nilp, .nilp, .str []])⟩ := by kernel_rfl
@[go_sem] theorem ti123 : tiOf Tryd.prog 123 = some ⟨.arr 0 16, 0, 0, .d (.agg [])⟩ := by kernel_rfl
@[go_sem] theorem ti124 : tiOf Tryd.prog 124 = some ⟨.struct [(0, 123)], 0, 0, .d (.agg [])⟩ := by kernel_rfl
@[go_sem] theorem ti125 : tiOf Tryd.prog 125 = some ⟨.struct [(0, 123)], 0, 0, .d (.agg [])⟩ := by kernel_rfl
@[go_sem] theorem ti126 : tiOf Tryd.prog 126 = some ⟨.int .u8, 1, 1, .d (.int .u8 0)⟩ := by kernel_rfl
@[go_sem] theorem ti127 : tiOf Tryd.prog 127 = some ⟨.int .u8, 1, 1, .d (.int .u8 0)⟩ := by kernel_rfl
@[go_sem] theorem ti128 : tiOf Tryd.prog 128 = some ⟨.func, 1, 8, .k .nilFunc⟩ := by kernel_rfl
@[go_sem] theorem ti129 : tiOf Tryd.prog 129 = some ⟨.int .i32, 1, 4, .d (.int .i32 0)⟩ := by kernel_rfl
@[go_sem] theorem ti130 : tiOf Tryd.prog 130 = some ⟨.int .i32, 1, 4, .d (.int .i32 0)⟩ := by kernel_rfl
@[go_sem] theorem ti131 : tiOf Tryd.prog 131 = some ⟨.struct [(0, 12), (1, 12), (2, 83), (3, 126), (4, 5), (5, 5), (6, 127), (7, 128), (8, 89), (9, 129), (10, 130)], 11, 48, .agg [.d (.int .u64 0), .d (.int .u64 0), .d (.int .u32 0), .d (.int .u8 0), .d (.int .u8 0), .d (.int .u8 0), .d (.int .u8 0), .k .nilFunc, .d (.nilp), .d (.int .i32 0), .d (.int .i32 0)]⟩ := by kernel_rfl
@[go_sem] theorem ti132 : tiOf Tryd.prog 132 = some ⟨.struct [(0, 12), (1, 12), (2, 83), (3, 126), (4, 5), (5, 5), (6, 127), (7, 128), (8, 89), (9, 129), (10, 130)], 11, 48, .agg [.d (.int .u64 0), .d (.int .u64 0), .d (.int .u32 0), .d (.int .u8 0), .d (.int .u8 0), .d (.int .u8 0), .d (.int .u8 0), .k .nilFunc, .d (.nilp), .d (.int .i32 0), .d (.int .i32 0)]⟩ := by kernel_rfl
theorem hmix : Tryd.prog.follows .mixedOrders = true := by kernel_rfl
end Go.AX
