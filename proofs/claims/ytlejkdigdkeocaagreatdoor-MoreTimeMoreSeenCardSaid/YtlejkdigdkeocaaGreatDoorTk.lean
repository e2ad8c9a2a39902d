/- What AX knows of the types of the program. -/
import Derived.Test.YtlejkdigdkeocaaGreatDoorAx31
import Derived.Test.YtlejkdigdkeocaaGreatDoorChecked
import Derived.KernelRfl
set_option linter.unusedSimpArgs false
set_option linter.unusedVariables false
namespace Go.AX
open Go Go.Proofs
@[go_sem] theorem ti1 : tiOf Tryz.prog 1 = some ⟨.func, 1, 8, .k .nilFunc⟩ := by kernel_rfl
@[go_sem] theorem ti2 : tiOf Tryz.prog 2 = some ⟨.int .i64, 1, 8, .d (.int .i64 0)⟩ := by kernel_rfl
@[go_sem] theorem ti3 : tiOf Tryz.prog 3 = some ⟨.int .i64, 1, 8, .d (.int .i64 0)⟩ := by kernel_rfl
@[go_sem] theorem ti4 : tiOf Tryz.prog 4 = some ⟨.bool, 1, 1, .d (.bool false)⟩ := by kernel_rfl
@[go_sem] theorem ti5 : tiOf Tryz.prog 5 = some ⟨.int .u8, 1, 1, .d (.int .u8 0)⟩ := by kernel_rfl
@[go_sem] theorem ti6 : tiOf Tryz.prog 6 = some ⟨.int .u8, 1, 1, .d (.int .u8 0)⟩ := by kernel_rfl
@[go_sem] theorem ti7 : tiOf Tryz.prog 7 = some ⟨.struct [(0, 2), (1, 3), (2, 4), (3, 6)], 4, 24, .d (.agg [.int .i64 0, .int .i64 0, .bool false, .int .u8 0])⟩ := by kernel_rfl
@[go_sem] theorem eq7 : eqOk Tryz.prog 7 = true := by kernel_rfl
@[go_sem] theorem ti8 : tiOf Tryz.prog 8 = some ⟨.struct [(0, 2), (1, 3), (2, 4), (3, 6)], 4, 24, .d (.agg [.int .i64 0, .int .i64 0, .bool false, .int .u8 0])⟩ := by kernel_rfl
@[go_sem] theorem eq8 : eqOk Tryz.prog 8 = true := by kernel_rfl
@[go_sem] theorem ti9 : tiOf Tryz.prog 9 = some ⟨.str, 1, 16, .d (.str [])⟩ := by kernel_rfl
@[go_sem] theorem ti10 : tiOf Tryz.prog 10 = some ⟨.str, 1, 16, .d (.str [])⟩ := by kernel_rfl
@[go_sem] theorem ti11 : tiOf Tryz.prog 11 = some ⟨.str, 1, 16, .d (.str [])⟩ := by kernel_rfl
@[go_sem] theorem ti12 : tiOf Tryz.prog 12 = some ⟨.int .u64, 1, 8, .d (.int .u64 0)⟩ := by kernel_rfl
@[go_sem] theorem ti13 : tiOf Tryz.prog 13 = some ⟨.struct [(0, 9), (1, 12)], 2, 24, .d (.agg [.str [], .int .u64 0])⟩ := by kernel_rfl
@[go_sem] theorem ti14 : tiOf Tryz.prog 14 = some ⟨.struct [(0, 9), (1, 12)], 2, 24, .d (.agg [.str [], .int .u64 0])⟩ := by kernel_rfl
@[go_sem] theorem ti15 : tiOf Tryz.prog 15 = some ⟨.ptr 429, 1, 8, .d (.nilp)⟩ := by kernel_rfl
@[go_sem] theorem ti16 : tiOf Tryz.prog 16 = some ⟨.ptr 432, 1, 8, .d (.nilp)⟩ := by kernel_rfl
@[go_sem] theorem ti17 : tiOf Tryz.prog 17 = some ⟨.ptr 439, 1, 8, .d (.nilp)⟩ := by kernel_rfl
@[go_sem] theorem ti18 : tiOf Tryz.prog 18 = some ⟨.struct [(0, 17)], 1, 8, .d (.agg [.nilp])⟩ := by kernel_rfl
@[go_sem] theorem ti19 : tiOf Tryz.prog 19 = some ⟨.struct [(0, 17)], 1, 8, .d (.agg [.nilp])⟩ := by kernel_rfl
@[go_sem] theorem ti20 : tiOf Tryz.prog 20 = some ⟨.iface, 1, 16, .d (.nili)⟩ := by kernel_rfl
@[go_sem] theorem ti21 : tiOf Tryz.prog 21 = some ⟨.int .i32, 1, 4, .d (.int .i32 0)⟩ := by kernel_rfl
@[go_sem] theorem ti22 : tiOf Tryz.prog 22 = some ⟨.slice 3, 1, 24, .nils⟩ := by kernel_rfl
@[go_sem] theorem ti23 : tiOf Tryz.prog 23 = some ⟨.ptr 25, 1, 8, .d (.nilp)⟩ := by kernel_rfl
@[go_sem] theorem ti24 : tiOf Tryz.prog 24 = some ⟨.struct [(0, 22), (1, 3)], 2, 32, .agg [.nils, .d (.int .i64 0)]⟩ := by kernel_rfl
@[go_sem] theorem eq24 : eqOk Tryz.prog 24 = true := by kernel_rfl
@[go_sem] theorem ti25 : tiOf Tryz.prog 25 = some ⟨.struct [(0, 22), (1, 3)], 2, 32, .agg [.nils, .d (.int .i64 0)]⟩ := by kernel_rfl
@[go_sem] theorem eq25 : eqOk Tryz.prog 25 = true := by kernel_rfl
@[go_sem] theorem ti26 : tiOf Tryz.prog 26 = some ⟨.slice 69, 1, 24, .nils⟩ := by kernel_rfl
@[go_sem] theorem ti27 : tiOf Tryz.prog 27 = some ⟨.slice 47, 1, 24, .nils⟩ := by kernel_rfl
@[go_sem] theorem ti28 : tiOf Tryz.prog 28 = some ⟨.slice 40, 1, 24, .nils⟩ := by kernel_rfl
@[go_sem] theorem ti29 : tiOf Tryz.prog 29 = some ⟨.slice 9, 1, 24, .nils⟩ := by kernel_rfl
@[go_sem] theorem ti30 : tiOf Tryz.prog 30 = some ⟨.struct [(0, 26), (1, 27), (2, 28), (3, 28), (4, 29), (5, 3), (6, 3)], 7, 136, .agg [.nils, .nils, .nils, .nils, .nils, .d (.int .i64 0), .d (.int .i64 0)]⟩ := by kernel_rfl
@[go_sem] theorem eq30 : eqOk Tryz.prog 30 = true := by kernel_rfl
@[go_sem] theorem ti31 : tiOf Tryz.prog 31 = some ⟨.struct [(0, 26), (1, 27), (2, 28), (3, 28), (4, 29), (5, 3), (6, 3)], 7, 136, .agg [.nils, .nils, .nils, .nils, .nils, .d (.int .i64 0), .d (.int .i64 0)]⟩ := by kernel_rfl
@[go_sem] theorem eq31 : eqOk Tryz.prog 31 = true := by kernel_rfl
@[go_sem] theorem ti32 : tiOf Tryz.prog 32 = some ⟨.func, 1, 8, .k .nilFunc⟩ := by kernel_rfl
@[go_sem] theorem ti33 : tiOf Tryz.prog 33 = some ⟨.slice 60, 1, 24, .nils⟩ := by kernel_rfl
@[go_sem] theorem ti34 : tiOf Tryz.prog 34 = some ⟨.func, 1, 8, .k .nilFunc⟩ := by kernel_rfl
@[go_sem] theorem ti35 : tiOf Tryz.prog 35 = some ⟨.func, 1, 8, .k .nilFunc⟩ := by kernel_rfl
@[go_sem] theorem ti36 : tiOf Tryz.prog 36 = some ⟨.int .i64, 1, 8, .d (.int .i64 0)⟩ := by kernel_rfl
@[go_sem] theorem ti37 : tiOf Tryz.prog 37 = some ⟨.func, 1, 8, .k .nilFunc⟩ := by kernel_rfl
@[go_sem] theorem ti38 : tiOf Tryz.prog 38 = some ⟨.func, 1, 8, .k .nilFunc⟩ := by kernel_rfl
@[go_sem] theorem ti39 : tiOf Tryz.prog 39 = some ⟨.struct [(0, 9), (1, 9)], 2, 32, .d (.agg [.str [], .str []])⟩ := by kernel_rfl
@[go_sem] theorem eq39 : eqOk Tryz.prog 39 = true := by kernel_rfl
@[go_sem] theorem ti40 : tiOf Tryz.prog 40 = some ⟨.struct [(0, 9), (1, 9)], 2, 32, .d (.agg [.str [], .str []])⟩ := by kernel_rfl
@[go_sem] theorem eq40 : eqOk Tryz.prog 40 = true := by kernel_rfl
@[go_sem] theorem ti42 : tiOf Tryz.prog 42 = some ⟨.func, 1, 8, .k .nilFunc⟩ := by kernel_rfl
@[go_sem] theorem ti43 : tiOf Tryz.prog 43 = some ⟨.func, 1, 8, .k .nilFunc⟩ := by kernel_rfl
@[go_sem] theorem ti44 : tiOf Tryz.prog 44 = some ⟨.func, 1, 8, .k .nilFunc⟩ := by kernel_rfl
@[go_sem] theorem ti45 : tiOf Tryz.prog 45 = some ⟨.func, 1, 8, .k .nilFunc⟩ := by kernel_rfl
@[go_sem] theorem ti46 : tiOf Tryz.prog 46 = some ⟨.struct [(0, 9), (1, 9), (2, 9), (3, 29), (4, 29)], 5, 96, .agg [.d (.str []), .d (.str []), .d (.str []), .nils, .nils]⟩ := by kernel_rfl
@[go_sem] theorem eq46 : eqOk Tryz.prog 46 = true := by kernel_rfl
@[go_sem] theorem ti47 : tiOf Tryz.prog 47 = some ⟨.struct [(0, 9), (1, 9), (2, 9), (3, 29), (4, 29)], 5, 96, .agg [.d (.str []), .d (.str []), .d (.str []), .nils, .nils]⟩ := by kernel_rfl
@[go_sem] theorem eq47 : eqOk Tryz.prog 47 = true := by kernel_rfl
@[go_sem] theorem ti48 : tiOf Tryz.prog 48 = some ⟨.func, 1, 8, .k .nilFunc⟩ := by kernel_rfl
@[go_sem] theorem ti50 : tiOf Tryz.prog 50 = some ⟨.func, 1, 8, .k .nilFunc⟩ := by kernel_rfl
@[go_sem] theorem ti52 : tiOf Tryz.prog 52 = some ⟨.func, 1, 8, .k .nilFunc⟩ := by kernel_rfl
@[go_sem] theorem ti53 : tiOf Tryz.prog 53 = some ⟨.func, 1, 8, .k .nilFunc⟩ := by kernel_rfl
@[go_sem] theorem ti54 : tiOf Tryz.prog 54 = some ⟨.func, 1, 8, .k .nilFunc⟩ := by kernel_rfl
@[go_sem] theorem ti56 : tiOf Tryz.prog 56 = some ⟨.func, 1, 8, .k .nilFunc⟩ := by kernel_rfl
@[go_sem] theorem ti57 : tiOf Tryz.prog 57 = some ⟨.func, 1, 8, .k .nilFunc⟩ := by kernel_rfl
@[go_sem] theorem ti58 : tiOf Tryz.prog 58 = some ⟨.slice 66, 1, 24, .nils⟩ := by kernel_rfl
@[go_sem] theorem ti59 : tiOf Tryz.prog 59 = some ⟨.struct [(0, 3), (1, 3), (2, 9), (3, 9), (4, 9), (5, 4), (6, 58)], 7, 96, .agg [.d (.int .i64 0), .d (.int .i64 0), .d (.str []), .d (.str []), .d (.str []), .d (.bool false), .nils]⟩ := by kernel_rfl
@[go_sem] theorem eq59 : eqOk Tryz.prog 59 = true := by kernel_rfl
@[go_sem] theorem ti60 : tiOf Tryz.prog 60 = some ⟨.struct [(0, 3), (1, 3), (2, 9), (3, 9), (4, 9), (5, 4), (6, 58)], 7, 96, .agg [.d (.int .i64 0), .d (.int .i64 0), .d (.str []), .d (.str []), .d (.str []), .d (.bool false), .nils]⟩ := by kernel_rfl
@[go_sem] theorem eq60 : eqOk Tryz.prog 60 = true := by kernel_rfl
@[go_sem] theorem ti61 : tiOf Tryz.prog 61 = some ⟨.func, 1, 8, .k .nilFunc⟩ := by kernel_rfl
@[go_sem] theorem ti63 : tiOf Tryz.prog 63 = some ⟨.func, 1, 8, .k .nilFunc⟩ := by kernel_rfl
@[go_sem] theorem ti64 : tiOf Tryz.prog 64 = some ⟨.func, 1, 8, .k .nilFunc⟩ := by kernel_rfl
@[go_sem] theorem ti65 : tiOf Tryz.prog 65 = some ⟨.struct [(0, 9), (1, 3), (2, 9), (3, 9)], 4, 56, .d (.agg [.str [], .int .i64 0, .str [], .str []])⟩ := by kernel_rfl
@[go_sem] theorem eq65 : eqOk Tryz.prog 65 = true := by kernel_rfl
@[go_sem] theorem ti66 : tiOf Tryz.prog 66 = some ⟨.struct [(0, 9), (1, 3), (2, 9), (3, 9)], 4, 56, .d (.agg [.str [], .int .i64 0, .str [], .str []])⟩ := by kernel_rfl
@[go_sem] theorem eq66 : eqOk Tryz.prog 66 = true := by kernel_rfl
@[go_sem] theorem ti67 : tiOf Tryz.prog 67 = some ⟨.func, 1, 8, .k .nilFunc⟩ := by kernel_rfl
@[go_sem] theorem ti68 : tiOf Tryz.prog 68 = some ⟨.struct [(0, 9), (1, 3), (2, 3), (3, 29), (4, 4), (5, 4)], 6, 64, .agg [.d (.str []), .d (.int .i64 0), .d (.int .i64 0), .nils, .d (.bool false), .d (.bool false)]⟩ := by kernel_rfl
@[go_sem] theorem eq68 : eqOk Tryz.prog 68 = true := by kernel_rfl
@[go_sem] theorem ti69 : tiOf Tryz.prog 69 = some ⟨.struct [(0, 9), (1, 3), (2, 3), (3, 29), (4, 4), (5, 4)], 6, 64, .agg [.d (.str []), .d (.int .i64 0), .d (.int .i64 0), .nils, .d (.bool false), .d (.bool false)]⟩ := by kernel_rfl
@[go_sem] theorem eq69 : eqOk Tryz.prog 69 = true := by kernel_rfl
@[go_sem] theorem ti70 : tiOf Tryz.prog 70 = some ⟨.func, 1, 8, .k .nilFunc⟩ := by kernel_rfl
@[go_sem] theorem ti71 : tiOf Tryz.prog 71 = some ⟨.slice 22, 1, 24, .nils⟩ := by kernel_rfl
@[go_sem] theorem ti72 : tiOf Tryz.prog 72 = some ⟨.func, 1, 8, .k .nilFunc⟩ := by kernel_rfl
@[go_sem] theorem ti73 : tiOf Tryz.prog 73 = some ⟨.func, 1, 8, .k .nilFunc⟩ := by kernel_rfl
@[go_sem] theorem ti74 : tiOf Tryz.prog 74 = some ⟨.struct [(0, 22), (1, 3)], 2, 32, .agg [.nils, .d (.int .i64 0)]⟩ := by kernel_rfl
@[go_sem] theorem eq74 : eqOk Tryz.prog 74 = true := by kernel_rfl
@[go_sem] theorem ti75 : tiOf Tryz.prog 75 = some ⟨.struct [(0, 22), (1, 3)], 2, 32, .agg [.nils, .d (.int .i64 0)]⟩ := by kernel_rfl
@[go_sem] theorem eq75 : eqOk Tryz.prog 75 = true := by kernel_rfl
@[go_sem] theorem ti76 : tiOf Tryz.prog 76 = some ⟨.struct [(0, 9), (1, 3)], 2, 24, .d (.agg [.str [], .int .i64 0])⟩ := by kernel_rfl
@[go_sem] theorem eq76 : eqOk Tryz.prog 76 = true := by kernel_rfl
@[go_sem] theorem ti77 : tiOf Tryz.prog 77 = some ⟨.struct [(0, 9), (1, 3)], 2, 24, .d (.agg [.str [], .int .i64 0])⟩ := by kernel_rfl
@[go_sem] theorem eq77 : eqOk Tryz.prog 77 = true := by kernel_rfl
@[go_sem] theorem ti78 : tiOf Tryz.prog 78 = some ⟨.slice 77, 1, 24, .nils⟩ := by kernel_rfl
@[go_sem] theorem ti79 : tiOf Tryz.prog 79 = some ⟨.func, 1, 8, .k .nilFunc⟩ := by kernel_rfl
@[go_sem] theorem ti80 : tiOf Tryz.prog 80 = some ⟨.slice 171, 1, 24, .nils⟩ := by kernel_rfl
@[go_sem] theorem ti81 : tiOf Tryz.prog 81 = some ⟨.func, 1, 8, .k .nilFunc⟩ := by kernel_rfl
@[go_sem] theorem ti82 : tiOf Tryz.prog 82 = some ⟨.slice 90, 1, 24, .nils⟩ := by kernel_rfl
@[go_sem] theorem ti84 : tiOf Tryz.prog 84 = some ⟨.func, 1, 8, .k .nilFunc⟩ := by kernel_rfl
@[go_sem] theorem ti85 : tiOf Tryz.prog 85 = some ⟨.func, 1, 8, .k .nilFunc⟩ := by kernel_rfl
@[go_sem] theorem ti86 : tiOf Tryz.prog 86 = some ⟨.func, 1, 8, .k .nilFunc⟩ := by kernel_rfl
@[go_sem] theorem ti87 : tiOf Tryz.prog 87 = some ⟨.func, 1, 8, .k .nilFunc⟩ := by kernel_rfl
@[go_sem] theorem ti88 : tiOf Tryz.prog 88 = some ⟨.map 9 3, 1, 8, .d (.map [] [])⟩ := by kernel_rfl
@[go_sem] theorem ti89 : tiOf Tryz.prog 89 = some ⟨.struct [(0, 9), (1, 4), (2, 3)], 3, 32, .d (.agg [.str [], .bool false, .int .i64 0])⟩ := by kernel_rfl
@[go_sem] theorem eq89 : eqOk Tryz.prog 89 = true := by kernel_rfl
@[go_sem] theorem ti90 : tiOf Tryz.prog 90 = some ⟨.struct [(0, 9), (1, 4), (2, 3)], 3, 32, .d (.agg [.str [], .bool false, .int .i64 0])⟩ := by kernel_rfl
@[go_sem] theorem eq90 : eqOk Tryz.prog 90 = true := by kernel_rfl
@[go_sem] theorem ti91 : tiOf Tryz.prog 91 = some ⟨.struct [(0, 3), (1, 3)], 2, 16, .d (.agg [.int .i64 0, .int .i64 0])⟩ := by kernel_rfl
@[go_sem] theorem eq91 : eqOk Tryz.prog 91 = true := by kernel_rfl
@[go_sem] theorem ti92 : tiOf Tryz.prog 92 = some ⟨.struct [(0, 3), (1, 3)], 2, 16, .d (.agg [.int .i64 0, .int .i64 0])⟩ := by kernel_rfl
@[go_sem] theorem eq92 : eqOk Tryz.prog 92 = true := by kernel_rfl
@[go_sem] theorem ti94 : tiOf Tryz.prog 94 = some ⟨.func, 1, 8, .k .nilFunc⟩ := by kernel_rfl
@[go_sem] theorem ti95 : tiOf Tryz.prog 95 = some ⟨.func, 1, 8, .k .nilFunc⟩ := by kernel_rfl
@[go_sem] theorem ti97 : tiOf Tryz.prog 97 = some ⟨.func, 1, 8, .k .nilFunc⟩ := by kernel_rfl
@[go_sem] theorem ti98 : tiOf Tryz.prog 98 = some ⟨.func, 1, 8, .k .nilFunc⟩ := by kernel_rfl
@[go_sem] theorem ti99 : tiOf Tryz.prog 99 = some ⟨.slice 29, 1, 24, .nils⟩ := by kernel_rfl
@[go_sem] theorem ti100 : tiOf Tryz.prog 100 = some ⟨.func, 1, 8, .k .nilFunc⟩ := by kernel_rfl
@[go_sem] theorem ti101 : tiOf Tryz.prog 101 = some ⟨.func, 1, 8, .k .nilFunc⟩ := by kernel_rfl
@[go_sem] theorem ti102 : tiOf Tryz.prog 102 = some ⟨.func, 1, 8, .k .nilFunc⟩ := by kernel_rfl
@[go_sem] theorem ti103 : tiOf Tryz.prog 103 = some ⟨.func, 1, 8, .k .nilFunc⟩ := by kernel_rfl
@[go_sem] theorem ti104 : tiOf Tryz.prog 104 = some ⟨.func, 1, 8, .k .nilFunc⟩ := by kernel_rfl
@[go_sem] theorem ti105 : tiOf Tryz.prog 105 = some ⟨.func, 1, 8, .k .nilFunc⟩ := by kernel_rfl
@[go_sem] theorem ti106 : tiOf Tryz.prog 106 = some ⟨.slice 322, 1, 24, .nils⟩ := by kernel_rfl
@[go_sem] theorem ti107 : tiOf Tryz.prog 107 = some ⟨.slice 269, 1, 24, .nils⟩ := by kernel_rfl
@[go_sem] theorem ti108 : tiOf Tryz.prog 108 = some ⟨.slice 326, 1, 24, .nils⟩ := by kernel_rfl
@[go_sem] theorem ti109 : tiOf Tryz.prog 109 = some ⟨.slice 328, 1, 24, .nils⟩ := by kernel_rfl
@[go_sem] theorem ti110 : tiOf Tryz.prog 110 = some ⟨.struct [(0, 106), (1, 107), (2, 108), (3, 109)], 4, 96, .agg [.nils, .nils, .nils, .nils]⟩ := by kernel_rfl
@[go_sem] theorem eq110 : eqOk Tryz.prog 110 = true := by kernel_rfl
@[go_sem] theorem ti111 : tiOf Tryz.prog 111 = some ⟨.struct [(0, 106), (1, 107), (2, 108), (3, 109)], 4, 96, .agg [.nils, .nils, .nils, .nils]⟩ := by kernel_rfl
@[go_sem] theorem eq111 : eqOk Tryz.prog 111 = true := by kernel_rfl
@[go_sem] theorem ti113 : tiOf Tryz.prog 113 = some ⟨.func, 1, 8, .k .nilFunc⟩ := by kernel_rfl
@[go_sem] theorem ti114 : tiOf Tryz.prog 114 = some ⟨.func, 1, 8, .k .nilFunc⟩ := by kernel_rfl
@[go_sem] theorem ti115 : tiOf Tryz.prog 115 = some ⟨.ptr 203, 1, 8, .d (.nilp)⟩ := by kernel_rfl
@[go_sem] theorem ti117 : tiOf Tryz.prog 117 = some ⟨.func, 1, 8, .k .nilFunc⟩ := by kernel_rfl
@[go_sem] theorem ti118 : tiOf Tryz.prog 118 = some ⟨.func, 1, 8, .k .nilFunc⟩ := by kernel_rfl
@[go_sem] theorem ti119 : tiOf Tryz.prog 119 = some ⟨.func, 1, 8, .k .nilFunc⟩ := by kernel_rfl
@[go_sem] theorem ti120 : tiOf Tryz.prog 120 = some ⟨.func, 1, 8, .k .nilFunc⟩ := by kernel_rfl
@[go_sem] theorem ti121 : tiOf Tryz.prog 121 = some ⟨.func, 1, 8, .k .nilFunc⟩ := by kernel_rfl
@[go_sem] theorem ti122 : tiOf Tryz.prog 122 = some ⟨.func, 1, 8, .k .nilFunc⟩ := by kernel_rfl
@[go_sem] theorem ti123 : tiOf Tryz.prog 123 = some ⟨.func, 1, 8, .k .nilFunc⟩ := by kernel_rfl
@[go_sem] theorem ti124 : tiOf Tryz.prog 124 = some ⟨.ptr 130, 1, 8, .d (.nilp)⟩ := by kernel_rfl
@[go_sem] theorem ti125 : tiOf Tryz.prog 125 = some ⟨.ptr 128, 1, 8, .d (.nilp)⟩ := by kernel_rfl
@[go_sem] theorem ti126 : tiOf Tryz.prog 126 = some ⟨.slice 5, 1, 24, .nils⟩ := by kernel_rfl
@[go_sem] theorem ti127 : tiOf Tryz.prog 127 = some ⟨.struct [(0, 125), (1, 126)], 2, 32, .agg [.d (.nilp), .nils]⟩ := by kernel_rfl
@[go_sem] theorem eq127 : eqOk Tryz.prog 127 = true := by kernel_rfl
@[go_sem] theorem ti128 : tiOf Tryz.prog 128 = some ⟨.struct [(0, 125), (1, 126)], 2, 32, .agg [.d (.nilp), .nils]⟩ := by kernel_rfl
@[go_sem] theorem eq128 : eqOk Tryz.prog 128 = true := by kernel_rfl
@[go_sem] theorem ti129 : tiOf Tryz.prog 129 = some ⟨.struct [(0, 128)], 2, 32, .agg [.d (.nilp), .nils]⟩ := by kernel_rfl
@[go_sem] theorem eq129 : eqOk Tryz.prog 129 = true := by kernel_rfl
@[go_sem] theorem ti130 : tiOf Tryz.prog 130 = some ⟨.struct [(0, 128)], 2, 32, .agg [.d (.nilp), .nils]⟩ := by kernel_rfl
@[go_sem] theorem eq130 : eqOk Tryz.prog 130 = true := by kernel_rfl
@[go_sem] theorem ti131 : tiOf Tryz.prog 131 = some ⟨.func, 1, 8, .k .nilFunc⟩ := by kernel_rfl
@[go_sem] theorem ti132 : tiOf Tryz.prog 132 = some ⟨.func, 1, 8, .k .nilFunc⟩ := by kernel_rfl
@[go_sem] theorem ti133 : tiOf Tryz.prog 133 = some ⟨.func, 1, 8, .k .nilFunc⟩ := by kernel_rfl
@[go_sem] theorem ti134 : tiOf Tryz.prog 134 = some ⟨.func, 1, 8, .k .nilFunc⟩ := by kernel_rfl
@[go_sem] theorem ti136 : tiOf Tryz.prog 136 = some ⟨.func, 1, 8, .k .nilFunc⟩ := by kernel_rfl
@[go_sem] theorem ti138 : tiOf Tryz.prog 138 = some ⟨.func, 1, 8, .k .nilFunc⟩ := by kernel_rfl
@[go_sem] theorem ti139 : tiOf Tryz.prog 139 = some ⟨.func, 1, 8, .k .nilFunc⟩ := by kernel_rfl
@[go_sem] theorem ti140 : tiOf Tryz.prog 140 = some ⟨.func, 1, 8, .k .nilFunc⟩ := by kernel_rfl
@[go_sem] theorem ti141 : tiOf Tryz.prog 141 = some ⟨.func, 1, 8, .k .nilFunc⟩ := by kernel_rfl
@[go_sem] theorem ti142 : tiOf Tryz.prog 142 = some ⟨.func, 1, 8, .k .nilFunc⟩ := by kernel_rfl
@[go_sem] theorem ti143 : tiOf Tryz.prog 143 = some ⟨.ptr 145, 1, 8, .d (.nilp)⟩ := by kernel_rfl
@[go_sem] theorem ti144 : tiOf Tryz.prog 144 = some ⟨.struct [(0, 26), (1, 33), (2, 3), (3, 3)], 4, 64, .agg [.nils, .nils, .d (.int .i64 0), .d (.int .i64 0)]⟩ := by kernel_rfl
@[go_sem] theorem eq144 : eqOk Tryz.prog 144 = true := by kernel_rfl
@[go_sem] theorem ti145 : tiOf Tryz.prog 145 = some ⟨.struct [(0, 26), (1, 33), (2, 3), (3, 3)], 4, 64, .agg [.nils, .nils, .d (.int .i64 0), .d (.int .i64 0)]⟩ := by kernel_rfl
@[go_sem] theorem eq145 : eqOk Tryz.prog 145 = true := by kernel_rfl
@[go_sem] theorem ti146 : tiOf Tryz.prog 146 = some ⟨.func, 1, 8, .k .nilFunc⟩ := by kernel_rfl
@[go_sem] theorem ti147 : tiOf Tryz.prog 147 = some ⟨.func, 1, 8, .k .nilFunc⟩ := by kernel_rfl
@[go_sem] theorem ti148 : tiOf Tryz.prog 148 = some ⟨.arr 2 33, 2, 48, .agg [.nils, .nils]⟩ := by kernel_rfl
@[go_sem] theorem ti149 : tiOf Tryz.prog 149 = some ⟨.slice 153, 1, 24, .nils⟩ := by kernel_rfl
@[go_sem] theorem ti150 : tiOf Tryz.prog 150 = some ⟨.func, 1, 8, .k .nilFunc⟩ := by kernel_rfl
@[go_sem] theorem ti151 : tiOf Tryz.prog 151 = some ⟨.func, 1, 8, .k .nilFunc⟩ := by kernel_rfl
@[go_sem] theorem ti152 : tiOf Tryz.prog 152 = some ⟨.struct [(0, 60), (7, 9)], 8, 112, .agg [.d (.int .i64 0), .d (.int .i64 0), .d (.str []), .d (.str []), .d (.str []), .d (.bool false), .nils, .d (.str [])]⟩ := by kernel_rfl
@[go_sem] theorem eq152 : eqOk Tryz.prog 152 = true := by kernel_rfl
@[go_sem] theorem ti153 : tiOf Tryz.prog 153 = some ⟨.struct [(0, 60), (7, 9)], 8, 112, .agg [.d (.int .i64 0), .d (.int .i64 0), .d (.str []), .d (.str []), .d (.str []), .d (.bool false), .nils, .d (.str [])]⟩ := by kernel_rfl
@[go_sem] theorem eq153 : eqOk Tryz.prog 153 = true := by kernel_rfl
@[go_sem] theorem ti154 : tiOf Tryz.prog 154 = some ⟨.func, 1, 8, .k .nilFunc⟩ := by kernel_rfl
@[go_sem] theorem ti155 : tiOf Tryz.prog 155 = some ⟨.func, 1, 8, .k .nilFunc⟩ := by kernel_rfl
@[go_sem] theorem ti156 : tiOf Tryz.prog 156 = some ⟨.func, 1, 8, .k .nilFunc⟩ := by kernel_rfl
@[go_sem] theorem ti157 : tiOf Tryz.prog 157 = some ⟨.func, 1, 8, .k .nilFunc⟩ := by kernel_rfl
@[go_sem] theorem ti159 : tiOf Tryz.prog 159 = some ⟨.func, 1, 8, .k .nilFunc⟩ := by kernel_rfl
@[go_sem] theorem ti160 : tiOf Tryz.prog 160 = some ⟨.func, 1, 8, .k .nilFunc⟩ := by kernel_rfl
@[go_sem] theorem ti161 : tiOf Tryz.prog 161 = some ⟨.func, 1, 8, .k .nilFunc⟩ := by kernel_rfl
@[go_sem] theorem ti163 : tiOf Tryz.prog 163 = some ⟨.func, 1, 8, .k .nilFunc⟩ := by kernel_rfl
@[go_sem] theorem ti164 : tiOf Tryz.prog 164 = some ⟨.func, 1, 8, .k .nilFunc⟩ := by kernel_rfl
@[go_sem] theorem ti165 : tiOf Tryz.prog 165 = some ⟨.func, 1, 8, .k .nilFunc⟩ := by kernel_rfl
@[go_sem] theorem ti166 : tiOf Tryz.prog 166 = some ⟨.func, 1, 8, .k .nilFunc⟩ := by kernel_rfl
@[go_sem] theorem ti167 : tiOf Tryz.prog 167 = some ⟨.func, 1, 8, .k .nilFunc⟩ := by kernel_rfl
@[go_sem] theorem ti168 : tiOf Tryz.prog 168 = some ⟨.func, 1, 8, .k .nilFunc⟩ := by kernel_rfl
@[go_sem] theorem ti169 : tiOf Tryz.prog 169 = some ⟨.func, 1, 8, .k .nilFunc⟩ := by kernel_rfl
@[go_sem] theorem ti170 : tiOf Tryz.prog 170 = some ⟨.struct [(0, 40), (2, 3)], 3, 40, .d (.agg [.str [], .str [], .int .i64 0])⟩ := by kernel_rfl
@[go_sem] theorem eq170 : eqOk Tryz.prog 170 = true := by kernel_rfl
@[go_sem] theorem ti171 : tiOf Tryz.prog 171 = some ⟨.struct [(0, 40), (2, 3)], 3, 40, .d (.agg [.str [], .str [], .int .i64 0])⟩ := by kernel_rfl
@[go_sem] theorem eq171 : eqOk Tryz.prog 171 = true := by kernel_rfl
@[go_sem] theorem ti172 : tiOf Tryz.prog 172 = some ⟨.ptr 171, 1, 8, .d (.nilp)⟩ := by kernel_rfl
@[go_sem] theorem ti173 : tiOf Tryz.prog 173 = some ⟨.map 9 82, 1, 8, .d (.map [] [])⟩ := by kernel_rfl
@[go_sem] theorem ti175 : tiOf Tryz.prog 175 = some ⟨.func, 1, 8, .k .nilFunc⟩ := by kernel_rfl
@[go_sem] theorem ti176 : tiOf Tryz.prog 176 = some ⟨.func, 1, 8, .k .nilFunc⟩ := by kernel_rfl
@[go_sem] theorem ti177 : tiOf Tryz.prog 177 = some ⟨.func, 1, 8, .k .nilFunc⟩ := by kernel_rfl
@[go_sem] theorem ti178 : tiOf Tryz.prog 178 = some ⟨.func, 1, 8, .k .nilFunc⟩ := by kernel_rfl
@[go_sem] theorem ti179 : tiOf Tryz.prog 179 = some ⟨.slice 36, 1, 24, .nils⟩ := by kernel_rfl
@[go_sem] theorem ti180 : tiOf Tryz.prog 180 = some ⟨.func, 1, 8, .k .nilFunc⟩ := by kernel_rfl
@[go_sem] theorem ti181 : tiOf Tryz.prog 181 = some ⟨.func, 1, 8, .k .nilFunc⟩ := by kernel_rfl
@[go_sem] theorem ti182 : tiOf Tryz.prog 182 = some ⟨.func, 1, 8, .k .nilFunc⟩ := by kernel_rfl
@[go_sem] theorem ti183 : tiOf Tryz.prog 183 = some ⟨.func, 1, 8, .k .nilFunc⟩ := by kernel_rfl
@[go_sem] theorem ti184 : tiOf Tryz.prog 184 = some ⟨.func, 1, 8, .k .nilFunc⟩ := by kernel_rfl
@[go_sem] theorem ti185 : tiOf Tryz.prog 185 = some ⟨.func, 1, 8, .k .nilFunc⟩ := by kernel_rfl
@[go_sem] theorem ti186 : tiOf Tryz.prog 186 = some ⟨.map 9 22, 1, 8, .d (.map [] [])⟩ := by kernel_rfl
@[go_sem] theorem ti187 : tiOf Tryz.prog 187 = some ⟨.func, 1, 8, .k .nilFunc⟩ := by kernel_rfl
@[go_sem] theorem ti188 : tiOf Tryz.prog 188 = some ⟨.func, 1, 8, .k .nilFunc⟩ := by kernel_rfl
@[go_sem] theorem ti189 : tiOf Tryz.prog 189 = some ⟨.func, 1, 8, .k .nilFunc⟩ := by kernel_rfl
@[go_sem] theorem ti190 : tiOf Tryz.prog 190 = some ⟨.func, 1, 8, .k .nilFunc⟩ := by kernel_rfl
@[go_sem] theorem ti191 : tiOf Tryz.prog 191 = some ⟨.arr 2 28, 2, 48, .agg [.nils, .nils]⟩ := by kernel_rfl
@[go_sem] theorem ti192 : tiOf Tryz.prog 192 = some ⟨.func, 1, 8, .k .nilFunc⟩ := by kernel_rfl
@[go_sem] theorem ti193 : tiOf Tryz.prog 193 = some ⟨.func, 1, 8, .k .nilFunc⟩ := by kernel_rfl
@[go_sem] theorem ti194 : tiOf Tryz.prog 194 = some ⟨.func, 1, 8, .k .nilFunc⟩ := by kernel_rfl
@[go_sem] theorem ti195 : tiOf Tryz.prog 195 = some ⟨.func, 1, 8, .k .nilFunc⟩ := by kernel_rfl
@[go_sem] theorem ti196 : tiOf Tryz.prog 196 = some ⟨.func, 1, 8, .k .nilFunc⟩ := by kernel_rfl
@[go_sem] theorem ti197 : tiOf Tryz.prog 197 = some ⟨.ptr 199, 1, 8, .d (.nilp)⟩ := by kernel_rfl
@[go_sem] theorem ti198 : tiOf Tryz.prog 198 = some ⟨.struct [(0, 111), (4, 3)], 5, 104, .agg [.nils, .nils, .nils, .nils, .d (.int .i64 0)]⟩ := by kernel_rfl
@[go_sem] theorem eq198 : eqOk Tryz.prog 198 = true := by kernel_rfl
@[go_sem] theorem ti199 : tiOf Tryz.prog 199 = some ⟨.struct [(0, 111), (4, 3)], 5, 104, .agg [.nils, .nils, .nils, .nils, .d (.int .i64 0)]⟩ := by kernel_rfl
@[go_sem] theorem eq199 : eqOk Tryz.prog 199 = true := by kernel_rfl
@[go_sem] theorem ti200 : tiOf Tryz.prog 200 = some ⟨.func, 1, 8, .k .nilFunc⟩ := by kernel_rfl
@[go_sem] theorem ti201 : tiOf Tryz.prog 201 = some ⟨.map 40 33, 1, 8, .d (.map [] [])⟩ := by kernel_rfl
@[go_sem] theorem ti202 : tiOf Tryz.prog 202 = some ⟨.struct [(0, 31), (7, 201)], 8, 144, .agg [.nils, .nils, .nils, .nils, .nils, .d (.int .i64 0), .d (.int .i64 0), .d (.map [] [])]⟩ := by kernel_rfl
@[go_sem] theorem eq202 : eqOk Tryz.prog 202 = true := by kernel_rfl
@[go_sem] theorem ti203 : tiOf Tryz.prog 203 = some ⟨.struct [(0, 31), (7, 201)], 8, 144, .agg [.nils, .nils, .nils, .nils, .nils, .d (.int .i64 0), .d (.int .i64 0), .d (.map [] [])]⟩ := by kernel_rfl
@[go_sem] theorem eq203 : eqOk Tryz.prog 203 = true := by kernel_rfl
@[go_sem] theorem ti204 : tiOf Tryz.prog 204 = some ⟨.func, 1, 8, .k .nilFunc⟩ := by kernel_rfl
@[go_sem] theorem ti205 : tiOf Tryz.prog 205 = some ⟨.func, 1, 8, .k .nilFunc⟩ := by kernel_rfl
@[go_sem] theorem ti206 : tiOf Tryz.prog 206 = some ⟨.iface, 1, 16, .d (.nili)⟩ := by kernel_rfl
@[go_sem] theorem ti207 : tiOf Tryz.prog 207 = some ⟨.iface, 1, 16, .d (.nili)⟩ := by kernel_rfl
@[go_sem] theorem ti209 : tiOf Tryz.prog 209 = some ⟨.func, 1, 8, .k .nilFunc⟩ := by kernel_rfl
@[go_sem] theorem ti210 : tiOf Tryz.prog 210 = some ⟨.func, 1, 8, .k .nilFunc⟩ := by kernel_rfl
@[go_sem] theorem ti211 : tiOf Tryz.prog 211 = some ⟨.func, 1, 8, .k .nilFunc⟩ := by kernel_rfl
@[go_sem] theorem ti212 : tiOf Tryz.prog 212 = some ⟨.func, 1, 8, .k .nilFunc⟩ := by kernel_rfl
@[go_sem] theorem ti213 : tiOf Tryz.prog 213 = some ⟨.func, 1, 8, .k .nilFunc⟩ := by kernel_rfl
@[go_sem] theorem ti214 : tiOf Tryz.prog 214 = some ⟨.func, 1, 8, .k .nilFunc⟩ := by kernel_rfl
@[go_sem] theorem ti215 : tiOf Tryz.prog 215 = some ⟨.func, 1, 8, .k .nilFunc⟩ := by kernel_rfl
@[go_sem] theorem ti217 : tiOf Tryz.prog 217 = some ⟨.func, 1, 8, .k .nilFunc⟩ := by kernel_rfl
@[go_sem] theorem ti218 : tiOf Tryz.prog 218 = some ⟨.func, 1, 8, .k .nilFunc⟩ := by kernel_rfl
@[go_sem] theorem ti220 : tiOf Tryz.prog 220 = some ⟨.func, 1, 8, .k .nilFunc⟩ := by kernel_rfl
@[go_sem] theorem ti221 : tiOf Tryz.prog 221 = some ⟨.ptr 66, 1, 8, .d (.nilp)⟩ := by kernel_rfl
@[go_sem] theorem ti222 : tiOf Tryz.prog 222 = some ⟨.ptr 60, 1, 8, .d (.nilp)⟩ := by kernel_rfl
@[go_sem] theorem ti223 : tiOf Tryz.prog 223 = some ⟨.func, 1, 8, .k .nilFunc⟩ := by kernel_rfl
@[go_sem] theorem ti224 : tiOf Tryz.prog 224 = some ⟨.func, 1, 8, .k .nilFunc⟩ := by kernel_rfl
@[go_sem] theorem ti225 : tiOf Tryz.prog 225 = some ⟨.func, 1, 8, .k .nilFunc⟩ := by kernel_rfl
@[go_sem] theorem ti226 : tiOf Tryz.prog 226 = some ⟨.func, 1, 8, .k .nilFunc⟩ := by kernel_rfl
@[go_sem] theorem ti227 : tiOf Tryz.prog 227 = some ⟨.func, 1, 8, .k .nilFunc⟩ := by kernel_rfl
@[go_sem] theorem ti228 : tiOf Tryz.prog 228 = some ⟨.func, 1, 8, .k .nilFunc⟩ := by kernel_rfl
@[go_sem] theorem ti229 : tiOf Tryz.prog 229 = some ⟨.func, 1, 8, .k .nilFunc⟩ := by kernel_rfl
@[go_sem] theorem ti230 : tiOf Tryz.prog 230 = some ⟨.func, 1, 8, .k .nilFunc⟩ := by kernel_rfl
@[go_sem] theorem ti231 : tiOf Tryz.prog 231 = some ⟨.func, 1, 8, .k .nilFunc⟩ := by kernel_rfl
@[go_sem] theorem ti232 : tiOf Tryz.prog 232 = some ⟨.func, 1, 8, .k .nilFunc⟩ := by kernel_rfl
@[go_sem] theorem ti233 : tiOf Tryz.prog 233 = some ⟨.func, 1, 8, .k .nilFunc⟩ := by kernel_rfl
@[go_sem] theorem ti234 : tiOf Tryz.prog 234 = some ⟨.func, 1, 8, .k .nilFunc⟩ := by kernel_rfl
@[go_sem] theorem ti235 : tiOf Tryz.prog 235 = some ⟨.func, 1, 8, .k .nilFunc⟩ := by kernel_rfl
@[go_sem] theorem ti236 : tiOf Tryz.prog 236 = some ⟨.func, 1, 8, .k .nilFunc⟩ := by kernel_rfl
@[go_sem] theorem ti237 : tiOf Tryz.prog 237 = some ⟨.func, 1, 8, .k .nilFunc⟩ := by kernel_rfl
@[go_sem] theorem ti238 : tiOf Tryz.prog 238 = some ⟨.int .u64, 1, 8, .d (.int .u64 0)⟩ := by kernel_rfl
@[go_sem] theorem ti239 : tiOf Tryz.prog 239 = some ⟨.func, 1, 8, .k .nilFunc⟩ := by kernel_rfl
@[go_sem] theorem ti240 : tiOf Tryz.prog 240 = some ⟨.func, 1, 8, .k .nilFunc⟩ := by kernel_rfl
@[go_sem] theorem ti242 : tiOf Tryz.prog 242 = some ⟨.func, 1, 8, .k .nilFunc⟩ := by kernel_rfl
@[go_sem] theorem ti243 : tiOf Tryz.prog 243 = some ⟨.func, 1, 8, .k .nilFunc⟩ := by kernel_rfl
@[go_sem] theorem ti244 : tiOf Tryz.prog 244 = some ⟨.func, 1, 8, .k .nilFunc⟩ := by kernel_rfl
@[go_sem] theorem ti245 : tiOf Tryz.prog 245 = some ⟨.func, 1, 8, .k .nilFunc⟩ := by kernel_rfl
@[go_sem] theorem ti246 : tiOf Tryz.prog 246 = some ⟨.func, 1, 8, .k .nilFunc⟩ := by kernel_rfl
@[go_sem] theorem ti247 : tiOf Tryz.prog 247 = some ⟨.func, 1, 8, .k .nilFunc⟩ := by kernel_rfl
@[go_sem] theorem ti248 : tiOf Tryz.prog 248 = some ⟨.func, 1, 8, .k .nilFunc⟩ := by kernel_rfl
@[go_sem] theorem ti249 : tiOf Tryz.prog 249 = some ⟨.map 9 29, 1, 8, .d (.map [] [])⟩ := by kernel_rfl
@[go_sem] theorem ti250 : tiOf Tryz.prog 250 = some ⟨.func, 1, 8, .k .nilFunc⟩ := by kernel_rfl
@[go_sem] theorem ti251 : tiOf Tryz.prog 251 = some ⟨.func, 1, 8, .k .nilFunc⟩ := by kernel_rfl
@[go_sem] theorem ti252 : tiOf Tryz.prog 252 = some ⟨.func, 1, 8, .k .nilFunc⟩ := by kernel_rfl
@[go_sem] theorem ti253 : tiOf Tryz.prog 253 = some ⟨.func, 1, 8, .k .nilFunc⟩ := by kernel_rfl
@[go_sem] theorem ti254 : tiOf Tryz.prog 254 = some ⟨.func, 1, 8, .k .nilFunc⟩ := by kernel_rfl
@[go_sem] theorem ti255 : tiOf Tryz.prog 255 = some ⟨.func, 1, 8, .k .nilFunc⟩ := by kernel_rfl
@[go_sem] theorem ti256 : tiOf Tryz.prog 256 = some ⟨.func, 1, 8, .k .nilFunc⟩ := by kernel_rfl
@[go_sem] theorem ti257 : tiOf Tryz.prog 257 = some ⟨.func, 1, 8, .k .nilFunc⟩ := by kernel_rfl
@[go_sem] theorem ti258 : tiOf Tryz.prog 258 = some ⟨.func, 1, 8, .k .nilFunc⟩ := by kernel_rfl
@[go_sem] theorem ti259 : tiOf Tryz.prog 259 = some ⟨.func, 1, 8, .k .nilFunc⟩ := by kernel_rfl
@[go_sem] theorem ti260 : tiOf Tryz.prog 260 = some ⟨.slice 28, 1, 24, .nils⟩ := by kernel_rfl
@[go_sem] theorem ti261 : tiOf Tryz.prog 261 = some ⟨.func, 1, 8, .k .nilFunc⟩ := by kernel_rfl
@[go_sem] theorem ti262 : tiOf Tryz.prog 262 = some ⟨.func, 1, 8, .k .nilFunc⟩ := by kernel_rfl
@[go_sem] theorem ti263 : tiOf Tryz.prog 263 = some ⟨.func, 1, 8, .k .nilFunc⟩ := by kernel_rfl
@[go_sem] theorem ti265 : tiOf Tryz.prog 265 = some ⟨.func, 1, 8, .k .nilFunc⟩ := by kernel_rfl
@[go_sem] theorem ti266 : tiOf Tryz.prog 266 = some ⟨.slice 273, 1, 24, .nils⟩ := by kernel_rfl
@[go_sem] theorem ti267 : tiOf Tryz.prog 267 = some ⟨.slice 324, 1, 24, .nils⟩ := by kernel_rfl
@[go_sem] theorem ti268 : tiOf Tryz.prog 268 = some ⟨.struct [(0, 9), (1, 266), (2, 267), (3, 29), (4, 29)], 5, 112, .agg [.d (.str []), .nils, .nils, .nils, .nils]⟩ := by kernel_rfl
@[go_sem] theorem eq268 : eqOk Tryz.prog 268 = true := by kernel_rfl
@[go_sem] theorem ti269 : tiOf Tryz.prog 269 = some ⟨.struct [(0, 9), (1, 266), (2, 267), (3, 29), (4, 29)], 5, 112, .agg [.d (.str []), .nils, .nils, .nils, .nils]⟩ := by kernel_rfl
@[go_sem] theorem eq269 : eqOk Tryz.prog 269 = true := by kernel_rfl
@[go_sem] theorem ti270 : tiOf Tryz.prog 270 = some ⟨.ptr 269, 1, 8, .d (.nilp)⟩ := by kernel_rfl
@[go_sem] theorem ti271 : tiOf Tryz.prog 271 = some ⟨.func, 1, 8, .k .nilFunc⟩ := by kernel_rfl
@[go_sem] theorem ti272 : tiOf Tryz.prog 272 = some ⟨.struct [(0, 9), (1, 3)], 2, 24, .d (.agg [.str [], .int .i64 0])⟩ := by kernel_rfl
@[go_sem] theorem eq272 : eqOk Tryz.prog 272 = true := by kernel_rfl
@[go_sem] theorem ti273 : tiOf Tryz.prog 273 = some ⟨.struct [(0, 9), (1, 3)], 2, 24, .d (.agg [.str [], .int .i64 0])⟩ := by kernel_rfl
@[go_sem] theorem eq273 : eqOk Tryz.prog 273 = true := by kernel_rfl
@[go_sem] theorem ti274 : tiOf Tryz.prog 274 = some ⟨.func, 1, 8, .k .nilFunc⟩ := by kernel_rfl
@[go_sem] theorem ti275 : tiOf Tryz.prog 275 = some ⟨.func, 1, 8, .k .nilFunc⟩ := by kernel_rfl
@[go_sem] theorem ti276 : tiOf Tryz.prog 276 = some ⟨.func, 1, 8, .k .nilFunc⟩ := by kernel_rfl
@[go_sem] theorem ti277 : tiOf Tryz.prog 277 = some ⟨.func, 1, 8, .k .nilFunc⟩ := by kernel_rfl
@[go_sem] theorem ti278 : tiOf Tryz.prog 278 = some ⟨.func, 1, 8, .k .nilFunc⟩ := by kernel_rfl
@[go_sem] theorem ti279 : tiOf Tryz.prog 279 = some ⟨.func, 1, 8, .k .nilFunc⟩ := by kernel_rfl
@[go_sem] theorem ti280 : tiOf Tryz.prog 280 = some ⟨.ptr 5, 1, 8, .d (.nilp)⟩ := by kernel_rfl
@[go_sem] theorem ti281 : tiOf Tryz.prog 281 = some ⟨.func, 1, 8, .k .nilFunc⟩ := by kernel_rfl
@[go_sem] theorem ti282 : tiOf Tryz.prog 282 = some ⟨.func, 1, 8, .k .nilFunc⟩ := by kernel_rfl
@[go_sem] theorem ti284 : tiOf Tryz.prog 284 = some ⟨.func, 1, 8, .k .nilFunc⟩ := by kernel_rfl
@[go_sem] theorem ti285 : tiOf Tryz.prog 285 = some ⟨.func, 1, 8, .k .nilFunc⟩ := by kernel_rfl
@[go_sem] theorem ti286 : tiOf Tryz.prog 286 = some ⟨.func, 1, 8, .k .nilFunc⟩ := by kernel_rfl
@[go_sem] theorem ti287 : tiOf Tryz.prog 287 = some ⟨.func, 1, 8, .k .nilFunc⟩ := by kernel_rfl
@[go_sem] theorem ti288 : tiOf Tryz.prog 288 = some ⟨.func, 1, 8, .k .nilFunc⟩ := by kernel_rfl
@[go_sem] theorem ti289 : tiOf Tryz.prog 289 = some ⟨.func, 1, 8, .k .nilFunc⟩ := by kernel_rfl
@[go_sem] theorem ti290 : tiOf Tryz.prog 290 = some ⟨.func, 1, 8, .k .nilFunc⟩ := by kernel_rfl
@[go_sem] theorem ti291 : tiOf Tryz.prog 291 = some ⟨.func, 1, 8, .k .nilFunc⟩ := by kernel_rfl
@[go_sem] theorem ti292 : tiOf Tryz.prog 292 = some ⟨.int .i64, 1, 8, .d (.int .i64 0)⟩ := by kernel_rfl
@[go_sem] theorem ti294 : tiOf Tryz.prog 294 = some ⟨.func, 1, 8, .k .nilFunc⟩ := by kernel_rfl
@[go_sem] theorem ti295 : tiOf Tryz.prog 295 = some ⟨.func, 1, 8, .k .nilFunc⟩ := by kernel_rfl
@[go_sem] theorem ti296 : tiOf Tryz.prog 296 = some ⟨.func, 1, 8, .k .nilFunc⟩ := by kernel_rfl
@[go_sem] theorem ti297 : tiOf Tryz.prog 297 = some ⟨.func, 1, 8, .k .nilFunc⟩ := by kernel_rfl
@[go_sem] theorem ti298 : tiOf Tryz.prog 298 = some ⟨.func, 1, 8, .k .nilFunc⟩ := by kernel_rfl
@[go_sem] theorem ti299 : tiOf Tryz.prog 299 = some ⟨.int .u32, 1, 4, .d (.int .u32 0)⟩ := by kernel_rfl
@[go_sem] theorem ti300 : tiOf Tryz.prog 300 = some ⟨.func, 1, 8, .k .nilFunc⟩ := by kernel_rfl
@[go_sem] theorem ti301 : tiOf Tryz.prog 301 = some ⟨.int .u64, 1, 8, .d (.int .u64 0)⟩ := by kernel_rfl
@[go_sem] theorem ti302 : tiOf Tryz.prog 302 = some ⟨.func, 1, 8, .k .nilFunc⟩ := by kernel_rfl
@[go_sem] theorem ti304 : tiOf Tryz.prog 304 = some ⟨.func, 1, 8, .k .nilFunc⟩ := by kernel_rfl
@[go_sem] theorem ti306 : tiOf Tryz.prog 306 = some ⟨.func, 1, 8, .k .nilFunc⟩ := by kernel_rfl
@[go_sem] theorem ti307 : tiOf Tryz.prog 307 = some ⟨.func, 1, 8, .k .nilFunc⟩ := by kernel_rfl
@[go_sem] theorem ti308 : tiOf Tryz.prog 308 = some ⟨.func, 1, 8, .k .nilFunc⟩ := by kernel_rfl
@[go_sem] theorem ti309 : tiOf Tryz.prog 309 = some ⟨.func, 1, 8, .k .nilFunc⟩ := by kernel_rfl
@[go_sem] theorem ti310 : tiOf Tryz.prog 310 = some ⟨.func, 1, 8, .k .nilFunc⟩ := by kernel_rfl
@[go_sem] theorem ti311 : tiOf Tryz.prog 311 = some ⟨.func, 1, 8, .k .nilFunc⟩ := by kernel_rfl
@[go_sem] theorem ti312 : tiOf Tryz.prog 312 = some ⟨.func, 1, 8, .k .nilFunc⟩ := by kernel_rfl
@[go_sem] theorem ti313 : tiOf Tryz.prog 313 = some ⟨.func, 1, 8, .k .nilFunc⟩ := by kernel_rfl
@[go_sem] theorem ti314 : tiOf Tryz.prog 314 = some ⟨.func, 1, 8, .k .nilFunc⟩ := by kernel_rfl
@[go_sem] theorem ti315 : tiOf Tryz.prog 315 = some ⟨.func, 1, 8, .k .nilFunc⟩ := by kernel_rfl
@[go_sem] theorem ti316 : tiOf Tryz.prog 316 = some ⟨.func, 1, 8, .k .nilFunc⟩ := by kernel_rfl
@[go_sem] theorem ti317 : tiOf Tryz.prog 317 = some ⟨.func, 1, 8, .k .nilFunc⟩ := by kernel_rfl
@[go_sem] theorem ti318 : tiOf Tryz.prog 318 = some ⟨.slice 259, 1, 24, .nils⟩ := by kernel_rfl
@[go_sem] theorem ti319 : tiOf Tryz.prog 319 = some ⟨.func, 1, 8, .k .nilFunc⟩ := by kernel_rfl
@[go_sem] theorem ti320 : tiOf Tryz.prog 320 = some ⟨.func, 1, 8, .k .nilFunc⟩ := by kernel_rfl
@[go_sem] theorem ti321 : tiOf Tryz.prog 321 = some ⟨.struct [(0, 9), (1, 9)], 2, 32, .d (.agg [.str [], .str []])⟩ := by kernel_rfl
@[go_sem] theorem eq321 : eqOk Tryz.prog 321 = true := by kernel_rfl
@[go_sem] theorem ti322 : tiOf Tryz.prog 322 = some ⟨.struct [(0, 9), (1, 9)], 2, 32, .d (.agg [.str [], .str []])⟩ := by kernel_rfl
@[go_sem] theorem eq322 : eqOk Tryz.prog 322 = true := by kernel_rfl
@[go_sem] theorem ti323 : tiOf Tryz.prog 323 = some ⟨.struct [(0, 9), (1, 3), (2, 3)], 3, 32, .d (.agg [.str [], .int .i64 0, .int .i64 0])⟩ := by kernel_rfl
@[go_sem] theorem eq323 : eqOk Tryz.prog 323 = true := by kernel_rfl
@[go_sem] theorem ti324 : tiOf Tryz.prog 324 = some ⟨.struct [(0, 9), (1, 3), (2, 3)], 3, 32, .d (.agg [.str [], .int .i64 0, .int .i64 0])⟩ := by kernel_rfl
@[go_sem] theorem eq324 : eqOk Tryz.prog 324 = true := by kernel_rfl
@[go_sem] theorem ti325 : tiOf Tryz.prog 325 = some ⟨.struct [(0, 3), (1, 29)], 2, 32, .agg [.d (.int .i64 0), .nils]⟩ := by kernel_rfl
@[go_sem] theorem eq325 : eqOk Tryz.prog 325 = true := by kernel_rfl
@[go_sem] theorem ti326 : tiOf Tryz.prog 326 = some ⟨.struct [(0, 3), (1, 29)], 2, 32, .agg [.d (.int .i64 0), .nils]⟩ := by kernel_rfl
@[go_sem] theorem eq326 : eqOk Tryz.prog 326 = true := by kernel_rfl
@[go_sem] theorem ti327 : tiOf Tryz.prog 327 = some ⟨.struct [(0, 9), (1, 9)], 2, 32, .d (.agg [.str [], .str []])⟩ := by kernel_rfl
@[go_sem] theorem eq327 : eqOk Tryz.prog 327 = true := by kernel_rfl
@[go_sem] theorem ti328 : tiOf Tryz.prog 328 = some ⟨.struct [(0, 9), (1, 9)], 2, 32, .d (.agg [.str [], .str []])⟩ := by kernel_rfl
@[go_sem] theorem eq328 : eqOk Tryz.prog 328 = true := by kernel_rfl
@[go_sem] theorem ti329 : tiOf Tryz.prog 329 = some ⟨.map 9 9, 1, 8, .d (.map [] [])⟩ := by kernel_rfl
@[go_sem] theorem ti330 : tiOf Tryz.prog 330 = some ⟨.map 9 9, 1, 8, .d (.map [] [])⟩ := by kernel_rfl
@[go_sem] theorem ti331 : tiOf Tryz.prog 331 = some ⟨.func, 1, 8, .k .nilFunc⟩ := by kernel_rfl
@[go_sem] theorem ti332 : tiOf Tryz.prog 332 = some ⟨.func, 1, 8, .k .nilFunc⟩ := by kernel_rfl
@[go_sem] theorem ti333 : tiOf Tryz.prog 333 = some ⟨.func, 1, 8, .k .nilFunc⟩ := by kernel_rfl
@[go_sem] theorem ti334 : tiOf Tryz.prog 334 = some ⟨.func, 1, 8, .k .nilFunc⟩ := by kernel_rfl
@[go_sem] theorem ti335 : tiOf Tryz.prog 335 = some ⟨.arr 24 5, 24, 24, .d (.agg [.int .u8 0, .int .u8 0, .int .u8 0, .int .u8 0, .int .u8 0, .int .u8 0, .int .u8 0, .int .u8 0, .int .u8 0, .int .u8 0, .int .u8 0, .int .u8 0, .int .u8 0, .int .u8 0, .int .u8 0, .int .u8 0, .int .u8 0, .int .u8 0, .int .u8 0, .int .u8 0, .int .u8 0, .int .u8 0, .int .u8 0, .int .u8 0])⟩ := by kernel_rfl
@[go_sem] theorem ti336 : tiOf Tryz.prog 336 = some ⟨.func, 1, 8, .k .nilFunc⟩ := by kernel_rfl
@[go_sem] theorem ti338 : tiOf Tryz.prog 338 = some ⟨.func, 1, 8, .k .nilFunc⟩ := by kernel_rfl
@[go_sem] theorem ti339 : tiOf Tryz.prog 339 = some ⟨.uptr, 1, 8, .d (.nilp)⟩ := by kernel_rfl
@[go_sem] theorem ti340 : tiOf Tryz.prog 340 = some ⟨.func, 1, 8, .k .nilFunc⟩ := by kernel_rfl
@[go_sem] theorem ti341 : tiOf Tryz.prog 341 = some ⟨.func, 1, 8, .k .nilFunc⟩ := by kernel_rfl
@[go_sem] theorem ti342 : tiOf Tryz.prog 342 = some ⟨.func, 1, 8, .k .nilFunc⟩ := by kernel_rfl
@[go_sem] theorem ti343 : tiOf Tryz.prog 343 = some ⟨.int .u64, 1, 8, .d (.int .u64 0)⟩ := by kernel_rfl
@[go_sem] theorem ti344 : tiOf Tryz.prog 344 = some ⟨.func, 1, 8, .k .nilFunc⟩ := by kernel_rfl
@[go_sem] theorem ti345 : tiOf Tryz.prog 345 = some ⟨.func, 1, 8, .k .nilFunc⟩ := by kernel_rfl
@[go_sem] theorem ti346 : tiOf Tryz.prog 346 = some ⟨.func, 1, 8, .k .nilFunc⟩ := by kernel_rfl
@[go_sem] theorem ti347 : tiOf Tryz.prog 347 = some ⟨.ptr 3, 1, 8, .d (.nilp)⟩ := by kernel_rfl
@[go_sem] theorem ti348 : tiOf Tryz.prog 348 = some ⟨.func, 1, 8, .k .nilFunc⟩ := by kernel_rfl
@[go_sem] theorem ti349 : tiOf Tryz.prog 349 = some ⟨.func, 1, 8, .k .nilFunc⟩ := by kernel_rfl
@[go_sem] theorem ti350 : tiOf Tryz.prog 350 = some ⟨.func, 1, 8, .k .nilFunc⟩ := by kernel_rfl
@[go_sem] theorem ti351 : tiOf Tryz.prog 351 = some ⟨.func, 1, 8, .k .nilFunc⟩ := by kernel_rfl
@[go_sem] theorem ti352 : tiOf Tryz.prog 352 = some ⟨.func, 1, 8, .k .nilFunc⟩ := by kernel_rfl
@[go_sem] theorem ti353 : tiOf Tryz.prog 353 = some ⟨.func, 1, 8, .k .nilFunc⟩ := by kernel_rfl
@[go_sem] theorem ti354 : tiOf Tryz.prog 354 = some ⟨.func, 1, 8, .k .nilFunc⟩ := by kernel_rfl
@[go_sem] theorem ti355 : tiOf Tryz.prog 355 = some ⟨.func, 1, 8, .k .nilFunc⟩ := by kernel_rfl
@[go_sem] theorem ti356 : tiOf Tryz.prog 356 = some ⟨.func, 1, 8, .k .nilFunc⟩ := by kernel_rfl
@[go_sem] theorem ti357 : tiOf Tryz.prog 357 = some ⟨.func, 1, 8, .k .nilFunc⟩ := by kernel_rfl
@[go_sem] theorem ti358 : tiOf Tryz.prog 358 = some ⟨.func, 1, 8, .k .nilFunc⟩ := by kernel_rfl
@[go_sem] theorem ti359 : tiOf Tryz.prog 359 = some ⟨.func, 1, 8, .k .nilFunc⟩ := by kernel_rfl
@[go_sem] theorem ti360 : tiOf Tryz.prog 360 = some ⟨.func, 1, 8, .k .nilFunc⟩ := by kernel_rfl
@[go_sem] theorem ti361 : tiOf Tryz.prog 361 = some ⟨.func, 1, 8, .k .nilFunc⟩ := by kernel_rfl
@[go_sem] theorem ti362 : tiOf Tryz.prog 362 = some ⟨.func, 1, 8, .k .nilFunc⟩ := by kernel_rfl
@[go_sem] theorem ti363 : tiOf Tryz.prog 363 = some ⟨.func, 1, 8, .k .nilFunc⟩ := by kernel_rfl
@[go_sem] theorem ti364 : tiOf Tryz.prog 364 = some ⟨.func, 1, 8, .k .nilFunc⟩ := by kernel_rfl
@[go_sem] theorem ti368 : tiOf Tryz.prog 368 = some ⟨.func, 1, 8, .k .nilFunc⟩ := by kernel_rfl
@[go_sem] theorem ti369 : tiOf Tryz.prog 369 = some ⟨.func, 1, 8, .k .nilFunc⟩ := by kernel_rfl
@[go_sem] theorem ti370 : tiOf Tryz.prog 370 = some ⟨.ptr 366, 1, 8, .d (.nilp)⟩ := by kernel_rfl
@[go_sem] theorem ti371 : tiOf Tryz.prog 371 = some ⟨.func, 1, 8, .k .nilFunc⟩ := by kernel_rfl
@[go_sem] theorem ti372 : tiOf Tryz.prog 372 = some ⟨.func, 1, 8, .k .nilFunc⟩ := by kernel_rfl
@[go_sem] theorem ti373 : tiOf Tryz.prog 373 = some ⟨.func, 1, 8, .k .nilFunc⟩ := by kernel_rfl
@[go_sem] theorem ti374 : tiOf Tryz.prog 374 = some ⟨.func, 1, 8, .k .nilFunc⟩ := by kernel_rfl
@[go_sem] theorem ti375 : tiOf Tryz.prog 375 = some ⟨.func, 1, 8, .k .nilFunc⟩ := by kernel_rfl
@[go_sem] theorem ti376 : tiOf Tryz.prog 376 = some ⟨.func, 1, 8, .k .nilFunc⟩ := by kernel_rfl
@[go_sem] theorem ti377 : tiOf Tryz.prog 377 = some ⟨.func, 1, 8, .k .nilFunc⟩ := by kernel_rfl
@[go_sem] theorem ti379 : tiOf Tryz.prog 379 = some ⟨.struct [(0, 5), (1, 5)], 2, 2, .d (.agg [.int .u8 0, .int .u8 0])⟩ := by kernel_rfl
@[go_sem] theorem eq379 : eqOk Tryz.prog 379 = true := by kernel_rfl
@[go_sem] theorem ti380 : tiOf Tryz.prog 380 = some ⟨.struct [(0, 5), (1, 5)], 2, 2, .d (.agg [.int .u8 0, .int .u8 0])⟩ := by kernel_rfl
@[go_sem] theorem eq380 : eqOk Tryz.prog 380 = true := by kernel_rfl
@[go_sem] theorem ti381 : tiOf Tryz.prog 381 = some ⟨.arr 16 380, 32, 32, .d (.agg [.int .u8 0, .int .u8 0, .int .u8 0, .int .u8 0, .int .u8 0, .int .u8 0, .int .u8 0, .int .u8 0, .int .u8 0, .int .u8 0, .int .u8 0, .int .u8 0, .int .u8 0, .int .u8 0, .int .u8 0, .int .u8 0, .int .u8 0, .int .u8 0, .int .u8 0, .int .u8 0, .int .u8 0, .int .u8 0, .int .u8 0, .int .u8 0, .int .u8 0, .int .u8 0, .int .u8 0, .int .u8 0, .int .u8 0, .int .u8 0, .int .u8 0, .int .u8 0])⟩ := by kernel_rfl
@[go_sem] theorem ti382 : tiOf Tryz.prog 382 = some ⟨.func, 1, 8, .k .nilFunc⟩ := by kernel_rfl
@[go_sem] theorem ti383 : tiOf Tryz.prog 383 = some ⟨.func, 1, 8, .k .nilFunc⟩ := by kernel_rfl
@[go_sem] theorem ti384 : tiOf Tryz.prog 384 = some ⟨.func, 1, 8, .k .nilFunc⟩ := by kernel_rfl
@[go_sem] theorem ti385 : tiOf Tryz.prog 385 = some ⟨.arr 4 36, 4, 32, .d (.agg [.int .i64 0, .int .i64 0, .int .i64 0, .int .i64 0])⟩ := by kernel_rfl
@[go_sem] theorem ti386 : tiOf Tryz.prog 386 = some ⟨.arr 20 301, 20, 160, .d (.agg [.int .u64 0, .int .u64 0, .int .u64 0, .int .u64 0, .int .u64 0, .int .u64 0, .int .u64 0, .int .u64 0, .int .u64 0, .int .u64 0, .int .u64 0, .int .u64 0, .int .u64 0, .int .u64 0, .int .u64 0, .int .u64 0, .int .u64 0, .int .u64 0, .int .u64 0, .int .u64 0])⟩ := by kernel_rfl
@[go_sem] theorem ti389 : tiOf Tryz.prog 389 = some ⟨.func, 1, 8, .k .nilFunc⟩ := by kernel_rfl
@[go_sem] theorem ti390 : tiOf Tryz.prog 390 = some ⟨.func, 1, 8, .k .nilFunc⟩ := by kernel_rfl
@[go_sem] theorem ti391 : tiOf Tryz.prog 391 = some ⟨.ptr 343, 1, 8, .d (.nilp)⟩ := by kernel_rfl
@[go_sem] theorem ti393 : tiOf Tryz.prog 393 = some ⟨.func, 1, 8, .k .nilFunc⟩ := by kernel_rfl
@[go_sem] theorem ti394 : tiOf Tryz.prog 394 = some ⟨.func, 1, 8, .k .nilFunc⟩ := by kernel_rfl
@[go_sem] theorem ti395 : tiOf Tryz.prog 395 = some ⟨.func, 1, 8, .k .nilFunc⟩ := by kernel_rfl
@[go_sem] theorem ti396 : tiOf Tryz.prog 396 = some ⟨.func, 1, 8, .k .nilFunc⟩ := by kernel_rfl
@[go_sem] theorem ti397 : tiOf Tryz.prog 397 = some ⟨.func, 1, 8, .k .nilFunc⟩ := by kernel_rfl
@[go_sem] theorem ti398 : tiOf Tryz.prog 398 = some ⟨.func, 1, 8, .k .nilFunc⟩ := by kernel_rfl
@[go_sem] theorem ti399 : tiOf Tryz.prog 399 = some ⟨.func, 1, 8, .k .nilFunc⟩ := by kernel_rfl
@[go_sem] theorem ti400 : tiOf Tryz.prog 400 = some ⟨.func, 1, 8, .k .nilFunc⟩ := by kernel_rfl
@[go_sem] theorem ti401 : tiOf Tryz.prog 401 = some ⟨.func, 1, 8, .k .nilFunc⟩ := by kernel_rfl
@[go_sem] theorem ti402 : tiOf Tryz.prog 402 = some ⟨.func, 1, 8, .k .nilFunc⟩ := by kernel_rfl
@[go_sem] theorem ti403 : tiOf Tryz.prog 403 = some ⟨.func, 1, 8, .k .nilFunc⟩ := by kernel_rfl
@[go_sem] theorem ti404 : tiOf Tryz.prog 404 = some ⟨.int .i64, 1, 8, .d (.int .i64 0)⟩ := by kernel_rfl
@[go_sem] theorem ti406 : tiOf Tryz.prog 406 = some ⟨.func, 1, 8, .k .nilFunc⟩ := by kernel_rfl
@[go_sem] theorem ti407 : tiOf Tryz.prog 407 = some ⟨.ptr 421, 1, 8, .d (.nilp)⟩ := by kernel_rfl
@[go_sem] theorem ti408 : tiOf Tryz.prog 408 = some ⟨.func, 1, 8, .k .nilFunc⟩ := by kernel_rfl
@[go_sem] theorem ti409 : tiOf Tryz.prog 409 = some ⟨.func, 1, 8, .k .nilFunc⟩ := by kernel_rfl
@[go_sem] theorem ti410 : tiOf Tryz.prog 410 = some ⟨.func, 1, 8, .k .nilFunc⟩ := by kernel_rfl
@[go_sem] theorem ti411 : tiOf Tryz.prog 411 = some ⟨.func, 1, 8, .k .nilFunc⟩ := by kernel_rfl
@[go_sem] theorem ti412 : tiOf Tryz.prog 412 = some ⟨.func, 1, 8, .k .nilFunc⟩ := by kernel_rfl
@[go_sem] theorem ti413 : tiOf Tryz.prog 413 = some ⟨.func, 1, 8, .k .nilFunc⟩ := by kernel_rfl
@[go_sem] theorem ti414 : tiOf Tryz.prog 414 = some ⟨.func, 1, 8, .k .nilFunc⟩ := by kernel_rfl
@[go_sem] theorem ti415 : tiOf Tryz.prog 415 = some ⟨.arr 32 5, 32, 32, .d (.agg [.int .u8 0, .int .u8 0, .int .u8 0, .int .u8 0, .int .u8 0, .int .u8 0, .int .u8 0, .int .u8 0, .int .u8 0, .int .u8 0, .int .u8 0, .int .u8 0, .int .u8 0, .int .u8 0, .int .u8 0, .int .u8 0, .int .u8 0, .int .u8 0, .int .u8 0, .int .u8 0, .int .u8 0, .int .u8 0, .int .u8 0, .int .u8 0, .int .u8 0, .int .u8 0, .int .u8 0, .int .u8 0, .int .u8 0, .int .u8 0, .int .u8 0, .int .u8 0])⟩ := by kernel_rfl
@[go_sem] theorem ti418 : tiOf Tryz.prog 418 = some ⟨.func, 1, 8, .k .nilFunc⟩ := by kernel_rfl
@[go_sem] theorem ti419 : tiOf Tryz.prog 419 = some ⟨.func, 1, 8, .k .nilFunc⟩ := by kernel_rfl
@[go_sem] theorem ti420 : tiOf Tryz.prog 420 = some ⟨.struct [(0, 9), (1, 9), (2, 207)], 3, 48, .d (.agg [.str [], .str [], .nili])⟩ := by kernel_rfl
@[go_sem] theorem ti421 : tiOf Tryz.prog 421 = some ⟨.struct [(0, 9), (1, 9), (2, 207)], 3, 48, .d (.agg [.str [], .str [], .nili])⟩ := by kernel_rfl
@[go_sem] theorem ti422 : tiOf Tryz.prog 422 = some ⟨.func, 1, 8, .k .nilFunc⟩ := by kernel_rfl
@[go_sem] theorem ti423 : tiOf Tryz.prog 423 = some ⟨.func, 1, 8, .k .nilFunc⟩ := by kernel_rfl
@[go_sem] theorem ti424 : tiOf Tryz.prog 424 = some ⟨.func, 1, 8, .k .nilFunc⟩ := by kernel_rfl
@[go_sem] theorem ti425 : tiOf Tryz.prog 425 = some ⟨.ptr 427, 1, 8, .d (.nilp)⟩ := by kernel_rfl
@[go_sem] theorem ti426 : tiOf Tryz.prog 426 = some ⟨.struct [(0, 9)], 1, 16, .d (.agg [.str []])⟩ := by kernel_rfl
@[go_sem] theorem eq426 : eqOk Tryz.prog 426 = true := by kernel_rfl
@[go_sem] theorem ti427 : tiOf Tryz.prog 427 = some ⟨.struct [(0, 9)], 1, 16, .d (.agg [.str []])⟩ := by kernel_rfl
@[go_sem] theorem eq427 : eqOk Tryz.prog 427 = true := by kernel_rfl
@[go_sem] theorem ti428 : tiOf Tryz.prog 428 = some ⟨.struct [(0, 17), (1, 17), (2, 17), (3, 9)], 4, 40, .d (.agg [.nilp, .nilp, .nilp, .str []])⟩ := by kernel_rfl
@[go_sem] theorem ti429 : tiOf Tryz.prog 429 = some ⟨.struct [(0, 17), (1, 17), (2, 17), (3, 9)], 4, 40, .d (.agg [.nilp, .nilp, .nilp, .str []])⟩ := by kernel_rfl
@[go_sem] theorem ti430 : tiOf Tryz.prog 430 = some ⟨.arr 0 16, 0, 0, .d (.agg [])⟩ := by kernel_rfl
@[go_sem] theorem ti431 : tiOf Tryz.prog 431 = some ⟨.struct [(0, 430)], 0, 0, .d (.agg [])⟩ := by kernel_rfl
@[go_sem] theorem ti432 : tiOf Tryz.prog 432 = some ⟨.struct [(0, 430)], 0, 0, .d (.agg [])⟩ := by kernel_rfl
@[go_sem] theorem ti433 : tiOf Tryz.prog 433 = some ⟨.int .u8, 1, 1, .d (.int .u8 0)⟩ := by kernel_rfl
@[go_sem] theorem ti434 : tiOf Tryz.prog 434 = some ⟨.int .u8, 1, 1, .d (.int .u8 0)⟩ := by kernel_rfl
@[go_sem] theorem ti435 : tiOf Tryz.prog 435 = some ⟨.func, 1, 8, .k .nilFunc⟩ := by kernel_rfl
@[go_sem] theorem ti436 : tiOf Tryz.prog 436 = some ⟨.int .i32, 1, 4, .d (.int .i32 0)⟩ := by kernel_rfl
@[go_sem] theorem ti437 : tiOf Tryz.prog 437 = some ⟨.int .i32, 1, 4, .d (.int .i32 0)⟩ := by kernel_rfl
@[go_sem] theorem ti438 : tiOf Tryz.prog 438 = some ⟨.struct [(0, 12), (1, 12), (2, 299), (3, 433), (4, 5), (5, 5), (6, 434), (7, 435), (8, 280), (9, 436), (10, 437)], 11, 48, .agg [.d (.int .u64 0), .d (.int .u64 0), .d (.int .u32 0), .d (.int .u8 0), .d (.int .u8 0), .d (.int .u8 0), .d (.int .u8 0), .k .nilFunc, .d (.nilp), .d (.int .i32 0), .d (.int .i32 0)]⟩ := by kernel_rfl
@[go_sem] theorem ti439 : tiOf Tryz.prog 439 = some ⟨.struct [(0, 12), (1, 12), (2, 299), (3, 433), (4, 5), (5, 5), (6, 434), (7, 435), (8, 280), (9, 436), (10, 437)], 11, 48, .agg [.d (.int .u64 0), .d (.int .u64 0), .d (.int .u32 0), .d (.int .u8 0), .d (.int .u8 0), .d (.int .u8 0), .d (.int .u8 0), .k .nilFunc, .d (.nilp), .d (.int .i32 0), .d (.int .i32 0)]⟩ := by kernel_rfl
@[go_sem] theorem ti440 : tiOf Tryz.prog 440 = some ⟨.func, 1, 8, .k .nilFunc⟩ := by kernel_rfl
theorem hmix : Tryz.prog.follows .mixedOrders = true := by kernel_rfl
end Go.AX
