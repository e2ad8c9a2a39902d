/- What AX knows of the types of the program. -/
import Derived.Test.YtecggjfjafnepaaGreatDoorAx31
import Derived.Test.YtecggjfjafnepaaGreatDoorChecked
import Derived.KernelRfl
set_option linter.unusedSimpArgs false
set_option linter.unusedVariables false
namespace Go.AX
open Go Go.Proofs
@[go_sem] theorem ti1 : tiOf Tryz.prog 1 = some ⟨.func, 1, 8, .k .nilFunc⟩ := by kernel_rfl
@[go_sem] theorem ti2 : tiOf Tryz.prog 2 = some ⟨.int .i64, 1, 8, .d (.int .i64 0)⟩ := by kernel_rfl
@[go_sem] theorem ti3 : tiOf Tryz.prog 3 = some ⟨.int .i64, 1, 8, .d (.int .i64 0)⟩ := by kernel_rfl
@[go_sem] theorem ti4 : tiOf Tryz.prog 4 = some ⟨.bool, 1, 1, .d (.bool false)⟩ := by kernel_rfl
@[go_sem] theorem ti5 : tiOf Tryz.prog 5 = some ⟨.int .u8, 1, 1, .d (.int .u8 0)⟩ := by kernel_rfl
@[go_sem] theorem ti6 : tiOf Tryz.prog 6 = some ⟨.int .u8, 1, 1, .d (.int .u8 0)⟩ := by kernel_rfl
@[go_sem] theorem ti7 : tiOf Tryz.prog 7 = some ⟨.struct [(0, 2), (1, 3), (2, 4), (3, 6)], 4, 24, .d (.agg [.int .i64 0, .int .i64 0, .bool false, .int .u8 0])⟩ := by kernel_rfl
@[go_sem] theorem eq7 : eqOk Tryz.prog 7 = true := by kernel_rfl
@[go_sem] theorem ti8 : tiOf Tryz.prog 8 = some ⟨.struct [(0, 2), (1, 3), (2, 4), (3, 6)], 4, 24, .d (.agg [.int .i64 0, .int .i64 0, .bool false, .int .u8 0])⟩ := by kernel_rfl
@[go_sem] theorem eq8 : eqOk Tryz.prog 8 = true := by kernel_rfl
@[go_sem] theorem ti9 : tiOf Tryz.prog 9 = some ⟨.str, 1, 16, .d (.str [])⟩ := by kernel_rfl
@[go_sem] theorem ti10 : tiOf Tryz.prog 10 = some ⟨.str, 1, 16, .d (.str [])⟩ := by kernel_rfl
@[go_sem] theorem ti11 : tiOf Tryz.prog 11 = some ⟨.str, 1, 16, .d (.str [])⟩ := by kernel_rfl
@[go_sem] theorem ti12 : tiOf Tryz.prog 12 = some ⟨.int .u64, 1, 8, .d (.int .u64 0)⟩ := by kernel_rfl
@[go_sem] theorem ti13 : tiOf Tryz.prog 13 = some ⟨.struct [(0, 9), (1, 12)], 2, 24, .d (.agg [.str [], .int .u64 0])⟩ := by kernel_rfl
@[go_sem] theorem ti14 : tiOf Tryz.prog 14 = some ⟨.struct [(0, 9), (1, 12)], 2, 24, .d (.agg [.str [], .int .u64 0])⟩ := by kernel_rfl
@[go_sem] theorem ti15 : tiOf Tryz.prog 15 = some ⟨.ptr 341, 1, 8, .d (.nilp)⟩ := by kernel_rfl
@[go_sem] theorem ti16 : tiOf Tryz.prog 16 = some ⟨.ptr 344, 1, 8, .d (.nilp)⟩ := by kernel_rfl
@[go_sem] theorem ti17 : tiOf Tryz.prog 17 = some ⟨.ptr 351, 1, 8, .d (.nilp)⟩ := by kernel_rfl
@[go_sem] theorem ti18 : tiOf Tryz.prog 18 = some ⟨.struct [(0, 17)], 1, 8, .d (.agg [.nilp])⟩ := by kernel_rfl
@[go_sem] theorem ti19 : tiOf Tryz.prog 19 = some ⟨.struct [(0, 17)], 1, 8, .d (.agg [.nilp])⟩ := by kernel_rfl
@[go_sem] theorem ti20 : tiOf Tryz.prog 20 = some ⟨.iface, 1, 16, .d (.nili)⟩ := by kernel_rfl
@[go_sem] theorem ti21 : tiOf Tryz.prog 21 = some ⟨.int .i32, 1, 4, .d (.int .i32 0)⟩ := by kernel_rfl
@[go_sem] theorem ti22 : tiOf Tryz.prog 22 = some ⟨.slice 3, 1, 24, .nils⟩ := by kernel_rfl
@[go_sem] theorem ti23 : tiOf Tryz.prog 23 = some ⟨.ptr 25, 1, 8, .d (.nilp)⟩ := by kernel_rfl
@[go_sem] theorem ti24 : tiOf Tryz.prog 24 = some ⟨.struct [(0, 22), (1, 3)], 2, 32, .agg [.nils, .d (.int .i64 0)]⟩ := by kernel_rfl
@[go_sem] theorem eq24 : eqOk Tryz.prog 24 = true := by kernel_rfl
@[go_sem] theorem ti25 : tiOf Tryz.prog 25 = some ⟨.struct [(0, 22), (1, 3)], 2, 32, .agg [.nils, .d (.int .i64 0)]⟩ := by kernel_rfl
@[go_sem] theorem eq25 : eqOk Tryz.prog 25 = true := by kernel_rfl
@[go_sem] theorem ti26 : tiOf Tryz.prog 26 = some ⟨.slice 65, 1, 24, .nils⟩ := by kernel_rfl
@[go_sem] theorem ti27 : tiOf Tryz.prog 27 = some ⟨.slice 56, 1, 24, .nils⟩ := by kernel_rfl
@[go_sem] theorem ti28 : tiOf Tryz.prog 28 = some ⟨.slice 60, 1, 24, .nils⟩ := by kernel_rfl
@[go_sem] theorem ti29 : tiOf Tryz.prog 29 = some ⟨.slice 9, 1, 24, .nils⟩ := by kernel_rfl
@[go_sem] theorem ti30 : tiOf Tryz.prog 30 = some ⟨.struct [(0, 26), (1, 27), (2, 28), (3, 28), (4, 29), (5, 3), (6, 3)], 7, 136, .agg [.nils, .nils, .nils, .nils, .nils, .d (.int .i64 0), .d (.int .i64 0)]⟩ := by kernel_rfl
@[go_sem] theorem eq30 : eqOk Tryz.prog 30 = true := by kernel_rfl
@[go_sem] theorem ti31 : tiOf Tryz.prog 31 = some ⟨.struct [(0, 26), (1, 27), (2, 28), (3, 28), (4, 29), (5, 3), (6, 3)], 7, 136, .agg [.nils, .nils, .nils, .nils, .nils, .d (.int .i64 0), .d (.int .i64 0)]⟩ := by kernel_rfl
@[go_sem] theorem eq31 : eqOk Tryz.prog 31 = true := by kernel_rfl
@[go_sem] theorem ti32 : tiOf Tryz.prog 32 = some ⟨.func, 1, 8, .k .nilFunc⟩ := by kernel_rfl
@[go_sem] theorem ti33 : tiOf Tryz.prog 33 = some ⟨.int .i64, 1, 8, .d (.int .i64 0)⟩ := by kernel_rfl
@[go_sem] theorem ti35 : tiOf Tryz.prog 35 = some ⟨.func, 1, 8, .k .nilFunc⟩ := by kernel_rfl
@[go_sem] theorem ti37 : tiOf Tryz.prog 37 = some ⟨.func, 1, 8, .k .nilFunc⟩ := by kernel_rfl
@[go_sem] theorem ti38 : tiOf Tryz.prog 38 = some ⟨.func, 1, 8, .k .nilFunc⟩ := by kernel_rfl
@[go_sem] theorem ti39 : tiOf Tryz.prog 39 = some ⟨.slice 50, 1, 24, .nils⟩ := by kernel_rfl
@[go_sem] theorem ti40 : tiOf Tryz.prog 40 = some ⟨.func, 1, 8, .k .nilFunc⟩ := by kernel_rfl
@[go_sem] theorem ti41 : tiOf Tryz.prog 41 = some ⟨.func, 1, 8, .k .nilFunc⟩ := by kernel_rfl
@[go_sem] theorem ti42 : tiOf Tryz.prog 42 = some ⟨.func, 1, 8, .k .nilFunc⟩ := by kernel_rfl
@[go_sem] theorem ti43 : tiOf Tryz.prog 43 = some ⟨.func, 1, 8, .k .nilFunc⟩ := by kernel_rfl
@[go_sem] theorem ti44 : tiOf Tryz.prog 44 = some ⟨.func, 1, 8, .k .nilFunc⟩ := by kernel_rfl
@[go_sem] theorem ti46 : tiOf Tryz.prog 46 = some ⟨.func, 1, 8, .k .nilFunc⟩ := by kernel_rfl
@[go_sem] theorem ti47 : tiOf Tryz.prog 47 = some ⟨.func, 1, 8, .k .nilFunc⟩ := by kernel_rfl
@[go_sem] theorem ti48 : tiOf Tryz.prog 48 = some ⟨.slice 62, 1, 24, .nils⟩ := by kernel_rfl
@[go_sem] theorem ti49 : tiOf Tryz.prog 49 = some ⟨.struct [(0, 3), (1, 3), (2, 9), (3, 9), (4, 9), (5, 4), (6, 48)], 7, 96, .agg [.d (.int .i64 0), .d (.int .i64 0), .d (.str []), .d (.str []), .d (.str []), .d (.bool false), .nils]⟩ := by kernel_rfl
@[go_sem] theorem eq49 : eqOk Tryz.prog 49 = true := by kernel_rfl
@[go_sem] theorem ti50 : tiOf Tryz.prog 50 = some ⟨.struct [(0, 3), (1, 3), (2, 9), (3, 9), (4, 9), (5, 4), (6, 48)], 7, 96, .agg [.d (.int .i64 0), .d (.int .i64 0), .d (.str []), .d (.str []), .d (.str []), .d (.bool false), .nils]⟩ := by kernel_rfl
@[go_sem] theorem eq50 : eqOk Tryz.prog 50 = true := by kernel_rfl
@[go_sem] theorem ti51 : tiOf Tryz.prog 51 = some ⟨.func, 1, 8, .k .nilFunc⟩ := by kernel_rfl
@[go_sem] theorem ti52 : tiOf Tryz.prog 52 = some ⟨.func, 1, 8, .k .nilFunc⟩ := by kernel_rfl
@[go_sem] theorem ti54 : tiOf Tryz.prog 54 = some ⟨.func, 1, 8, .k .nilFunc⟩ := by kernel_rfl
@[go_sem] theorem ti55 : tiOf Tryz.prog 55 = some ⟨.struct [(0, 9), (1, 9), (2, 9), (3, 29), (4, 29)], 5, 96, .agg [.d (.str []), .d (.str []), .d (.str []), .nils, .nils]⟩ := by kernel_rfl
@[go_sem] theorem eq55 : eqOk Tryz.prog 55 = true := by kernel_rfl
@[go_sem] theorem ti56 : tiOf Tryz.prog 56 = some ⟨.struct [(0, 9), (1, 9), (2, 9), (3, 29), (4, 29)], 5, 96, .agg [.d (.str []), .d (.str []), .d (.str []), .nils, .nils]⟩ := by kernel_rfl
@[go_sem] theorem eq56 : eqOk Tryz.prog 56 = true := by kernel_rfl
@[go_sem] theorem ti57 : tiOf Tryz.prog 57 = some ⟨.func, 1, 8, .k .nilFunc⟩ := by kernel_rfl
@[go_sem] theorem ti58 : tiOf Tryz.prog 58 = some ⟨.func, 1, 8, .k .nilFunc⟩ := by kernel_rfl
@[go_sem] theorem ti59 : tiOf Tryz.prog 59 = some ⟨.struct [(0, 9), (1, 9)], 2, 32, .d (.agg [.str [], .str []])⟩ := by kernel_rfl
@[go_sem] theorem eq59 : eqOk Tryz.prog 59 = true := by kernel_rfl
@[go_sem] theorem ti60 : tiOf Tryz.prog 60 = some ⟨.struct [(0, 9), (1, 9)], 2, 32, .d (.agg [.str [], .str []])⟩ := by kernel_rfl
@[go_sem] theorem eq60 : eqOk Tryz.prog 60 = true := by kernel_rfl
@[go_sem] theorem ti61 : tiOf Tryz.prog 61 = some ⟨.struct [(0, 9), (1, 3), (2, 9), (3, 9)], 4, 56, .d (.agg [.str [], .int .i64 0, .str [], .str []])⟩ := by kernel_rfl
@[go_sem] theorem eq61 : eqOk Tryz.prog 61 = true := by kernel_rfl
@[go_sem] theorem ti62 : tiOf Tryz.prog 62 = some ⟨.struct [(0, 9), (1, 3), (2, 9), (3, 9)], 4, 56, .d (.agg [.str [], .int .i64 0, .str [], .str []])⟩ := by kernel_rfl
@[go_sem] theorem eq62 : eqOk Tryz.prog 62 = true := by kernel_rfl
@[go_sem] theorem ti63 : tiOf Tryz.prog 63 = some ⟨.func, 1, 8, .k .nilFunc⟩ := by kernel_rfl
@[go_sem] theorem ti64 : tiOf Tryz.prog 64 = some ⟨.struct [(0, 9), (1, 3), (2, 3), (3, 29), (4, 4), (5, 4)], 6, 64, .agg [.d (.str []), .d (.int .i64 0), .d (.int .i64 0), .nils, .d (.bool false), .d (.bool false)]⟩ := by kernel_rfl
@[go_sem] theorem eq64 : eqOk Tryz.prog 64 = true := by kernel_rfl
@[go_sem] theorem ti65 : tiOf Tryz.prog 65 = some ⟨.struct [(0, 9), (1, 3), (2, 3), (3, 29), (4, 4), (5, 4)], 6, 64, .agg [.d (.str []), .d (.int .i64 0), .d (.int .i64 0), .nils, .d (.bool false), .d (.bool false)]⟩ := by kernel_rfl
@[go_sem] theorem eq65 : eqOk Tryz.prog 65 = true := by kernel_rfl
@[go_sem] theorem ti66 : tiOf Tryz.prog 66 = some ⟨.func, 1, 8, .k .nilFunc⟩ := by kernel_rfl
@[go_sem] theorem ti67 : tiOf Tryz.prog 67 = some ⟨.func, 1, 8, .k .nilFunc⟩ := by kernel_rfl
@[go_sem] theorem ti69 : tiOf Tryz.prog 69 = some ⟨.func, 1, 8, .k .nilFunc⟩ := by kernel_rfl
@[go_sem] theorem ti70 : tiOf Tryz.prog 70 = some ⟨.func, 1, 8, .k .nilFunc⟩ := by kernel_rfl
@[go_sem] theorem ti71 : tiOf Tryz.prog 71 = some ⟨.func, 1, 8, .k .nilFunc⟩ := by kernel_rfl
@[go_sem] theorem ti72 : tiOf Tryz.prog 72 = some ⟨.slice 29, 1, 24, .nils⟩ := by kernel_rfl
@[go_sem] theorem ti73 : tiOf Tryz.prog 73 = some ⟨.func, 1, 8, .k .nilFunc⟩ := by kernel_rfl
@[go_sem] theorem ti74 : tiOf Tryz.prog 74 = some ⟨.func, 1, 8, .k .nilFunc⟩ := by kernel_rfl
@[go_sem] theorem ti75 : tiOf Tryz.prog 75 = some ⟨.func, 1, 8, .k .nilFunc⟩ := by kernel_rfl
@[go_sem] theorem ti76 : tiOf Tryz.prog 76 = some ⟨.func, 1, 8, .k .nilFunc⟩ := by kernel_rfl
@[go_sem] theorem ti77 : tiOf Tryz.prog 77 = some ⟨.func, 1, 8, .k .nilFunc⟩ := by kernel_rfl
@[go_sem] theorem ti78 : tiOf Tryz.prog 78 = some ⟨.ptr 84, 1, 8, .d (.nilp)⟩ := by kernel_rfl
@[go_sem] theorem ti79 : tiOf Tryz.prog 79 = some ⟨.ptr 82, 1, 8, .d (.nilp)⟩ := by kernel_rfl
@[go_sem] theorem ti80 : tiOf Tryz.prog 80 = some ⟨.slice 5, 1, 24, .nils⟩ := by kernel_rfl
@[go_sem] theorem ti81 : tiOf Tryz.prog 81 = some ⟨.struct [(0, 79), (1, 80)], 2, 32, .agg [.d (.nilp), .nils]⟩ := by kernel_rfl
@[go_sem] theorem eq81 : eqOk Tryz.prog 81 = true := by kernel_rfl
@[go_sem] theorem ti82 : tiOf Tryz.prog 82 = some ⟨.struct [(0, 79), (1, 80)], 2, 32, .agg [.d (.nilp), .nils]⟩ := by kernel_rfl
@[go_sem] theorem eq82 : eqOk Tryz.prog 82 = true := by kernel_rfl
@[go_sem] theorem ti83 : tiOf Tryz.prog 83 = some ⟨.struct [(0, 82)], 2, 32, .agg [.d (.nilp), .nils]⟩ := by kernel_rfl
@[go_sem] theorem eq83 : eqOk Tryz.prog 83 = true := by kernel_rfl
@[go_sem] theorem ti84 : tiOf Tryz.prog 84 = some ⟨.struct [(0, 82)], 2, 32, .agg [.d (.nilp), .nils]⟩ := by kernel_rfl
@[go_sem] theorem eq84 : eqOk Tryz.prog 84 = true := by kernel_rfl
@[go_sem] theorem ti85 : tiOf Tryz.prog 85 = some ⟨.func, 1, 8, .k .nilFunc⟩ := by kernel_rfl
@[go_sem] theorem ti86 : tiOf Tryz.prog 86 = some ⟨.func, 1, 8, .k .nilFunc⟩ := by kernel_rfl
@[go_sem] theorem ti87 : tiOf Tryz.prog 87 = some ⟨.func, 1, 8, .k .nilFunc⟩ := by kernel_rfl
@[go_sem] theorem ti88 : tiOf Tryz.prog 88 = some ⟨.func, 1, 8, .k .nilFunc⟩ := by kernel_rfl
@[go_sem] theorem ti90 : tiOf Tryz.prog 90 = some ⟨.func, 1, 8, .k .nilFunc⟩ := by kernel_rfl
@[go_sem] theorem ti92 : tiOf Tryz.prog 92 = some ⟨.func, 1, 8, .k .nilFunc⟩ := by kernel_rfl
@[go_sem] theorem ti93 : tiOf Tryz.prog 93 = some ⟨.func, 1, 8, .k .nilFunc⟩ := by kernel_rfl
@[go_sem] theorem ti94 : tiOf Tryz.prog 94 = some ⟨.func, 1, 8, .k .nilFunc⟩ := by kernel_rfl
@[go_sem] theorem ti95 : tiOf Tryz.prog 95 = some ⟨.func, 1, 8, .k .nilFunc⟩ := by kernel_rfl
@[go_sem] theorem ti96 : tiOf Tryz.prog 96 = some ⟨.func, 1, 8, .k .nilFunc⟩ := by kernel_rfl
@[go_sem] theorem ti97 : tiOf Tryz.prog 97 = some ⟨.func, 1, 8, .k .nilFunc⟩ := by kernel_rfl
@[go_sem] theorem ti98 : tiOf Tryz.prog 98 = some ⟨.func, 1, 8, .k .nilFunc⟩ := by kernel_rfl
@[go_sem] theorem ti99 : tiOf Tryz.prog 99 = some ⟨.func, 1, 8, .k .nilFunc⟩ := by kernel_rfl
@[go_sem] theorem ti100 : tiOf Tryz.prog 100 = some ⟨.func, 1, 8, .k .nilFunc⟩ := by kernel_rfl
@[go_sem] theorem ti101 : tiOf Tryz.prog 101 = some ⟨.func, 1, 8, .k .nilFunc⟩ := by kernel_rfl
@[go_sem] theorem ti102 : tiOf Tryz.prog 102 = some ⟨.func, 1, 8, .k .nilFunc⟩ := by kernel_rfl
@[go_sem] theorem ti103 : tiOf Tryz.prog 103 = some ⟨.slice 271, 1, 24, .nils⟩ := by kernel_rfl
@[go_sem] theorem ti104 : tiOf Tryz.prog 104 = some ⟨.slice 222, 1, 24, .nils⟩ := by kernel_rfl
@[go_sem] theorem ti105 : tiOf Tryz.prog 105 = some ⟨.slice 275, 1, 24, .nils⟩ := by kernel_rfl
@[go_sem] theorem ti106 : tiOf Tryz.prog 106 = some ⟨.slice 277, 1, 24, .nils⟩ := by kernel_rfl
@[go_sem] theorem ti107 : tiOf Tryz.prog 107 = some ⟨.struct [(0, 103), (1, 104), (2, 105), (3, 106)], 4, 96, .agg [.nils, .nils, .nils, .nils]⟩ := by kernel_rfl
@[go_sem] theorem eq107 : eqOk Tryz.prog 107 = true := by kernel_rfl
@[go_sem] theorem ti108 : tiOf Tryz.prog 108 = some ⟨.struct [(0, 103), (1, 104), (2, 105), (3, 106)], 4, 96, .agg [.nils, .nils, .nils, .nils]⟩ := by kernel_rfl
@[go_sem] theorem eq108 : eqOk Tryz.prog 108 = true := by kernel_rfl
@[go_sem] theorem ti110 : tiOf Tryz.prog 110 = some ⟨.func, 1, 8, .k .nilFunc⟩ := by kernel_rfl
@[go_sem] theorem ti112 : tiOf Tryz.prog 112 = some ⟨.func, 1, 8, .k .nilFunc⟩ := by kernel_rfl
@[go_sem] theorem ti113 : tiOf Tryz.prog 113 = some ⟨.ptr 115, 1, 8, .d (.nilp)⟩ := by kernel_rfl
@[go_sem] theorem ti114 : tiOf Tryz.prog 114 = some ⟨.struct [(0, 26), (1, 39), (2, 3), (3, 3)], 4, 64, .agg [.nils, .nils, .d (.int .i64 0), .d (.int .i64 0)]⟩ := by kernel_rfl
@[go_sem] theorem eq114 : eqOk Tryz.prog 114 = true := by kernel_rfl
@[go_sem] theorem ti115 : tiOf Tryz.prog 115 = some ⟨.struct [(0, 26), (1, 39), (2, 3), (3, 3)], 4, 64, .agg [.nils, .nils, .d (.int .i64 0), .d (.int .i64 0)]⟩ := by kernel_rfl
@[go_sem] theorem eq115 : eqOk Tryz.prog 115 = true := by kernel_rfl
@[go_sem] theorem ti116 : tiOf Tryz.prog 116 = some ⟨.func, 1, 8, .k .nilFunc⟩ := by kernel_rfl
@[go_sem] theorem ti117 : tiOf Tryz.prog 117 = some ⟨.func, 1, 8, .k .nilFunc⟩ := by kernel_rfl
@[go_sem] theorem ti118 : tiOf Tryz.prog 118 = some ⟨.arr 2 39, 2, 48, .agg [.nils, .nils]⟩ := by kernel_rfl
@[go_sem] theorem ti119 : tiOf Tryz.prog 119 = some ⟨.slice 123, 1, 24, .nils⟩ := by kernel_rfl
@[go_sem] theorem ti120 : tiOf Tryz.prog 120 = some ⟨.func, 1, 8, .k .nilFunc⟩ := by kernel_rfl
@[go_sem] theorem ti121 : tiOf Tryz.prog 121 = some ⟨.func, 1, 8, .k .nilFunc⟩ := by kernel_rfl
@[go_sem] theorem ti122 : tiOf Tryz.prog 122 = some ⟨.struct [(0, 50), (7, 9)], 8, 112, .agg [.d (.int .i64 0), .d (.int .i64 0), .d (.str []), .d (.str []), .d (.str []), .d (.bool false), .nils, .d (.str [])]⟩ := by kernel_rfl
@[go_sem] theorem eq122 : eqOk Tryz.prog 122 = true := by kernel_rfl
@[go_sem] theorem ti123 : tiOf Tryz.prog 123 = some ⟨.struct [(0, 50), (7, 9)], 8, 112, .agg [.d (.int .i64 0), .d (.int .i64 0), .d (.str []), .d (.str []), .d (.str []), .d (.bool false), .nils, .d (.str [])]⟩ := by kernel_rfl
@[go_sem] theorem eq123 : eqOk Tryz.prog 123 = true := by kernel_rfl
@[go_sem] theorem ti124 : tiOf Tryz.prog 124 = some ⟨.func, 1, 8, .k .nilFunc⟩ := by kernel_rfl
@[go_sem] theorem ti125 : tiOf Tryz.prog 125 = some ⟨.func, 1, 8, .k .nilFunc⟩ := by kernel_rfl
@[go_sem] theorem ti126 : tiOf Tryz.prog 126 = some ⟨.func, 1, 8, .k .nilFunc⟩ := by kernel_rfl
@[go_sem] theorem ti127 : tiOf Tryz.prog 127 = some ⟨.func, 1, 8, .k .nilFunc⟩ := by kernel_rfl
@[go_sem] theorem ti129 : tiOf Tryz.prog 129 = some ⟨.func, 1, 8, .k .nilFunc⟩ := by kernel_rfl
@[go_sem] theorem ti130 : tiOf Tryz.prog 130 = some ⟨.ptr 190, 1, 8, .d (.nilp)⟩ := by kernel_rfl
@[go_sem] theorem ti131 : tiOf Tryz.prog 131 = some ⟨.func, 1, 8, .k .nilFunc⟩ := by kernel_rfl
@[go_sem] theorem ti132 : tiOf Tryz.prog 132 = some ⟨.func, 1, 8, .k .nilFunc⟩ := by kernel_rfl
@[go_sem] theorem ti133 : tiOf Tryz.prog 133 = some ⟨.func, 1, 8, .k .nilFunc⟩ := by kernel_rfl
@[go_sem] theorem ti135 : tiOf Tryz.prog 135 = some ⟨.func, 1, 8, .k .nilFunc⟩ := by kernel_rfl
@[go_sem] theorem ti136 : tiOf Tryz.prog 136 = some ⟨.func, 1, 8, .k .nilFunc⟩ := by kernel_rfl
@[go_sem] theorem ti137 : tiOf Tryz.prog 137 = some ⟨.func, 1, 8, .k .nilFunc⟩ := by kernel_rfl
@[go_sem] theorem ti138 : tiOf Tryz.prog 138 = some ⟨.func, 1, 8, .k .nilFunc⟩ := by kernel_rfl
@[go_sem] theorem ti139 : tiOf Tryz.prog 139 = some ⟨.func, 1, 8, .k .nilFunc⟩ := by kernel_rfl
@[go_sem] theorem ti140 : tiOf Tryz.prog 140 = some ⟨.func, 1, 8, .k .nilFunc⟩ := by kernel_rfl
@[go_sem] theorem ti141 : tiOf Tryz.prog 141 = some ⟨.func, 1, 8, .k .nilFunc⟩ := by kernel_rfl
@[go_sem] theorem ti142 : tiOf Tryz.prog 142 = some ⟨.func, 1, 8, .k .nilFunc⟩ := by kernel_rfl
@[go_sem] theorem ti143 : tiOf Tryz.prog 143 = some ⟨.func, 1, 8, .k .nilFunc⟩ := by kernel_rfl
@[go_sem] theorem ti144 : tiOf Tryz.prog 144 = some ⟨.func, 1, 8, .k .nilFunc⟩ := by kernel_rfl
@[go_sem] theorem ti145 : tiOf Tryz.prog 145 = some ⟨.func, 1, 8, .k .nilFunc⟩ := by kernel_rfl
@[go_sem] theorem ti146 : tiOf Tryz.prog 146 = some ⟨.func, 1, 8, .k .nilFunc⟩ := by kernel_rfl
@[go_sem] theorem ti147 : tiOf Tryz.prog 147 = some ⟨.iface, 1, 16, .d (.nili)⟩ := by kernel_rfl
@[go_sem] theorem ti148 : tiOf Tryz.prog 148 = some ⟨.iface, 1, 16, .d (.nili)⟩ := by kernel_rfl
@[go_sem] theorem ti150 : tiOf Tryz.prog 150 = some ⟨.func, 1, 8, .k .nilFunc⟩ := by kernel_rfl
@[go_sem] theorem ti151 : tiOf Tryz.prog 151 = some ⟨.func, 1, 8, .k .nilFunc⟩ := by kernel_rfl
@[go_sem] theorem ti152 : tiOf Tryz.prog 152 = some ⟨.func, 1, 8, .k .nilFunc⟩ := by kernel_rfl
@[go_sem] theorem ti153 : tiOf Tryz.prog 153 = some ⟨.func, 1, 8, .k .nilFunc⟩ := by kernel_rfl
@[go_sem] theorem ti154 : tiOf Tryz.prog 154 = some ⟨.func, 1, 8, .k .nilFunc⟩ := by kernel_rfl
@[go_sem] theorem ti155 : tiOf Tryz.prog 155 = some ⟨.func, 1, 8, .k .nilFunc⟩ := by kernel_rfl
@[go_sem] theorem ti156 : tiOf Tryz.prog 156 = some ⟨.func, 1, 8, .k .nilFunc⟩ := by kernel_rfl
@[go_sem] theorem ti158 : tiOf Tryz.prog 158 = some ⟨.func, 1, 8, .k .nilFunc⟩ := by kernel_rfl
@[go_sem] theorem ti159 : tiOf Tryz.prog 159 = some ⟨.func, 1, 8, .k .nilFunc⟩ := by kernel_rfl
@[go_sem] theorem ti160 : tiOf Tryz.prog 160 = some ⟨.func, 1, 8, .k .nilFunc⟩ := by kernel_rfl
@[go_sem] theorem ti161 : tiOf Tryz.prog 161 = some ⟨.arr 2 28, 2, 48, .agg [.nils, .nils]⟩ := by kernel_rfl
@[go_sem] theorem ti162 : tiOf Tryz.prog 162 = some ⟨.func, 1, 8, .k .nilFunc⟩ := by kernel_rfl
@[go_sem] theorem ti163 : tiOf Tryz.prog 163 = some ⟨.func, 1, 8, .k .nilFunc⟩ := by kernel_rfl
@[go_sem] theorem ti164 : tiOf Tryz.prog 164 = some ⟨.func, 1, 8, .k .nilFunc⟩ := by kernel_rfl
@[go_sem] theorem ti165 : tiOf Tryz.prog 165 = some ⟨.func, 1, 8, .k .nilFunc⟩ := by kernel_rfl
@[go_sem] theorem ti166 : tiOf Tryz.prog 166 = some ⟨.func, 1, 8, .k .nilFunc⟩ := by kernel_rfl
@[go_sem] theorem ti167 : tiOf Tryz.prog 167 = some ⟨.func, 1, 8, .k .nilFunc⟩ := by kernel_rfl
@[go_sem] theorem ti168 : tiOf Tryz.prog 168 = some ⟨.ptr 170, 1, 8, .d (.nilp)⟩ := by kernel_rfl
@[go_sem] theorem ti169 : tiOf Tryz.prog 169 = some ⟨.struct [(0, 108), (4, 3)], 5, 104, .agg [.nils, .nils, .nils, .nils, .d (.int .i64 0)]⟩ := by kernel_rfl
@[go_sem] theorem eq169 : eqOk Tryz.prog 169 = true := by kernel_rfl
@[go_sem] theorem ti170 : tiOf Tryz.prog 170 = some ⟨.struct [(0, 108), (4, 3)], 5, 104, .agg [.nils, .nils, .nils, .nils, .d (.int .i64 0)]⟩ := by kernel_rfl
@[go_sem] theorem eq170 : eqOk Tryz.prog 170 = true := by kernel_rfl
@[go_sem] theorem ti171 : tiOf Tryz.prog 171 = some ⟨.func, 1, 8, .k .nilFunc⟩ := by kernel_rfl
@[go_sem] theorem ti173 : tiOf Tryz.prog 173 = some ⟨.func, 1, 8, .k .nilFunc⟩ := by kernel_rfl
@[go_sem] theorem ti174 : tiOf Tryz.prog 174 = some ⟨.ptr 62, 1, 8, .d (.nilp)⟩ := by kernel_rfl
@[go_sem] theorem ti175 : tiOf Tryz.prog 175 = some ⟨.ptr 50, 1, 8, .d (.nilp)⟩ := by kernel_rfl
@[go_sem] theorem ti176 : tiOf Tryz.prog 176 = some ⟨.func, 1, 8, .k .nilFunc⟩ := by kernel_rfl
@[go_sem] theorem ti177 : tiOf Tryz.prog 177 = some ⟨.func, 1, 8, .k .nilFunc⟩ := by kernel_rfl
@[go_sem] theorem ti178 : tiOf Tryz.prog 178 = some ⟨.func, 1, 8, .k .nilFunc⟩ := by kernel_rfl
@[go_sem] theorem ti179 : tiOf Tryz.prog 179 = some ⟨.func, 1, 8, .k .nilFunc⟩ := by kernel_rfl
@[go_sem] theorem ti180 : tiOf Tryz.prog 180 = some ⟨.func, 1, 8, .k .nilFunc⟩ := by kernel_rfl
@[go_sem] theorem ti181 : tiOf Tryz.prog 181 = some ⟨.func, 1, 8, .k .nilFunc⟩ := by kernel_rfl
@[go_sem] theorem ti182 : tiOf Tryz.prog 182 = some ⟨.func, 1, 8, .k .nilFunc⟩ := by kernel_rfl
@[go_sem] theorem ti183 : tiOf Tryz.prog 183 = some ⟨.func, 1, 8, .k .nilFunc⟩ := by kernel_rfl
@[go_sem] theorem ti184 : tiOf Tryz.prog 184 = some ⟨.func, 1, 8, .k .nilFunc⟩ := by kernel_rfl
@[go_sem] theorem ti185 : tiOf Tryz.prog 185 = some ⟨.func, 1, 8, .k .nilFunc⟩ := by kernel_rfl
@[go_sem] theorem ti186 : tiOf Tryz.prog 186 = some ⟨.func, 1, 8, .k .nilFunc⟩ := by kernel_rfl
@[go_sem] theorem ti187 : tiOf Tryz.prog 187 = some ⟨.func, 1, 8, .k .nilFunc⟩ := by kernel_rfl
@[go_sem] theorem ti188 : tiOf Tryz.prog 188 = some ⟨.map 60 39, 1, 8, .d (.map [] [])⟩ := by kernel_rfl
@[go_sem] theorem ti189 : tiOf Tryz.prog 189 = some ⟨.struct [(0, 31), (7, 188)], 8, 144, .agg [.nils, .nils, .nils, .nils, .nils, .d (.int .i64 0), .d (.int .i64 0), .d (.map [] [])]⟩ := by kernel_rfl
@[go_sem] theorem eq189 : eqOk Tryz.prog 189 = true := by kernel_rfl
@[go_sem] theorem ti190 : tiOf Tryz.prog 190 = some ⟨.struct [(0, 31), (7, 188)], 8, 144, .agg [.nils, .nils, .nils, .nils, .nils, .d (.int .i64 0), .d (.int .i64 0), .d (.map [] [])]⟩ := by kernel_rfl
@[go_sem] theorem eq190 : eqOk Tryz.prog 190 = true := by kernel_rfl
@[go_sem] theorem ti191 : tiOf Tryz.prog 191 = some ⟨.func, 1, 8, .k .nilFunc⟩ := by kernel_rfl
@[go_sem] theorem ti192 : tiOf Tryz.prog 192 = some ⟨.func, 1, 8, .k .nilFunc⟩ := by kernel_rfl
@[go_sem] theorem ti193 : tiOf Tryz.prog 193 = some ⟨.func, 1, 8, .k .nilFunc⟩ := by kernel_rfl
@[go_sem] theorem ti194 : tiOf Tryz.prog 194 = some ⟨.func, 1, 8, .k .nilFunc⟩ := by kernel_rfl
@[go_sem] theorem ti195 : tiOf Tryz.prog 195 = some ⟨.func, 1, 8, .k .nilFunc⟩ := by kernel_rfl
@[go_sem] theorem ti196 : tiOf Tryz.prog 196 = some ⟨.int .u64, 1, 8, .d (.int .u64 0)⟩ := by kernel_rfl
@[go_sem] theorem ti197 : tiOf Tryz.prog 197 = some ⟨.func, 1, 8, .k .nilFunc⟩ := by kernel_rfl
@[go_sem] theorem ti198 : tiOf Tryz.prog 198 = some ⟨.func, 1, 8, .k .nilFunc⟩ := by kernel_rfl
@[go_sem] theorem ti199 : tiOf Tryz.prog 199 = some ⟨.func, 1, 8, .k .nilFunc⟩ := by kernel_rfl
@[go_sem] theorem ti201 : tiOf Tryz.prog 201 = some ⟨.func, 1, 8, .k .nilFunc⟩ := by kernel_rfl
@[go_sem] theorem ti202 : tiOf Tryz.prog 202 = some ⟨.func, 1, 8, .k .nilFunc⟩ := by kernel_rfl
@[go_sem] theorem ti203 : tiOf Tryz.prog 203 = some ⟨.func, 1, 8, .k .nilFunc⟩ := by kernel_rfl
@[go_sem] theorem ti204 : tiOf Tryz.prog 204 = some ⟨.func, 1, 8, .k .nilFunc⟩ := by kernel_rfl
@[go_sem] theorem ti205 : tiOf Tryz.prog 205 = some ⟨.func, 1, 8, .k .nilFunc⟩ := by kernel_rfl
@[go_sem] theorem ti206 : tiOf Tryz.prog 206 = some ⟨.func, 1, 8, .k .nilFunc⟩ := by kernel_rfl
@[go_sem] theorem ti207 : tiOf Tryz.prog 207 = some ⟨.ptr 5, 1, 8, .d (.nilp)⟩ := by kernel_rfl
@[go_sem] theorem ti208 : tiOf Tryz.prog 208 = some ⟨.func, 1, 8, .k .nilFunc⟩ := by kernel_rfl
@[go_sem] theorem ti209 : tiOf Tryz.prog 209 = some ⟨.func, 1, 8, .k .nilFunc⟩ := by kernel_rfl
@[go_sem] theorem ti210 : tiOf Tryz.prog 210 = some ⟨.func, 1, 8, .k .nilFunc⟩ := by kernel_rfl
@[go_sem] theorem ti211 : tiOf Tryz.prog 211 = some ⟨.func, 1, 8, .k .nilFunc⟩ := by kernel_rfl
@[go_sem] theorem ti212 : tiOf Tryz.prog 212 = some ⟨.slice 28, 1, 24, .nils⟩ := by kernel_rfl
@[go_sem] theorem ti213 : tiOf Tryz.prog 213 = some ⟨.func, 1, 8, .k .nilFunc⟩ := by kernel_rfl
@[go_sem] theorem ti214 : tiOf Tryz.prog 214 = some ⟨.func, 1, 8, .k .nilFunc⟩ := by kernel_rfl
@[go_sem] theorem ti215 : tiOf Tryz.prog 215 = some ⟨.func, 1, 8, .k .nilFunc⟩ := by kernel_rfl
@[go_sem] theorem ti216 : tiOf Tryz.prog 216 = some ⟨.func, 1, 8, .k .nilFunc⟩ := by kernel_rfl
@[go_sem] theorem ti218 : tiOf Tryz.prog 218 = some ⟨.func, 1, 8, .k .nilFunc⟩ := by kernel_rfl
@[go_sem] theorem ti219 : tiOf Tryz.prog 219 = some ⟨.slice 226, 1, 24, .nils⟩ := by kernel_rfl
@[go_sem] theorem ti220 : tiOf Tryz.prog 220 = some ⟨.slice 273, 1, 24, .nils⟩ := by kernel_rfl
@[go_sem] theorem ti221 : tiOf Tryz.prog 221 = some ⟨.struct [(0, 9), (1, 219), (2, 220), (3, 29), (4, 29)], 5, 112, .agg [.d (.str []), .nils, .nils, .nils, .nils]⟩ := by kernel_rfl
@[go_sem] theorem eq221 : eqOk Tryz.prog 221 = true := by kernel_rfl
@[go_sem] theorem ti222 : tiOf Tryz.prog 222 = some ⟨.struct [(0, 9), (1, 219), (2, 220), (3, 29), (4, 29)], 5, 112, .agg [.d (.str []), .nils, .nils, .nils, .nils]⟩ := by kernel_rfl
@[go_sem] theorem eq222 : eqOk Tryz.prog 222 = true := by kernel_rfl
@[go_sem] theorem ti223 : tiOf Tryz.prog 223 = some ⟨.ptr 222, 1, 8, .d (.nilp)⟩ := by kernel_rfl
@[go_sem] theorem ti224 : tiOf Tryz.prog 224 = some ⟨.func, 1, 8, .k .nilFunc⟩ := by kernel_rfl
@[go_sem] theorem ti225 : tiOf Tryz.prog 225 = some ⟨.struct [(0, 9), (1, 3)], 2, 24, .d (.agg [.str [], .int .i64 0])⟩ := by kernel_rfl
@[go_sem] theorem eq225 : eqOk Tryz.prog 225 = true := by kernel_rfl
@[go_sem] theorem ti226 : tiOf Tryz.prog 226 = some ⟨.struct [(0, 9), (1, 3)], 2, 24, .d (.agg [.str [], .int .i64 0])⟩ := by kernel_rfl
@[go_sem] theorem eq226 : eqOk Tryz.prog 226 = true := by kernel_rfl
@[go_sem] theorem ti227 : tiOf Tryz.prog 227 = some ⟨.func, 1, 8, .k .nilFunc⟩ := by kernel_rfl
@[go_sem] theorem ti228 : tiOf Tryz.prog 228 = some ⟨.func, 1, 8, .k .nilFunc⟩ := by kernel_rfl
@[go_sem] theorem ti229 : tiOf Tryz.prog 229 = some ⟨.map 9 3, 1, 8, .d (.map [] [])⟩ := by kernel_rfl
@[go_sem] theorem ti230 : tiOf Tryz.prog 230 = some ⟨.func, 1, 8, .k .nilFunc⟩ := by kernel_rfl
@[go_sem] theorem ti231 : tiOf Tryz.prog 231 = some ⟨.func, 1, 8, .k .nilFunc⟩ := by kernel_rfl
@[go_sem] theorem ti232 : tiOf Tryz.prog 232 = some ⟨.func, 1, 8, .k .nilFunc⟩ := by kernel_rfl
@[go_sem] theorem ti234 : tiOf Tryz.prog 234 = some ⟨.func, 1, 8, .k .nilFunc⟩ := by kernel_rfl
@[go_sem] theorem ti235 : tiOf Tryz.prog 235 = some ⟨.func, 1, 8, .k .nilFunc⟩ := by kernel_rfl
@[go_sem] theorem ti236 : tiOf Tryz.prog 236 = some ⟨.func, 1, 8, .k .nilFunc⟩ := by kernel_rfl
@[go_sem] theorem ti237 : tiOf Tryz.prog 237 = some ⟨.func, 1, 8, .k .nilFunc⟩ := by kernel_rfl
@[go_sem] theorem ti238 : tiOf Tryz.prog 238 = some ⟨.func, 1, 8, .k .nilFunc⟩ := by kernel_rfl
@[go_sem] theorem ti239 : tiOf Tryz.prog 239 = some ⟨.func, 1, 8, .k .nilFunc⟩ := by kernel_rfl
@[go_sem] theorem ti240 : tiOf Tryz.prog 240 = some ⟨.func, 1, 8, .k .nilFunc⟩ := by kernel_rfl
@[go_sem] theorem ti241 : tiOf Tryz.prog 241 = some ⟨.func, 1, 8, .k .nilFunc⟩ := by kernel_rfl
@[go_sem] theorem ti242 : tiOf Tryz.prog 242 = some ⟨.int .i64, 1, 8, .d (.int .i64 0)⟩ := by kernel_rfl
@[go_sem] theorem ti244 : tiOf Tryz.prog 244 = some ⟨.func, 1, 8, .k .nilFunc⟩ := by kernel_rfl
@[go_sem] theorem ti245 : tiOf Tryz.prog 245 = some ⟨.func, 1, 8, .k .nilFunc⟩ := by kernel_rfl
@[go_sem] theorem ti246 : tiOf Tryz.prog 246 = some ⟨.func, 1, 8, .k .nilFunc⟩ := by kernel_rfl
@[go_sem] theorem ti247 : tiOf Tryz.prog 247 = some ⟨.func, 1, 8, .k .nilFunc⟩ := by kernel_rfl
@[go_sem] theorem ti248 : tiOf Tryz.prog 248 = some ⟨.func, 1, 8, .k .nilFunc⟩ := by kernel_rfl
@[go_sem] theorem ti249 : tiOf Tryz.prog 249 = some ⟨.int .u32, 1, 4, .d (.int .u32 0)⟩ := by kernel_rfl
@[go_sem] theorem ti250 : tiOf Tryz.prog 250 = some ⟨.func, 1, 8, .k .nilFunc⟩ := by kernel_rfl
@[go_sem] theorem ti251 : tiOf Tryz.prog 251 = some ⟨.int .u64, 1, 8, .d (.int .u64 0)⟩ := by kernel_rfl
@[go_sem] theorem ti252 : tiOf Tryz.prog 252 = some ⟨.func, 1, 8, .k .nilFunc⟩ := by kernel_rfl
@[go_sem] theorem ti254 : tiOf Tryz.prog 254 = some ⟨.func, 1, 8, .k .nilFunc⟩ := by kernel_rfl
@[go_sem] theorem ti256 : tiOf Tryz.prog 256 = some ⟨.func, 1, 8, .k .nilFunc⟩ := by kernel_rfl
@[go_sem] theorem ti257 : tiOf Tryz.prog 257 = some ⟨.func, 1, 8, .k .nilFunc⟩ := by kernel_rfl
@[go_sem] theorem ti258 : tiOf Tryz.prog 258 = some ⟨.arr 24 5, 24, 24, .d (.agg [.int .u8 0, .int .u8 0, .int .u8 0, .int .u8 0, .int .u8 0, .int .u8 0, .int .u8 0, .int .u8 0, .int .u8 0, .int .u8 0, .int .u8 0, .int .u8 0, .int .u8 0, .int .u8 0, .int .u8 0, .int .u8 0, .int .u8 0, .int .u8 0, .int .u8 0, .int .u8 0, .int .u8 0, .int .u8 0, .int .u8 0, .int .u8 0])⟩ := by kernel_rfl
@[go_sem] theorem ti259 : tiOf Tryz.prog 259 = some ⟨.func, 1, 8, .k .nilFunc⟩ := by kernel_rfl
@[go_sem] theorem ti261 : tiOf Tryz.prog 261 = some ⟨.func, 1, 8, .k .nilFunc⟩ := by kernel_rfl
@[go_sem] theorem ti262 : tiOf Tryz.prog 262 = some ⟨.uptr, 1, 8, .d (.nilp)⟩ := by kernel_rfl
@[go_sem] theorem ti263 : tiOf Tryz.prog 263 = some ⟨.func, 1, 8, .k .nilFunc⟩ := by kernel_rfl
@[go_sem] theorem ti264 : tiOf Tryz.prog 264 = some ⟨.func, 1, 8, .k .nilFunc⟩ := by kernel_rfl
@[go_sem] theorem ti265 : tiOf Tryz.prog 265 = some ⟨.slice 211, 1, 24, .nils⟩ := by kernel_rfl
@[go_sem] theorem ti266 : tiOf Tryz.prog 266 = some ⟨.func, 1, 8, .k .nilFunc⟩ := by kernel_rfl
@[go_sem] theorem ti267 : tiOf Tryz.prog 267 = some ⟨.func, 1, 8, .k .nilFunc⟩ := by kernel_rfl
@[go_sem] theorem ti268 : tiOf Tryz.prog 268 = some ⟨.func, 1, 8, .k .nilFunc⟩ := by kernel_rfl
@[go_sem] theorem ti269 : tiOf Tryz.prog 269 = some ⟨.func, 1, 8, .k .nilFunc⟩ := by kernel_rfl
@[go_sem] theorem ti270 : tiOf Tryz.prog 270 = some ⟨.struct [(0, 9), (1, 9)], 2, 32, .d (.agg [.str [], .str []])⟩ := by kernel_rfl
@[go_sem] theorem eq270 : eqOk Tryz.prog 270 = true := by kernel_rfl
@[go_sem] theorem ti271 : tiOf Tryz.prog 271 = some ⟨.struct [(0, 9), (1, 9)], 2, 32, .d (.agg [.str [], .str []])⟩ := by kernel_rfl
@[go_sem] theorem eq271 : eqOk Tryz.prog 271 = true := by kernel_rfl
@[go_sem] theorem ti272 : tiOf Tryz.prog 272 = some ⟨.struct [(0, 9), (1, 3), (2, 3)], 3, 32, .d (.agg [.str [], .int .i64 0, .int .i64 0])⟩ := by kernel_rfl
@[go_sem] theorem eq272 : eqOk Tryz.prog 272 = true := by kernel_rfl
@[go_sem] theorem ti273 : tiOf Tryz.prog 273 = some ⟨.struct [(0, 9), (1, 3), (2, 3)], 3, 32, .d (.agg [.str [], .int .i64 0, .int .i64 0])⟩ := by kernel_rfl
@[go_sem] theorem eq273 : eqOk Tryz.prog 273 = true := by kernel_rfl
@[go_sem] theorem ti274 : tiOf Tryz.prog 274 = some ⟨.struct [(0, 3), (1, 29)], 2, 32, .agg [.d (.int .i64 0), .nils]⟩ := by kernel_rfl
@[go_sem] theorem eq274 : eqOk Tryz.prog 274 = true := by kernel_rfl
@[go_sem] theorem ti275 : tiOf Tryz.prog 275 = some ⟨.struct [(0, 3), (1, 29)], 2, 32, .agg [.d (.int .i64 0), .nils]⟩ := by kernel_rfl
@[go_sem] theorem eq275 : eqOk Tryz.prog 275 = true := by kernel_rfl
@[go_sem] theorem ti276 : tiOf Tryz.prog 276 = some ⟨.struct [(0, 9), (1, 9)], 2, 32, .d (.agg [.str [], .str []])⟩ := by kernel_rfl
@[go_sem] theorem eq276 : eqOk Tryz.prog 276 = true := by kernel_rfl
@[go_sem] theorem ti277 : tiOf Tryz.prog 277 = some ⟨.struct [(0, 9), (1, 9)], 2, 32, .d (.agg [.str [], .str []])⟩ := by kernel_rfl
@[go_sem] theorem eq277 : eqOk Tryz.prog 277 = true := by kernel_rfl
@[go_sem] theorem ti278 : tiOf Tryz.prog 278 = some ⟨.map 9 9, 1, 8, .d (.map [] [])⟩ := by kernel_rfl
@[go_sem] theorem ti279 : tiOf Tryz.prog 279 = some ⟨.map 9 9, 1, 8, .d (.map [] [])⟩ := by kernel_rfl
@[go_sem] theorem ti280 : tiOf Tryz.prog 280 = some ⟨.func, 1, 8, .k .nilFunc⟩ := by kernel_rfl
@[go_sem] theorem ti281 : tiOf Tryz.prog 281 = some ⟨.func, 1, 8, .k .nilFunc⟩ := by kernel_rfl
@[go_sem] theorem ti282 : tiOf Tryz.prog 282 = some ⟨.func, 1, 8, .k .nilFunc⟩ := by kernel_rfl
@[go_sem] theorem ti283 : tiOf Tryz.prog 283 = some ⟨.func, 1, 8, .k .nilFunc⟩ := by kernel_rfl
@[go_sem] theorem ti284 : tiOf Tryz.prog 284 = some ⟨.func, 1, 8, .k .nilFunc⟩ := by kernel_rfl
@[go_sem] theorem ti285 : tiOf Tryz.prog 285 = some ⟨.int .u64, 1, 8, .d (.int .u64 0)⟩ := by kernel_rfl
@[go_sem] theorem ti286 : tiOf Tryz.prog 286 = some ⟨.func, 1, 8, .k .nilFunc⟩ := by kernel_rfl
@[go_sem] theorem ti287 : tiOf Tryz.prog 287 = some ⟨.func, 1, 8, .k .nilFunc⟩ := by kernel_rfl
@[go_sem] theorem ti288 : tiOf Tryz.prog 288 = some ⟨.func, 1, 8, .k .nilFunc⟩ := by kernel_rfl
@[go_sem] theorem ti289 : tiOf Tryz.prog 289 = some ⟨.ptr 3, 1, 8, .d (.nilp)⟩ := by kernel_rfl
@[go_sem] theorem ti290 : tiOf Tryz.prog 290 = some ⟨.func, 1, 8, .k .nilFunc⟩ := by kernel_rfl
@[go_sem] theorem ti291 : tiOf Tryz.prog 291 = some ⟨.func, 1, 8, .k .nilFunc⟩ := by kernel_rfl
@[go_sem] theorem ti292 : tiOf Tryz.prog 292 = some ⟨.func, 1, 8, .k .nilFunc⟩ := by kernel_rfl
@[go_sem] theorem ti296 : tiOf Tryz.prog 296 = some ⟨.func, 1, 8, .k .nilFunc⟩ := by kernel_rfl
@[go_sem] theorem ti297 : tiOf Tryz.prog 297 = some ⟨.func, 1, 8, .k .nilFunc⟩ := by kernel_rfl
@[go_sem] theorem ti298 : tiOf Tryz.prog 298 = some ⟨.ptr 294, 1, 8, .d (.nilp)⟩ := by kernel_rfl
@[go_sem] theorem ti299 : tiOf Tryz.prog 299 = some ⟨.arr 20 251, 20, 160, .d (.agg [.int .u64 0, .int .u64 0, .int .u64 0, .int .u64 0, .int .u64 0, .int .u64 0, .int .u64 0, .int .u64 0, .int .u64 0, .int .u64 0, .int .u64 0, .int .u64 0, .int .u64 0, .int .u64 0, .int .u64 0, .int .u64 0, .int .u64 0, .int .u64 0, .int .u64 0, .int .u64 0])⟩ := by kernel_rfl
@[go_sem] theorem ti302 : tiOf Tryz.prog 302 = some ⟨.func, 1, 8, .k .nilFunc⟩ := by kernel_rfl
@[go_sem] theorem ti303 : tiOf Tryz.prog 303 = some ⟨.func, 1, 8, .k .nilFunc⟩ := by kernel_rfl
@[go_sem] theorem ti304 : tiOf Tryz.prog 304 = some ⟨.func, 1, 8, .k .nilFunc⟩ := by kernel_rfl
@[go_sem] theorem ti306 : tiOf Tryz.prog 306 = some ⟨.struct [(0, 5), (1, 5)], 2, 2, .d (.agg [.int .u8 0, .int .u8 0])⟩ := by kernel_rfl
@[go_sem] theorem eq306 : eqOk Tryz.prog 306 = true := by kernel_rfl
@[go_sem] theorem ti307 : tiOf Tryz.prog 307 = some ⟨.struct [(0, 5), (1, 5)], 2, 2, .d (.agg [.int .u8 0, .int .u8 0])⟩ := by kernel_rfl
@[go_sem] theorem eq307 : eqOk Tryz.prog 307 = true := by kernel_rfl
@[go_sem] theorem ti308 : tiOf Tryz.prog 308 = some ⟨.arr 16 307, 32, 32, .d (.agg [.int .u8 0, .int .u8 0, .int .u8 0, .int .u8 0, .int .u8 0, .int .u8 0, .int .u8 0, .int .u8 0, .int .u8 0, .int .u8 0, .int .u8 0, .int .u8 0, .int .u8 0, .int .u8 0, .int .u8 0, .int .u8 0, .int .u8 0, .int .u8 0, .int .u8 0, .int .u8 0, .int .u8 0, .int .u8 0, .int .u8 0, .int .u8 0, .int .u8 0, .int .u8 0, .int .u8 0, .int .u8 0, .int .u8 0, .int .u8 0, .int .u8 0, .int .u8 0])⟩ := by kernel_rfl
@[go_sem] theorem ti309 : tiOf Tryz.prog 309 = some ⟨.func, 1, 8, .k .nilFunc⟩ := by kernel_rfl
@[go_sem] theorem ti310 : tiOf Tryz.prog 310 = some ⟨.func, 1, 8, .k .nilFunc⟩ := by kernel_rfl
@[go_sem] theorem ti311 : tiOf Tryz.prog 311 = some ⟨.func, 1, 8, .k .nilFunc⟩ := by kernel_rfl
@[go_sem] theorem ti312 : tiOf Tryz.prog 312 = some ⟨.arr 4 33, 4, 32, .d (.agg [.int .i64 0, .int .i64 0, .int .i64 0, .int .i64 0])⟩ := by kernel_rfl
@[go_sem] theorem ti313 : tiOf Tryz.prog 313 = some ⟨.ptr 285, 1, 8, .d (.nilp)⟩ := by kernel_rfl
@[go_sem] theorem ti315 : tiOf Tryz.prog 315 = some ⟨.func, 1, 8, .k .nilFunc⟩ := by kernel_rfl
@[go_sem] theorem ti316 : tiOf Tryz.prog 316 = some ⟨.func, 1, 8, .k .nilFunc⟩ := by kernel_rfl
@[go_sem] theorem ti317 : tiOf Tryz.prog 317 = some ⟨.func, 1, 8, .k .nilFunc⟩ := by kernel_rfl
@[go_sem] theorem ti318 : tiOf Tryz.prog 318 = some ⟨.int .i64, 1, 8, .d (.int .i64 0)⟩ := by kernel_rfl
@[go_sem] theorem ti320 : tiOf Tryz.prog 320 = some ⟨.func, 1, 8, .k .nilFunc⟩ := by kernel_rfl
@[go_sem] theorem ti321 : tiOf Tryz.prog 321 = some ⟨.ptr 333, 1, 8, .d (.nilp)⟩ := by kernel_rfl
@[go_sem] theorem ti322 : tiOf Tryz.prog 322 = some ⟨.func, 1, 8, .k .nilFunc⟩ := by kernel_rfl
@[go_sem] theorem ti323 : tiOf Tryz.prog 323 = some ⟨.func, 1, 8, .k .nilFunc⟩ := by kernel_rfl
@[go_sem] theorem ti324 : tiOf Tryz.prog 324 = some ⟨.func, 1, 8, .k .nilFunc⟩ := by kernel_rfl
@[go_sem] theorem ti325 : tiOf Tryz.prog 325 = some ⟨.func, 1, 8, .k .nilFunc⟩ := by kernel_rfl
@[go_sem] theorem ti326 : tiOf Tryz.prog 326 = some ⟨.arr 32 5, 32, 32, .d (.agg [.int .u8 0, .int .u8 0, .int .u8 0, .int .u8 0, .int .u8 0, .int .u8 0, .int .u8 0, .int .u8 0, .int .u8 0, .int .u8 0, .int .u8 0, .int .u8 0, .int .u8 0, .int .u8 0, .int .u8 0, .int .u8 0, .int .u8 0, .int .u8 0, .int .u8 0, .int .u8 0, .int .u8 0, .int .u8 0, .int .u8 0, .int .u8 0, .int .u8 0, .int .u8 0, .int .u8 0, .int .u8 0, .int .u8 0, .int .u8 0, .int .u8 0, .int .u8 0])⟩ := by kernel_rfl
@[go_sem] theorem ti328 : tiOf Tryz.prog 328 = some ⟨.func, 1, 8, .k .nilFunc⟩ := by kernel_rfl
@[go_sem] theorem ti330 : tiOf Tryz.prog 330 = some ⟨.func, 1, 8, .k .nilFunc⟩ := by kernel_rfl
@[go_sem] theorem ti331 : tiOf Tryz.prog 331 = some ⟨.func, 1, 8, .k .nilFunc⟩ := by kernel_rfl
@[go_sem] theorem ti332 : tiOf Tryz.prog 332 = some ⟨.struct [(0, 9), (1, 9), (2, 148)], 3, 48, .d (.agg [.str [], .str [], .nili])⟩ := by kernel_rfl
@[go_sem] theorem ti333 : tiOf Tryz.prog 333 = some ⟨.struct [(0, 9), (1, 9), (2, 148)], 3, 48, .d (.agg [.str [], .str [], .nili])⟩ := by kernel_rfl
@[go_sem] theorem ti334 : tiOf Tryz.prog 334 = some ⟨.func, 1, 8, .k .nilFunc⟩ := by kernel_rfl
@[go_sem] theorem ti335 : tiOf Tryz.prog 335 = some ⟨.func, 1, 8, .k .nilFunc⟩ := by kernel_rfl
@[go_sem] theorem ti336 : tiOf Tryz.prog 336 = some ⟨.func, 1, 8, .k .nilFunc⟩ := by kernel_rfl
@[go_sem] theorem ti337 : tiOf Tryz.prog 337 = some ⟨.ptr 339, 1, 8, .d (.nilp)⟩ := by kernel_rfl
@[go_sem] theorem ti338 : tiOf Tryz.prog 338 = some ⟨.struct [(0, 9)], 1, 16, .d (.agg [.str []])⟩ := by kernel_rfl
@[go_sem] theorem eq338 : eqOk Tryz.prog 338 = true := by kernel_rfl
@[go_sem] theorem ti339 : tiOf Tryz.prog 339 = some ⟨.struct [(0, 9)], 1, 16, .d (.agg [.str []])⟩ := by kernel_rfl
@[go_sem] theorem eq339 : eqOk Tryz.prog 339 = true := by kernel_rfl
@[go_sem] theorem ti340 : tiOf Tryz.prog 340 = some ⟨.struct [(0, 17), (1, 17), (2, 17), (3, 9)], 4, 40, .d (.agg [.nilp, .nilp, .nilp, .str []])⟩ := by kernel_rfl
@[go_sem] theorem ti341 : tiOf Tryz.prog 341 = some ⟨.struct [(0, 17), (1, 17), (2, 17), (3, 9)], 4, 40, .d (.agg [.nilp, .nilp, .nilp, .str []])⟩ := by kernel_rfl
@[go_sem] theorem ti342 : tiOf Tryz.prog 342 = some ⟨.arr 0 16, 0, 0, .d (.agg [])⟩ := by kernel_rfl
@[go_sem] theorem ti343 : tiOf Tryz.prog 343 = some ⟨.struct [(0, 342)], 0, 0, .d (.agg [])⟩ := by kernel_rfl
@[go_sem] theorem ti344 : tiOf Tryz.prog 344 = some ⟨.struct [(0, 342)], 0, 0, .d (.agg [])⟩ := by kernel_rfl
@[go_sem] theorem ti345 : tiOf Tryz.prog 345 = some ⟨.int .u8, 1, 1, .d (.int .u8 0)⟩ := by kernel_rfl
@[go_sem] theorem ti346 : tiOf Tryz.prog 346 = some ⟨.int .u8, 1, 1, .d (.int .u8 0)⟩ := by kernel_rfl
@[go_sem] theorem ti347 : tiOf Tryz.prog 347 = some ⟨.func, 1, 8, .k .nilFunc⟩ := by kernel_rfl
@[go_sem] theorem ti348 : tiOf Tryz.prog 348 = some ⟨.int .i32, 1, 4, .d (.int .i32 0)⟩ := by kernel_rfl
@[go_sem] theorem ti349 : tiOf Tryz.prog 349 = some ⟨.int .i32, 1, 4, .d (.int .i32 0)⟩ := by kernel_rfl
@[go_sem] theorem ti350 : tiOf Tryz.prog 350 = some ⟨.struct [(0, 12), (1, 12), (2, 249), (3, 345), (4, 5), (5, 5), (6, 346), (7, 347), (8, 207), (9, 348), (10, 349)], 11, 48, .agg [.d (.int .u64 0), .d (.int .u64 0), .d (.int .u32 0), .d (.int .u8 0), .d (.int .u8 0), .d (.int .u8 0), .d (.int .u8 0), .k .nilFunc, .d (.nilp), .d (.int .i32 0), .d (.int .i32 0)]⟩ := by kernel_rfl
@[go_sem] theorem ti351 : tiOf Tryz.prog 351 = some ⟨.struct [(0, 12), (1, 12), (2, 249), (3, 345), (4, 5), (5, 5), (6, 346), (7, 347), (8, 207), (9, 348), (10, 349)], 11, 48, .agg [.d (.int .u64 0), .d (.int .u64 0), .d (.int .u32 0), .d (.int .u8 0), .d (.int .u8 0), .d (.int .u8 0), .d (.int .u8 0), .k .nilFunc, .d (.nilp), .d (.int .i32 0), .d (.int .i32 0)]⟩ := by kernel_rfl
@[go_sem] theorem ti352 : tiOf Tryz.prog 352 = some ⟨.func, 1, 8, .k .nilFunc⟩ := by kernel_rfl
theorem hmix : Tryz.prog.follows .mixedOrders = true := by kernel_rfl
end Go.AX
