/- What AX knows of the types of the program. -/
import Derived.Test.YtobgkoebiapciaaGreatDoorAx32
import Derived.Test.YtobgkoebiapciaaGreatDoorChecked
import Derived.KernelRfl
set_option linter.unusedSimpArgs false
set_option linter.unusedVariables false
namespace Go.AX
open Go Go.Proofs
@[go_sem] theorem ti1 : tiOf Tryz.prog 1 = some ⟨.func, 1, 8, .k .nilFunc⟩ := by kernel_rfl
@[go_sem] theorem ti2 : tiOf Tryz.prog 2 = some ⟨.int .i64, 1, 8, .d (.int .i64 0)⟩ := by kernel_rfl
@[go_sem] theorem ti3 : tiOf Tryz.prog 3 = some ⟨.int .i64, 1, 8, .d (.int .i64 0)⟩ := by kernel_rfl
@[go_sem] theorem ti4 : tiOf Tryz.prog 4 = some ⟨.bool, 1, 1, .d (.bool false)⟩ := by kernel_rfl
@[go_sem] theorem ti5 : tiOf Tryz.prog 5 = some ⟨.int .u8, 1, 1, .d (.int .u8 0)⟩ := by kernel_rfl
@[go_sem] theorem ti6 : tiOf Tryz.prog 6 = some ⟨.int .u8, 1, 1, .d (.int .u8 0)⟩ := by kernel_rfl
@[go_sem] theorem ti7 : tiOf Tryz.prog 7 = some ⟨.struct [(0, 2), (1, 3), (2, 4), (3, 6)], 4, 24, .d (.agg [.int .i64 0, .int .i64 0, .bool false, .int .u8 0])⟩ := by kernel_rfl
@[go_sem] theorem eq7 : eqOk Tryz.prog 7 = true := by kernel_rfl
@[go_sem] theorem ti8 : tiOf Tryz.prog 8 = some ⟨.struct [(0, 2), (1, 3), (2, 4), (3, 6)], 4, 24, .d (.agg [.int .i64 0, .int .i64 0, .bool false, .int .u8 0])⟩ := by kernel_rfl
@[go_sem] theorem eq8 : eqOk Tryz.prog 8 = true := by kernel_rfl
@[go_sem] theorem ti9 : tiOf Tryz.prog 9 = some ⟨.str, 1, 16, .d (.str [])⟩ := by kernel_rfl
@[go_sem] theorem ti10 : tiOf Tryz.prog 10 = some ⟨.str, 1, 16, .d (.str [])⟩ := by kernel_rfl
@[go_sem] theorem ti11 : tiOf Tryz.prog 11 = some ⟨.str, 1, 16, .d (.str [])⟩ := by kernel_rfl
@[go_sem] theorem ti12 : tiOf Tryz.prog 12 = some ⟨.int .u64, 1, 8, .d (.int .u64 0)⟩ := by kernel_rfl
@[go_sem] theorem ti13 : tiOf Tryz.prog 13 = some ⟨.struct [(0, 9), (1, 12)], 2, 24, .d (.agg [.str [], .int .u64 0])⟩ := by kernel_rfl
@[go_sem] theorem ti14 : tiOf Tryz.prog 14 = some ⟨.struct [(0, 9), (1, 12)], 2, 24, .d (.agg [.str [], .int .u64 0])⟩ := by kernel_rfl
@[go_sem] theorem ti15 : tiOf Tryz.prog 15 = some ⟨.ptr 328, 1, 8, .d (.nilp)⟩ := by kernel_rfl
@[go_sem] theorem ti16 : tiOf Tryz.prog 16 = some ⟨.ptr 331, 1, 8, .d (.nilp)⟩ := by kernel_rfl
@[go_sem] theorem ti17 : tiOf Tryz.prog 17 = some ⟨.ptr 339, 1, 8, .d (.nilp)⟩ := by kernel_rfl
@[go_sem] theorem ti18 : tiOf Tryz.prog 18 = some ⟨.struct [(0, 17)], 1, 8, .d (.agg [.nilp])⟩ := by kernel_rfl
@[go_sem] theorem ti19 : tiOf Tryz.prog 19 = some ⟨.struct [(0, 17)], 1, 8, .d (.agg [.nilp])⟩ := by kernel_rfl
@[go_sem] theorem ti20 : tiOf Tryz.prog 20 = some ⟨.iface, 1, 16, .d (.nili)⟩ := by kernel_rfl
@[go_sem] theorem ti21 : tiOf Tryz.prog 21 = some ⟨.int .i32, 1, 4, .d (.int .i32 0)⟩ := by kernel_rfl
@[go_sem] theorem ti22 : tiOf Tryz.prog 22 = some ⟨.slice 3, 1, 24, .nils⟩ := by kernel_rfl
@[go_sem] theorem ti23 : tiOf Tryz.prog 23 = some ⟨.ptr 25, 1, 8, .d (.nilp)⟩ := by kernel_rfl
@[go_sem] theorem ti24 : tiOf Tryz.prog 24 = some ⟨.struct [(0, 22), (1, 3)], 2, 32, .agg [.nils, .d (.int .i64 0)]⟩ := by kernel_rfl
@[go_sem] theorem eq24 : eqOk Tryz.prog 24 = true := by kernel_rfl
@[go_sem] theorem ti25 : tiOf Tryz.prog 25 = some ⟨.struct [(0, 22), (1, 3)], 2, 32, .agg [.nils, .d (.int .i64 0)]⟩ := by kernel_rfl
@[go_sem] theorem eq25 : eqOk Tryz.prog 25 = true := by kernel_rfl
@[go_sem] theorem ti26 : tiOf Tryz.prog 26 = some ⟨.slice 9, 1, 24, .nils⟩ := by kernel_rfl
@[go_sem] theorem ti27 : tiOf Tryz.prog 27 = some ⟨.func, 1, 8, .k .nilFunc⟩ := by kernel_rfl
@[go_sem] theorem ti28 : tiOf Tryz.prog 28 = some ⟨.slice 37, 1, 24, .nils⟩ := by kernel_rfl
@[go_sem] theorem ti29 : tiOf Tryz.prog 29 = some ⟨.func, 1, 8, .k .nilFunc⟩ := by kernel_rfl
@[go_sem] theorem ti30 : tiOf Tryz.prog 30 = some ⟨.slice 44, 1, 24, .nils⟩ := by kernel_rfl
@[go_sem] theorem ti31 : tiOf Tryz.prog 31 = some ⟨.int .i64, 1, 8, .d (.int .i64 0)⟩ := by kernel_rfl
@[go_sem] theorem ti33 : tiOf Tryz.prog 33 = some ⟨.func, 1, 8, .k .nilFunc⟩ := by kernel_rfl
@[go_sem] theorem ti34 : tiOf Tryz.prog 34 = some ⟨.func, 1, 8, .k .nilFunc⟩ := by kernel_rfl
@[go_sem] theorem ti35 : tiOf Tryz.prog 35 = some ⟨.func, 1, 8, .k .nilFunc⟩ := by kernel_rfl
@[go_sem] theorem ti36 : tiOf Tryz.prog 36 = some ⟨.struct [(0, 3), (1, 26)], 2, 32, .agg [.d (.int .i64 0), .nils]⟩ := by kernel_rfl
@[go_sem] theorem eq36 : eqOk Tryz.prog 36 = true := by kernel_rfl
@[go_sem] theorem ti37 : tiOf Tryz.prog 37 = some ⟨.struct [(0, 3), (1, 26)], 2, 32, .agg [.d (.int .i64 0), .nils]⟩ := by kernel_rfl
@[go_sem] theorem eq37 : eqOk Tryz.prog 37 = true := by kernel_rfl
@[go_sem] theorem ti39 : tiOf Tryz.prog 39 = some ⟨.func, 1, 8, .k .nilFunc⟩ := by kernel_rfl
@[go_sem] theorem ti40 : tiOf Tryz.prog 40 = some ⟨.slice 46, 1, 24, .nils⟩ := by kernel_rfl
@[go_sem] theorem ti41 : tiOf Tryz.prog 41 = some ⟨.struct [(0, 3), (1, 3)], 2, 16, .d (.agg [.int .i64 0, .int .i64 0])⟩ := by kernel_rfl
@[go_sem] theorem eq41 : eqOk Tryz.prog 41 = true := by kernel_rfl
@[go_sem] theorem ti42 : tiOf Tryz.prog 42 = some ⟨.struct [(0, 3), (1, 3)], 2, 16, .d (.agg [.int .i64 0, .int .i64 0])⟩ := by kernel_rfl
@[go_sem] theorem eq42 : eqOk Tryz.prog 42 = true := by kernel_rfl
@[go_sem] theorem ti43 : tiOf Tryz.prog 43 = some ⟨.struct [(0, 40), (1, 26), (2, 9), (3, 42)], 5, 80, .agg [.nils, .nils, .d (.str []), .d (.int .i64 0), .d (.int .i64 0)]⟩ := by kernel_rfl
@[go_sem] theorem eq43 : eqOk Tryz.prog 43 = true := by kernel_rfl
@[go_sem] theorem ti44 : tiOf Tryz.prog 44 = some ⟨.struct [(0, 40), (1, 26), (2, 9), (3, 42)], 5, 80, .agg [.nils, .nils, .d (.str []), .d (.int .i64 0), .d (.int .i64 0)]⟩ := by kernel_rfl
@[go_sem] theorem eq44 : eqOk Tryz.prog 44 = true := by kernel_rfl
@[go_sem] theorem ti45 : tiOf Tryz.prog 45 = some ⟨.struct [(0, 9), (1, 42)], 3, 32, .d (.agg [.str [], .int .i64 0, .int .i64 0])⟩ := by kernel_rfl
@[go_sem] theorem eq45 : eqOk Tryz.prog 45 = true := by kernel_rfl
@[go_sem] theorem ti46 : tiOf Tryz.prog 46 = some ⟨.struct [(0, 9), (1, 42)], 3, 32, .d (.agg [.str [], .int .i64 0, .int .i64 0])⟩ := by kernel_rfl
@[go_sem] theorem eq46 : eqOk Tryz.prog 46 = true := by kernel_rfl
@[go_sem] theorem ti47 : tiOf Tryz.prog 47 = some ⟨.func, 1, 8, .k .nilFunc⟩ := by kernel_rfl
@[go_sem] theorem ti48 : tiOf Tryz.prog 48 = some ⟨.func, 1, 8, .k .nilFunc⟩ := by kernel_rfl
@[go_sem] theorem ti49 : tiOf Tryz.prog 49 = some ⟨.func, 1, 8, .k .nilFunc⟩ := by kernel_rfl
@[go_sem] theorem ti51 : tiOf Tryz.prog 51 = some ⟨.func, 1, 8, .k .nilFunc⟩ := by kernel_rfl
@[go_sem] theorem ti53 : tiOf Tryz.prog 53 = some ⟨.func, 1, 8, .k .nilFunc⟩ := by kernel_rfl
@[go_sem] theorem ti54 : tiOf Tryz.prog 54 = some ⟨.func, 1, 8, .k .nilFunc⟩ := by kernel_rfl
@[go_sem] theorem ti55 : tiOf Tryz.prog 55 = some ⟨.func, 1, 8, .k .nilFunc⟩ := by kernel_rfl
@[go_sem] theorem ti56 : tiOf Tryz.prog 56 = some ⟨.slice 62, 1, 24, .nils⟩ := by kernel_rfl
@[go_sem] theorem ti57 : tiOf Tryz.prog 57 = some ⟨.func, 1, 8, .k .nilFunc⟩ := by kernel_rfl
@[go_sem] theorem ti59 : tiOf Tryz.prog 59 = some ⟨.func, 1, 8, .k .nilFunc⟩ := by kernel_rfl
@[go_sem] theorem ti60 : tiOf Tryz.prog 60 = some ⟨.slice 83, 1, 24, .nils⟩ := by kernel_rfl
@[go_sem] theorem ti61 : tiOf Tryz.prog 61 = some ⟨.struct [(0, 9), (1, 9), (2, 3), (3, 60)], 4, 64, .agg [.d (.str []), .d (.str []), .d (.int .i64 0), .nils]⟩ := by kernel_rfl
@[go_sem] theorem eq61 : eqOk Tryz.prog 61 = true := by kernel_rfl
@[go_sem] theorem ti62 : tiOf Tryz.prog 62 = some ⟨.struct [(0, 9), (1, 9), (2, 3), (3, 60)], 4, 64, .agg [.d (.str []), .d (.str []), .d (.int .i64 0), .nils]⟩ := by kernel_rfl
@[go_sem] theorem eq62 : eqOk Tryz.prog 62 = true := by kernel_rfl
@[go_sem] theorem ti63 : tiOf Tryz.prog 63 = some ⟨.func, 1, 8, .k .nilFunc⟩ := by kernel_rfl
@[go_sem] theorem ti64 : tiOf Tryz.prog 64 = some ⟨.func, 1, 8, .k .nilFunc⟩ := by kernel_rfl
@[go_sem] theorem ti65 : tiOf Tryz.prog 65 = some ⟨.func, 1, 8, .k .nilFunc⟩ := by kernel_rfl
@[go_sem] theorem ti66 : tiOf Tryz.prog 66 = some ⟨.func, 1, 8, .k .nilFunc⟩ := by kernel_rfl
@[go_sem] theorem ti67 : tiOf Tryz.prog 67 = some ⟨.func, 1, 8, .k .nilFunc⟩ := by kernel_rfl
@[go_sem] theorem ti68 : tiOf Tryz.prog 68 = some ⟨.slice 132, 1, 24, .nils⟩ := by kernel_rfl
@[go_sem] theorem ti69 : tiOf Tryz.prog 69 = some ⟨.struct [(0, 3), (1, 4), (2, 68)], 3, 40, .agg [.d (.int .i64 0), .d (.bool false), .nils]⟩ := by kernel_rfl
@[go_sem] theorem eq69 : eqOk Tryz.prog 69 = true := by kernel_rfl
@[go_sem] theorem ti70 : tiOf Tryz.prog 70 = some ⟨.struct [(0, 3), (1, 4), (2, 68)], 3, 40, .agg [.d (.int .i64 0), .d (.bool false), .nils]⟩ := by kernel_rfl
@[go_sem] theorem eq70 : eqOk Tryz.prog 70 = true := by kernel_rfl
@[go_sem] theorem ti71 : tiOf Tryz.prog 71 = some ⟨.func, 1, 8, .k .nilFunc⟩ := by kernel_rfl
@[go_sem] theorem ti72 : tiOf Tryz.prog 72 = some ⟨.slice 88, 1, 24, .nils⟩ := by kernel_rfl
@[go_sem] theorem ti74 : tiOf Tryz.prog 74 = some ⟨.func, 1, 8, .k .nilFunc⟩ := by kernel_rfl
@[go_sem] theorem ti75 : tiOf Tryz.prog 75 = some ⟨.slice 80, 1, 24, .nils⟩ := by kernel_rfl
@[go_sem] theorem ti77 : tiOf Tryz.prog 77 = some ⟨.func, 1, 8, .k .nilFunc⟩ := by kernel_rfl
@[go_sem] theorem ti78 : tiOf Tryz.prog 78 = some ⟨.func, 1, 8, .k .nilFunc⟩ := by kernel_rfl
@[go_sem] theorem ti79 : tiOf Tryz.prog 79 = some ⟨.struct [(0, 9), (1, 3), (2, 3)], 3, 32, .d (.agg [.str [], .int .i64 0, .int .i64 0])⟩ := by kernel_rfl
@[go_sem] theorem eq79 : eqOk Tryz.prog 79 = true := by kernel_rfl
@[go_sem] theorem ti80 : tiOf Tryz.prog 80 = some ⟨.struct [(0, 9), (1, 3), (2, 3)], 3, 32, .d (.agg [.str [], .int .i64 0, .int .i64 0])⟩ := by kernel_rfl
@[go_sem] theorem eq80 : eqOk Tryz.prog 80 = true := by kernel_rfl
@[go_sem] theorem ti81 : tiOf Tryz.prog 81 = some ⟨.func, 1, 8, .k .nilFunc⟩ := by kernel_rfl
@[go_sem] theorem ti82 : tiOf Tryz.prog 82 = some ⟨.struct [(0, 9), (1, 9)], 2, 32, .d (.agg [.str [], .str []])⟩ := by kernel_rfl
@[go_sem] theorem eq82 : eqOk Tryz.prog 82 = true := by kernel_rfl
@[go_sem] theorem ti83 : tiOf Tryz.prog 83 = some ⟨.struct [(0, 9), (1, 9)], 2, 32, .d (.agg [.str [], .str []])⟩ := by kernel_rfl
@[go_sem] theorem eq83 : eqOk Tryz.prog 83 = true := by kernel_rfl
@[go_sem] theorem ti85 : tiOf Tryz.prog 85 = some ⟨.func, 1, 8, .k .nilFunc⟩ := by kernel_rfl
@[go_sem] theorem ti86 : tiOf Tryz.prog 86 = some ⟨.func, 1, 8, .k .nilFunc⟩ := by kernel_rfl
@[go_sem] theorem ti87 : tiOf Tryz.prog 87 = some ⟨.struct [(0, 9), (1, 9), (2, 22)], 3, 56, .agg [.d (.str []), .d (.str []), .nils]⟩ := by kernel_rfl
@[go_sem] theorem eq87 : eqOk Tryz.prog 87 = true := by kernel_rfl
@[go_sem] theorem ti88 : tiOf Tryz.prog 88 = some ⟨.struct [(0, 9), (1, 9), (2, 22)], 3, 56, .agg [.d (.str []), .d (.str []), .nils]⟩ := by kernel_rfl
@[go_sem] theorem eq88 : eqOk Tryz.prog 88 = true := by kernel_rfl
@[go_sem] theorem ti89 : tiOf Tryz.prog 89 = some ⟨.func, 1, 8, .k .nilFunc⟩ := by kernel_rfl
@[go_sem] theorem ti90 : tiOf Tryz.prog 90 = some ⟨.func, 1, 8, .k .nilFunc⟩ := by kernel_rfl
@[go_sem] theorem ti91 : tiOf Tryz.prog 91 = some ⟨.func, 1, 8, .k .nilFunc⟩ := by kernel_rfl
@[go_sem] theorem ti92 : tiOf Tryz.prog 92 = some ⟨.func, 1, 8, .k .nilFunc⟩ := by kernel_rfl
@[go_sem] theorem ti93 : tiOf Tryz.prog 93 = some ⟨.func, 1, 8, .k .nilFunc⟩ := by kernel_rfl
@[go_sem] theorem ti94 : tiOf Tryz.prog 94 = some ⟨.func, 1, 8, .k .nilFunc⟩ := by kernel_rfl
@[go_sem] theorem ti95 : tiOf Tryz.prog 95 = some ⟨.func, 1, 8, .k .nilFunc⟩ := by kernel_rfl
@[go_sem] theorem ti96 : tiOf Tryz.prog 96 = some ⟨.ptr 100, 1, 8, .d (.nilp)⟩ := by kernel_rfl
@[go_sem] theorem ti97 : tiOf Tryz.prog 97 = some ⟨.func, 1, 8, .k .nilFunc⟩ := by kernel_rfl
@[go_sem] theorem ti98 : tiOf Tryz.prog 98 = some ⟨.slice 42, 1, 24, .nils⟩ := by kernel_rfl
@[go_sem] theorem ti99 : tiOf Tryz.prog 99 = some ⟨.struct [(0, 28), (1, 98), (2, 26), (3, 42), (5, 3)], 6, 96, .agg [.nils, .nils, .nils, .d (.int .i64 0), .d (.int .i64 0), .d (.int .i64 0)]⟩ := by kernel_rfl
@[go_sem] theorem eq99 : eqOk Tryz.prog 99 = true := by kernel_rfl
@[go_sem] theorem ti100 : tiOf Tryz.prog 100 = some ⟨.struct [(0, 28), (1, 98), (2, 26), (3, 42), (5, 3)], 6, 96, .agg [.nils, .nils, .nils, .d (.int .i64 0), .d (.int .i64 0), .d (.int .i64 0)]⟩ := by kernel_rfl
@[go_sem] theorem eq100 : eqOk Tryz.prog 100 = true := by kernel_rfl
@[go_sem] theorem ti102 : tiOf Tryz.prog 102 = some ⟨.func, 1, 8, .k .nilFunc⟩ := by kernel_rfl
@[go_sem] theorem ti103 : tiOf Tryz.prog 103 = some ⟨.func, 1, 8, .k .nilFunc⟩ := by kernel_rfl
@[go_sem] theorem ti104 : tiOf Tryz.prog 104 = some ⟨.func, 1, 8, .k .nilFunc⟩ := by kernel_rfl
@[go_sem] theorem ti105 : tiOf Tryz.prog 105 = some ⟨.func, 1, 8, .k .nilFunc⟩ := by kernel_rfl
@[go_sem] theorem ti106 : tiOf Tryz.prog 106 = some ⟨.slice 240, 1, 24, .nils⟩ := by kernel_rfl
@[go_sem] theorem ti107 : tiOf Tryz.prog 107 = some ⟨.slice 198, 1, 24, .nils⟩ := by kernel_rfl
@[go_sem] theorem ti108 : tiOf Tryz.prog 108 = some ⟨.slice 246, 1, 24, .nils⟩ := by kernel_rfl
@[go_sem] theorem ti109 : tiOf Tryz.prog 109 = some ⟨.slice 248, 1, 24, .nils⟩ := by kernel_rfl
@[go_sem] theorem ti110 : tiOf Tryz.prog 110 = some ⟨.struct [(0, 106), (1, 107), (2, 108), (3, 109)], 4, 96, .agg [.nils, .nils, .nils, .nils]⟩ := by kernel_rfl
@[go_sem] theorem eq110 : eqOk Tryz.prog 110 = true := by kernel_rfl
@[go_sem] theorem ti111 : tiOf Tryz.prog 111 = some ⟨.struct [(0, 106), (1, 107), (2, 108), (3, 109)], 4, 96, .agg [.nils, .nils, .nils, .nils]⟩ := by kernel_rfl
@[go_sem] theorem eq111 : eqOk Tryz.prog 111 = true := by kernel_rfl
@[go_sem] theorem ti113 : tiOf Tryz.prog 113 = some ⟨.func, 1, 8, .k .nilFunc⟩ := by kernel_rfl
@[go_sem] theorem ti114 : tiOf Tryz.prog 114 = some ⟨.slice 165, 1, 24, .nils⟩ := by kernel_rfl
@[go_sem] theorem ti116 : tiOf Tryz.prog 116 = some ⟨.func, 1, 8, .k .nilFunc⟩ := by kernel_rfl
@[go_sem] theorem ti117 : tiOf Tryz.prog 117 = some ⟨.func, 1, 8, .k .nilFunc⟩ := by kernel_rfl
@[go_sem] theorem ti118 : tiOf Tryz.prog 118 = some ⟨.func, 1, 8, .k .nilFunc⟩ := by kernel_rfl
@[go_sem] theorem ti119 : tiOf Tryz.prog 119 = some ⟨.func, 1, 8, .k .nilFunc⟩ := by kernel_rfl
@[go_sem] theorem ti120 : tiOf Tryz.prog 120 = some ⟨.func, 1, 8, .k .nilFunc⟩ := by kernel_rfl
@[go_sem] theorem ti121 : tiOf Tryz.prog 121 = some ⟨.slice 127, 1, 24, .nils⟩ := by kernel_rfl
@[go_sem] theorem ti122 : tiOf Tryz.prog 122 = some ⟨.func, 1, 8, .k .nilFunc⟩ := by kernel_rfl
@[go_sem] theorem ti123 : tiOf Tryz.prog 123 = some ⟨.func, 1, 8, .k .nilFunc⟩ := by kernel_rfl
@[go_sem] theorem ti124 : tiOf Tryz.prog 124 = some ⟨.func, 1, 8, .k .nilFunc⟩ := by kernel_rfl
@[go_sem] theorem ti125 : tiOf Tryz.prog 125 = some ⟨.func, 1, 8, .k .nilFunc⟩ := by kernel_rfl
@[go_sem] theorem ti126 : tiOf Tryz.prog 126 = some ⟨.struct [(0, 9), (1, 3), (2, 9), (3, 9), (4, 9)], 5, 72, .d (.agg [.str [], .int .i64 0, .str [], .str [], .str []])⟩ := by kernel_rfl
@[go_sem] theorem eq126 : eqOk Tryz.prog 126 = true := by kernel_rfl
@[go_sem] theorem ti127 : tiOf Tryz.prog 127 = some ⟨.struct [(0, 9), (1, 3), (2, 9), (3, 9), (4, 9)], 5, 72, .d (.agg [.str [], .int .i64 0, .str [], .str [], .str []])⟩ := by kernel_rfl
@[go_sem] theorem eq127 : eqOk Tryz.prog 127 = true := by kernel_rfl
@[go_sem] theorem ti128 : tiOf Tryz.prog 128 = some ⟨.ptr 9, 1, 8, .d (.nilp)⟩ := by kernel_rfl
@[go_sem] theorem ti129 : tiOf Tryz.prog 129 = some ⟨.func, 1, 8, .k .nilFunc⟩ := by kernel_rfl
@[go_sem] theorem ti130 : tiOf Tryz.prog 130 = some ⟨.func, 1, 8, .k .nilFunc⟩ := by kernel_rfl
@[go_sem] theorem ti131 : tiOf Tryz.prog 131 = some ⟨.struct [(0, 9), (1, 26)], 2, 40, .agg [.d (.str []), .nils]⟩ := by kernel_rfl
@[go_sem] theorem eq131 : eqOk Tryz.prog 131 = true := by kernel_rfl
@[go_sem] theorem ti132 : tiOf Tryz.prog 132 = some ⟨.struct [(0, 9), (1, 26)], 2, 40, .agg [.d (.str []), .nils]⟩ := by kernel_rfl
@[go_sem] theorem eq132 : eqOk Tryz.prog 132 = true := by kernel_rfl
@[go_sem] theorem ti133 : tiOf Tryz.prog 133 = some ⟨.ptr 132, 1, 8, .d (.nilp)⟩ := by kernel_rfl
@[go_sem] theorem ti134 : tiOf Tryz.prog 134 = some ⟨.map 139 22, 1, 8, .d (.map [] [])⟩ := by kernel_rfl
@[go_sem] theorem ti135 : tiOf Tryz.prog 135 = some ⟨.func, 1, 8, .k .nilFunc⟩ := by kernel_rfl
@[go_sem] theorem ti137 : tiOf Tryz.prog 137 = some ⟨.func, 1, 8, .k .nilFunc⟩ := by kernel_rfl
@[go_sem] theorem ti138 : tiOf Tryz.prog 138 = some ⟨.func, 1, 8, .k .nilFunc⟩ := by kernel_rfl
@[go_sem] theorem ti139 : tiOf Tryz.prog 139 = some ⟨.arr 2 9, 2, 32, .d (.agg [.str [], .str []])⟩ := by kernel_rfl
@[go_sem] theorem ti140 : tiOf Tryz.prog 140 = some ⟨.func, 1, 8, .k .nilFunc⟩ := by kernel_rfl
@[go_sem] theorem ti141 : tiOf Tryz.prog 141 = some ⟨.func, 1, 8, .k .nilFunc⟩ := by kernel_rfl
@[go_sem] theorem ti142 : tiOf Tryz.prog 142 = some ⟨.func, 1, 8, .k .nilFunc⟩ := by kernel_rfl
@[go_sem] theorem ti143 : tiOf Tryz.prog 143 = some ⟨.map 9 4, 1, 8, .d (.map [] [])⟩ := by kernel_rfl
@[go_sem] theorem ti144 : tiOf Tryz.prog 144 = some ⟨.func, 1, 8, .k .nilFunc⟩ := by kernel_rfl
@[go_sem] theorem ti145 : tiOf Tryz.prog 145 = some ⟨.func, 1, 8, .k .nilFunc⟩ := by kernel_rfl
@[go_sem] theorem ti146 : tiOf Tryz.prog 146 = some ⟨.func, 1, 8, .k .nilFunc⟩ := by kernel_rfl
@[go_sem] theorem ti147 : tiOf Tryz.prog 147 = some ⟨.func, 1, 8, .k .nilFunc⟩ := by kernel_rfl
@[go_sem] theorem ti148 : tiOf Tryz.prog 148 = some ⟨.func, 1, 8, .k .nilFunc⟩ := by kernel_rfl
@[go_sem] theorem ti149 : tiOf Tryz.prog 149 = some ⟨.map 9 42, 1, 8, .d (.map [] [])⟩ := by kernel_rfl
@[go_sem] theorem ti150 : tiOf Tryz.prog 150 = some ⟨.func, 1, 8, .k .nilFunc⟩ := by kernel_rfl
@[go_sem] theorem ti151 : tiOf Tryz.prog 151 = some ⟨.func, 1, 8, .k .nilFunc⟩ := by kernel_rfl
@[go_sem] theorem ti152 : tiOf Tryz.prog 152 = some ⟨.func, 1, 8, .k .nilFunc⟩ := by kernel_rfl
@[go_sem] theorem ti153 : tiOf Tryz.prog 153 = some ⟨.func, 1, 8, .k .nilFunc⟩ := by kernel_rfl
@[go_sem] theorem ti154 : tiOf Tryz.prog 154 = some ⟨.func, 1, 8, .k .nilFunc⟩ := by kernel_rfl
@[go_sem] theorem ti155 : tiOf Tryz.prog 155 = some ⟨.func, 1, 8, .k .nilFunc⟩ := by kernel_rfl
@[go_sem] theorem ti156 : tiOf Tryz.prog 156 = some ⟨.func, 1, 8, .k .nilFunc⟩ := by kernel_rfl
@[go_sem] theorem ti157 : tiOf Tryz.prog 157 = some ⟨.func, 1, 8, .k .nilFunc⟩ := by kernel_rfl
@[go_sem] theorem ti158 : tiOf Tryz.prog 158 = some ⟨.ptr 160, 1, 8, .d (.nilp)⟩ := by kernel_rfl
@[go_sem] theorem ti159 : tiOf Tryz.prog 159 = some ⟨.struct [(0, 111), (4, 3)], 5, 104, .agg [.nils, .nils, .nils, .nils, .d (.int .i64 0)]⟩ := by kernel_rfl
@[go_sem] theorem eq159 : eqOk Tryz.prog 159 = true := by kernel_rfl
@[go_sem] theorem ti160 : tiOf Tryz.prog 160 = some ⟨.struct [(0, 111), (4, 3)], 5, 104, .agg [.nils, .nils, .nils, .nils, .d (.int .i64 0)]⟩ := by kernel_rfl
@[go_sem] theorem eq160 : eqOk Tryz.prog 160 = true := by kernel_rfl
@[go_sem] theorem ti162 : tiOf Tryz.prog 162 = some ⟨.func, 1, 8, .k .nilFunc⟩ := by kernel_rfl
@[go_sem] theorem ti163 : tiOf Tryz.prog 163 = some ⟨.func, 1, 8, .k .nilFunc⟩ := by kernel_rfl
@[go_sem] theorem ti164 : tiOf Tryz.prog 164 = some ⟨.struct [(0, 9), (1, 3), (2, 3), (3, 26), (4, 4), (5, 4)], 6, 64, .agg [.d (.str []), .d (.int .i64 0), .d (.int .i64 0), .nils, .d (.bool false), .d (.bool false)]⟩ := by kernel_rfl
@[go_sem] theorem eq164 : eqOk Tryz.prog 164 = true := by kernel_rfl
@[go_sem] theorem ti165 : tiOf Tryz.prog 165 = some ⟨.struct [(0, 9), (1, 3), (2, 3), (3, 26), (4, 4), (5, 4)], 6, 64, .agg [.d (.str []), .d (.int .i64 0), .d (.int .i64 0), .nils, .d (.bool false), .d (.bool false)]⟩ := by kernel_rfl
@[go_sem] theorem eq165 : eqOk Tryz.prog 165 = true := by kernel_rfl
@[go_sem] theorem ti167 : tiOf Tryz.prog 167 = some ⟨.func, 1, 8, .k .nilFunc⟩ := by kernel_rfl
@[go_sem] theorem ti168 : tiOf Tryz.prog 168 = some ⟨.func, 1, 8, .k .nilFunc⟩ := by kernel_rfl
@[go_sem] theorem ti170 : tiOf Tryz.prog 170 = some ⟨.func, 1, 8, .k .nilFunc⟩ := by kernel_rfl
@[go_sem] theorem ti171 : tiOf Tryz.prog 171 = some ⟨.func, 1, 8, .k .nilFunc⟩ := by kernel_rfl
@[go_sem] theorem ti172 : tiOf Tryz.prog 172 = some ⟨.func, 1, 8, .k .nilFunc⟩ := by kernel_rfl
@[go_sem] theorem ti173 : tiOf Tryz.prog 173 = some ⟨.func, 1, 8, .k .nilFunc⟩ := by kernel_rfl
@[go_sem] theorem ti174 : tiOf Tryz.prog 174 = some ⟨.func, 1, 8, .k .nilFunc⟩ := by kernel_rfl
@[go_sem] theorem ti175 : tiOf Tryz.prog 175 = some ⟨.func, 1, 8, .k .nilFunc⟩ := by kernel_rfl
@[go_sem] theorem ti176 : tiOf Tryz.prog 176 = some ⟨.func, 1, 8, .k .nilFunc⟩ := by kernel_rfl
@[go_sem] theorem ti177 : tiOf Tryz.prog 177 = some ⟨.func, 1, 8, .k .nilFunc⟩ := by kernel_rfl
@[go_sem] theorem ti179 : tiOf Tryz.prog 179 = some ⟨.func, 1, 8, .k .nilFunc⟩ := by kernel_rfl
@[go_sem] theorem ti180 : tiOf Tryz.prog 180 = some ⟨.func, 1, 8, .k .nilFunc⟩ := by kernel_rfl
@[go_sem] theorem ti181 : tiOf Tryz.prog 181 = some ⟨.func, 1, 8, .k .nilFunc⟩ := by kernel_rfl
@[go_sem] theorem ti182 : tiOf Tryz.prog 182 = some ⟨.func, 1, 8, .k .nilFunc⟩ := by kernel_rfl
@[go_sem] theorem ti183 : tiOf Tryz.prog 183 = some ⟨.int .u64, 1, 8, .d (.int .u64 0)⟩ := by kernel_rfl
@[go_sem] theorem ti184 : tiOf Tryz.prog 184 = some ⟨.slice 5, 1, 24, .nils⟩ := by kernel_rfl
@[go_sem] theorem ti185 : tiOf Tryz.prog 185 = some ⟨.func, 1, 8, .k .nilFunc⟩ := by kernel_rfl
@[go_sem] theorem ti186 : tiOf Tryz.prog 186 = some ⟨.func, 1, 8, .k .nilFunc⟩ := by kernel_rfl
@[go_sem] theorem ti187 : tiOf Tryz.prog 187 = some ⟨.int .u64, 1, 8, .d (.int .u64 0)⟩ := by kernel_rfl
@[go_sem] theorem ti189 : tiOf Tryz.prog 189 = some ⟨.func, 1, 8, .k .nilFunc⟩ := by kernel_rfl
@[go_sem] theorem ti190 : tiOf Tryz.prog 190 = some ⟨.func, 1, 8, .k .nilFunc⟩ := by kernel_rfl
@[go_sem] theorem ti191 : tiOf Tryz.prog 191 = some ⟨.func, 1, 8, .k .nilFunc⟩ := by kernel_rfl
@[go_sem] theorem ti193 : tiOf Tryz.prog 193 = some ⟨.func, 1, 8, .k .nilFunc⟩ := by kernel_rfl
@[go_sem] theorem ti194 : tiOf Tryz.prog 194 = some ⟨.func, 1, 8, .k .nilFunc⟩ := by kernel_rfl
@[go_sem] theorem ti195 : tiOf Tryz.prog 195 = some ⟨.slice 202, 1, 24, .nils⟩ := by kernel_rfl
@[go_sem] theorem ti196 : tiOf Tryz.prog 196 = some ⟨.slice 244, 1, 24, .nils⟩ := by kernel_rfl
@[go_sem] theorem ti197 : tiOf Tryz.prog 197 = some ⟨.struct [(0, 9), (1, 195), (2, 196), (3, 26), (4, 26)], 5, 112, .agg [.d (.str []), .nils, .nils, .nils, .nils]⟩ := by kernel_rfl
@[go_sem] theorem eq197 : eqOk Tryz.prog 197 = true := by kernel_rfl
@[go_sem] theorem ti198 : tiOf Tryz.prog 198 = some ⟨.struct [(0, 9), (1, 195), (2, 196), (3, 26), (4, 26)], 5, 112, .agg [.d (.str []), .nils, .nils, .nils, .nils]⟩ := by kernel_rfl
@[go_sem] theorem eq198 : eqOk Tryz.prog 198 = true := by kernel_rfl
@[go_sem] theorem ti199 : tiOf Tryz.prog 199 = some ⟨.ptr 198, 1, 8, .d (.nilp)⟩ := by kernel_rfl
@[go_sem] theorem ti200 : tiOf Tryz.prog 200 = some ⟨.func, 1, 8, .k .nilFunc⟩ := by kernel_rfl
@[go_sem] theorem ti201 : tiOf Tryz.prog 201 = some ⟨.struct [(0, 9), (1, 3)], 2, 24, .d (.agg [.str [], .int .i64 0])⟩ := by kernel_rfl
@[go_sem] theorem eq201 : eqOk Tryz.prog 201 = true := by kernel_rfl
@[go_sem] theorem ti202 : tiOf Tryz.prog 202 = some ⟨.struct [(0, 9), (1, 3)], 2, 24, .d (.agg [.str [], .int .i64 0])⟩ := by kernel_rfl
@[go_sem] theorem eq202 : eqOk Tryz.prog 202 = true := by kernel_rfl
@[go_sem] theorem ti203 : tiOf Tryz.prog 203 = some ⟨.func, 1, 8, .k .nilFunc⟩ := by kernel_rfl
@[go_sem] theorem ti204 : tiOf Tryz.prog 204 = some ⟨.func, 1, 8, .k .nilFunc⟩ := by kernel_rfl
@[go_sem] theorem ti205 : tiOf Tryz.prog 205 = some ⟨.map 9 3, 1, 8, .d (.map [] [])⟩ := by kernel_rfl
@[go_sem] theorem ti206 : tiOf Tryz.prog 206 = some ⟨.func, 1, 8, .k .nilFunc⟩ := by kernel_rfl
@[go_sem] theorem ti207 : tiOf Tryz.prog 207 = some ⟨.func, 1, 8, .k .nilFunc⟩ := by kernel_rfl
@[go_sem] theorem ti208 : tiOf Tryz.prog 208 = some ⟨.func, 1, 8, .k .nilFunc⟩ := by kernel_rfl
@[go_sem] theorem ti209 : tiOf Tryz.prog 209 = some ⟨.func, 1, 8, .k .nilFunc⟩ := by kernel_rfl
@[go_sem] theorem ti210 : tiOf Tryz.prog 210 = some ⟨.func, 1, 8, .k .nilFunc⟩ := by kernel_rfl
@[go_sem] theorem ti211 : tiOf Tryz.prog 211 = some ⟨.func, 1, 8, .k .nilFunc⟩ := by kernel_rfl
@[go_sem] theorem ti212 : tiOf Tryz.prog 212 = some ⟨.func, 1, 8, .k .nilFunc⟩ := by kernel_rfl
@[go_sem] theorem ti213 : tiOf Tryz.prog 213 = some ⟨.func, 1, 8, .k .nilFunc⟩ := by kernel_rfl
@[go_sem] theorem ti214 : tiOf Tryz.prog 214 = some ⟨.ptr 216, 1, 8, .d (.nilp)⟩ := by kernel_rfl
@[go_sem] theorem ti215 : tiOf Tryz.prog 215 = some ⟨.struct [(0, 214), (1, 184)], 2, 32, .agg [.d (.nilp), .nils]⟩ := by kernel_rfl
@[go_sem] theorem eq215 : eqOk Tryz.prog 215 = true := by kernel_rfl
@[go_sem] theorem ti216 : tiOf Tryz.prog 216 = some ⟨.struct [(0, 214), (1, 184)], 2, 32, .agg [.d (.nilp), .nils]⟩ := by kernel_rfl
@[go_sem] theorem eq216 : eqOk Tryz.prog 216 = true := by kernel_rfl
@[go_sem] theorem ti217 : tiOf Tryz.prog 217 = some ⟨.func, 1, 8, .k .nilFunc⟩ := by kernel_rfl
@[go_sem] theorem ti218 : tiOf Tryz.prog 218 = some ⟨.iface, 1, 16, .d (.nili)⟩ := by kernel_rfl
@[go_sem] theorem ti219 : tiOf Tryz.prog 219 = some ⟨.iface, 1, 16, .d (.nili)⟩ := by kernel_rfl
@[go_sem] theorem ti221 : tiOf Tryz.prog 221 = some ⟨.func, 1, 8, .k .nilFunc⟩ := by kernel_rfl
@[go_sem] theorem ti222 : tiOf Tryz.prog 222 = some ⟨.func, 1, 8, .k .nilFunc⟩ := by kernel_rfl
@[go_sem] theorem ti223 : tiOf Tryz.prog 223 = some ⟨.int .i64, 1, 8, .d (.int .i64 0)⟩ := by kernel_rfl
@[go_sem] theorem ti225 : tiOf Tryz.prog 225 = some ⟨.func, 1, 8, .k .nilFunc⟩ := by kernel_rfl
@[go_sem] theorem ti226 : tiOf Tryz.prog 226 = some ⟨.func, 1, 8, .k .nilFunc⟩ := by kernel_rfl
@[go_sem] theorem ti227 : tiOf Tryz.prog 227 = some ⟨.func, 1, 8, .k .nilFunc⟩ := by kernel_rfl
@[go_sem] theorem ti228 : tiOf Tryz.prog 228 = some ⟨.func, 1, 8, .k .nilFunc⟩ := by kernel_rfl
@[go_sem] theorem ti229 : tiOf Tryz.prog 229 = some ⟨.func, 1, 8, .k .nilFunc⟩ := by kernel_rfl
@[go_sem] theorem ti230 : tiOf Tryz.prog 230 = some ⟨.int .u32, 1, 4, .d (.int .u32 0)⟩ := by kernel_rfl
@[go_sem] theorem ti231 : tiOf Tryz.prog 231 = some ⟨.func, 1, 8, .k .nilFunc⟩ := by kernel_rfl
@[go_sem] theorem ti232 : tiOf Tryz.prog 232 = some ⟨.func, 1, 8, .k .nilFunc⟩ := by kernel_rfl
@[go_sem] theorem ti233 : tiOf Tryz.prog 233 = some ⟨.func, 1, 8, .k .nilFunc⟩ := by kernel_rfl
@[go_sem] theorem ti234 : tiOf Tryz.prog 234 = some ⟨.func, 1, 8, .k .nilFunc⟩ := by kernel_rfl
@[go_sem] theorem ti235 : tiOf Tryz.prog 235 = some ⟨.func, 1, 8, .k .nilFunc⟩ := by kernel_rfl
@[go_sem] theorem ti236 : tiOf Tryz.prog 236 = some ⟨.func, 1, 8, .k .nilFunc⟩ := by kernel_rfl
@[go_sem] theorem ti237 : tiOf Tryz.prog 237 = some ⟨.func, 1, 8, .k .nilFunc⟩ := by kernel_rfl
@[go_sem] theorem ti238 : tiOf Tryz.prog 238 = some ⟨.func, 1, 8, .k .nilFunc⟩ := by kernel_rfl
@[go_sem] theorem ti239 : tiOf Tryz.prog 239 = some ⟨.struct [(0, 9), (1, 9)], 2, 32, .d (.agg [.str [], .str []])⟩ := by kernel_rfl
@[go_sem] theorem eq239 : eqOk Tryz.prog 239 = true := by kernel_rfl
@[go_sem] theorem ti240 : tiOf Tryz.prog 240 = some ⟨.struct [(0, 9), (1, 9)], 2, 32, .d (.agg [.str [], .str []])⟩ := by kernel_rfl
@[go_sem] theorem eq240 : eqOk Tryz.prog 240 = true := by kernel_rfl
@[go_sem] theorem ti242 : tiOf Tryz.prog 242 = some ⟨.func, 1, 8, .k .nilFunc⟩ := by kernel_rfl
@[go_sem] theorem ti243 : tiOf Tryz.prog 243 = some ⟨.struct [(0, 9), (1, 3), (2, 3)], 3, 32, .d (.agg [.str [], .int .i64 0, .int .i64 0])⟩ := by kernel_rfl
@[go_sem] theorem eq243 : eqOk Tryz.prog 243 = true := by kernel_rfl
@[go_sem] theorem ti244 : tiOf Tryz.prog 244 = some ⟨.struct [(0, 9), (1, 3), (2, 3)], 3, 32, .d (.agg [.str [], .int .i64 0, .int .i64 0])⟩ := by kernel_rfl
@[go_sem] theorem eq244 : eqOk Tryz.prog 244 = true := by kernel_rfl
@[go_sem] theorem ti245 : tiOf Tryz.prog 245 = some ⟨.struct [(0, 3), (1, 26)], 2, 32, .agg [.d (.int .i64 0), .nils]⟩ := by kernel_rfl
@[go_sem] theorem eq245 : eqOk Tryz.prog 245 = true := by kernel_rfl
@[go_sem] theorem ti246 : tiOf Tryz.prog 246 = some ⟨.struct [(0, 3), (1, 26)], 2, 32, .agg [.d (.int .i64 0), .nils]⟩ := by kernel_rfl
@[go_sem] theorem eq246 : eqOk Tryz.prog 246 = true := by kernel_rfl
@[go_sem] theorem ti247 : tiOf Tryz.prog 247 = some ⟨.struct [(0, 9), (1, 9)], 2, 32, .d (.agg [.str [], .str []])⟩ := by kernel_rfl
@[go_sem] theorem eq247 : eqOk Tryz.prog 247 = true := by kernel_rfl
@[go_sem] theorem ti248 : tiOf Tryz.prog 248 = some ⟨.struct [(0, 9), (1, 9)], 2, 32, .d (.agg [.str [], .str []])⟩ := by kernel_rfl
@[go_sem] theorem eq248 : eqOk Tryz.prog 248 = true := by kernel_rfl
@[go_sem] theorem ti249 : tiOf Tryz.prog 249 = some ⟨.map 9 9, 1, 8, .d (.map [] [])⟩ := by kernel_rfl
@[go_sem] theorem ti250 : tiOf Tryz.prog 250 = some ⟨.map 9 9, 1, 8, .d (.map [] [])⟩ := by kernel_rfl
@[go_sem] theorem ti251 : tiOf Tryz.prog 251 = some ⟨.func, 1, 8, .k .nilFunc⟩ := by kernel_rfl
@[go_sem] theorem ti252 : tiOf Tryz.prog 252 = some ⟨.func, 1, 8, .k .nilFunc⟩ := by kernel_rfl
@[go_sem] theorem ti253 : tiOf Tryz.prog 253 = some ⟨.func, 1, 8, .k .nilFunc⟩ := by kernel_rfl
@[go_sem] theorem ti254 : tiOf Tryz.prog 254 = some ⟨.func, 1, 8, .k .nilFunc⟩ := by kernel_rfl
@[go_sem] theorem ti255 : tiOf Tryz.prog 255 = some ⟨.func, 1, 8, .k .nilFunc⟩ := by kernel_rfl
@[go_sem] theorem ti256 : tiOf Tryz.prog 256 = some ⟨.func, 1, 8, .k .nilFunc⟩ := by kernel_rfl
@[go_sem] theorem ti257 : tiOf Tryz.prog 257 = some ⟨.func, 1, 8, .k .nilFunc⟩ := by kernel_rfl
@[go_sem] theorem ti258 : tiOf Tryz.prog 258 = some ⟨.ptr 5, 1, 8, .d (.nilp)⟩ := by kernel_rfl
@[go_sem] theorem ti259 : tiOf Tryz.prog 259 = some ⟨.int .u64, 1, 8, .d (.int .u64 0)⟩ := by kernel_rfl
@[go_sem] theorem ti260 : tiOf Tryz.prog 260 = some ⟨.func, 1, 8, .k .nilFunc⟩ := by kernel_rfl
@[go_sem] theorem ti261 : tiOf Tryz.prog 261 = some ⟨.func, 1, 8, .k .nilFunc⟩ := by kernel_rfl
@[go_sem] theorem ti262 : tiOf Tryz.prog 262 = some ⟨.func, 1, 8, .k .nilFunc⟩ := by kernel_rfl
@[go_sem] theorem ti263 : tiOf Tryz.prog 263 = some ⟨.ptr 3, 1, 8, .d (.nilp)⟩ := by kernel_rfl
@[go_sem] theorem ti264 : tiOf Tryz.prog 264 = some ⟨.func, 1, 8, .k .nilFunc⟩ := by kernel_rfl
@[go_sem] theorem ti265 : tiOf Tryz.prog 265 = some ⟨.func, 1, 8, .k .nilFunc⟩ := by kernel_rfl
@[go_sem] theorem ti267 : tiOf Tryz.prog 267 = some ⟨.struct [(0, 5), (1, 5)], 2, 2, .d (.agg [.int .u8 0, .int .u8 0])⟩ := by kernel_rfl
@[go_sem] theorem eq267 : eqOk Tryz.prog 267 = true := by kernel_rfl
@[go_sem] theorem ti268 : tiOf Tryz.prog 268 = some ⟨.struct [(0, 5), (1, 5)], 2, 2, .d (.agg [.int .u8 0, .int .u8 0])⟩ := by kernel_rfl
@[go_sem] theorem eq268 : eqOk Tryz.prog 268 = true := by kernel_rfl
@[go_sem] theorem ti269 : tiOf Tryz.prog 269 = some ⟨.arr 16 268, 32, 32, .d (.agg [.int .u8 0, .int .u8 0, .int .u8 0, .int .u8 0, .int .u8 0, .int .u8 0, .int .u8 0, .int .u8 0, .int .u8 0, .int .u8 0, .int .u8 0, .int .u8 0, .int .u8 0, .int .u8 0, .int .u8 0, .int .u8 0, .int .u8 0, .int .u8 0, .int .u8 0, .int .u8 0, .int .u8 0, .int .u8 0, .int .u8 0, .int .u8 0, .int .u8 0, .int .u8 0, .int .u8 0, .int .u8 0, .int .u8 0, .int .u8 0, .int .u8 0, .int .u8 0])⟩ := by kernel_rfl
@[go_sem] theorem ti270 : tiOf Tryz.prog 270 = some ⟨.func, 1, 8, .k .nilFunc⟩ := by kernel_rfl
@[go_sem] theorem ti274 : tiOf Tryz.prog 274 = some ⟨.func, 1, 8, .k .nilFunc⟩ := by kernel_rfl
@[go_sem] theorem ti275 : tiOf Tryz.prog 275 = some ⟨.func, 1, 8, .k .nilFunc⟩ := by kernel_rfl
@[go_sem] theorem ti276 : tiOf Tryz.prog 276 = some ⟨.ptr 272, 1, 8, .d (.nilp)⟩ := by kernel_rfl
@[go_sem] theorem ti277 : tiOf Tryz.prog 277 = some ⟨.func, 1, 8, .k .nilFunc⟩ := by kernel_rfl
@[go_sem] theorem ti279 : tiOf Tryz.prog 279 = some ⟨.func, 1, 8, .k .nilFunc⟩ := by kernel_rfl
@[go_sem] theorem ti280 : tiOf Tryz.prog 280 = some ⟨.func, 1, 8, .k .nilFunc⟩ := by kernel_rfl
@[go_sem] theorem ti281 : tiOf Tryz.prog 281 = some ⟨.func, 1, 8, .k .nilFunc⟩ := by kernel_rfl
@[go_sem] theorem ti282 : tiOf Tryz.prog 282 = some ⟨.arr 4 31, 4, 32, .d (.agg [.int .i64 0, .int .i64 0, .int .i64 0, .int .i64 0])⟩ := by kernel_rfl
@[go_sem] theorem ti283 : tiOf Tryz.prog 283 = some ⟨.func, 1, 8, .k .nilFunc⟩ := by kernel_rfl
@[go_sem] theorem ti284 : tiOf Tryz.prog 284 = some ⟨.uptr, 1, 8, .d (.nilp)⟩ := by kernel_rfl
@[go_sem] theorem ti285 : tiOf Tryz.prog 285 = some ⟨.func, 1, 8, .k .nilFunc⟩ := by kernel_rfl
@[go_sem] theorem ti286 : tiOf Tryz.prog 286 = some ⟨.func, 1, 8, .k .nilFunc⟩ := by kernel_rfl
@[go_sem] theorem ti287 : tiOf Tryz.prog 287 = some ⟨.ptr 259, 1, 8, .d (.nilp)⟩ := by kernel_rfl
@[go_sem] theorem ti289 : tiOf Tryz.prog 289 = some ⟨.func, 1, 8, .k .nilFunc⟩ := by kernel_rfl
@[go_sem] theorem ti290 : tiOf Tryz.prog 290 = some ⟨.func, 1, 8, .k .nilFunc⟩ := by kernel_rfl
@[go_sem] theorem ti292 : tiOf Tryz.prog 292 = some ⟨.func, 1, 8, .k .nilFunc⟩ := by kernel_rfl
@[go_sem] theorem ti293 : tiOf Tryz.prog 293 = some ⟨.func, 1, 8, .k .nilFunc⟩ := by kernel_rfl
@[go_sem] theorem ti294 : tiOf Tryz.prog 294 = some ⟨.func, 1, 8, .k .nilFunc⟩ := by kernel_rfl
@[go_sem] theorem ti295 : tiOf Tryz.prog 295 = some ⟨.func, 1, 8, .k .nilFunc⟩ := by kernel_rfl
@[go_sem] theorem ti296 : tiOf Tryz.prog 296 = some ⟨.func, 1, 8, .k .nilFunc⟩ := by kernel_rfl
@[go_sem] theorem ti297 : tiOf Tryz.prog 297 = some ⟨.func, 1, 8, .k .nilFunc⟩ := by kernel_rfl
@[go_sem] theorem ti299 : tiOf Tryz.prog 299 = some ⟨.func, 1, 8, .k .nilFunc⟩ := by kernel_rfl
@[go_sem] theorem ti300 : tiOf Tryz.prog 300 = some ⟨.int .i64, 1, 8, .d (.int .i64 0)⟩ := by kernel_rfl
@[go_sem] theorem ti302 : tiOf Tryz.prog 302 = some ⟨.func, 1, 8, .k .nilFunc⟩ := by kernel_rfl
@[go_sem] theorem ti303 : tiOf Tryz.prog 303 = some ⟨.ptr 310, 1, 8, .d (.nilp)⟩ := by kernel_rfl
@[go_sem] theorem ti304 : tiOf Tryz.prog 304 = some ⟨.func, 1, 8, .k .nilFunc⟩ := by kernel_rfl
@[go_sem] theorem ti305 : tiOf Tryz.prog 305 = some ⟨.func, 1, 8, .k .nilFunc⟩ := by kernel_rfl
@[go_sem] theorem ti306 : tiOf Tryz.prog 306 = some ⟨.func, 1, 8, .k .nilFunc⟩ := by kernel_rfl
@[go_sem] theorem ti308 : tiOf Tryz.prog 308 = some ⟨.func, 1, 8, .k .nilFunc⟩ := by kernel_rfl
@[go_sem] theorem ti309 : tiOf Tryz.prog 309 = some ⟨.struct [(0, 9), (1, 9), (2, 219)], 3, 48, .d (.agg [.str [], .str [], .nili])⟩ := by kernel_rfl
@[go_sem] theorem ti310 : tiOf Tryz.prog 310 = some ⟨.struct [(0, 9), (1, 9), (2, 219)], 3, 48, .d (.agg [.str [], .str [], .nili])⟩ := by kernel_rfl
@[go_sem] theorem ti311 : tiOf Tryz.prog 311 = some ⟨.func, 1, 8, .k .nilFunc⟩ := by kernel_rfl
@[go_sem] theorem ti312 : tiOf Tryz.prog 312 = some ⟨.func, 1, 8, .k .nilFunc⟩ := by kernel_rfl
@[go_sem] theorem ti313 : tiOf Tryz.prog 313 = some ⟨.func, 1, 8, .k .nilFunc⟩ := by kernel_rfl
@[go_sem] theorem ti314 : tiOf Tryz.prog 314 = some ⟨.ptr 316, 1, 8, .d (.nilp)⟩ := by kernel_rfl
@[go_sem] theorem ti315 : tiOf Tryz.prog 315 = some ⟨.struct [(0, 9)], 1, 16, .d (.agg [.str []])⟩ := by kernel_rfl
@[go_sem] theorem eq315 : eqOk Tryz.prog 315 = true := by kernel_rfl
@[go_sem] theorem ti316 : tiOf Tryz.prog 316 = some ⟨.struct [(0, 9)], 1, 16, .d (.agg [.str []])⟩ := by kernel_rfl
@[go_sem] theorem eq316 : eqOk Tryz.prog 316 = true := by kernel_rfl
@[go_sem] theorem ti317 : tiOf Tryz.prog 317 = some ⟨.func, 1, 8, .k .nilFunc⟩ := by kernel_rfl
@[go_sem] theorem ti318 : tiOf Tryz.prog 318 = some ⟨.arr 24 5, 24, 24, .d (.agg [.int .u8 0, .int .u8 0, .int .u8 0, .int .u8 0, .int .u8 0, .int .u8 0, .int .u8 0, .int .u8 0, .int .u8 0, .int .u8 0, .int .u8 0, .int .u8 0, .int .u8 0, .int .u8 0, .int .u8 0, .int .u8 0, .int .u8 0, .int .u8 0, .int .u8 0, .int .u8 0, .int .u8 0, .int .u8 0, .int .u8 0, .int .u8 0])⟩ := by kernel_rfl
@[go_sem] theorem ti319 : tiOf Tryz.prog 319 = some ⟨.func, 1, 8, .k .nilFunc⟩ := by kernel_rfl
@[go_sem] theorem ti321 : tiOf Tryz.prog 321 = some ⟨.func, 1, 8, .k .nilFunc⟩ := by kernel_rfl
@[go_sem] theorem ti322 : tiOf Tryz.prog 322 = some ⟨.func, 1, 8, .k .nilFunc⟩ := by kernel_rfl
@[go_sem] theorem ti323 : tiOf Tryz.prog 323 = some ⟨.arr 20 187, 20, 160, .d (.agg [.int .u64 0, .int .u64 0, .int .u64 0, .int .u64 0, .int .u64 0, .int .u64 0, .int .u64 0, .int .u64 0, .int .u64 0, .int .u64 0, .int .u64 0, .int .u64 0, .int .u64 0, .int .u64 0, .int .u64 0, .int .u64 0, .int .u64 0, .int .u64 0, .int .u64 0, .int .u64 0])⟩ := by kernel_rfl
@[go_sem] theorem ti325 : tiOf Tryz.prog 325 = some ⟨.arr 32 5, 32, 32, .d (.agg [.int .u8 0, .int .u8 0, .int .u8 0, .int .u8 0, .int .u8 0, .int .u8 0, .int .u8 0, .int .u8 0, .int .u8 0, .int .u8 0, .int .u8 0, .int .u8 0, .int .u8 0, .int .u8 0, .int .u8 0, .int .u8 0, .int .u8 0, .int .u8 0, .int .u8 0, .int .u8 0, .int .u8 0, .int .u8 0, .int .u8 0, .int .u8 0, .int .u8 0, .int .u8 0, .int .u8 0, .int .u8 0, .int .u8 0, .int .u8 0, .int .u8 0, .int .u8 0])⟩ := by kernel_rfl
@[go_sem] theorem ti327 : tiOf Tryz.prog 327 = some ⟨.struct [(0, 17), (1, 17), (2, 17), (3, 9)], 4, 40, .d (.agg [.nilp, .nilp, .nilp, .str []])⟩ := by kernel_rfl
@[go_sem] theorem ti328 : tiOf Tryz.prog 328 = some ⟨.struct [(0, 17), (1, 17), (2, 17), (3, 9)], 4, 40, .d (.agg [.nilp, .nilp, .nilp, .str []])⟩ := by kernel_rfl
@[go_sem] theorem ti329 : tiOf Tryz.prog 329 = some ⟨.arr 0 16, 0, 0, .d (.agg [])⟩ := by kernel_rfl
@[go_sem] theorem ti330 : tiOf Tryz.prog 330 = some ⟨.struct [(0, 329)], 0, 0, .d (.agg [])⟩ := by kernel_rfl
@[go_sem] theorem ti331 : tiOf Tryz.prog 331 = some ⟨.struct [(0, 329)], 0, 0, .d (.agg [])⟩ := by kernel_rfl
@[go_sem] theorem ti332 : tiOf Tryz.prog 332 = some ⟨.func, 1, 8, .k .nilFunc⟩ := by kernel_rfl
@[go_sem] theorem ti333 : tiOf Tryz.prog 333 = some ⟨.int .u8, 1, 1, .d (.int .u8 0)⟩ := by kernel_rfl
@[go_sem] theorem ti334 : tiOf Tryz.prog 334 = some ⟨.int .u8, 1, 1, .d (.int .u8 0)⟩ := by kernel_rfl
@[go_sem] theorem ti335 : tiOf Tryz.prog 335 = some ⟨.func, 1, 8, .k .nilFunc⟩ := by kernel_rfl
@[go_sem] theorem ti336 : tiOf Tryz.prog 336 = some ⟨.int .i32, 1, 4, .d (.int .i32 0)⟩ := by kernel_rfl
@[go_sem] theorem ti337 : tiOf Tryz.prog 337 = some ⟨.int .i32, 1, 4, .d (.int .i32 0)⟩ := by kernel_rfl
@[go_sem] theorem ti338 : tiOf Tryz.prog 338 = some ⟨.struct [(0, 12), (1, 12), (2, 230), (3, 333), (4, 5), (5, 5), (6, 334), (7, 335), (8, 258), (9, 336), (10, 337)], 11, 48, .agg [.d (.int .u64 0), .d (.int .u64 0), .d (.int .u32 0), .d (.int .u8 0), .d (.int .u8 0), .d (.int .u8 0), .d (.int .u8 0), .k .nilFunc, .d (.nilp), .d (.int .i32 0), .d (.int .i32 0)]⟩ := by kernel_rfl
@[go_sem] theorem ti339 : tiOf Tryz.prog 339 = some ⟨.struct [(0, 12), (1, 12), (2, 230), (3, 333), (4, 5), (5, 5), (6, 334), (7, 335), (8, 258), (9, 336), (10, 337)], 11, 48, .agg [.d (.int .u64 0), .d (.int .u64 0), .d (.int .u32 0), .d (.int .u8 0), .d (.int .u8 0), .d (.int .u8 0), .d (.int .u8 0), .k .nilFunc, .d (.nilp), .d (.int .i32 0), .d (.int .i32 0)]⟩ := by kernel_rfl
theorem hmix : Tryz.prog.follows .mixedOrders = true := by kernel_rfl
end Go.AX
