/- Made by a program of ours (tables.py): the tables of types and functions of the seat, as tries, and that they are the program's. -/
import Derived.Test.YtglkgmomnbdkoaaEv19
import Derived.Test.YtglkgmomnbdkoaaChecked
import Derived.KernelRfl
namespace Go.Proofs.Ytglkgmomnbdkoaa
namespace Ev
namespace Tab
def i1 : TI := ⟨.func, 1, 8, [.nilFunc], false, false⟩
def i2 : TI := ⟨(.int .i64), 1, 8, [.int .i64 0], false, false⟩
def i3 : TI := ⟨(.int .i64), 1, 8, [.int .i64 0], false, false⟩
def i4 : TI := ⟨.bool, 1, 1, [.bool false], false, false⟩
def i5 : TI := ⟨(.int .u8), 1, 1, [.int .u8 0], false, false⟩
def i6 : TI := ⟨(.int .u8), 1, 1, [.int .u8 0], false, false⟩
def i7 : TI := ⟨(.struct [(0, 2, 1), (1, 3, 1), (2, 4, 1), (3, 6, 1)]), 4, 24, [.int .i64 0, .int .i64 0, .bool false, .int .u8 0], true, true⟩
def i8 : TI := ⟨(.struct [(0, 2, 1), (1, 3, 1), (2, 4, 1), (3, 6, 1)]), 4, 24, [.int .i64 0, .int .i64 0, .bool false, .int .u8 0], true, true⟩
def i9 : TI := ⟨.str, 1, 16, [.string ⟨#[]⟩], false, false⟩
def i10 : TI := ⟨.str, 1, 16, [.string ⟨#[]⟩], false, false⟩
def i11 : TI := ⟨.str, 1, 16, [.string ⟨#[]⟩], false, false⟩
def i12 : TI := ⟨(.int .u64), 1, 8, [.int .u64 0], false, false⟩
def i13 : TI := ⟨(.struct [(0, 9, 1), (1, 12, 1)]), 2, 24, [.string ⟨#[]⟩, .int .u64 0], true, false⟩
def i14 : TI := ⟨(.struct [(0, 9, 1), (1, 12, 1)]), 2, 24, [.string ⟨#[]⟩, .int .u64 0], true, false⟩
def i15 : TI := ⟨(.ptr 141), 1, 8, [.pointer none], false, false⟩
def i16 : TI := ⟨(.ptr 144), 1, 8, [.pointer none], false, false⟩
def i17 : TI := ⟨(.ptr 152), 1, 8, [.pointer none], false, false⟩
def i18 : TI := ⟨(.struct [(0, 17, 1)]), 1, 8, [.pointer none], true, false⟩
def i19 : TI := ⟨(.struct [(0, 17, 1)]), 1, 8, [.pointer none], true, false⟩
def i20 : TI := ⟨.other, 1, 16, [.nilIface], false, false⟩
def i21 : TI := ⟨(.int .i32), 1, 4, [.int .i32 0], false, false⟩
def i22 : TI := ⟨(.int .u32), 1, 4, [.int .u32 0], false, false⟩
def i23 : TI := ⟨(.slice 33), 1, 24, [.slice none 0 0], false, false⟩
def i24 : TI := ⟨(.ptr 64), 1, 8, [.pointer none], false, false⟩
def i25 : TI := ⟨(.int .i64), 1, 8, [.int .i64 0], false, false⟩
def i27 : TI := ⟨.func, 1, 8, [.nilFunc], false, false⟩
def i28 : TI := ⟨(.int .u64), 1, 8, [.int .u64 0], false, false⟩
def i29 : TI := ⟨(.slice 5), 1, 24, [.slice none 0 0], false, false⟩
def i30 : TI := ⟨(.struct [(0, 3, 1), (1, 28, 1), (2, 22, 1), (3, 28, 1), (4, 22, 1)]), 5, 40, [.int .i64 0, .int .u64 0, .int .u32 0, .int .u64 0, .int .u32 0], true, true⟩
def i31 : TI := ⟨(.struct [(0, 3, 1), (1, 28, 1), (2, 22, 1), (3, 28, 1), (4, 22, 1)]), 5, 40, [.int .i64 0, .int .u64 0, .int .u32 0, .int .u64 0, .int .u32 0], true, true⟩
def i32 : TI := ⟨(.struct [(0, 3, 1), (1, 22, 1), (2, 29, 1), (3, 31, 5), (8, 3, 1)]), 9, 88, [.int .i64 0, .int .u32 0, .slice none 0 0, .int .i64 0, .int .u64 0, .int .u32 0, .int .u64 0, .int .u32 0, .int .i64 0], true, true⟩
def i33 : TI := ⟨(.struct [(0, 3, 1), (1, 22, 1), (2, 29, 1), (3, 31, 5), (8, 3, 1)]), 9, 88, [.int .i64 0, .int .u32 0, .slice none 0 0, .int .i64 0, .int .u64 0, .int .u32 0, .int .u64 0, .int .u32 0, .int .i64 0], true, true⟩
def i34 : TI := ⟨(.slice 29), 1, 24, [.slice none 0 0], false, false⟩
def i36 : TI := ⟨.func, 1, 8, [.nilFunc], false, false⟩
def i37 : TI := ⟨.func, 1, 8, [.nilFunc], false, false⟩
def i38 : TI := ⟨.func, 1, 8, [.nilFunc], false, false⟩
def i39 : TI := ⟨(.slice 42), 1, 24, [.slice none 0 0], false, false⟩
def i40 : TI := ⟨.func, 1, 8, [.nilFunc], false, false⟩
def i41 : TI := ⟨(.struct [(0, 22, 1), (1, 28, 1), (2, 4, 1), (3, 3, 1)]), 4, 32, [.int .u32 0, .int .u64 0, .bool false, .int .i64 0], true, true⟩
def i42 : TI := ⟨(.struct [(0, 22, 1), (1, 28, 1), (2, 4, 1), (3, 3, 1)]), 4, 32, [.int .u32 0, .int .u64 0, .bool false, .int .i64 0], true, true⟩
def i43 : TI := ⟨.func, 1, 8, [.nilFunc], false, false⟩
def i44 : TI := ⟨.func, 1, 8, [.nilFunc], false, false⟩
def i45 : TI := ⟨(.ptr 59), 1, 8, [.pointer none], false, false⟩
def i47 : TI := ⟨.func, 1, 8, [.nilFunc], false, false⟩
def i48 : TI := ⟨.func, 1, 8, [.nilFunc], false, false⟩
def i50 : TI := ⟨.func, 1, 8, [.nilFunc], false, false⟩
def i51 : TI := ⟨.func, 1, 8, [.nilFunc], false, false⟩
def i52 : TI := ⟨.func, 1, 8, [.nilFunc], false, false⟩
def i53 : TI := ⟨.func, 1, 8, [.nilFunc], false, false⟩
def i54 : TI := ⟨.func, 1, 8, [.nilFunc], false, false⟩
def i55 : TI := ⟨.func, 1, 8, [.nilFunc], false, false⟩
def i56 : TI := ⟨.func, 1, 8, [.nilFunc], false, false⟩
def i57 : TI := ⟨(.slice 86), 1, 24, [.slice none 0 0], false, false⟩
def i58 : TI := ⟨(.struct [(0, 28, 1), (1, 22, 1), (2, 3, 1), (3, 57, 1), (4, 3, 1)]), 5, 56, [.int .u64 0, .int .u32 0, .int .i64 0, .slice none 0 0, .int .i64 0], true, true⟩
def i59 : TI := ⟨(.struct [(0, 28, 1), (1, 22, 1), (2, 3, 1), (3, 57, 1), (4, 3, 1)]), 5, 56, [.int .u64 0, .int .u32 0, .int .i64 0, .slice none 0 0, .int .i64 0], true, true⟩
def i60 : TI := ⟨.func, 1, 8, [.nilFunc], false, false⟩
def i61 : TI := ⟨.func, 1, 8, [.nilFunc], false, false⟩
def i62 : TI := ⟨(.map 22 67), 1, 8, [.map none], false, false⟩
def i63 : TI := ⟨(.struct [(0, 28, 1), (1, 22, 1), (2, 3, 1), (3, 62, 1), (4, 3, 1)]), 5, 40, [.int .u64 0, .int .u32 0, .int .i64 0, .map none, .int .i64 0], true, true⟩
def i64 : TI := ⟨(.struct [(0, 28, 1), (1, 22, 1), (2, 3, 1), (3, 62, 1), (4, 3, 1)]), 5, 40, [.int .u64 0, .int .u32 0, .int .i64 0, .map none, .int .i64 0], true, true⟩
def i65 : TI := ⟨.func, 1, 8, [.nilFunc], false, false⟩
def i66 : TI := ⟨(.struct [(0, 4, 1), (1, 28, 1), (2, 3, 1), (3, 3, 1), (4, 34, 1)]), 5, 56, [.bool false, .int .u64 0, .int .i64 0, .int .i64 0, .slice none 0 0], true, true⟩
def i67 : TI := ⟨(.struct [(0, 4, 1), (1, 28, 1), (2, 3, 1), (3, 3, 1), (4, 34, 1)]), 5, 56, [.bool false, .int .u64 0, .int .i64 0, .int .i64 0, .slice none 0 0], true, true⟩
def i69 : TI := ⟨.func, 1, 8, [.nilFunc], false, false⟩
def i70 : TI := ⟨.func, 1, 8, [.nilFunc], false, false⟩
def i71 : TI := ⟨.func, 1, 8, [.nilFunc], false, false⟩
def i72 : TI := ⟨.func, 1, 8, [.nilFunc], false, false⟩
def i73 : TI := ⟨.func, 1, 8, [.nilFunc], false, false⟩
def i74 : TI := ⟨(.slice 22), 1, 24, [.slice none 0 0], false, false⟩
def i75 : TI := ⟨.func, 1, 8, [.nilFunc], false, false⟩
def i76 : TI := ⟨(.int .u16), 1, 2, [.int .u16 0], false, false⟩
def i77 : TI := ⟨(.struct [(0, 28, 1), (1, 28, 1), (2, 76, 1), (3, 29, 1)]), 4, 48, [.int .u64 0, .int .u64 0, .int .u16 0, .slice none 0 0], true, true⟩
def i78 : TI := ⟨(.struct [(0, 28, 1), (1, 28, 1), (2, 76, 1), (3, 29, 1)]), 4, 48, [.int .u64 0, .int .u64 0, .int .u16 0, .slice none 0 0], true, true⟩
def i80 : TI := ⟨.func, 1, 8, [.nilFunc], false, false⟩
def i82 : TI := ⟨.func, 1, 8, [.nilFunc], false, false⟩
def i83 : TI := ⟨.func, 1, 8, [.nilFunc], false, false⟩
def i84 : TI := ⟨.func, 1, 8, [.nilFunc], false, false⟩
def i85 : TI := ⟨(.struct [(0, 22, 1), (1, 4, 1), (2, 28, 1), (3, 3, 1), (4, 3, 1), (5, 34, 1)]), 6, 56, [.int .u32 0, .bool false, .int .u64 0, .int .i64 0, .int .i64 0, .slice none 0 0], true, true⟩
def i86 : TI := ⟨(.struct [(0, 22, 1), (1, 4, 1), (2, 28, 1), (3, 3, 1), (4, 3, 1), (5, 34, 1)]), 6, 56, [.int .u32 0, .bool false, .int .u64 0, .int .i64 0, .int .i64 0, .slice none 0 0], true, true⟩
def i88 : TI := ⟨.func, 1, 8, [.nilFunc], false, false⟩
def i89 : TI := ⟨.func, 1, 8, [.nilFunc], false, false⟩
def i90 : TI := ⟨.func, 1, 8, [.nilFunc], false, false⟩
def i91 : TI := ⟨.func, 1, 8, [.nilFunc], false, false⟩
def i92 : TI := ⟨.func, 1, 8, [.nilFunc], false, false⟩
def i93 : TI := ⟨.func, 1, 8, [.nilFunc], false, false⟩
def i94 : TI := ⟨.func, 1, 8, [.nilFunc], false, false⟩
def i95 : TI := ⟨.func, 1, 8, [.nilFunc], false, false⟩
def i96 : TI := ⟨.func, 1, 8, [.nilFunc], false, false⟩
def i97 : TI := ⟨.func, 1, 8, [.nilFunc], false, false⟩
def i98 : TI := ⟨.func, 1, 8, [.nilFunc], false, false⟩
def i99 : TI := ⟨.func, 1, 8, [.nilFunc], false, false⟩
def i100 : TI := ⟨.func, 1, 8, [.nilFunc], false, false⟩
def i101 : TI := ⟨(.arr 2 28), 2, 16, [.int .u64 0, .int .u64 0], true, true⟩
def i102 : TI := ⟨.func, 1, 8, [.nilFunc], false, false⟩
def i103 : TI := ⟨.func, 1, 8, [.nilFunc], false, false⟩
def i105 : TI := ⟨.func, 1, 8, [.nilFunc], false, false⟩
def i106 : TI := ⟨.func, 1, 8, [.nilFunc], false, false⟩
def i107 : TI := ⟨(.slice 28), 1, 24, [.slice none 0 0], false, false⟩
def i108 : TI := ⟨.func, 1, 8, [.nilFunc], false, false⟩
def i109 : TI := ⟨(.int .u64), 1, 8, [.int .u64 0], false, false⟩
def i110 : TI := ⟨.func, 1, 8, [.nilFunc], false, false⟩
def i111 : TI := ⟨(.slice 101), 1, 24, [.slice none 0 0], false, false⟩
def i112 : TI := ⟨.func, 1, 8, [.nilFunc], false, false⟩
def i113 : TI := ⟨.func, 1, 8, [.nilFunc], false, false⟩
def i114 : TI := ⟨.func, 1, 8, [.nilFunc], false, false⟩
def i115 : TI := ⟨.func, 1, 8, [.nilFunc], false, false⟩
def i116 : TI := ⟨.func, 1, 8, [.nilFunc], false, false⟩
def i117 : TI := ⟨.func, 1, 8, [.nilFunc], false, false⟩
def i118 : TI := ⟨.func, 1, 8, [.nilFunc], false, false⟩
def i119 : TI := ⟨.func, 1, 8, [.nilFunc], false, false⟩
def i120 : TI := ⟨.func, 1, 8, [.nilFunc], false, false⟩
def i121 : TI := ⟨(.int .i64), 1, 8, [.int .i64 0], false, false⟩
def i123 : TI := ⟨.func, 1, 8, [.nilFunc], false, false⟩
def i124 : TI := ⟨.func, 1, 8, [.nilFunc], false, false⟩
def i125 : TI := ⟨.func, 1, 8, [.nilFunc], false, false⟩
def i126 : TI := ⟨.func, 1, 8, [.nilFunc], false, false⟩
def i127 : TI := ⟨.func, 1, 8, [.nilFunc], false, false⟩
def i128 : TI := ⟨.func, 1, 8, [.nilFunc], false, false⟩
def i129 : TI := ⟨.func, 1, 8, [.nilFunc], false, false⟩
def i130 : TI := ⟨(.int .u64), 1, 8, [.int .u64 0], false, false⟩
def i131 : TI := ⟨.func, 1, 8, [.nilFunc], false, false⟩
def i132 : TI := ⟨.func, 1, 8, [.nilFunc], false, false⟩
def i133 : TI := ⟨.func, 1, 8, [.nilFunc], false, false⟩
def i134 : TI := ⟨(.ptr 3), 1, 8, [.pointer none], false, false⟩
def i135 : TI := ⟨.func, 1, 8, [.nilFunc], false, false⟩
def i136 : TI := ⟨(.ptr 130), 1, 8, [.pointer none], false, false⟩
def i138 : TI := ⟨.func, 1, 8, [.nilFunc], false, false⟩
def i139 : TI := ⟨.func, 1, 8, [.nilFunc], false, false⟩
def i140 : TI := ⟨(.struct [(0, 17, 1), (1, 17, 1), (2, 17, 1), (3, 9, 1)]), 4, 40, [.pointer none, .pointer none, .pointer none, .string ⟨#[]⟩], true, false⟩
def i141 : TI := ⟨(.struct [(0, 17, 1), (1, 17, 1), (2, 17, 1), (3, 9, 1)]), 4, 40, [.pointer none, .pointer none, .pointer none, .string ⟨#[]⟩], true, false⟩
def i142 : TI := ⟨(.arr 0 16), 0, 0, [], true, true⟩
def i143 : TI := ⟨(.struct [(0, 142, 0)]), 0, 0, [], true, false⟩
def i144 : TI := ⟨(.struct [(0, 142, 0)]), 0, 0, [], true, false⟩
def i145 : TI := ⟨(.int .u8), 1, 1, [.int .u8 0], false, false⟩
def i146 : TI := ⟨(.int .u8), 1, 1, [.int .u8 0], false, false⟩
def i147 : TI := ⟨.func, 1, 8, [.nilFunc], false, false⟩
def i148 : TI := ⟨(.ptr 5), 1, 8, [.pointer none], false, false⟩
def i149 : TI := ⟨(.int .i32), 1, 4, [.int .i32 0], false, false⟩
def i150 : TI := ⟨(.int .i32), 1, 4, [.int .i32 0], false, false⟩
def i151 : TI := ⟨(.struct [(0, 12, 1), (1, 12, 1), (2, 22, 1), (3, 145, 1), (4, 5, 1), (5, 5, 1), (6, 146, 1), (7, 147, 1), (8, 148, 1), (9, 149, 1), (10, 150, 1)]), 11, 48, [.int .u64 0, .int .u64 0, .int .u32 0, .int .u8 0, .int .u8 0, .int .u8 0, .int .u8 0, .nilFunc, .pointer none, .int .i32 0, .int .i32 0], true, false⟩
def i152 : TI := ⟨(.struct [(0, 12, 1), (1, 12, 1), (2, 22, 1), (3, 145, 1), (4, 5, 1), (5, 5, 1), (6, 146, 1), (7, 147, 1), (8, 148, 1), (9, 149, 1), (10, 150, 1)]), 11, 48, [.int .u64 0, .int .u64 0, .int .u32 0, .int .u8 0, .int .u8 0, .int .u8 0, .int .u8 0, .nilFunc, .pointer none, .int .i32 0, .int .i32 0], true, false⟩
def i153 : TI := ⟨.other, 1, 8, [.pointer none], false, false⟩
set_option maxRecDepth 100000 in
def tl : List (Option TI) := [none, some i1, some i2, some i3, some i4, some i5, some i6, some i7, some i8, some i9, some i10, some i11, some i12, some i13, some i14, some i15, some i16, some i17, some i18, some i19, some i20, some i21, some i22, some i23, some i24, some i25, none, some i27, some i28, some i29, some i30, some i31, some i32, some i33, some i34, none, some i36, some i37, some i38, some i39, some i40, some i41, some i42, some i43, some i44, some i45, none, some i47, some i48, none, some i50, some i51, some i52, some i53, some i54, some i55, some i56, some i57, some i58, some i59, some i60, some i61, some i62, some i63, some i64, some i65, some i66, some i67, none, some i69, some i70, some i71, some i72, some i73, some i74, some i75, some i76, some i77, some i78, none, some i80, none, some i82, some i83, some i84, some i85, some i86, none, some i88, some i89, some i90, some i91, some i92, some i93, some i94, some i95, some i96, some i97, some i98, some i99, some i100, some i101, some i102, some i103, none, some i105, some i106, some i107, some i108, some i109, some i110, some i111, some i112, some i113, some i114, some i115, some i116, some i117, some i118, some i119, some i120, some i121, none, some i123, some i124, some i125, some i126, some i127, some i128, some i129, some i130, some i131, some i132, some i133, some i134, some i135, some i136, none, some i138, some i139, some i140, some i141, some i142, some i143, some i144, some i145, some i146, some i147, some i148, some i149, some i150, some i151, some i152, some i153]
set_option maxRecDepth 100000 in
def tt : T TI := (.node (.node (.node (.node (.node (.node (.node (.node .leaf (some i127) .leaf) (some i63) .leaf) (some i31) (.node .leaf (some i95) .leaf)) (some i15) (.node (.node (.node .leaf (some i143) .leaf) none .leaf) (some i47) (.node .leaf (some i111) .leaf))) (some i7) (.node (.node (.node (.node .leaf (some i135) .leaf) (some i71) .leaf) (some i39) (.node .leaf (some i103) .leaf)) (some i23) (.node (.node (.node .leaf (some i151) .leaf) none .leaf) (some i55) (.node .leaf (some i119) .leaf)))) (some i3) (.node (.node (.node (.node (.node .leaf (some i131) .leaf) (some i67) .leaf) none (.node .leaf (some i99) .leaf)) (some i19) (.node (.node (.node .leaf (some i147) .leaf) (some i83) .leaf) (some i51) (.node .leaf (some i115) .leaf))) (some i11) (.node (.node (.node (.node .leaf (some i139) .leaf) (some i75) .leaf) (some i43) (.node .leaf (some i107) .leaf)) (some i27) (.node (.node .leaf (some i91) .leaf) (some i59) (.node .leaf (some i123) .leaf))))) (some i1) (.node (.node (.node (.node (.node (.node .leaf (some i129) .leaf) (some i65) .leaf) (some i33) (.node .leaf (some i97) .leaf)) (some i17) (.node (.node (.node .leaf (some i145) .leaf) none .leaf) none (.node .leaf (some i113) .leaf))) (some i9) (.node (.node (.node .leaf (some i73) .leaf) (some i41) (.node .leaf (some i105) .leaf)) (some i25) (.node (.node (.node .leaf (some i153) .leaf) (some i89) .leaf) (some i57) (.node .leaf (some i121) .leaf)))) (some i5) (.node (.node (.node (.node (.node .leaf (some i133) .leaf) (some i69) .leaf) (some i37) (.node .leaf (some i101) .leaf)) (some i21) (.node (.node (.node .leaf (some i149) .leaf) (some i85) .leaf) (some i53) (.node .leaf (some i117) .leaf))) (some i13) (.node (.node (.node (.node .leaf (some i141) .leaf) (some i77) .leaf) (some i45) (.node .leaf (some i109) .leaf)) (some i29) (.node (.node .leaf (some i93) .leaf) (some i61) (.node .leaf (some i125) .leaf)))))) none (.node (.node (.node (.node (.node (.node (.node .leaf (some i128) .leaf) (some i64) .leaf) (some i32) (.node .leaf (some i96) .leaf)) (some i16) (.node (.node (.node .leaf (some i144) .leaf) (some i80) .leaf) (some i48) (.node .leaf (some i112) .leaf))) (some i8) (.node (.node (.node (.node .leaf (some i136) .leaf) (some i72) .leaf) (some i40) .leaf) (some i24) (.node (.node (.node .leaf (some i152) .leaf) (some i88) .leaf) (some i56) (.node .leaf (some i120) .leaf)))) (some i4) (.node (.node (.node (.node (.node .leaf (some i132) .leaf) none .leaf) (some i36) (.node .leaf (some i100) .leaf)) (some i20) (.node (.node (.node .leaf (some i148) .leaf) (some i84) .leaf) (some i52) (.node .leaf (some i116) .leaf))) (some i12) (.node (.node (.node (.node .leaf (some i140) .leaf) (some i76) .leaf) (some i44) (.node .leaf (some i108) .leaf)) (some i28) (.node (.node .leaf (some i92) .leaf) (some i60) (.node .leaf (some i124) .leaf))))) (some i2) (.node (.node (.node (.node (.node (.node .leaf (some i130) .leaf) (some i66) .leaf) (some i34) (.node .leaf (some i98) .leaf)) (some i18) (.node (.node (.node .leaf (some i146) .leaf) (some i82) .leaf) (some i50) (.node .leaf (some i114) .leaf))) (some i10) (.node (.node (.node (.node .leaf (some i138) .leaf) (some i74) .leaf) (some i42) (.node .leaf (some i106) .leaf)) none (.node (.node .leaf (some i90) .leaf) (some i58) .leaf))) (some i6) (.node (.node (.node (.node (.node .leaf (some i134) .leaf) (some i70) .leaf) (some i38) (.node .leaf (some i102) .leaf)) (some i22) (.node (.node (.node .leaf (some i150) .leaf) (some i86) .leaf) (some i54) (.node .leaf (some i118) .leaf))) (some i14) (.node (.node (.node (.node .leaf (some i142) .leaf) (some i78) .leaf) none (.node .leaf (some i110) .leaf)) (some i30) (.node (.node .leaf (some i94) .leaf) (some i62) (.node .leaf (some i126) .leaf)))))))
set_option maxRecDepth 100000 in
noncomputable def ct : T Func := (.node (.node (.node (.node (.node (.node .leaf (some Try.f31) .leaf) (some Try.f15) (.node (.node .leaf (some Try.f79) .leaf) (some Try.f47) .leaf)) (some Try.f7) (.node (.node (.node .leaf (some Try.f71) .leaf) (some Try.f39) .leaf) (some Try.f23) (.node (.node .leaf (some Try.f87) .leaf) (some Try.f55) .leaf))) (some Try.f3) (.node (.node (.node (.node .leaf (some Try.f67) .leaf) (some Try.f35) .leaf) (some Try.f19) (.node (.node .leaf (some Try.f83) .leaf) (some Try.f51) .leaf)) (some Try.f11) (.node (.node (.node .leaf (some Try.f75) .leaf) none .leaf) (some Try.f27) (.node .leaf (some Try.f59) .leaf)))) none (.node (.node (.node (.node (.node .leaf (some Try.f65) .leaf) (some Try.f33) .leaf) (some Try.f17) (.node (.node .leaf (some Try.f81) .leaf) (some Try.f49) .leaf)) (some Try.f9) (.node (.node (.node .leaf (some Try.f73) .leaf) (some Try.f41) .leaf) (some Try.f25) (.node (.node .leaf (some Try.f89) .leaf) (some Try.f57) .leaf))) (some Try.f5) (.node (.node (.node (.node .leaf (some Try.f69) .leaf) (some Try.f37) .leaf) (some Try.f21) (.node (.node .leaf (some Try.f85) .leaf) (some Try.f53) .leaf)) (some Try.f13) (.node (.node (.node .leaf (some Try.f77) .leaf) (some Try.f45) .leaf) (some Try.f29) (.node .leaf (some Try.f61) .leaf))))) none (.node (.node (.node (.node (.node (.node .leaf (some Try.f64) .leaf) (some Try.f32) .leaf) (some Try.f16) (.node (.node .leaf (some Try.f80) .leaf) (some Try.f48) .leaf)) (some Try.f8) (.node (.node (.node .leaf (some Try.f72) .leaf) none .leaf) (some Try.f24) (.node (.node .leaf (some Try.f88) .leaf) (some Try.f56) .leaf))) (some Try.f4) (.node (.node (.node (.node .leaf (some Try.f68) .leaf) (some Try.f36) .leaf) (some Try.f20) (.node (.node .leaf (some Try.f84) .leaf) (some Try.f52) .leaf)) (some Try.f12) (.node (.node (.node .leaf (some Try.f76) .leaf) (some Try.f44) .leaf) (some Try.f28) (.node .leaf (some Try.f60) .leaf)))) (some Try.f2) (.node (.node (.node (.node (.node .leaf (some Try.f66) .leaf) (some Try.f34) .leaf) (some Try.f18) (.node (.node .leaf (some Try.f82) .leaf) (some Try.f50) .leaf)) (some Try.f10) (.node (.node (.node .leaf (some Try.f74) .leaf) (some Try.f42) .leaf) (some Try.f26) (.node .leaf (some Try.f58) .leaf))) (some Try.f6) (.node (.node (.node (.node .leaf (some Try.f70) .leaf) (some Try.f38) .leaf) (some Try.f22) (.node (.node .leaf (some Try.f86) .leaf) (some Try.f54) .leaf)) (some Try.f14) (.node (.node (.node .leaf (some Try.f78) .leaf) (some Try.f46) .leaf) (some Try.f30) (.node .leaf (some Try.f62) .leaf))))))
def ks : List Bool := [false, false, true, true, true, true, true, true, true, true, true, true, true, true, true, true, true, true, true, true, true, true, true, true, true, true, true, true, true, true, true, true, true, true, true, true, true, true, true, true, false, true, true, false, true, true, true, true, true, true, true, true, true, true, true, true, true, true, true, true, true, true, true, false, true, true, true, true, true, true, true, true, true, true, true, true, true, true, true, true, true, true, true, true, true, true, true, true, true, true, false, false, false, false, false, false, false, false, false, false, false, false, false, false, false, false]
set_option maxRecDepth 100000 in
theorem tt_eq : tt = T.ofListO 0 tl .leaf := by kernel_rfl
set_option maxRecDepth 100000 in
theorem tl_eq : ((List.range 154).map fun t => plainOnly (tinfo Try.prog t)) = tl := by kernel_rfl
set_option maxRecDepth 100000 in
theorem ct_eq : ct = T.ofListO 0 (pick ks Try.prog.funcs.toList) .leaf := by kernel_rfl
set_option maxRecDepth 100000 in
theorem ct_ok : fineFns (pick ks Try.prog.funcs.toList) = true := by kernel_rfl
theorem mixed : Try.prog.follows .mixedOrders = true := by kernel_rfl
theorem tabs : Tabs Try.prog tt ct := tabs_of 154 tt_eq tl_eq ct_eq ct_ok mixed
noncomputable def ctx (ext : Nat → Nat → Option Value) (spec : FuncId → Option (List Value → Heap → Option (Value × Heap))) : Ctx := ⟨tt, ct, ext, spec⟩
end Tab
end Ev
end Go.Proofs.Ytglkgmomnbdkoaa
