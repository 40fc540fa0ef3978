/- The types' table of this seat's program, and what its functions give back. Written by mkseat.py. -/
import Derived.Test.YtgdmjekkdcjipaaGreatAiRows
import Derived.Test.YtgdmjekkdcjipaaGreatProg
import Derived.KernelRfl
set_option linter.unusedVariables false
set_option linter.unusedSimpArgs false
namespace Go.Ai
open Go.Proofs
set_option maxRecDepth 100000
def Tb : Tab := yp1 [
 (2, ⟨.int .i64, 1, 8, [.c (.v (.int .i64 0))]⟩),
 (3, ⟨.int .i64, 1, 8, [.c (.v (.int .i64 0))]⟩),
 (4, ⟨.bool, 1, 1, [.c (.v (.bool false))]⟩),
 (5, ⟨.int .u8, 1, 1, [.c (.v (.int .u8 0))]⟩),
 (9, ⟨.str, 1, 16, [.c (.v (.string ⟨⟨[]⟩⟩))]⟩),
 (12, ⟨.int .u64, 1, 8, [.c (.v (.int .u64 0))]⟩),
 (13, ⟨.struct [(0, 1), (1, 1)] none, 2, 24, [.c (.v (.string ⟨⟨[]⟩⟩)), AC.c (C.v (Value.int IntKind.u64 0))]⟩),
 (20, ⟨.iface, 1, 16, [.c (.v .nilIface)]⟩),
 (21, ⟨.int .i32, 1, 4, [.c (.v (.int .i32 0))]⟩),
 (22, ⟨.slice 5, 1, 24, [.nil]⟩),
 (24, ⟨.slice 9, 1, 24, [.nil]⟩),
 (25, ⟨.slice 122, 1, 24, [.nil]⟩),
 (26, ⟨.struct [(0, 1), (1, 1)] none, 2, 48, [.nil, .nil]⟩),
 (27, ⟨.struct [(0, 1), (1, 1)] none, 2, 48, [.nil, .nil]⟩),
 (28, ⟨.slice 46, 1, 24, [.nil]⟩),
 (29, ⟨.slice 116, 1, 24, [.nil]⟩),
 (30, ⟨.struct [(0, 2), (2, 1), (3, 1)] none, 4, 96, [.nil, .nil, .nil, .nil]⟩),
 (31, ⟨.struct [(0, 2), (2, 1), (3, 1)] none, 4, 96, [.nil, .nil, .nil, .nil]⟩),
 (33, ⟨.slice 41, 1, 24, [.nil]⟩),
 (36, ⟨.slice 3, 1, 24, [.nil]⟩),
 (37, ⟨.slice 39, 1, 24, [.nil]⟩),
 (38, ⟨.struct [(0, 1), (1, 1), (2, 1), (3, 1)] none, 4, 56, [.c (.v (.int .i64 0)), .c (.v (.int .i64 0)), .c (.v (.string ⟨⟨[]⟩⟩)), AC.nil]⟩),
 (39, ⟨.struct [(0, 1), (1, 1), (2, 1), (3, 1)] none, 4, 56, [.c (.v (.int .i64 0)), .c (.v (.int .i64 0)), .c (.v (.string ⟨⟨[]⟩⟩)), AC.nil]⟩),
 (40, ⟨.struct [(0, 1), (1, 1), (2, 1), (3, 4)] none, 7, 96, [.c (.v (.int .i64 0)), .c (.v (.int .i64 0)), .nil, .c (.v (.int .i64 0)), .c (.v (.int .i64 0)), .c (.v (.string ⟨⟨[]⟩⟩)), AC.nil]⟩),
 (41, ⟨.struct [(0, 1), (1, 1), (2, 1), (3, 4)] none, 7, 96, [.c (.v (.int .i64 0)), .c (.v (.int .i64 0)), .nil, .c (.v (.int .i64 0)), .c (.v (.int .i64 0)), .c (.v (.string ⟨⟨[]⟩⟩)), AC.nil]⟩),
 (44, ⟨.slice 143, 1, 24, [.nil]⟩),
 (45, ⟨.struct [(0, 1), (1, 4), (5, 4), (9, 1)] none, 10, 152, [.c (.v (.string ⟨⟨[]⟩⟩)), AC.c (C.v (Value.int IntKind.i64 0)), AC.c (C.v (Value.int IntKind.i64 0)), AC.c (C.v (Value.string ⟨⟨[]⟩⟩)), AC.nil, AC.c (C.v (Value.int IntKind.i64 0)), AC.c (C.v (Value.int IntKind.i64 0)), AC.c (C.v (Value.string ⟨⟨[]⟩⟩)), AC.nil, AC.nil]⟩),
 (46, ⟨.struct [(0, 1), (1, 4), (5, 4), (9, 1)] none, 10, 152, [.c (.v (.string ⟨⟨[]⟩⟩)), AC.c (C.v (Value.int IntKind.i64 0)), AC.c (C.v (Value.int IntKind.i64 0)), AC.c (C.v (Value.string ⟨⟨[]⟩⟩)), AC.nil, AC.c (C.v (Value.int IntKind.i64 0)), AC.c (C.v (Value.int IntKind.i64 0)), AC.c (C.v (Value.string ⟨⟨[]⟩⟩)), AC.nil, AC.nil]⟩),
 (56, ⟨.slice 201, 1, 24, [.nil]⟩),
 (57, ⟨.struct [(0, 1), (1, 1)] none, 2, 48, [.nil, .nil]⟩),
 (58, ⟨.struct [(0, 1), (1, 1)] none, 2, 48, [.nil, .nil]⟩),
 (59, ⟨.slice 160, 1, 24, [.nil]⟩),
 (60, ⟨.slice 162, 1, 24, [.nil]⟩),
 (61, ⟨.struct [(0, 2), (2, 1), (3, 1)] none, 4, 96, [.nil, .nil, .nil, .nil]⟩),
 (62, ⟨.struct [(0, 2), (2, 1), (3, 1)] none, 4, 96, [.nil, .nil, .nil, .nil]⟩),
 (71, ⟨.ptr, 1, 8, [.c (.v (.pointer none))]⟩),
 (74, ⟨.slice 36, 1, 24, [.nil]⟩),
 (77, ⟨.slice 134, 1, 24, [.nil]⟩),
 (115, ⟨.struct [(0, 1), (1, 1)] (some [(0, CK.str), (1, CK.int .i64)]), 2, 24, [.c (.v (.string ⟨⟨[]⟩⟩)), AC.c (C.v (Value.int IntKind.i64 0))]⟩),
 (116, ⟨.struct [(0, 1), (1, 1)] (some [(0, CK.str), (1, CK.int .i64)]), 2, 24, [.c (.v (.string ⟨⟨[]⟩⟩)), AC.c (C.v (Value.int IntKind.i64 0))]⟩),
 (117, ⟨.struct [(0, 1), (1, 1), (2, 1)] none, 3, 40, [.nil, .c (.v (.int .i64 0)), .c (.v (.int .i64 0))]⟩),
 (118, ⟨.struct [(0, 1), (1, 1), (2, 1)] none, 3, 40, [.nil, .c (.v (.int .i64 0)), .c (.v (.int .i64 0))]⟩),
 (121, ⟨.struct [(0, 1), (1, 1), (2, 1)] none, 3, 56, [.c (.v (.string ⟨⟨[]⟩⟩)), AC.nil, AC.c (C.v (Value.string ⟨⟨[]⟩⟩))]⟩),
 (122, ⟨.struct [(0, 1), (1, 1), (2, 1)] none, 3, 56, [.c (.v (.string ⟨⟨[]⟩⟩)), AC.nil, AC.c (C.v (Value.string ⟨⟨[]⟩⟩))]⟩),
 (128, ⟨.struct [(0, 4), (4, 4)] none, 8, 112, [.c (.v (.int .i64 0)), .c (.v (.int .i64 0)), .c (.v (.string ⟨⟨[]⟩⟩)), AC.nil, AC.c (C.v (Value.int IntKind.i64 0)), AC.c (C.v (Value.int IntKind.i64 0)), AC.c (C.v (Value.string ⟨⟨[]⟩⟩)), AC.nil]⟩),
 (129, ⟨.struct [(0, 4), (4, 4)] none, 8, 112, [.c (.v (.int .i64 0)), .c (.v (.int .i64 0)), .c (.v (.string ⟨⟨[]⟩⟩)), AC.nil, AC.c (C.v (Value.int IntKind.i64 0)), AC.c (C.v (Value.int IntKind.i64 0)), AC.c (C.v (Value.string ⟨⟨[]⟩⟩)), AC.nil]⟩),
 (130, ⟨.slice 129, 1, 24, [.nil]⟩),
 (133, ⟨.struct [(0, 1), (1, 4)] none, 5, 72, [.c (.v (.string ⟨⟨[]⟩⟩)), AC.c (C.v (Value.int IntKind.i64 0)), AC.c (C.v (Value.int IntKind.i64 0)), AC.c (C.v (Value.string ⟨⟨[]⟩⟩)), AC.nil]⟩),
 (134, ⟨.struct [(0, 1), (1, 4)] none, 5, 72, [.c (.v (.string ⟨⟨[]⟩⟩)), AC.c (C.v (Value.int IntKind.i64 0)), AC.c (C.v (Value.int IntKind.i64 0)), AC.c (C.v (Value.string ⟨⟨[]⟩⟩)), AC.nil]⟩),
 (140, ⟨.slice 216, 1, 24, [.nil]⟩),
 (143, ⟨.struct [(0, 1), (1, 4), (5, 4)] none, 9, 120, [.c (.v (.int .i64 0)), .c (.v (.int .i64 0)), .c (.v (.int .i64 0)), .c (.v (.string ⟨⟨[]⟩⟩)), AC.nil, AC.c (C.v (Value.int IntKind.i64 0)), AC.c (C.v (Value.int IntKind.i64 0)), AC.c (C.v (Value.string ⟨⟨[]⟩⟩)), AC.nil]⟩),
 (155, ⟨.slice 157, 1, 24, [.nil]⟩),
 (156, ⟨.struct [(0, 1), (1, 1), (2, 1), (3, 1)] none, 4, 56, [.c (.v (.int .i64 0)), .c (.v (.int .i64 0)), .c (.v (.string ⟨⟨[]⟩⟩)), AC.nil]⟩),
 (157, ⟨.struct [(0, 1), (1, 1), (2, 1), (3, 1)] none, 4, 56, [.c (.v (.int .i64 0)), .c (.v (.int .i64 0)), .c (.v (.string ⟨⟨[]⟩⟩)), AC.nil]⟩),
 (158, ⟨.slice 229, 1, 24, [.nil]⟩),
 (159, ⟨.struct [(0, 1), (1, 4), (5, 4), (9, 1)] none, 10, 152, [.c (.v (.string ⟨⟨[]⟩⟩)), AC.c (C.v (Value.int IntKind.i64 0)), AC.c (C.v (Value.int IntKind.i64 0)), AC.c (C.v (Value.string ⟨⟨[]⟩⟩)), AC.nil, AC.c (C.v (Value.int IntKind.i64 0)), AC.c (C.v (Value.int IntKind.i64 0)), AC.c (C.v (Value.string ⟨⟨[]⟩⟩)), AC.nil, AC.nil]⟩),
 (160, ⟨.struct [(0, 1), (1, 4), (5, 4), (9, 1)] none, 10, 152, [.c (.v (.string ⟨⟨[]⟩⟩)), AC.c (C.v (Value.int IntKind.i64 0)), AC.c (C.v (Value.int IntKind.i64 0)), AC.c (C.v (Value.string ⟨⟨[]⟩⟩)), AC.nil, AC.c (C.v (Value.int IntKind.i64 0)), AC.c (C.v (Value.int IntKind.i64 0)), AC.c (C.v (Value.string ⟨⟨[]⟩⟩)), AC.nil, AC.nil]⟩),
 (162, ⟨.struct [(0, 1), (1, 1)] (some [(0, CK.str), (1, CK.int .i64)]), 2, 24, [.c (.v (.string ⟨⟨[]⟩⟩)), AC.c (C.v (Value.int IntKind.i64 0))]⟩),
 (187, ⟨.ptr, 1, 8, [.c (.v (.pointer none))]⟩),
 (188, ⟨.struct [(0, 1), (1, 1), (2, 1)] none, 3, 72, [.nil, .nil, .nil]⟩),
 (189, ⟨.struct [(0, 1), (1, 1), (2, 1)] none, 3, 72, [.nil, .nil, .nil]⟩),
 (201, ⟨.struct [(0, 1), (1, 1), (2, 1)] none, 3, 56, [.c (.v (.string ⟨⟨[]⟩⟩)), AC.nil, AC.c (C.v (Value.string ⟨⟨[]⟩⟩))]⟩),
 (212, ⟨.int .u64, 1, 8, [.c (.v (.int .u64 0))]⟩),
 (215, ⟨.struct [(0, 1), (1, 1)] (some [(0, CK.str), (1, CK.str)]), 2, 32, [.c (.v (.string ⟨⟨[]⟩⟩)), AC.c (C.v (Value.string ⟨⟨[]⟩⟩))]⟩),
 (216, ⟨.struct [(0, 1), (1, 1)] (some [(0, CK.str), (1, CK.str)]), 2, 32, [.c (.v (.string ⟨⟨[]⟩⟩)), AC.c (C.v (Value.string ⟨⟨[]⟩⟩))]⟩),
 (228, ⟨.struct [(0, 1), (1, 4), (5, 4)] none, 9, 120, [.c (.v (.int .i64 0)), .c (.v (.int .i64 0)), .c (.v (.int .i64 0)), .c (.v (.string ⟨⟨[]⟩⟩)), AC.nil, AC.c (C.v (Value.int IntKind.i64 0)), AC.c (C.v (Value.int IntKind.i64 0)), AC.c (C.v (Value.string ⟨⟨[]⟩⟩)), AC.nil]⟩),
 (229, ⟨.struct [(0, 1), (1, 4), (5, 4)] none, 9, 120, [.c (.v (.int .i64 0)), .c (.v (.int .i64 0)), .c (.v (.int .i64 0)), .c (.v (.string ⟨⟨[]⟩⟩)), AC.nil, AC.c (C.v (Value.int IntKind.i64 0)), AC.c (C.v (Value.int IntKind.i64 0)), AC.c (C.v (Value.string ⟨⟨[]⟩⟩)), AC.nil]⟩),
 (234, ⟨.int .i64, 1, 8, [.c (.v (.int .i64 0))]⟩),
 (243, ⟨.int .u32, 1, 4, [.c (.v (.int .u32 0))]⟩),
 (245, ⟨.int .u64, 1, 8, [.c (.v (.int .u64 0))]⟩),
 (246, ⟨.int .u64, 1, 8, [.c (.v (.int .u64 0))]⟩),
 (250, ⟨.ptr, 1, 8, [.c (.v (.pointer none))]⟩),
 (265, ⟨.ptr, 1, 8, [.c (.v (.pointer none))]⟩)]
theorem zE0 : zU0 Tryz.prog Tb := rO0 _ _ ⟨by kernel_rfl, by kernel_rfl, by kernel_rfl, by kernel_rfl, by kernel_rfl, by kernel_rfl, by kernel_rfl, by kernel_rfl, by kernel_rfl, by kernel_rfl, by kernel_rfl, by kernel_rfl, by kernel_rfl, by kernel_rfl, by kernel_rfl, by kernel_rfl, by kernel_rfl, by kernel_rfl, by kernel_rfl, by kernel_rfl, by kernel_rfl, by kernel_rfl, by kernel_rfl, by kernel_rfl, by kernel_rfl, by kernel_rfl, by kernel_rfl, by kernel_rfl, by kernel_rfl, by kernel_rfl, by kernel_rfl, by kernel_rfl, by kernel_rfl, by kernel_rfl, by kernel_rfl, by kernel_rfl, by kernel_rfl, by kernel_rfl, by kernel_rfl, by kernel_rfl, by kernel_rfl, by kernel_rfl, by kernel_rfl, by kernel_rfl, by kernel_rfl, by kernel_rfl, by kernel_rfl, by kernel_rfl, by kernel_rfl, by kernel_rfl, by kernel_rfl, by kernel_rfl, by kernel_rfl, by kernel_rfl, by kernel_rfl, by kernel_rfl, by kernel_rfl, by kernel_rfl, by kernel_rfl, by kernel_rfl, by kernel_rfl, by kernel_rfl, by kernel_rfl, by kernel_rfl, by kernel_rfl, by kernel_rfl, by kernel_rfl, by kernel_rfl, by kernel_rfl, by kernel_rfl, by kernel_rfl, by kernel_rfl, by kernel_rfl, trivial⟩
theorem zB0 : Tryz.prog.follows .mixedOrders = true := by kernel_rfl
theorem tb3 : Tb 3 = some ⟨.int .i64, 1, 8, [.c (.v (.int .i64 0))]⟩ := rfl
theorem tb4 : Tb 4 = some ⟨.bool, 1, 1, [.c (.v (.bool false))]⟩ := rfl
theorem tb9 : Tb 9 = some ⟨.str, 1, 16, [.c (.v (.string ⟨⟨[]⟩⟩))]⟩ := rfl
theorem mP1 : Tb 24 = some ⟨.slice 9, 1, 24, [.nil]⟩ := rfl
theorem mQ1 : Tb 25 = some ⟨.slice 122, 1, 24, [.nil]⟩ := rfl
theorem mR1 : Tb 27 = some ⟨.struct [(0, 1), (1, 1)] none, 2, 48, [.nil, .nil]⟩ := rfl
theorem mS1 : Tb 28 = some ⟨.slice 46, 1, 24, [.nil]⟩ := rfl
theorem mT1 : Tb 29 = some ⟨.slice 116, 1, 24, [.nil]⟩ := rfl
theorem mU1 : Tb 31 = some ⟨.struct [(0, 2), (2, 1), (3, 1)] none, 4, 96, [.nil, .nil, .nil, .nil]⟩ := rfl
theorem mV1 : Tb 33 = some ⟨.slice 41, 1, 24, [.nil]⟩ := rfl
theorem mW1 : Tb 36 = some ⟨.slice 3, 1, 24, [.nil]⟩ := rfl
theorem mX1 : Tb 37 = some ⟨.slice 39, 1, 24, [.nil]⟩ := rfl
theorem mY1 : Tb 39 = some ⟨.struct [(0, 1), (1, 1), (2, 1), (3, 1)] none, 4, 56, [.c (.v (.int .i64 0)), .c (.v (.int .i64 0)), .c (.v (.string ⟨⟨[]⟩⟩)), AC.nil]⟩ := rfl
theorem mZ1 : Tb 41 = some ⟨.struct [(0, 1), (1, 1), (2, 1), (3, 4)] none, 7, 96, [.c (.v (.int .i64 0)), .c (.v (.int .i64 0)), .nil, .c (.v (.int .i64 0)), .c (.v (.int .i64 0)), .c (.v (.string ⟨⟨[]⟩⟩)), AC.nil]⟩ := rfl
theorem ma1 : Tb 44 = some ⟨.slice 143, 1, 24, [.nil]⟩ := rfl
theorem mb1 : Tb 46 = some ⟨.struct [(0, 1), (1, 4), (5, 4), (9, 1)] none, 10, 152, [.c (.v (.string ⟨⟨[]⟩⟩)), AC.c (C.v (Value.int IntKind.i64 0)), AC.c (C.v (Value.int IntKind.i64 0)), AC.c (C.v (Value.string ⟨⟨[]⟩⟩)), AC.nil, AC.c (C.v (Value.int IntKind.i64 0)), AC.c (C.v (Value.int IntKind.i64 0)), AC.c (C.v (Value.string ⟨⟨[]⟩⟩)), AC.nil, AC.nil]⟩ := rfl
theorem mc1 : Tb 56 = some ⟨.slice 201, 1, 24, [.nil]⟩ := rfl
theorem md1 : Tb 58 = some ⟨.struct [(0, 1), (1, 1)] none, 2, 48, [.nil, .nil]⟩ := rfl
theorem me1 : Tb 59 = some ⟨.slice 160, 1, 24, [.nil]⟩ := rfl
theorem mf1 : Tb 60 = some ⟨.slice 162, 1, 24, [.nil]⟩ := rfl
theorem mg1 : Tb 62 = some ⟨.struct [(0, 2), (2, 1), (3, 1)] none, 4, 96, [.nil, .nil, .nil, .nil]⟩ := rfl
theorem mh1 : Tb 74 = some ⟨.slice 36, 1, 24, [.nil]⟩ := rfl
theorem mi1 : Tb 77 = some ⟨.slice 134, 1, 24, [.nil]⟩ := rfl
theorem cx1 : Tb 116 = some ⟨.struct [(0, 1), (1, 1)] (some [(0, CK.str), (1, CK.int .i64)]), 2, 24, [.c (.v (.string ⟨⟨[]⟩⟩)), AC.c (C.v (Value.int IntKind.i64 0))]⟩ := rfl
theorem cy1 : Tb 122 = some ⟨.struct [(0, 1), (1, 1), (2, 1)] none, 3, 56, [.c (.v (.string ⟨⟨[]⟩⟩)), AC.nil, AC.c (C.v (Value.string ⟨⟨[]⟩⟩))]⟩ := rfl
theorem cz1 : Tb 129 = some ⟨.struct [(0, 4), (4, 4)] none, 8, 112, [.c (.v (.int .i64 0)), .c (.v (.int .i64 0)), .c (.v (.string ⟨⟨[]⟩⟩)), AC.nil, AC.c (C.v (Value.int IntKind.i64 0)), AC.c (C.v (Value.int IntKind.i64 0)), AC.c (C.v (Value.string ⟨⟨[]⟩⟩)), AC.nil]⟩ := rfl
theorem dA1 : Tb 130 = some ⟨.slice 129, 1, 24, [.nil]⟩ := rfl
theorem dB1 : Tb 134 = some ⟨.struct [(0, 1), (1, 4)] none, 5, 72, [.c (.v (.string ⟨⟨[]⟩⟩)), AC.c (C.v (Value.int IntKind.i64 0)), AC.c (C.v (Value.int IntKind.i64 0)), AC.c (C.v (Value.string ⟨⟨[]⟩⟩)), AC.nil]⟩ := rfl
theorem dC1 : Tb 140 = some ⟨.slice 216, 1, 24, [.nil]⟩ := rfl
theorem dD1 : Tb 143 = some ⟨.struct [(0, 1), (1, 4), (5, 4)] none, 9, 120, [.c (.v (.int .i64 0)), .c (.v (.int .i64 0)), .c (.v (.int .i64 0)), .c (.v (.string ⟨⟨[]⟩⟩)), AC.nil, AC.c (C.v (Value.int IntKind.i64 0)), AC.c (C.v (Value.int IntKind.i64 0)), AC.c (C.v (Value.string ⟨⟨[]⟩⟩)), AC.nil]⟩ := rfl
theorem dE1 : Tb 155 = some ⟨.slice 157, 1, 24, [.nil]⟩ := rfl
theorem dF1 : Tb 157 = some ⟨.struct [(0, 1), (1, 1), (2, 1), (3, 1)] none, 4, 56, [.c (.v (.int .i64 0)), .c (.v (.int .i64 0)), .c (.v (.string ⟨⟨[]⟩⟩)), AC.nil]⟩ := rfl
theorem dG1 : Tb 158 = some ⟨.slice 229, 1, 24, [.nil]⟩ := rfl
theorem dH1 : Tb 160 = some ⟨.struct [(0, 1), (1, 4), (5, 4), (9, 1)] none, 10, 152, [.c (.v (.string ⟨⟨[]⟩⟩)), AC.c (C.v (Value.int IntKind.i64 0)), AC.c (C.v (Value.int IntKind.i64 0)), AC.c (C.v (Value.string ⟨⟨[]⟩⟩)), AC.nil, AC.c (C.v (Value.int IntKind.i64 0)), AC.c (C.v (Value.int IntKind.i64 0)), AC.c (C.v (Value.string ⟨⟨[]⟩⟩)), AC.nil, AC.nil]⟩ := rfl
theorem dI1 : Tb 162 = some ⟨.struct [(0, 1), (1, 1)] (some [(0, CK.str), (1, CK.int .i64)]), 2, 24, [.c (.v (.string ⟨⟨[]⟩⟩)), AC.c (C.v (Value.int IntKind.i64 0))]⟩ := rfl
theorem dJ1 : Tb 189 = some ⟨.struct [(0, 1), (1, 1), (2, 1)] none, 3, 72, [.nil, .nil, .nil]⟩ := rfl
theorem dK1 : Tb 201 = some ⟨.struct [(0, 1), (1, 1), (2, 1)] none, 3, 56, [.c (.v (.string ⟨⟨[]⟩⟩)), AC.nil, AC.c (C.v (Value.string ⟨⟨[]⟩⟩))]⟩ := rfl
theorem dL1 : Tb 216 = some ⟨.struct [(0, 1), (1, 1)] (some [(0, CK.str), (1, CK.str)]), 2, 32, [.c (.v (.string ⟨⟨[]⟩⟩)), AC.c (C.v (Value.string ⟨⟨[]⟩⟩))]⟩ := rfl
theorem dM1 : Tb 229 = some ⟨.struct [(0, 1), (1, 4), (5, 4)] none, 9, 120, [.c (.v (.int .i64 0)), .c (.v (.int .i64 0)), .c (.v (.int .i64 0)), .c (.v (.string ⟨⟨[]⟩⟩)), AC.nil, AC.c (C.v (Value.int IntKind.i64 0)), AC.c (C.v (Value.int IntKind.i64 0)), AC.c (C.v (Value.string ⟨⟨[]⟩⟩)), AC.nil]⟩ := rfl
theorem nt5 : Tryz.f5.ntmps = 27 := rfl
theorem rs5 : Tryz.f5.results.toList = [.tmp 2] := rfl
theorem nt9 : Tryz.f9.ntmps = 96 := rfl
theorem rs9 : Tryz.f9.results.toList = [.tmp 2] := rfl
theorem gA1 : Tryz.f10.ntmps = 31 := rfl
theorem lL1 : Tryz.f10.results.toList = [.tmp 2] := rfl
theorem gB1 : Tryz.f11.ntmps = 26 := rfl
theorem lM1 : Tryz.f11.results.toList = [.tmp 2] := rfl
theorem gC1 : Tryz.f12.ntmps = 27 := rfl
theorem lN1 : Tryz.f12.results.toList = [.tmp 2] := rfl
theorem gD1 : Tryz.f14.ntmps = 53 := rfl
theorem lO1 : Tryz.f14.results.toList = [.tmp 4] := rfl
theorem gE1 : Tryz.f21.ntmps = 6 := rfl
theorem lP1 : Tryz.f21.results.toList = [.tmp 2] := rfl
theorem gF1 : Tryz.f22.ntmps = 7 := rfl
theorem lQ1 : Tryz.f22.results.toList = [.tmp 2] := rfl
theorem gG1 : Tryz.f23.ntmps = 38 := rfl
theorem lR1 : Tryz.f23.results.toList = [.tmp 6] := rfl
theorem gH1 : Tryz.f24.ntmps = 52 := rfl
theorem lS1 : Tryz.f24.results.toList = [.tmp 6] := rfl
theorem gI1 : Tryz.f25.ntmps = 24 := rfl
theorem lT1 : Tryz.f25.results.toList = [.tmp 4] := rfl
theorem gJ1 : Tryz.f26.ntmps = 17 := rfl
theorem lU1 : Tryz.f26.results.toList = [.cell 2 31] := rfl
theorem gK1 : Tryz.f27.ntmps = 23 := rfl
theorem lV1 : Tryz.f27.results.toList = [.tmp 4] := rfl
theorem gL1 : Tryz.f34.ntmps = 91 := rfl
theorem lW1 : Tryz.f34.results.toList = [.tmp 2] := rfl
theorem gM1 : Tryz.f35.ntmps = 40 := rfl
theorem lX1 : Tryz.f35.results.toList = [.cell 4 39] := rfl
theorem gN1 : Tryz.f36.ntmps = 5 := rfl
theorem lY1 : Tryz.f36.results.toList = [.tmp 2] := rfl
theorem gO1 : Tryz.f37.ntmps = 31 := rfl
theorem lZ1 : Tryz.f37.results.toList = [.cell 4 39, .tmp 5] := rfl
theorem gP1 : Tryz.f38.ntmps = 54 := rfl
theorem la1 : Tryz.f38.results.toList = [.tmp 4, .tmp 5] := rfl
theorem gQ1 : Tryz.f39.ntmps = 8 := rfl
theorem lc1 : Tryz.f39.results.toList = [.tmp 2] := rfl
theorem gR1 : Tryz.f40.ntmps = 47 := rfl
theorem ld1 : Tryz.f40.results.toList = [.cell 4 39] := rfl
theorem gS1 : Tryz.f41.ntmps = 48 := rfl
theorem le1 : Tryz.f41.results.toList = [.tmp 2] := rfl
theorem gT1 : Tryz.f42.ntmps = 94 := rfl
theorem lf1 : Tryz.f42.results.toList = [.tmp 8] := rfl
theorem gU1 : Tryz.f46.ntmps = 15 := rfl
theorem lg1 : Tryz.f46.results.toList = [.tmp 6] := rfl
theorem gV1 : Tryz.f49.ntmps = 48 := rfl
theorem lh1 : Tryz.f49.results.toList = [.cell 4 39] := rfl
theorem gW1 : Tryz.f54.ntmps = 27 := rfl
theorem li1 : Tryz.f54.results.toList = [.tmp 2] := rfl
theorem gX1 : Tryz.f55.ntmps = 18 := rfl
theorem lj1 : Tryz.f55.results.toList = [.tmp 2] := rfl
theorem gY1 : Tryz.f56.ntmps = 29 := rfl
theorem lk1 : Tryz.f56.results.toList = [.tmp 4] := rfl
theorem gZ1 : Tryz.f57.ntmps = 9 := rfl
theorem ll1 : Tryz.f57.results.toList = [.tmp 4] := rfl
theorem ga1 : Tryz.f58.ntmps = 12 := rfl
theorem lm1 : Tryz.f58.results.toList = [.tmp 4] := rfl
theorem gb1 : Tryz.f59.ntmps = 34 := rfl
theorem ln1 : Tryz.f59.results.toList = [.cell 4 39, .tmp 5] := rfl
theorem gc1 : Tryz.f60.ntmps = 18 := rfl
theorem lo1 : Tryz.f60.results.toList = [.tmp 4] := rfl
theorem gd1 : Tryz.f61.ntmps = 33 := rfl
theorem lp1 : Tryz.f61.results.toList = [.tmp 4] := rfl
theorem ge1 : Tryz.f62.ntmps = 18 := rfl
theorem lq1 : Tryz.f62.results.toList = [.tmp 4] := rfl
theorem gf1 : Tryz.f63.ntmps = 27 := rfl
theorem lr1 : Tryz.f63.results.toList = [.tmp 4] := rfl
theorem gg1 : Tryz.f64.ntmps = 27 := rfl
theorem ls1 : Tryz.f64.results.toList = [.tmp 4] := rfl
theorem gh1 : Tryz.f65.ntmps = 13 := rfl
theorem lt1 : Tryz.f65.results.toList = [.cell 2 27] := rfl
theorem gi1 : Tryz.f66.ntmps = 23 := rfl
theorem lu1 : Tryz.f66.results.toList = [.tmp 2] := rfl
theorem gj1 : Tryz.f67.ntmps = 23 := rfl
theorem lv1 : Tryz.f67.results.toList = [.tmp 2] := rfl
theorem gk1 : Tryz.f68.ntmps = 17 := rfl
theorem lw1 : Tryz.f68.results.toList = [.tmp 4] := rfl
theorem gl1 : Tryz.f69.ntmps = 27 := rfl
theorem lx1 : Tryz.f69.results.toList = [.tmp 4] := rfl
theorem gm1 : Tryz.f70.ntmps = 27 := rfl
theorem ly1 : Tryz.f70.results.toList = [.tmp 4] := rfl
theorem gn1 : Tryz.f84.ntmps = 93 := rfl
theorem lz1 : Tryz.f84.results.toList = [.tmp 2] := rfl
theorem go1 : Tryz.f85.ntmps = 84 := rfl
theorem mA1 : Tryz.f85.results.toList = [.tmp 4] := rfl
theorem gp1 : Tryz.f86.ntmps = 28 := rfl
theorem mB1 : Tryz.f86.results.toList = [.cell 4 122, .tmp 5] := rfl
theorem gq1 : Tryz.f87.ntmps = 13 := rfl
theorem mC1 : Tryz.f87.results.toList = [.tmp 2] := rfl
theorem gr1 : Tryz.f88.ntmps = 9 := rfl
theorem mD1 : Tryz.f88.results.toList = [.tmp 4] := rfl
theorem gs1 : Tryz.f89.ntmps = 29 := rfl
theorem mE1 : Tryz.f89.results.toList = [.tmp 4] := rfl
theorem gt1 : Tryz.f90.ntmps = 95 := rfl
theorem mF1 : Tryz.f90.results.toList = [.tmp 4, .tmp 5, .tmp 6] := rfl
theorem gu1 : Tryz.f91.ntmps = 19 := rfl
theorem mG1 : Tryz.f91.results.toList = [.tmp 2] := rfl
theorem gv1 : Tryz.f92.ntmps = 32 := rfl
theorem mH1 : Tryz.f92.results.toList = [.tmp 4] := rfl
theorem gw1 : Tryz.f93.ntmps = 6 := rfl
theorem mI1 : Tryz.f93.results.toList = [.tmp 2] := rfl
theorem gx1 : Tryz.f94.ntmps = 22 := rfl
theorem mJ1 : Tryz.f94.results.toList = [.cell 4 39, .tmp 5] := rfl
theorem gy1 : Tryz.f95.ntmps = 29 := rfl
theorem mK1 : Tryz.f95.results.toList = [.cell 2 39] := rfl
theorem gz1 : Tryz.f96.ntmps = 99 := rfl
theorem mL1 : Tryz.f96.results.toList = [.tmp 4] := rfl
theorem lA1 : Tryz.f97.ntmps = 72 := rfl
theorem mM1 : Tryz.f97.results.toList = [.tmp 2] := rfl
theorem lB1 : Tryz.f98.ntmps = 61 := rfl
theorem mN1 : Tryz.f98.results.toList = [.tmp 2] := rfl
theorem lC1 : Tryz.f99.ntmps = 42 := rfl
theorem mO1 : Tryz.f99.results.toList = [.cell 4 39] := rfl
theorem pG1 : Tryz.f100.ntmps = 7 := rfl
theorem bH1 : Tryz.f100.results.toList = [.tmp 2] := rfl
theorem pH1 : Tryz.f101.ntmps = 40 := rfl
theorem bI1 : Tryz.f101.results.toList = [.tmp 4, .tmp 5] := rfl
theorem pI1 : Tryz.f103.ntmps = 39 := rfl
theorem bJ1 : Tryz.f103.results.toList = [.tmp 4] := rfl
theorem pJ1 : Tryz.f104.ntmps = 7 := rfl
theorem bK1 : Tryz.f104.results.toList = [.tmp 2] := rfl
theorem pK1 : Tryz.f106.ntmps = 15 := rfl
theorem bL1 : Tryz.f106.results.toList = [.tmp 2] := rfl
theorem pL1 : Tryz.f108.ntmps = 71 := rfl
theorem bM1 : Tryz.f108.results.toList = [.tmp 6] := rfl
theorem pM1 : Tryz.f111.ntmps = 13 := rfl
theorem bN1 : Tryz.f111.results.toList = [.tmp 2] := rfl
theorem pN1 : Tryz.f115.ntmps = 19 := rfl
theorem bO1 : Tryz.f115.results.toList = [.cell 4 39, .tmp 5] := rfl
theorem pO1 : Tryz.f120.ntmps = 19 := rfl
theorem bP1 : Tryz.f120.results.toList = [.tmp 4] := rfl
theorem pP1 : Tryz.f121.ntmps = 19 := rfl
theorem bQ1 : Tryz.f121.results.toList = [.tmp 4] := rfl
theorem pQ1 : Tryz.f122.ntmps = 26 := rfl
theorem bR1 : Tryz.f122.results.toList = [.tmp 4] := rfl
theorem pR1 : Tryz.f123.ntmps = 25 := rfl
theorem bS1 : Tryz.f123.results.toList = [.cell 2 39] := rfl
theorem pS1 : Tryz.f124.ntmps = 28 := rfl
theorem bT1 : Tryz.f124.results.toList = [.tmp 4] := rfl
theorem pT1 : Tryz.f125.ntmps = 27 := rfl
theorem bU1 : Tryz.f125.results.toList = [.tmp 4] := rfl
theorem pU1 : Tryz.f126.ntmps = 31 := rfl
theorem bV1 : Tryz.f126.results.toList = [.tmp 4] := rfl
theorem pV1 : Tryz.f127.ntmps = 13 := rfl
theorem bW1 : Tryz.f127.results.toList = [.tmp 4] := rfl
theorem pW1 : Tryz.f128.ntmps = 22 := rfl
theorem bX1 : Tryz.f128.results.toList = [.tmp 2] := rfl
theorem pX1 : Tryz.f129.ntmps = 23 := rfl
theorem bY1 : Tryz.f129.results.toList = [.tmp 2] := rfl
theorem pY1 : Tryz.f130.ntmps = 20 := rfl
theorem bZ1 : Tryz.f130.results.toList = [.cell 2 46] := rfl
theorem pZ1 : Tryz.f131.ntmps = 11 := rfl
theorem ba1 : Tryz.f131.results.toList = [.cell 2 116] := rfl
theorem pa1 : Tryz.f132.ntmps = 26 := rfl
theorem bb1 : Tryz.f132.results.toList = [.tmp 4] := rfl
theorem pb1 : Tryz.f133.ntmps = 27 := rfl
theorem bc1 : Tryz.f133.results.toList = [.tmp 4] := rfl
theorem pc1 : Tryz.f134.ntmps = 28 := rfl
theorem bd1 : Tryz.f134.results.toList = [.tmp 4] := rfl
theorem pd1 : Tryz.f135.ntmps = 15 := rfl
theorem be1 : Tryz.f135.results.toList = [.tmp 4] := rfl
theorem pe1 : Tryz.f137.ntmps = 26 := rfl
theorem bf1 : Tryz.f137.results.toList = [.tmp 4] := rfl
theorem pf1 : Tryz.f145.ntmps = 5 := rfl
theorem bg1 : Tryz.f145.results.toList = [.tmp 2] := rfl
theorem pg1 : Tryz.f146.ntmps = 8 := rfl
theorem bh1 : Tryz.f146.results.toList = [.tmp 2] := rfl
theorem ph1 : Tryz.f147.ntmps = 9 := rfl
theorem bi1 : Tryz.f147.results.toList = [.tmp 4] := rfl
theorem pi1 : Tryz.f148.ntmps = 15 := rfl
theorem bj1 : Tryz.f148.results.toList = [.tmp 2] := rfl
theorem pj1 : Tryz.f149.ntmps = 24 := rfl
theorem bk1 : Tryz.f149.results.toList = [.tmp 2] := rfl
theorem pk1 : Tryz.f150.ntmps = 32 := rfl
theorem bl1 : Tryz.f150.results.toList = [.tmp 6, .tmp 7] := rfl
theorem pl1 : Tryz.f151.ntmps = 80 := rfl
theorem bm1 : Tryz.f151.results.toList = [.tmp 6] := rfl
theorem pm1 : Tryz.f152.ntmps = 11 := rfl
theorem bn1 : Tryz.f152.results.toList = [.tmp 4] := rfl
theorem pn1 : Tryz.f153.ntmps = 79 := rfl
theorem bo1 : Tryz.f153.results.toList = [.tmp 8] := rfl
theorem po1 : Tryz.f154.ntmps = 11 := rfl
theorem bp1 : Tryz.f154.results.toList = [.cell 2 122] := rfl
theorem pp1 : Tryz.f155.ntmps = 19 := rfl
theorem bq1 : Tryz.f155.results.toList = [.tmp 4] := rfl
theorem pq1 : Tryz.f156.ntmps = 31 := rfl
theorem br1 : Tryz.f156.results.toList = [.tmp 4] := rfl
theorem pr1 : Tryz.f157.ntmps = 51 := rfl
theorem bs1 : Tryz.f157.results.toList = [.tmp 4] := rfl
theorem ps1 : Tryz.f158.ntmps = 17 := rfl
theorem bt1 : Tryz.f158.results.toList = [.cell 4 39, .tmp 5] := rfl
theorem pt1 : Tryz.f159.ntmps = 14 := rfl
theorem bu1 : Tryz.f159.results.toList = [.tmp 2] := rfl
theorem pu1 : Tryz.f160.ntmps = 25 := rfl
theorem bv1 : Tryz.f160.results.toList = [.tmp 2] := rfl
theorem pv1 : Tryz.f161.ntmps = 40 := rfl
theorem bw1 : Tryz.f161.results.toList = [.cell 4 122, .tmp 5] := rfl
theorem pw1 : Tryz.f162.ntmps = 34 := rfl
theorem bx1 : Tryz.f162.results.toList = [.tmp 6, .tmp 7] := rfl
theorem px1 : Tryz.f163.ntmps = 29 := rfl
theorem by1 : Tryz.f163.results.toList = [.tmp 4] := rfl
theorem py1 : Tryz.f164.ntmps = 49 := rfl
theorem bz1 : Tryz.f164.results.toList = [.tmp 6] := rfl
theorem pz1 : Tryz.f165.ntmps = 42 := rfl
theorem cA1 : Tryz.f165.results.toList = [.tmp 4] := rfl
theorem fA1 : Tryz.f166.ntmps = 35 := rfl
theorem cB1 : Tryz.f166.results.toList = [.tmp 6] := rfl
theorem fB1 : Tryz.f167.ntmps = 113 := rfl
theorem cC1 : Tryz.f167.results.toList = [.tmp 2] := rfl
theorem fC1 : Tryz.f168.ntmps = 17 := rfl
theorem cD1 : Tryz.f168.results.toList = [.tmp 2] := rfl
theorem fD1 : Tryz.f169.ntmps = 64 := rfl
theorem cE1 : Tryz.f169.results.toList = [.tmp 2] := rfl
theorem fE1 : Tryz.f171.ntmps = 27 := rfl
theorem cF1 : Tryz.f171.results.toList = [.tmp 4] := rfl
theorem fF1 : Tryz.f172.ntmps = 22 := rfl
theorem cG1 : Tryz.f172.results.toList = [.tmp 2] := rfl
theorem fG1 : Tryz.f173.ntmps = 20 := rfl
theorem cH1 : Tryz.f173.results.toList = [.tmp 2] := rfl
theorem fH1 : Tryz.f174.ntmps = 24 := rfl
theorem cI1 : Tryz.f174.results.toList = [.tmp 4] := rfl
theorem fI1 : Tryz.f175.ntmps = 20 := rfl
theorem cJ1 : Tryz.f175.results.toList = [.tmp 4] := rfl
theorem fJ1 : Tryz.f181.ntmps = 26 := rfl
theorem cK1 : Tryz.f181.results.toList = [.tmp 4] := rfl
theorem fK1 : Tryz.f182.ntmps = 19 := rfl
theorem cL1 : Tryz.f182.results.toList = [.tmp 4] := rfl
theorem fL1 : Tryz.f183.ntmps = 27 := rfl
theorem cM1 : Tryz.f183.results.toList = [.tmp 4] := rfl
theorem fM1 : Tryz.f184.ntmps = 15 := rfl
theorem cN1 : Tryz.f184.results.toList = [.cell 2 122] := rfl
theorem fN1 : Tryz.f185.ntmps = 18 := rfl
theorem cO1 : Tryz.f185.results.toList = [.cell 2 39] := rfl
theorem fO1 : Tryz.f186.ntmps = 23 := rfl
theorem cP1 : Tryz.f186.results.toList = [.tmp 2] := rfl
theorem fP1 : Tryz.f187.ntmps = 21 := rfl
theorem cQ1 : Tryz.f187.results.toList = [.tmp 4] := rfl
theorem fQ1 : Tryz.f188.ntmps = 27 := rfl
theorem cR1 : Tryz.f188.results.toList = [.tmp 4] := rfl
theorem fR1 : Tryz.f189.ntmps = 27 := rfl
theorem cS1 : Tryz.f189.results.toList = [.tmp 4] := rfl
theorem fS1 : Tryz.f192.ntmps = 56 := rfl
theorem cT1 : Tryz.f192.results.toList = [.tmp 6] := rfl
theorem fT1 : Tryz.f193.ntmps = 19 := rfl
theorem cU1 : Tryz.f193.results.toList = [.tmp 4] := rfl
theorem fU1 : Tryz.f194.ntmps = 20 := rfl
theorem cV1 : Tryz.f194.results.toList = [.tmp 2] := rfl
theorem fV1 : Tryz.f195.ntmps = 49 := rfl
theorem cW1 : Tryz.f195.results.toList = [.tmp 2] := rfl
theorem fW1 : Tryz.f196.ntmps = 84 := rfl
theorem cX1 : Tryz.f196.results.toList = [.tmp 8, .tmp 9] := rfl
theorem fX1 : Tryz.f197.ntmps = 24 := rfl
theorem cY1 : Tryz.f197.results.toList = [.tmp 4] := rfl
theorem fY1 : Tryz.f198.ntmps = 9 := rfl
theorem cZ1 : Tryz.f198.results.toList = [.tmp 2] := rfl
theorem fZ1 : Tryz.f199.ntmps = 32 := rfl
theorem ca1 : Tryz.f199.results.toList = [.tmp 6] := rfl
theorem fa1 : Tryz.f200.ntmps = 9 := rfl
theorem cb1 : Tryz.f200.results.toList = [.cell 2 134] := rfl
theorem fb1 : Tryz.f201.ntmps = 9 := rfl
theorem cc1 : Tryz.f201.results.toList = [.tmp 2] := rfl
theorem fc1 : Tryz.f202.ntmps = 25 := rfl
theorem cd1 : Tryz.f202.results.toList = [.tmp 2] := rfl
theorem fd1 : Tryz.f203.ntmps = 93 := rfl
theorem ce1 : Tryz.f203.results.toList = [.tmp 8, .tmp 9] := rfl
theorem fe1 : Tryz.f204.ntmps = 10 := rfl
theorem cf1 : Tryz.f204.results.toList = [.tmp 2] := rfl
theorem ff1 : Tryz.f205.ntmps = 14 := rfl
theorem cg1 : Tryz.f205.results.toList = [.tmp 4] := rfl
theorem fg1 : Tryz.f206.ntmps = 24 := rfl
theorem ch1 : Tryz.f206.results.toList = [.tmp 6] := rfl
theorem fh1 : Tryz.f207.ntmps = 27 := rfl
theorem ci1 : Tryz.f207.results.toList = [.tmp 4] := rfl
theorem fi1 : Tryz.f208.ntmps = 10 := rfl
theorem cj1 : Tryz.f208.results.toList = [.tmp 4] := rfl
theorem fj1 : Tryz.f209.ntmps = 47 := rfl
theorem ck1 : Tryz.f209.results.toList = [.tmp 2] := rfl
theorem fk1 : Tryz.f212.ntmps = 27 := rfl
theorem cl1 : Tryz.f212.results.toList = [.tmp 4] := rfl
theorem fl1 : Tryz.f213.ntmps = 18 := rfl
theorem cm1 : Tryz.f213.results.toList = [.tmp 4] := rfl
theorem fm1 : Tryz.f214.ntmps = 23 := rfl
theorem cn1 : Tryz.f214.results.toList = [.tmp 2] := rfl
theorem fn1 : Tryz.f215.ntmps = 16 := rfl
theorem co1 : Tryz.f215.results.toList = [.cell 2 143] := rfl
theorem fo1 : Tryz.f216.ntmps = 22 := rfl
theorem cp1 : Tryz.f216.results.toList = [.tmp 4] := rfl
theorem fp1 : Tryz.f217.ntmps = 5 := rfl
theorem cq1 : Tryz.f217.results.toList = [.tmp 2] := rfl
theorem fq1 : Tryz.f218.ntmps = 27 := rfl
theorem cr1 : Tryz.f218.results.toList = [.tmp 2] := rfl
theorem fr1 : Tryz.f219.ntmps = 9 := rfl
theorem cs1 : Tryz.f219.results.toList = [.tmp 2] := rfl
theorem fs1 : Tryz.f220.ntmps = 61 := rfl
theorem ct1 : Tryz.f220.results.toList = [.tmp 4] := rfl
theorem ft1 : Tryz.f221.ntmps = 19 := rfl
theorem cu1 : Tryz.f221.results.toList = [.tmp 2] := rfl
attribute [go_sem] tb3 tb4 tb9 mP1 mQ1 mR1 mS1 mT1 mU1 mV1 mW1 mX1 mY1 mZ1 ma1 mb1 mc1 md1 me1 mf1 mg1 mh1 mi1 cx1 cy1 cz1 dA1 dB1 dC1 dD1 dE1 dF1 dG1 dH1 dI1 dJ1 dK1 dL1 dM1 nt5 rs5 nt9 rs9 gA1 lL1 gB1 lM1 gC1 lN1 gD1 lO1 gE1 lP1 gF1 lQ1 gG1 lR1 gH1 lS1 gI1 lT1 gJ1 lU1 gK1 lV1 gL1 lW1 gM1 lX1 gN1 lY1 gO1 lZ1 gP1 la1 gQ1 lc1 gR1 ld1 gS1 le1 gT1 lf1 gU1 lg1 gV1 lh1 gW1 li1 gX1 lj1 gY1 lk1 gZ1 ll1 ga1 lm1 gb1 ln1 gc1 lo1 gd1 lp1 ge1 lq1 gf1 lr1 gg1 ls1 gh1 lt1 gi1 lu1 gj1 lv1 gk1 lw1 gl1 lx1 gm1 ly1 gn1 lz1 go1 mA1 gp1 mB1 gq1 mC1 gr1 mD1 gs1 mE1 gt1 mF1 gu1 mG1 gv1 mH1 gw1 mI1 gx1 mJ1 gy1 mK1 gz1 mL1 lA1 mM1 lB1 mN1 lC1 mO1 pG1 bH1 pH1 bI1 pI1 bJ1 pJ1 bK1 pK1 bL1 pL1 bM1 pM1 bN1 pN1 bO1 pO1 bP1 pP1 bQ1 pQ1 bR1 pR1 bS1 pS1 bT1 pT1 bU1 pU1 bV1 pV1 bW1 pW1 bX1 pX1 bY1 pY1 bZ1 pZ1 ba1 pa1 bb1 pb1 bc1 pc1 bd1 pd1 be1 pe1 bf1 pf1 bg1 pg1 bh1 ph1 bi1 pi1 bj1 pj1 bk1 pk1 bl1 pl1 bm1 pm1 bn1 pn1 bo1 po1 bp1 pp1 bq1 pq1 br1 pr1 bs1 ps1 bt1 pt1 bu1 pu1 bv1 pv1 bw1 pw1 bx1 px1 by1 py1 bz1 pz1 cA1 fA1 cB1 fB1 cC1 fC1 cD1 fD1 cE1 fE1 cF1 fF1 cG1 fG1 cH1 fH1 cI1 fI1 cJ1 fJ1 cK1 fK1 cL1 fL1 cM1 fM1 cN1 fN1 cO1 fO1 cP1 fP1 cQ1 fQ1 cR1 fR1 cS1 fS1 cT1 fT1 cU1 fU1 cV1 fV1 cW1 fW1 cX1 fX1 cY1 fY1 cZ1 fZ1 ca1 fa1 cb1 fb1 cc1 fc1 cd1 fd1 ce1 fe1 cf1 ff1 cg1 fg1 ch1 fh1 ci1 fi1 cj1 fj1 ck1 fk1 cl1 fl1 cm1 fm1 cn1 fn1 co1 fo1 cp1 fp1 cq1 fq1 cr1 fr1 cs1 fs1 ct1 ft1 cu1
end Go.Ai
