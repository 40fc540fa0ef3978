/- The types' table of this seat's program, and what its functions give back. Written by mkseat.py. -/
import Derived.Test.YtphclghkljeaeaaGreatAiRows
import Derived.Test.YtphclghkljeaeaaGreatProg
import Derived.KernelRfl
set_option linter.unusedVariables false
set_option linter.unusedSimpArgs false
namespace Go.Ai
open Go.Proofs
set_option maxRecDepth 100000
def Tb : Tab := xf1 [
 (2, ⟨.int .i64, 1, 8, [.c (.v (.int .i64 0))]⟩),
 (3, ⟨.int .i64, 1, 8, [.c (.v (.int .i64 0))]⟩),
 (4, ⟨.bool, 1, 1, [.c (.v (.bool false))]⟩),
 (5, ⟨.int .u8, 1, 1, [.c (.v (.int .u8 0))]⟩),
 (9, ⟨.str, 1, 16, [.c (.v (.string ⟨⟨[]⟩⟩))]⟩),
 (12, ⟨.int .u64, 1, 8, [.c (.v (.int .u64 0))]⟩),
 (13, ⟨.struct [(0, 1), (1, 1)] none, 2, 24, [.c (.v (.string ⟨⟨[]⟩⟩)), AC.c (C.v (Value.int IntKind.u64 0))]⟩),
 (20, ⟨.iface, 1, 16, [.c (.v .nilIface)]⟩),
 (21, ⟨.int .i32, 1, 4, [.c (.v (.int .i32 0))]⟩),
 (22, ⟨.slice 5, 1, 24, [.nil]⟩),
 (24, ⟨.slice 9, 1, 24, [.nil]⟩),
 (25, ⟨.slice 171, 1, 24, [.nil]⟩),
 (26, ⟨.struct [(0, 1), (1, 1)] none, 2, 48, [.nil, .nil]⟩),
 (27, ⟨.struct [(0, 1), (1, 1)] none, 2, 48, [.nil, .nil]⟩),
 (28, ⟨.slice 164, 1, 24, [.nil]⟩),
 (29, ⟨.slice 204, 1, 24, [.nil]⟩),
 (30, ⟨.struct [(0, 2), (2, 1), (3, 1)] none, 4, 96, [.nil, .nil, .nil, .nil]⟩),
 (31, ⟨.struct [(0, 2), (2, 1), (3, 1)] none, 4, 96, [.nil, .nil, .nil, .nil]⟩),
 (32, ⟨.slice 34, 1, 24, [.nil]⟩),
 (33, ⟨.struct [(0, 1), (1, 1), (2, 1), (3, 1)] none, 4, 56, [.c (.v (.int .i64 0)), .c (.v (.int .i64 0)), .c (.v (.string ⟨⟨[]⟩⟩)), AC.nil]⟩),
 (34, ⟨.struct [(0, 1), (1, 1), (2, 1), (3, 1)] none, 4, 56, [.c (.v (.int .i64 0)), .c (.v (.int .i64 0)), .c (.v (.string ⟨⟨[]⟩⟩)), AC.nil]⟩),
 (37, ⟨.slice 104, 1, 24, [.nil]⟩),
 (38, ⟨.struct [(0, 1), (1, 1), (2, 1)] none, 3, 56, [.nil, .nil, .c (.v (.bool false))]⟩),
 (39, ⟨.struct [(0, 1), (1, 1), (2, 1)] none, 3, 56, [.nil, .nil, .c (.v (.bool false))]⟩),
 (44, ⟨.slice 100, 1, 24, [.nil]⟩),
 (51, ⟨.slice 124, 1, 24, [.nil]⟩),
 (52, ⟨.struct [(0, 4), (4, 1), (5, 1), (6, 1)] none, 7, 96, [.c (.v (.int .i64 0)), .c (.v (.int .i64 0)), .c (.v (.string ⟨⟨[]⟩⟩)), AC.nil, AC.c (C.v (Value.int IntKind.i64 0)), AC.nil, AC.c (C.v (Value.int IntKind.i64 0))]⟩),
 (53, ⟨.struct [(0, 4), (4, 1), (5, 1), (6, 1)] none, 7, 96, [.c (.v (.int .i64 0)), .c (.v (.int .i64 0)), .c (.v (.string ⟨⟨[]⟩⟩)), AC.nil, AC.c (C.v (Value.int IntKind.i64 0)), AC.nil, AC.c (C.v (Value.int IntKind.i64 0))]⟩),
 (65, ⟨.struct [(0, 1), (1, 4), (5, 1)] none, 6, 72, [.c (.v (.int .i64 0)), .c (.v (.int .i64 0)), .c (.v (.int .i64 0)), .c (.v (.string ⟨⟨[]⟩⟩)), AC.nil, AC.c (C.v (Value.int IntKind.i64 0))]⟩),
 (66, ⟨.struct [(0, 1), (1, 4), (5, 1)] none, 6, 72, [.c (.v (.int .i64 0)), .c (.v (.int .i64 0)), .c (.v (.int .i64 0)), .c (.v (.string ⟨⟨[]⟩⟩)), AC.nil, AC.c (C.v (Value.int IntKind.i64 0))]⟩),
 (70, ⟨.slice 3, 1, 24, [.nil]⟩),
 (78, ⟨.slice 246, 1, 24, [.nil]⟩),
 (79, ⟨.struct [(0, 1), (1, 1)] none, 2, 48, [.nil, .nil]⟩),
 (80, ⟨.struct [(0, 1), (1, 1)] none, 2, 48, [.nil, .nil]⟩),
 (81, ⟨.slice 197, 1, 24, [.nil]⟩),
 (82, ⟨.slice 200, 1, 24, [.nil]⟩),
 (83, ⟨.struct [(0, 2), (2, 1), (3, 1)] none, 4, 96, [.nil, .nil, .nil, .nil]⟩),
 (84, ⟨.struct [(0, 2), (2, 1), (3, 1)] none, 4, 96, [.nil, .nil, .nil, .nil]⟩),
 (85, ⟨.slice 87, 1, 24, [.nil]⟩),
 (86, ⟨.struct [(0, 1), (1, 1), (2, 1), (3, 1)] none, 4, 56, [.c (.v (.int .i64 0)), .c (.v (.int .i64 0)), .c (.v (.string ⟨⟨[]⟩⟩)), AC.nil]⟩),
 (87, ⟨.struct [(0, 1), (1, 1), (2, 1), (3, 1)] none, 4, 56, [.c (.v (.int .i64 0)), .c (.v (.int .i64 0)), .c (.v (.string ⟨⟨[]⟩⟩)), AC.nil]⟩),
 (99, ⟨.struct [(0, 1), (1, 1)] none, 2, 32, [.c (.v (.int .i64 0)), .nil]⟩),
 (100, ⟨.struct [(0, 1), (1, 1)] none, 2, 32, [.c (.v (.int .i64 0)), .nil]⟩),
 (103, ⟨.struct [(0, 1), (1, 1), (2, 2)] none, 4, 48, [.c (.v (.int .i64 0)), .c (.v (.int .i64 0)), .c (.v (.int .i64 0)), .nil]⟩),
 (104, ⟨.struct [(0, 1), (1, 1), (2, 2)] none, 4, 48, [.c (.v (.int .i64 0)), .c (.v (.int .i64 0)), .c (.v (.int .i64 0)), .nil]⟩),
 (105, ⟨.ptr, 1, 8, [.c (.v (.pointer none))]⟩),
 (110, ⟨.slice 235, 1, 24, [.nil]⟩),
 (120, ⟨.ptr, 1, 8, [.c (.v (.pointer none))]⟩),
 (123, ⟨.struct [(0, 4), (4, 1)] none, 5, 64, [.c (.v (.int .i64 0)), .c (.v (.int .i64 0)), .c (.v (.string ⟨⟨[]⟩⟩)), AC.nil, AC.c (C.v (Value.int IntKind.i64 0))]⟩),
 (124, ⟨.struct [(0, 4), (4, 1)] none, 5, 64, [.c (.v (.int .i64 0)), .c (.v (.int .i64 0)), .c (.v (.string ⟨⟨[]⟩⟩)), AC.nil, AC.c (C.v (Value.int IntKind.i64 0))]⟩),
 (129, ⟨.struct [(0, 6), (6, 1), (7, 1)] none, 8, 120, [.c (.v (.int .i64 0)), .c (.v (.int .i64 0)), .c (.v (.int .i64 0)), .c (.v (.string ⟨⟨[]⟩⟩)), AC.nil, AC.c (C.v (Value.int IntKind.i64 0)), AC.nil, AC.nil]⟩),
 (130, ⟨.struct [(0, 6), (6, 1), (7, 1)] none, 8, 120, [.c (.v (.int .i64 0)), .c (.v (.int .i64 0)), .c (.v (.int .i64 0)), .c (.v (.string ⟨⟨[]⟩⟩)), AC.nil, AC.c (C.v (Value.int IntKind.i64 0)), AC.nil, AC.nil]⟩),
 (131, ⟨.ptr, 1, 8, [.c (.v (.pointer none))]⟩),
 (162, ⟨.slice 230, 1, 24, [.nil]⟩),
 (163, ⟨.struct [(0, 1), (1, 4), (5, 4), (9, 1)] none, 10, 152, [.c (.v (.string ⟨⟨[]⟩⟩)), AC.c (C.v (Value.int IntKind.i64 0)), AC.c (C.v (Value.int IntKind.i64 0)), AC.c (C.v (Value.string ⟨⟨[]⟩⟩)), AC.nil, AC.c (C.v (Value.int IntKind.i64 0)), AC.c (C.v (Value.int IntKind.i64 0)), AC.c (C.v (Value.string ⟨⟨[]⟩⟩)), AC.nil, AC.nil]⟩),
 (164, ⟨.struct [(0, 1), (1, 4), (5, 4), (9, 1)] none, 10, 152, [.c (.v (.string ⟨⟨[]⟩⟩)), AC.c (C.v (Value.int IntKind.i64 0)), AC.c (C.v (Value.int IntKind.i64 0)), AC.c (C.v (Value.string ⟨⟨[]⟩⟩)), AC.nil, AC.c (C.v (Value.int IntKind.i64 0)), AC.c (C.v (Value.int IntKind.i64 0)), AC.c (C.v (Value.string ⟨⟨[]⟩⟩)), AC.nil, AC.nil]⟩),
 (170, ⟨.struct [(0, 1), (1, 1), (2, 1)] none, 3, 56, [.c (.v (.string ⟨⟨[]⟩⟩)), AC.nil, AC.c (C.v (Value.string ⟨⟨[]⟩⟩))]⟩),
 (171, ⟨.struct [(0, 1), (1, 1), (2, 1)] none, 3, 56, [.c (.v (.string ⟨⟨[]⟩⟩)), AC.nil, AC.c (C.v (Value.string ⟨⟨[]⟩⟩))]⟩),
 (174, ⟨.slice 261, 1, 24, [.nil]⟩),
 (180, ⟨.struct [(0, 1), (1, 1), (2, 1)] none, 3, 40, [.nil, .c (.v (.int .i64 0)), .c (.v (.int .i64 0))]⟩),
 (181, ⟨.struct [(0, 1), (1, 1), (2, 1)] none, 3, 40, [.nil, .c (.v (.int .i64 0)), .c (.v (.int .i64 0))]⟩),
 (195, ⟨.slice 271, 1, 24, [.nil]⟩),
 (196, ⟨.struct [(0, 1), (1, 4), (5, 4), (9, 1)] none, 10, 152, [.c (.v (.string ⟨⟨[]⟩⟩)), AC.c (C.v (Value.int IntKind.i64 0)), AC.c (C.v (Value.int IntKind.i64 0)), AC.c (C.v (Value.string ⟨⟨[]⟩⟩)), AC.nil, AC.c (C.v (Value.int IntKind.i64 0)), AC.c (C.v (Value.int IntKind.i64 0)), AC.c (C.v (Value.string ⟨⟨[]⟩⟩)), AC.nil, AC.nil]⟩),
 (197, ⟨.struct [(0, 1), (1, 4), (5, 4), (9, 1)] none, 10, 152, [.c (.v (.string ⟨⟨[]⟩⟩)), AC.c (C.v (Value.int IntKind.i64 0)), AC.c (C.v (Value.int IntKind.i64 0)), AC.c (C.v (Value.string ⟨⟨[]⟩⟩)), AC.nil, AC.c (C.v (Value.int IntKind.i64 0)), AC.c (C.v (Value.int IntKind.i64 0)), AC.c (C.v (Value.string ⟨⟨[]⟩⟩)), AC.nil, AC.nil]⟩),
 (199, ⟨.struct [(0, 1), (1, 1)] (some [(0, CK.str), (1, CK.int .i64)]), 2, 24, [.c (.v (.string ⟨⟨[]⟩⟩)), AC.c (C.v (Value.int IntKind.i64 0))]⟩),
 (200, ⟨.struct [(0, 1), (1, 1)] (some [(0, CK.str), (1, CK.int .i64)]), 2, 24, [.c (.v (.string ⟨⟨[]⟩⟩)), AC.c (C.v (Value.int IntKind.i64 0))]⟩),
 (204, ⟨.struct [(0, 1), (1, 1)] (some [(0, CK.str), (1, CK.int .i64)]), 2, 24, [.c (.v (.string ⟨⟨[]⟩⟩)), AC.c (C.v (Value.int IntKind.i64 0))]⟩),
 (229, ⟨.struct [(0, 1), (1, 4), (5, 4)] none, 9, 120, [.c (.v (.int .i64 0)), .c (.v (.int .i64 0)), .c (.v (.int .i64 0)), .c (.v (.string ⟨⟨[]⟩⟩)), AC.nil, AC.c (C.v (Value.int IntKind.i64 0)), AC.c (C.v (Value.int IntKind.i64 0)), AC.c (C.v (Value.string ⟨⟨[]⟩⟩)), AC.nil]⟩),
 (230, ⟨.struct [(0, 1), (1, 4), (5, 4)] none, 9, 120, [.c (.v (.int .i64 0)), .c (.v (.int .i64 0)), .c (.v (.int .i64 0)), .c (.v (.string ⟨⟨[]⟩⟩)), AC.nil, AC.c (C.v (Value.int IntKind.i64 0)), AC.c (C.v (Value.int IntKind.i64 0)), AC.c (C.v (Value.string ⟨⟨[]⟩⟩)), AC.nil]⟩),
 (234, ⟨.struct [(0, 1), (1, 1)] (some [(0, CK.str), (1, CK.str)]), 2, 32, [.c (.v (.string ⟨⟨[]⟩⟩)), AC.c (C.v (Value.string ⟨⟨[]⟩⟩))]⟩),
 (235, ⟨.struct [(0, 1), (1, 1)] (some [(0, CK.str), (1, CK.str)]), 2, 32, [.c (.v (.string ⟨⟨[]⟩⟩)), AC.c (C.v (Value.string ⟨⟨[]⟩⟩))]⟩),
 (244, ⟨.int .u64, 1, 8, [.c (.v (.int .u64 0))]⟩),
 (246, ⟨.struct [(0, 1), (1, 1), (2, 1)] none, 3, 56, [.c (.v (.string ⟨⟨[]⟩⟩)), AC.nil, AC.c (C.v (Value.string ⟨⟨[]⟩⟩))]⟩),
 (260, ⟨.struct [(0, 1), (1, 4)] none, 5, 72, [.c (.v (.string ⟨⟨[]⟩⟩)), AC.c (C.v (Value.int IntKind.i64 0)), AC.c (C.v (Value.int IntKind.i64 0)), AC.c (C.v (Value.string ⟨⟨[]⟩⟩)), AC.nil]⟩),
 (261, ⟨.struct [(0, 1), (1, 4)] none, 5, 72, [.c (.v (.string ⟨⟨[]⟩⟩)), AC.c (C.v (Value.int IntKind.i64 0)), AC.c (C.v (Value.int IntKind.i64 0)), AC.c (C.v (Value.string ⟨⟨[]⟩⟩)), AC.nil]⟩),
 (270, ⟨.struct [(0, 1), (1, 4), (5, 4)] none, 9, 120, [.c (.v (.int .i64 0)), .c (.v (.int .i64 0)), .c (.v (.int .i64 0)), .c (.v (.string ⟨⟨[]⟩⟩)), AC.nil, AC.c (C.v (Value.int IntKind.i64 0)), AC.c (C.v (Value.int IntKind.i64 0)), AC.c (C.v (Value.string ⟨⟨[]⟩⟩)), AC.nil]⟩),
 (271, ⟨.struct [(0, 1), (1, 4), (5, 4)] none, 9, 120, [.c (.v (.int .i64 0)), .c (.v (.int .i64 0)), .c (.v (.int .i64 0)), .c (.v (.string ⟨⟨[]⟩⟩)), AC.nil, AC.c (C.v (Value.int IntKind.i64 0)), AC.c (C.v (Value.int IntKind.i64 0)), AC.c (C.v (Value.string ⟨⟨[]⟩⟩)), AC.nil]⟩),
 (279, ⟨.int .i64, 1, 8, [.c (.v (.int .i64 0))]⟩),
 (288, ⟨.int .u32, 1, 4, [.c (.v (.int .u32 0))]⟩),
 (290, ⟨.int .u64, 1, 8, [.c (.v (.int .u64 0))]⟩),
 (291, ⟨.int .u64, 1, 8, [.c (.v (.int .u64 0))]⟩),
 (295, ⟨.ptr, 1, 8, [.c (.v (.pointer none))]⟩),
 (297, ⟨.ptr, 1, 8, [.c (.v (.pointer none))]⟩),
 (310, ⟨.ptr, 1, 8, [.c (.v (.pointer none))]⟩)]
theorem zE0 : zV0 Tryz.prog Tb := tu0 _ _ ⟨by kernel_rfl, by kernel_rfl, by kernel_rfl, by kernel_rfl, by kernel_rfl, by kernel_rfl, by kernel_rfl, by kernel_rfl, by kernel_rfl, by kernel_rfl, by kernel_rfl, by kernel_rfl, by kernel_rfl, by kernel_rfl, by kernel_rfl, by kernel_rfl, by kernel_rfl, by kernel_rfl, by kernel_rfl, by kernel_rfl, by kernel_rfl, by kernel_rfl, by kernel_rfl, by kernel_rfl, by kernel_rfl, by kernel_rfl, by kernel_rfl, by kernel_rfl, by kernel_rfl, by kernel_rfl, by kernel_rfl, by kernel_rfl, by kernel_rfl, by kernel_rfl, by kernel_rfl, by kernel_rfl, by kernel_rfl, by kernel_rfl, by kernel_rfl, by kernel_rfl, by kernel_rfl, by kernel_rfl, by kernel_rfl, by kernel_rfl, by kernel_rfl, by kernel_rfl, by kernel_rfl, by kernel_rfl, by kernel_rfl, by kernel_rfl, by kernel_rfl, by kernel_rfl, by kernel_rfl, by kernel_rfl, by kernel_rfl, by kernel_rfl, by kernel_rfl, by kernel_rfl, by kernel_rfl, by kernel_rfl, by kernel_rfl, by kernel_rfl, by kernel_rfl, by kernel_rfl, by kernel_rfl, by kernel_rfl, by kernel_rfl, by kernel_rfl, by kernel_rfl, by kernel_rfl, by kernel_rfl, by kernel_rfl, by kernel_rfl, by kernel_rfl, by kernel_rfl, by kernel_rfl, by kernel_rfl, by kernel_rfl, by kernel_rfl, by kernel_rfl, by kernel_rfl, by kernel_rfl, by kernel_rfl, by kernel_rfl, trivial⟩
theorem zA0 : Tryz.prog.follows .mixedOrders = true := by kernel_rfl
theorem tb3 : Tb 3 = some ⟨.int .i64, 1, 8, [.c (.v (.int .i64 0))]⟩ := rfl
theorem tb4 : Tb 4 = some ⟨.bool, 1, 1, [.c (.v (.bool false))]⟩ := rfl
theorem tb5 : Tb 5 = some ⟨.int .u8, 1, 1, [.c (.v (.int .u8 0))]⟩ := rfl
theorem tb9 : Tb 9 = some ⟨.str, 1, 16, [.c (.v (.string ⟨⟨[]⟩⟩))]⟩ := rfl
theorem qY2 : Tb 22 = some ⟨.slice 5, 1, 24, [.nil]⟩ := rfl
theorem qZ2 : Tb 24 = some ⟨.slice 9, 1, 24, [.nil]⟩ := rfl
theorem qa2 : Tb 25 = some ⟨.slice 171, 1, 24, [.nil]⟩ := rfl
theorem qb2 : Tb 27 = some ⟨.struct [(0, 1), (1, 1)] none, 2, 48, [.nil, .nil]⟩ := rfl
theorem qc2 : Tb 28 = some ⟨.slice 164, 1, 24, [.nil]⟩ := rfl
theorem qd2 : Tb 29 = some ⟨.slice 204, 1, 24, [.nil]⟩ := rfl
theorem qe2 : Tb 31 = some ⟨.struct [(0, 2), (2, 1), (3, 1)] none, 4, 96, [.nil, .nil, .nil, .nil]⟩ := rfl
theorem qf2 : Tb 32 = some ⟨.slice 34, 1, 24, [.nil]⟩ := rfl
theorem qg2 : Tb 34 = some ⟨.struct [(0, 1), (1, 1), (2, 1), (3, 1)] none, 4, 56, [.c (.v (.int .i64 0)), .c (.v (.int .i64 0)), .c (.v (.string ⟨⟨[]⟩⟩)), AC.nil]⟩ := rfl
theorem qh2 : Tb 37 = some ⟨.slice 104, 1, 24, [.nil]⟩ := rfl
theorem qi2 : Tb 39 = some ⟨.struct [(0, 1), (1, 1), (2, 1)] none, 3, 56, [.nil, .nil, .c (.v (.bool false))]⟩ := rfl
theorem qj2 : Tb 44 = some ⟨.slice 100, 1, 24, [.nil]⟩ := rfl
theorem qk2 : Tb 70 = some ⟨.slice 3, 1, 24, [.nil]⟩ := rfl
theorem sP1 : Tb 100 = some ⟨.struct [(0, 1), (1, 1)] none, 2, 32, [.c (.v (.int .i64 0)), .nil]⟩ := rfl
theorem sQ1 : Tb 104 = some ⟨.struct [(0, 1), (1, 1), (2, 2)] none, 4, 48, [.c (.v (.int .i64 0)), .c (.v (.int .i64 0)), .c (.v (.int .i64 0)), .nil]⟩ := rfl
theorem sR1 : Tb 110 = some ⟨.slice 235, 1, 24, [.nil]⟩ := rfl
theorem sS1 : Tb 162 = some ⟨.slice 230, 1, 24, [.nil]⟩ := rfl
theorem sT1 : Tb 164 = some ⟨.struct [(0, 1), (1, 4), (5, 4), (9, 1)] none, 10, 152, [.c (.v (.string ⟨⟨[]⟩⟩)), AC.c (C.v (Value.int IntKind.i64 0)), AC.c (C.v (Value.int IntKind.i64 0)), AC.c (C.v (Value.string ⟨⟨[]⟩⟩)), AC.nil, AC.c (C.v (Value.int IntKind.i64 0)), AC.c (C.v (Value.int IntKind.i64 0)), AC.c (C.v (Value.string ⟨⟨[]⟩⟩)), AC.nil, AC.nil]⟩ := rfl
theorem sU1 : Tb 171 = some ⟨.struct [(0, 1), (1, 1), (2, 1)] none, 3, 56, [.c (.v (.string ⟨⟨[]⟩⟩)), AC.nil, AC.c (C.v (Value.string ⟨⟨[]⟩⟩))]⟩ := rfl
theorem sV1 : Tb 174 = some ⟨.slice 261, 1, 24, [.nil]⟩ := rfl
theorem sW1 : Tb 181 = some ⟨.struct [(0, 1), (1, 1), (2, 1)] none, 3, 40, [.nil, .c (.v (.int .i64 0)), .c (.v (.int .i64 0))]⟩ := rfl
theorem sX1 : Tb 204 = some ⟨.struct [(0, 1), (1, 1)] (some [(0, CK.str), (1, CK.int .i64)]), 2, 24, [.c (.v (.string ⟨⟨[]⟩⟩)), AC.c (C.v (Value.int IntKind.i64 0))]⟩ := rfl
theorem sY1 : Tb 230 = some ⟨.struct [(0, 1), (1, 4), (5, 4)] none, 9, 120, [.c (.v (.int .i64 0)), .c (.v (.int .i64 0)), .c (.v (.int .i64 0)), .c (.v (.string ⟨⟨[]⟩⟩)), AC.nil, AC.c (C.v (Value.int IntKind.i64 0)), AC.c (C.v (Value.int IntKind.i64 0)), AC.c (C.v (Value.string ⟨⟨[]⟩⟩)), AC.nil]⟩ := rfl
theorem sZ1 : Tb 235 = some ⟨.struct [(0, 1), (1, 1)] (some [(0, CK.str), (1, CK.str)]), 2, 32, [.c (.v (.string ⟨⟨[]⟩⟩)), AC.c (C.v (Value.string ⟨⟨[]⟩⟩))]⟩ := rfl
theorem sa1 : Tb 261 = some ⟨.struct [(0, 1), (1, 4)] none, 5, 72, [.c (.v (.string ⟨⟨[]⟩⟩)), AC.c (C.v (Value.int IntKind.i64 0)), AC.c (C.v (Value.int IntKind.i64 0)), AC.c (C.v (Value.string ⟨⟨[]⟩⟩)), AC.nil]⟩ := rfl
theorem nt3 : Tryz.f3.ntmps = 102 := rfl
theorem rs3 : Tryz.f3.results.toList = [.tmp 2] := rfl
theorem nt8 : Tryz.f8.ntmps = 6 := rfl
theorem rs8 : Tryz.f8.results.toList = [.tmp 2] := rfl
theorem nt9 : Tryz.f9.ntmps = 8 := rfl
theorem rs9 : Tryz.f9.results.toList = [.cell 2 31, .cell 3 34] := rfl
theorem tn1 : Tryz.f10.ntmps = 90 := rfl
theorem zm2 : Tryz.f10.results.toList = [.cell 4 39] := rfl
theorem to1 : Tryz.f11.ntmps = 102 := rfl
theorem zn2 : Tryz.f11.results.toList = [.tmp 4] := rfl
theorem tp1 : Tryz.f12.ntmps = 37 := rfl
theorem zo2 : Tryz.f12.results.toList = [.cell 4 39] := rfl
theorem tq1 : Tryz.f13.ntmps = 23 := rfl
theorem zp2 : Tryz.f13.results.toList = [.tmp 4] := rfl
theorem tr1 : Tryz.f14.ntmps = 20 := rfl
theorem zq2 : Tryz.f14.results.toList = [.tmp 4] := rfl
theorem ts1 : Tryz.f15.ntmps = 63 := rfl
theorem zr2 : Tryz.f15.results.toList = [.tmp 4, .tmp 5] := rfl
theorem tt1 : Tryz.f16.ntmps = 52 := rfl
theorem zs2 : Tryz.f16.results.toList = [.cell 6 34, .tmp 7] := rfl
theorem tu1 : Tryz.f17.ntmps = 53 := rfl
theorem zt2 : Tryz.f17.results.toList = [.tmp 4] := rfl
theorem tv1 : Tryz.f18.ntmps = 32 := rfl
theorem zu2 : Tryz.f18.results.toList = [.cell 4 34, .tmp 5] := rfl
theorem tw1 : Tryz.f35.ntmps = 26 := rfl
theorem zv2 : Tryz.f35.results.toList = [.tmp 4] := rfl
theorem tx1 : Tryz.f40.ntmps = 42 := rfl
theorem zw2 : Tryz.f40.results.toList = [.tmp 4] := rfl
theorem ty1 : Tryz.f52.ntmps = 19 := rfl
theorem zx2 : Tryz.f52.results.toList = [.cell 2 31, .cell 3 34] := rfl
theorem tz1 : Tryz.f53.ntmps = 12 := rfl
theorem zy2 : Tryz.f53.results.toList = [.tmp 4] := rfl
theorem zA2 : Tryz.f54.ntmps = 29 := rfl
theorem qA2 : Tryz.f54.results.toList = [.cell 2 34] := rfl
theorem zB2 : Tryz.f55.ntmps = 59 := rfl
theorem qB2 : Tryz.f55.results.toList = [.tmp 6] := rfl
theorem zC2 : Tryz.f56.ntmps = 36 := rfl
theorem qC2 : Tryz.f56.results.toList = [.cell 6 34, .tmp 7] := rfl
theorem zD2 : Tryz.f57.ntmps = 8 := rfl
theorem qD2 : Tryz.f57.results.toList = [.tmp 4] := rfl
theorem zE2 : Tryz.f58.ntmps = 25 := rfl
theorem qE2 : Tryz.f58.results.toList = [.cell 2 34] := rfl
theorem zF2 : Tryz.f59.ntmps = 101 := rfl
theorem qF2 : Tryz.f59.results.toList = [.tmp 6] := rfl
theorem zG2 : Tryz.f60.ntmps = 48 := rfl
theorem qG2 : Tryz.f60.results.toList = [.tmp 2] := rfl
theorem zH2 : Tryz.f61.ntmps = 15 := rfl
theorem qH2 : Tryz.f61.results.toList = [.tmp 2] := rfl
theorem zI2 : Tryz.f62.ntmps = 8 := rfl
theorem qI2 : Tryz.f62.results.toList = [.tmp 2] := rfl
theorem zJ2 : Tryz.f63.ntmps = 71 := rfl
theorem qJ2 : Tryz.f63.results.toList = [.tmp 6] := rfl
theorem zK2 : Tryz.f64.ntmps = 19 := rfl
theorem qK2 : Tryz.f64.results.toList = [.tmp 4] := rfl
theorem zL2 : Tryz.f65.ntmps = 8 := rfl
theorem qL2 : Tryz.f65.results.toList = [.tmp 3] := rfl
theorem zM2 : Tryz.f66.ntmps = 28 := rfl
theorem qM2 : Tryz.f66.results.toList = [] := rfl
theorem zN2 : Tryz.f67.ntmps = 23 := rfl
theorem qN2 : Tryz.f67.results.toList = [.tmp 2] := rfl
theorem zO2 : Tryz.f68.ntmps = 30 := rfl
theorem qO2 : Tryz.f68.results.toList = [.tmp 4] := rfl
theorem zP2 : Tryz.f69.ntmps = 85 := rfl
theorem qP2 : Tryz.f69.results.toList = [.tmp 8] := rfl
theorem zQ2 : Tryz.f70.ntmps = 51 := rfl
theorem qQ2 : Tryz.f70.results.toList = [.cell 6 34, .tmp 7] := rfl
theorem zR2 : Tryz.f71.ntmps = 23 := rfl
theorem qR2 : Tryz.f71.results.toList = [.cell 4 100, .tmp 5] := rfl
theorem zS2 : Tryz.f73.ntmps = 32 := rfl
theorem qS2 : Tryz.f73.results.toList = [.tmp 2] := rfl
theorem zT2 : Tryz.f77.ntmps = 15 := rfl
theorem qT2 : Tryz.f77.results.toList = [.tmp 2] := rfl
theorem zU2 : Tryz.f81.ntmps = 48 := rfl
theorem qU2 : Tryz.f81.results.toList = [.cell 2 34] := rfl
theorem zV2 : Tryz.f85.ntmps = 31 := rfl
theorem qV2 : Tryz.f85.results.toList = [.tmp 4] := rfl
theorem zW2 : Tryz.f92.ntmps = 37 := rfl
theorem qW2 : Tryz.f92.results.toList = [.tmp 4] := rfl
theorem zX2 : Tryz.f93.ntmps = 15 := rfl
theorem qX2 : Tryz.f93.results.toList = [.tmp 6] := rfl
theorem gG1 : Tryz.f114.ntmps = 66 := rfl
theorem mw1 : Tryz.f114.results.toList = [.cell 2 31] := rfl
theorem gH1 : Tryz.f115.ntmps = 19 := rfl
theorem mx1 : Tryz.f115.results.toList = [.cell 2 34] := rfl
theorem gI1 : Tryz.f116.ntmps = 9 := rfl
theorem my1 : Tryz.f116.results.toList = [.tmp 4] := rfl
theorem gJ1 : Tryz.f117.ntmps = 42 := rfl
theorem mz1 : Tryz.f117.results.toList = [.cell 2 31] := rfl
theorem gK1 : Tryz.f118.ntmps = 91 := rfl
theorem nA1 : Tryz.f118.results.toList = [.tmp 2] := rfl
theorem gL1 : Tryz.f119.ntmps = 18 := rfl
theorem nB1 : Tryz.f119.results.toList = [.tmp 4] := rfl
theorem gM1 : Tryz.f120.ntmps = 38 := rfl
theorem nC1 : Tryz.f120.results.toList = [.cell 6 34, .tmp 7] := rfl
theorem gN1 : Tryz.f121.ntmps = 8 := rfl
theorem nD1 : Tryz.f121.results.toList = [.tmp 2] := rfl
theorem gO1 : Tryz.f122.ntmps = 12 := rfl
theorem nE1 : Tryz.f122.results.toList = [.tmp 4] := rfl
theorem gP1 : Tryz.f123.ntmps = 31 := rfl
theorem nF1 : Tryz.f123.results.toList = [.cell 4 34, .tmp 5] := rfl
theorem gQ1 : Tryz.f124.ntmps = 27 := rfl
theorem nG1 : Tryz.f124.results.toList = [.cell 6 34] := rfl
theorem gR1 : Tryz.f125.ntmps = 19 := rfl
theorem nH1 : Tryz.f125.results.toList = [.tmp 4] := rfl
theorem gS1 : Tryz.f126.ntmps = 7 := rfl
theorem nI1 : Tryz.f126.results.toList = [.tmp 3] := rfl
theorem gT1 : Tryz.f127.ntmps = 19 := rfl
theorem nJ1 : Tryz.f127.results.toList = [.tmp 4] := rfl
theorem gU1 : Tryz.f128.ntmps = 99 := rfl
theorem nK1 : Tryz.f128.results.toList = [.tmp 4] := rfl
theorem gV1 : Tryz.f129.ntmps = 72 := rfl
theorem nL1 : Tryz.f129.results.toList = [.tmp 2] := rfl
theorem gW1 : Tryz.f130.ntmps = 18 := rfl
theorem nM1 : Tryz.f130.results.toList = [.tmp 2] := rfl
theorem gX1 : Tryz.f131.ntmps = 61 := rfl
theorem nN1 : Tryz.f131.results.toList = [.tmp 2] := rfl
theorem gY1 : Tryz.f132.ntmps = 27 := rfl
theorem nO1 : Tryz.f132.results.toList = [.tmp 4] := rfl
theorem gZ1 : Tryz.f133.ntmps = 22 := rfl
theorem nP1 : Tryz.f133.results.toList = [.tmp 2] := rfl
theorem ga1 : Tryz.f134.ntmps = 20 := rfl
theorem nQ1 : Tryz.f134.results.toList = [.tmp 2] := rfl
theorem gb1 : Tryz.f135.ntmps = 29 := rfl
theorem nR1 : Tryz.f135.results.toList = [.tmp 4] := rfl
theorem gc1 : Tryz.f136.ntmps = 24 := rfl
theorem nS1 : Tryz.f136.results.toList = [.tmp 4] := rfl
theorem gd1 : Tryz.f137.ntmps = 40 := rfl
theorem nT1 : Tryz.f137.results.toList = [.cell 4 171, .tmp 5] := rfl
theorem ge1 : Tryz.f138.ntmps = 26 := rfl
theorem nU1 : Tryz.f138.results.toList = [.tmp 4] := rfl
theorem gf1 : Tryz.f139.ntmps = 36 := rfl
theorem nV1 : Tryz.f139.results.toList = [.tmp 4, .tmp 5] := rfl
theorem gg1 : Tryz.f140.ntmps = 33 := rfl
theorem nW1 : Tryz.f140.results.toList = [.tmp 4] := rfl
theorem gh1 : Tryz.f141.ntmps = 34 := rfl
theorem nX1 : Tryz.f141.results.toList = [.cell 4 34, .tmp 5] := rfl
theorem gi1 : Tryz.f142.ntmps = 33 := rfl
theorem nY1 : Tryz.f142.results.toList = [.cell 6 34] := rfl
theorem gj1 : Tryz.f143.ntmps = 78 := rfl
theorem nZ1 : Tryz.f143.results.toList = [.cell 2 34] := rfl
theorem gk1 : Tryz.f144.ntmps = 48 := rfl
theorem na1 : Tryz.f144.results.toList = [.cell 4 34] := rfl
theorem gl1 : Tryz.f145.ntmps = 69 := rfl
theorem nb1 : Tryz.f145.results.toList = [.cell 4 100, .tmp 5] := rfl
theorem gm1 : Tryz.f146.ntmps = 12 := rfl
theorem nc1 : Tryz.f146.results.toList = [.tmp 4] := rfl
theorem gn1 : Tryz.f149.ntmps = 19 := rfl
theorem nd1 : Tryz.f149.results.toList = [.tmp 2] := rfl
theorem go1 : Tryz.f150.ntmps = 20 := rfl
theorem ne1 : Tryz.f150.results.toList = [.tmp 2] := rfl
theorem gp1 : Tryz.f151.ntmps = 49 := rfl
theorem nf1 : Tryz.f151.results.toList = [.tmp 2] := rfl
theorem gq1 : Tryz.f153.ntmps = 27 := rfl
theorem ng1 : Tryz.f153.results.toList = [.tmp 4] := rfl
theorem gr1 : Tryz.f154.ntmps = 57 := rfl
theorem nh1 : Tryz.f154.results.toList = [.cell 6 34] := rfl
theorem gs1 : Tryz.f155.ntmps = 12 := rfl
theorem ni1 : Tryz.f155.results.toList = [.tmp 4] := rfl
theorem gt1 : Tryz.f156.ntmps = 5 := rfl
theorem nj1 : Tryz.f156.results.toList = [.cell 2 34] := rfl
theorem gu1 : Tryz.f157.ntmps = 9 := rfl
theorem nk1 : Tryz.f157.results.toList = [.cell 4 34] := rfl
theorem gv1 : Tryz.f158.ntmps = 32 := rfl
theorem nl1 : Tryz.f158.results.toList = [.tmp 6] := rfl
theorem gw1 : Tryz.f160.ntmps = 58 := rfl
theorem nm1 : Tryz.f160.results.toList = [.tmp 2] := rfl
theorem gx1 : Tryz.f180.ntmps = 16 := rfl
theorem nn1 : Tryz.f180.results.toList = [.cell 0 27] := rfl
theorem gy1 : Tryz.f181.ntmps = 125 := rfl
theorem no1 : Tryz.f181.results.toList = [.cell 4 164] := rfl
theorem gz1 : Tryz.f182.ntmps = 31 := rfl
theorem np1 : Tryz.f182.results.toList = [.tmp 2] := rfl
theorem lA1 : Tryz.f183.ntmps = 101 := rfl
theorem nq1 : Tryz.f183.results.toList = [.cell 8 34] := rfl
theorem lB1 : Tryz.f184.ntmps = 43 := rfl
theorem nr1 : Tryz.f184.results.toList = [.cell 2 27] := rfl
theorem lC1 : Tryz.f185.ntmps = 93 := rfl
theorem ns1 : Tryz.f185.results.toList = [.tmp 2] := rfl
theorem lD1 : Tryz.f186.ntmps = 84 := rfl
theorem nt1 : Tryz.f186.results.toList = [.tmp 4] := rfl
theorem lE1 : Tryz.f187.ntmps = 28 := rfl
theorem nu1 : Tryz.f187.results.toList = [.cell 4 171, .tmp 5] := rfl
theorem lF1 : Tryz.f188.ntmps = 13 := rfl
theorem nv1 : Tryz.f188.results.toList = [.tmp 2] := rfl
theorem lG1 : Tryz.f189.ntmps = 9 := rfl
theorem nw1 : Tryz.f189.results.toList = [.tmp 4] := rfl
theorem lH1 : Tryz.f191.ntmps = 7 := rfl
theorem nx1 : Tryz.f191.results.toList = [.tmp 2] := rfl
theorem lI1 : Tryz.f192.ntmps = 80 := rfl
theorem ny1 : Tryz.f192.results.toList = [.tmp 6] := rfl
theorem lJ1 : Tryz.f193.ntmps = 87 := rfl
theorem nz1 : Tryz.f193.results.toList = [.tmp 6, .tmp 7] := rfl
theorem lK1 : Tryz.f194.ntmps = 19 := rfl
theorem rA1 : Tryz.f194.results.toList = [.tmp 4] := rfl
theorem lL1 : Tryz.f195.ntmps = 76 := rfl
theorem rB1 : Tryz.f195.results.toList = [.cell 2 34] := rfl
theorem lM1 : Tryz.f196.ntmps = 47 := rfl
theorem rC1 : Tryz.f196.results.toList = [.cell 4 34] := rfl
theorem lN1 : Tryz.f197.ntmps = 26 := rfl
theorem rD1 : Tryz.f197.results.toList = [.tmp 4] := rfl
theorem lO1 : Tryz.f198.ntmps = 17 := rfl
theorem rE1 : Tryz.f198.results.toList = [.cell 6 34] := rfl
theorem lP1 : Tryz.f199.ntmps = 14 := rfl
theorem rF1 : Tryz.f199.results.toList = [.tmp 2] := rfl
theorem lQ1 : Tryz.f200.ntmps = 25 := rfl
theorem rG1 : Tryz.f200.results.toList = [.tmp 2] := rfl
theorem lR1 : Tryz.f201.ntmps = 34 := rfl
theorem rH1 : Tryz.f201.results.toList = [.tmp 6, .tmp 7] := rfl
theorem lS1 : Tryz.f202.ntmps = 29 := rfl
theorem rI1 : Tryz.f202.results.toList = [.tmp 4] := rfl
theorem lT1 : Tryz.f203.ntmps = 7 := rfl
theorem rJ1 : Tryz.f203.results.toList = [.tmp 2] := rfl
theorem lU1 : Tryz.f204.ntmps = 49 := rfl
theorem rK1 : Tryz.f204.results.toList = [.tmp 6] := rfl
theorem lV1 : Tryz.f205.ntmps = 42 := rfl
theorem rL1 : Tryz.f205.results.toList = [.tmp 4] := rfl
theorem lW1 : Tryz.f206.ntmps = 19 := rfl
theorem rM1 : Tryz.f206.results.toList = [.tmp 4] := rfl
theorem lX1 : Tryz.f207.ntmps = 13 := rfl
theorem rN1 : Tryz.f207.results.toList = [.tmp 2] := rfl
theorem lY1 : Tryz.f208.ntmps = 10 := rfl
theorem rO1 : Tryz.f208.results.toList = [.tmp 4] := rfl
theorem lZ1 : Tryz.f209.ntmps = 47 := rfl
theorem rP1 : Tryz.f209.results.toList = [.tmp 2] := rfl
theorem la1 : Tryz.f210.ntmps = 22 := rfl
theorem rQ1 : Tryz.f210.results.toList = [.tmp 4, .tmp 5] := rfl
theorem lc1 : Tryz.f211.ntmps = 47 := rfl
theorem rR1 : Tryz.f211.results.toList = [.tmp 2] := rfl
theorem ld1 : Tryz.f212.ntmps = 16 := rfl
theorem rS1 : Tryz.f212.results.toList = [.cell 4 230] := rfl
theorem le1 : Tryz.f213.ntmps = 22 := rfl
theorem rT1 : Tryz.f213.results.toList = [.tmp 2] := rfl
theorem lf1 : Tryz.f214.ntmps = 26 := rfl
theorem rU1 : Tryz.f214.results.toList = [.tmp 6] := rfl
theorem lg1 : Tryz.f215.ntmps = 19 := rfl
theorem rV1 : Tryz.f215.results.toList = [.cell 4 34, .tmp 5] := rfl
theorem lh1 : Tryz.f216.ntmps = 5 := rfl
theorem rW1 : Tryz.f216.results.toList = [.tmp 2] := rfl
theorem li1 : Tryz.f217.ntmps = 27 := rfl
theorem rX1 : Tryz.f217.results.toList = [.tmp 2] := rfl
theorem lj1 : Tryz.f218.ntmps = 5 := rfl
theorem rY1 : Tryz.f218.results.toList = [.tmp 2] := rfl
theorem lk1 : Tryz.f219.ntmps = 5 := rfl
theorem rZ1 : Tryz.f219.results.toList = [.cell 2 34] := rfl
theorem ll1 : Tryz.f220.ntmps = 8 := rfl
theorem ra1 : Tryz.f220.results.toList = [.cell 4 34] := rfl
theorem lm1 : Tryz.f221.ntmps = 12 := rfl
theorem rb1 : Tryz.f221.results.toList = [.cell 6 34] := rfl
theorem ln1 : Tryz.f229.ntmps = 12 := rfl
theorem rc1 : Tryz.f229.results.toList = [.cell 4 34] := rfl
theorem lo1 : Tryz.f230.ntmps = 29 := rfl
theorem rd1 : Tryz.f230.results.toList = [.cell 2 230] := rfl
theorem lp1 : Tryz.f231.ntmps = 8 := rfl
theorem re1 : Tryz.f231.results.toList = [.tmp 2] := rfl
theorem lq1 : Tryz.f232.ntmps = 9 := rfl
theorem rf1 : Tryz.f232.results.toList = [.tmp 4] := rfl
theorem lr1 : Tryz.f233.ntmps = 24 := rfl
theorem rg1 : Tryz.f233.results.toList = [.tmp 2] := rfl
theorem ls1 : Tryz.f234.ntmps = 32 := rfl
theorem rh1 : Tryz.f234.results.toList = [.tmp 6, .tmp 7] := rfl
theorem lt1 : Tryz.f235.ntmps = 27 := rfl
theorem ri1 : Tryz.f235.results.toList = [.tmp 2] := rfl
theorem lu1 : Tryz.f236.ntmps = 11 := rfl
theorem rj1 : Tryz.f236.results.toList = [.tmp 4] := rfl
theorem lv1 : Tryz.f237.ntmps = 79 := rfl
theorem rk1 : Tryz.f237.results.toList = [.tmp 8] := rfl
theorem lw1 : Tryz.f238.ntmps = 11 := rfl
theorem rl1 : Tryz.f238.results.toList = [.cell 2 171] := rfl
theorem lx1 : Tryz.f239.ntmps = 19 := rfl
theorem rm1 : Tryz.f239.results.toList = [.tmp 4] := rfl
theorem ly1 : Tryz.f241.ntmps = 22 := rfl
theorem rn1 : Tryz.f241.results.toList = [.cell 4 34, .tmp 5] := rfl
theorem lz1 : Tryz.f242.ntmps = 49 := rfl
theorem ro1 : Tryz.f242.results.toList = [.tmp 2] := rfl
theorem mA1 : Tryz.f243.ntmps = 16 := rfl
theorem rp1 : Tryz.f243.results.toList = [.cell 4 230] := rfl
theorem mB1 : Tryz.f244.ntmps = 25 := rfl
theorem rq1 : Tryz.f244.results.toList = [.tmp 6] := rfl
theorem mC1 : Tryz.f245.ntmps = 8 := rfl
theorem rr1 : Tryz.f245.results.toList = [.tmp 2] := rfl
theorem mD1 : Tryz.f246.ntmps = 9 := rfl
theorem rs1 : Tryz.f246.results.toList = [.tmp 2] := rfl
theorem mE1 : Tryz.f247.ntmps = 25 := rfl
theorem rt1 : Tryz.f247.results.toList = [.tmp 2] := rfl
theorem mF1 : Tryz.f248.ntmps = 93 := rfl
theorem ru1 : Tryz.f248.results.toList = [.tmp 8, .tmp 9] := rfl
theorem mG1 : Tryz.f249.ntmps = 64 := rfl
theorem rv1 : Tryz.f249.results.toList = [.tmp 2] := rfl
theorem mH1 : Tryz.f250.ntmps = 10 := rfl
theorem rw1 : Tryz.f250.results.toList = [.tmp 2] := rfl
theorem mI1 : Tryz.f251.ntmps = 14 := rfl
theorem rx1 : Tryz.f251.results.toList = [.tmp 4] := rfl
theorem mJ1 : Tryz.f252.ntmps = 19 := rfl
theorem ry1 : Tryz.f252.results.toList = [.tmp 2] := rfl
theorem mK1 : Tryz.f253.ntmps = 92 := rfl
theorem rz1 : Tryz.f253.results.toList = [.tmp 6, .tmp 7] := rfl
theorem mL1 : Tryz.f254.ntmps = 39 := rfl
theorem sA1 : Tryz.f254.results.toList = [.tmp 4] := rfl
theorem mM1 : Tryz.f255.ntmps = 20 := rfl
theorem sB1 : Tryz.f255.results.toList = [.tmp 4] := rfl
theorem mN1 : Tryz.f256.ntmps = 56 := rfl
theorem sC1 : Tryz.f256.results.toList = [.tmp 6] := rfl
theorem mO1 : Tryz.f261.ntmps = 19 := rfl
theorem sD1 : Tryz.f261.results.toList = [.tmp 4] := rfl
theorem mP1 : Tryz.f262.ntmps = 84 := rfl
theorem sE1 : Tryz.f262.results.toList = [.tmp 8, .tmp 9] := rfl
theorem mQ1 : Tryz.f263.ntmps = 24 := rfl
theorem sF1 : Tryz.f263.results.toList = [.tmp 4] := rfl
theorem mR1 : Tryz.f264.ntmps = 9 := rfl
theorem sG1 : Tryz.f264.results.toList = [.tmp 2] := rfl
theorem mS1 : Tryz.f267.ntmps = 9 := rfl
theorem sH1 : Tryz.f267.results.toList = [.tmp 2] := rfl
attribute [go_sem] tb3 tb4 tb5 tb9 qY2 qZ2 qa2 qb2 qc2 qd2 qe2 qf2 qg2 qh2 qi2 qj2 qk2 sP1 sQ1 sR1 sS1 sT1 sU1 sV1 sW1 sX1 sY1 sZ1 sa1 nt3 rs3 nt8 rs8 nt9 rs9 tn1 zm2 to1 zn2 tp1 zo2 tq1 zp2 tr1 zq2 ts1 zr2 tt1 zs2 tu1 zt2 tv1 zu2 tw1 zv2 tx1 zw2 ty1 zx2 tz1 zy2 zA2 qA2 zB2 qB2 zC2 qC2 zD2 qD2 zE2 qE2 zF2 qF2 zG2 qG2 zH2 qH2 zI2 qI2 zJ2 qJ2 zK2 qK2 zL2 qL2 zM2 qM2 zN2 qN2 zO2 qO2 zP2 qP2 zQ2 qQ2 zR2 qR2 zS2 qS2 zT2 qT2 zU2 qU2 zV2 qV2 zW2 qW2 zX2 qX2 gG1 mw1 gH1 mx1 gI1 my1 gJ1 mz1 gK1 nA1 gL1 nB1 gM1 nC1 gN1 nD1 gO1 nE1 gP1 nF1 gQ1 nG1 gR1 nH1 gS1 nI1 gT1 nJ1 gU1 nK1 gV1 nL1 gW1 nM1 gX1 nN1 gY1 nO1 gZ1 nP1 ga1 nQ1 gb1 nR1 gc1 nS1 gd1 nT1 ge1 nU1 gf1 nV1 gg1 nW1 gh1 nX1 gi1 nY1 gj1 nZ1 gk1 na1 gl1 nb1 gm1 nc1 gn1 nd1 go1 ne1 gp1 nf1 gq1 ng1 gr1 nh1 gs1 ni1 gt1 nj1 gu1 nk1 gv1 nl1 gw1 nm1 gx1 nn1 gy1 no1 gz1 np1 lA1 nq1 lB1 nr1 lC1 ns1 lD1 nt1 lE1 nu1 lF1 nv1 lG1 nw1 lH1 nx1 lI1 ny1 lJ1 nz1 lK1 rA1 lL1 rB1 lM1 rC1 lN1 rD1 lO1 rE1 lP1 rF1 lQ1 rG1 lR1 rH1 lS1 rI1 lT1 rJ1 lU1 rK1 lV1 rL1 lW1 rM1 lX1 rN1 lY1 rO1 lZ1 rP1 la1 rQ1 lc1 rR1 ld1 rS1 le1 rT1 lf1 rU1 lg1 rV1 lh1 rW1 li1 rX1 lj1 rY1 lk1 rZ1 ll1 ra1 lm1 rb1 ln1 rc1 lo1 rd1 lp1 re1 lq1 rf1 lr1 rg1 ls1 rh1 lt1 ri1 lu1 rj1 lv1 rk1 lw1 rl1 lx1 rm1 ly1 rn1 lz1 ro1 mA1 rp1 mB1 rq1 mC1 rr1 mD1 rs1 mE1 rt1 mF1 ru1 mG1 rv1 mH1 rw1 mI1 rx1 mJ1 ry1 mK1 rz1 mL1 sA1 mM1 sB1 mN1 sC1 mO1 sD1 mP1 sE1 mQ1 sF1 mR1 sG1 mS1 sH1
end Go.Ai
