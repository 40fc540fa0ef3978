/- The types' table of this seat's program, and what its functions give back. Written by mkseat.py. -/
import Derived.Test.YtphclghkljeaeaaGreatAiRows
import Derived.Test.YtphclghkljeaeaaGreatProg
import Derived.KernelRfl
set_option linter.unusedVariables false
set_option linter.unusedSimpArgs false
namespace Go.Ai
open Go.Proofs
set_option maxRecDepth 100000
def Tb : Tab := kj1 [
 (2, ⟨.int .i64, 1, 8, [.c (.v (.int .i64 0))]⟩),
 (3, ⟨.int .i64, 1, 8, [.c (.v (.int .i64 0))]⟩),
 (4, ⟨.bool, 1, 1, [.c (.v (.bool false))]⟩),
 (5, ⟨.int .u8, 1, 1, [.c (.v (.int .u8 0))]⟩),
 (9, ⟨.str, 1, 16, [.c (.v (.string ⟨⟨[]⟩⟩))]⟩),
 (12, ⟨.int .u64, 1, 8, [.c (.v (.int .u64 0))]⟩),
 (13, ⟨.struct [(0, 1), (1, 1)] none, 2, 24, [.c (.v (.string ⟨⟨[]⟩⟩)), AC.c (C.v (Value.int IntKind.u64 0))]⟩),
 (20, ⟨.iface, 1, 16, [.c (.v .nilIface)]⟩),
 (21, ⟨.int .i32, 1, 4, [.c (.v (.int .i32 0))]⟩),
 (22, ⟨.slice 5, 1, 24, [.nil]⟩),
 (24, ⟨.slice 9, 1, 24, [.nil]⟩),
 (25, ⟨.slice 171, 1, 24, [.nil]⟩),
 (26, ⟨.struct [(0, 1), (1, 1)] none, 2, 48, [.nil, .nil]⟩),
 (27, ⟨.struct [(0, 1), (1, 1)] none, 2, 48, [.nil, .nil]⟩),
 (28, ⟨.slice 164, 1, 24, [.nil]⟩),
 (29, ⟨.slice 204, 1, 24, [.nil]⟩),
 (30, ⟨.struct [(0, 2), (2, 1), (3, 1)] none, 4, 96, [.nil, .nil, .nil, .nil]⟩),
 (31, ⟨.struct [(0, 2), (2, 1), (3, 1)] none, 4, 96, [.nil, .nil, .nil, .nil]⟩),
 (32, ⟨.slice 34, 1, 24, [.nil]⟩),
 (33, ⟨.struct [(0, 1), (1, 1), (2, 1), (3, 1)] none, 4, 56, [.c (.v (.int .i64 0)), .c (.v (.int .i64 0)), .c (.v (.string ⟨⟨[]⟩⟩)), AC.nil]⟩),
 (34, ⟨.struct [(0, 1), (1, 1), (2, 1), (3, 1)] none, 4, 56, [.c (.v (.int .i64 0)), .c (.v (.int .i64 0)), .c (.v (.string ⟨⟨[]⟩⟩)), AC.nil]⟩),
 (37, ⟨.slice 104, 1, 24, [.nil]⟩),
 (38, ⟨.struct [(0, 1), (1, 1), (2, 1)] none, 3, 56, [.nil, .nil, .c (.v (.bool false))]⟩),
 (39, ⟨.struct [(0, 1), (1, 1), (2, 1)] none, 3, 56, [.nil, .nil, .c (.v (.bool false))]⟩),
 (44, ⟨.slice 100, 1, 24, [.nil]⟩),
 (51, ⟨.slice 124, 1, 24, [.nil]⟩),
 (52, ⟨.struct [(0, 4), (4, 1), (5, 1), (6, 1)] none, 7, 96, [.c (.v (.int .i64 0)), .c (.v (.int .i64 0)), .c (.v (.string ⟨⟨[]⟩⟩)), AC.nil, AC.c (C.v (Value.int IntKind.i64 0)), AC.nil, AC.c (C.v (Value.int IntKind.i64 0))]⟩),
 (53, ⟨.struct [(0, 4), (4, 1), (5, 1), (6, 1)] none, 7, 96, [.c (.v (.int .i64 0)), .c (.v (.int .i64 0)), .c (.v (.string ⟨⟨[]⟩⟩)), AC.nil, AC.c (C.v (Value.int IntKind.i64 0)), AC.nil, AC.c (C.v (Value.int IntKind.i64 0))]⟩),
 (65, ⟨.struct [(0, 1), (1, 4), (5, 1)] none, 6, 72, [.c (.v (.int .i64 0)), .c (.v (.int .i64 0)), .c (.v (.int .i64 0)), .c (.v (.string ⟨⟨[]⟩⟩)), AC.nil, AC.c (C.v (Value.int IntKind.i64 0))]⟩),
 (66, ⟨.struct [(0, 1), (1, 4), (5, 1)] none, 6, 72, [.c (.v (.int .i64 0)), .c (.v (.int .i64 0)), .c (.v (.int .i64 0)), .c (.v (.string ⟨⟨[]⟩⟩)), AC.nil, AC.c (C.v (Value.int IntKind.i64 0))]⟩),
 (70, ⟨.slice 3, 1, 24, [.nil]⟩),
 (78, ⟨.slice 246, 1, 24, [.nil]⟩),
 (79, ⟨.struct [(0, 1), (1, 1)] none, 2, 48, [.nil, .nil]⟩),
 (80, ⟨.struct [(0, 1), (1, 1)] none, 2, 48, [.nil, .nil]⟩),
 (81, ⟨.slice 197, 1, 24, [.nil]⟩),
 (82, ⟨.slice 200, 1, 24, [.nil]⟩),
 (83, ⟨.struct [(0, 2), (2, 1), (3, 1)] none, 4, 96, [.nil, .nil, .nil, .nil]⟩),
 (84, ⟨.struct [(0, 2), (2, 1), (3, 1)] none, 4, 96, [.nil, .nil, .nil, .nil]⟩),
 (85, ⟨.slice 87, 1, 24, [.nil]⟩),
 (86, ⟨.struct [(0, 1), (1, 1), (2, 1), (3, 1)] none, 4, 56, [.c (.v (.int .i64 0)), .c (.v (.int .i64 0)), .c (.v (.string ⟨⟨[]⟩⟩)), AC.nil]⟩),
 (87, ⟨.struct [(0, 1), (1, 1), (2, 1), (3, 1)] none, 4, 56, [.c (.v (.int .i64 0)), .c (.v (.int .i64 0)), .c (.v (.string ⟨⟨[]⟩⟩)), AC.nil]⟩),
 (99, ⟨.struct [(0, 1), (1, 1)] none, 2, 32, [.c (.v (.int .i64 0)), .nil]⟩),
 (100, ⟨.struct [(0, 1), (1, 1)] none, 2, 32, [.c (.v (.int .i64 0)), .nil]⟩),
 (103, ⟨.struct [(0, 1), (1, 1), (2, 2)] none, 4, 48, [.c (.v (.int .i64 0)), .c (.v (.int .i64 0)), .c (.v (.int .i64 0)), .nil]⟩),
 (104, ⟨.struct [(0, 1), (1, 1), (2, 2)] none, 4, 48, [.c (.v (.int .i64 0)), .c (.v (.int .i64 0)), .c (.v (.int .i64 0)), .nil]⟩),
 (105, ⟨.ptr, 1, 8, [.c (.v (.pointer none))]⟩),
 (110, ⟨.slice 235, 1, 24, [.nil]⟩),
 (120, ⟨.ptr, 1, 8, [.c (.v (.pointer none))]⟩),
 (123, ⟨.struct [(0, 4), (4, 1)] none, 5, 64, [.c (.v (.int .i64 0)), .c (.v (.int .i64 0)), .c (.v (.string ⟨⟨[]⟩⟩)), AC.nil, AC.c (C.v (Value.int IntKind.i64 0))]⟩),
 (124, ⟨.struct [(0, 4), (4, 1)] none, 5, 64, [.c (.v (.int .i64 0)), .c (.v (.int .i64 0)), .c (.v (.string ⟨⟨[]⟩⟩)), AC.nil, AC.c (C.v (Value.int IntKind.i64 0))]⟩),
 (129, ⟨.struct [(0, 6), (6, 1), (7, 1)] none, 8, 120, [.c (.v (.int .i64 0)), .c (.v (.int .i64 0)), .c (.v (.int .i64 0)), .c (.v (.string ⟨⟨[]⟩⟩)), AC.nil, AC.c (C.v (Value.int IntKind.i64 0)), AC.nil, AC.nil]⟩),
 (130, ⟨.struct [(0, 6), (6, 1), (7, 1)] none, 8, 120, [.c (.v (.int .i64 0)), .c (.v (.int .i64 0)), .c (.v (.int .i64 0)), .c (.v (.string ⟨⟨[]⟩⟩)), AC.nil, AC.c (C.v (Value.int IntKind.i64 0)), AC.nil, AC.nil]⟩),
 (131, ⟨.ptr, 1, 8, [.c (.v (.pointer none))]⟩),
 (162, ⟨.slice 230, 1, 24, [.nil]⟩),
 (163, ⟨.struct [(0, 1), (1, 4), (5, 4), (9, 1)] none, 10, 152, [.c (.v (.string ⟨⟨[]⟩⟩)), AC.c (C.v (Value.int IntKind.i64 0)), AC.c (C.v (Value.int IntKind.i64 0)), AC.c (C.v (Value.string ⟨⟨[]⟩⟩)), AC.nil, AC.c (C.v (Value.int IntKind.i64 0)), AC.c (C.v (Value.int IntKind.i64 0)), AC.c (C.v (Value.string ⟨⟨[]⟩⟩)), AC.nil, AC.nil]⟩),
 (164, ⟨.struct [(0, 1), (1, 4), (5, 4), (9, 1)] none, 10, 152, [.c (.v (.string ⟨⟨[]⟩⟩)), AC.c (C.v (Value.int IntKind.i64 0)), AC.c (C.v (Value.int IntKind.i64 0)), AC.c (C.v (Value.string ⟨⟨[]⟩⟩)), AC.nil, AC.c (C.v (Value.int IntKind.i64 0)), AC.c (C.v (Value.int IntKind.i64 0)), AC.c (C.v (Value.string ⟨⟨[]⟩⟩)), AC.nil, AC.nil]⟩),
 (170, ⟨.struct [(0, 1), (1, 1), (2, 1)] none, 3, 56, [.c (.v (.string ⟨⟨[]⟩⟩)), AC.nil, AC.c (C.v (Value.string ⟨⟨[]⟩⟩))]⟩),
 (171, ⟨.struct [(0, 1), (1, 1), (2, 1)] none, 3, 56, [.c (.v (.string ⟨⟨[]⟩⟩)), AC.nil, AC.c (C.v (Value.string ⟨⟨[]⟩⟩))]⟩),
 (174, ⟨.slice 261, 1, 24, [.nil]⟩),
 (180, ⟨.struct [(0, 1), (1, 1), (2, 1)] none, 3, 40, [.nil, .c (.v (.int .i64 0)), .c (.v (.int .i64 0))]⟩),
 (181, ⟨.struct [(0, 1), (1, 1), (2, 1)] none, 3, 40, [.nil, .c (.v (.int .i64 0)), .c (.v (.int .i64 0))]⟩),
 (195, ⟨.slice 271, 1, 24, [.nil]⟩),
 (196, ⟨.struct [(0, 1), (1, 4), (5, 4), (9, 1)] none, 10, 152, [.c (.v (.string ⟨⟨[]⟩⟩)), AC.c (C.v (Value.int IntKind.i64 0)), AC.c (C.v (Value.int IntKind.i64 0)), AC.c (C.v (Value.string ⟨⟨[]⟩⟩)), AC.nil, AC.c (C.v (Value.int IntKind.i64 0)), AC.c (C.v (Value.int IntKind.i64 0)), AC.c (C.v (Value.string ⟨⟨[]⟩⟩)), AC.nil, AC.nil]⟩),
 (197, ⟨.struct [(0, 1), (1, 4), (5, 4), (9, 1)] none, 10, 152, [.c (.v (.string ⟨⟨[]⟩⟩)), AC.c (C.v (Value.int IntKind.i64 0)), AC.c (C.v (Value.int IntKind.i64 0)), AC.c (C.v (Value.string ⟨⟨[]⟩⟩)), AC.nil, AC.c (C.v (Value.int IntKind.i64 0)), AC.c (C.v (Value.int IntKind.i64 0)), AC.c (C.v (Value.string ⟨⟨[]⟩⟩)), AC.nil, AC.nil]⟩),
 (199, ⟨.struct [(0, 1), (1, 1)] (some [(0, CK.str), (1, CK.int .i64)]), 2, 24, [.c (.v (.string ⟨⟨[]⟩⟩)), AC.c (C.v (Value.int IntKind.i64 0))]⟩),
 (200, ⟨.struct [(0, 1), (1, 1)] (some [(0, CK.str), (1, CK.int .i64)]), 2, 24, [.c (.v (.string ⟨⟨[]⟩⟩)), AC.c (C.v (Value.int IntKind.i64 0))]⟩),
 (204, ⟨.struct [(0, 1), (1, 1)] (some [(0, CK.str), (1, CK.int .i64)]), 2, 24, [.c (.v (.string ⟨⟨[]⟩⟩)), AC.c (C.v (Value.int IntKind.i64 0))]⟩),
 (229, ⟨.struct [(0, 1), (1, 4), (5, 4)] none, 9, 120, [.c (.v (.int .i64 0)), .c (.v (.int .i64 0)), .c (.v (.int .i64 0)), .c (.v (.string ⟨⟨[]⟩⟩)), AC.nil, AC.c (C.v (Value.int IntKind.i64 0)), AC.c (C.v (Value.int IntKind.i64 0)), AC.c (C.v (Value.string ⟨⟨[]⟩⟩)), AC.nil]⟩),
 (230, ⟨.struct [(0, 1), (1, 4), (5, 4)] none, 9, 120, [.c (.v (.int .i64 0)), .c (.v (.int .i64 0)), .c (.v (.int .i64 0)), .c (.v (.string ⟨⟨[]⟩⟩)), AC.nil, AC.c (C.v (Value.int IntKind.i64 0)), AC.c (C.v (Value.int IntKind.i64 0)), AC.c (C.v (Value.string ⟨⟨[]⟩⟩)), AC.nil]⟩),
 (234, ⟨.struct [(0, 1), (1, 1)] (some [(0, CK.str), (1, CK.str)]), 2, 32, [.c (.v (.string ⟨⟨[]⟩⟩)), AC.c (C.v (Value.string ⟨⟨[]⟩⟩))]⟩),
 (235, ⟨.struct [(0, 1), (1, 1)] (some [(0, CK.str), (1, CK.str)]), 2, 32, [.c (.v (.string ⟨⟨[]⟩⟩)), AC.c (C.v (Value.string ⟨⟨[]⟩⟩))]⟩),
 (244, ⟨.int .u64, 1, 8, [.c (.v (.int .u64 0))]⟩),
 (246, ⟨.struct [(0, 1), (1, 1), (2, 1)] none, 3, 56, [.c (.v (.string ⟨⟨[]⟩⟩)), AC.nil, AC.c (C.v (Value.string ⟨⟨[]⟩⟩))]⟩),
 (260, ⟨.struct [(0, 1), (1, 4)] none, 5, 72, [.c (.v (.string ⟨⟨[]⟩⟩)), AC.c (C.v (Value.int IntKind.i64 0)), AC.c (C.v (Value.int IntKind.i64 0)), AC.c (C.v (Value.string ⟨⟨[]⟩⟩)), AC.nil]⟩),
 (261, ⟨.struct [(0, 1), (1, 4)] none, 5, 72, [.c (.v (.string ⟨⟨[]⟩⟩)), AC.c (C.v (Value.int IntKind.i64 0)), AC.c (C.v (Value.int IntKind.i64 0)), AC.c (C.v (Value.string ⟨⟨[]⟩⟩)), AC.nil]⟩),
 (270, ⟨.struct [(0, 1), (1, 4), (5, 4)] none, 9, 120, [.c (.v (.int .i64 0)), .c (.v (.int .i64 0)), .c (.v (.int .i64 0)), .c (.v (.string ⟨⟨[]⟩⟩)), AC.nil, AC.c (C.v (Value.int IntKind.i64 0)), AC.c (C.v (Value.int IntKind.i64 0)), AC.c (C.v (Value.string ⟨⟨[]⟩⟩)), AC.nil]⟩),
 (271, ⟨.struct [(0, 1), (1, 4), (5, 4)] none, 9, 120, [.c (.v (.int .i64 0)), .c (.v (.int .i64 0)), .c (.v (.int .i64 0)), .c (.v (.string ⟨⟨[]⟩⟩)), AC.nil, AC.c (C.v (Value.int IntKind.i64 0)), AC.c (C.v (Value.int IntKind.i64 0)), AC.c (C.v (Value.string ⟨⟨[]⟩⟩)), AC.nil]⟩),
 (279, ⟨.int .i64, 1, 8, [.c (.v (.int .i64 0))]⟩),
 (288, ⟨.int .u32, 1, 4, [.c (.v (.int .u32 0))]⟩),
 (290, ⟨.int .u64, 1, 8, [.c (.v (.int .u64 0))]⟩),
 (291, ⟨.int .u64, 1, 8, [.c (.v (.int .u64 0))]⟩),
 (295, ⟨.ptr, 1, 8, [.c (.v (.pointer none))]⟩),
 (297, ⟨.ptr, 1, 8, [.c (.v (.pointer none))]⟩),
 (310, ⟨.ptr, 1, 8, [.c (.v (.pointer none))]⟩)]
theorem zE0 : zT0 Tryz.prog Tb := sP0 _ _ ⟨by kernel_rfl, by kernel_rfl, by kernel_rfl, by kernel_rfl, by kernel_rfl, by kernel_rfl, by kernel_rfl, by kernel_rfl, by kernel_rfl, by kernel_rfl, by kernel_rfl, by kernel_rfl, by kernel_rfl, by kernel_rfl, by kernel_rfl, by kernel_rfl, by kernel_rfl, by kernel_rfl, by kernel_rfl, by kernel_rfl, by kernel_rfl, by kernel_rfl, by kernel_rfl, by kernel_rfl, by kernel_rfl, by kernel_rfl, by kernel_rfl, by kernel_rfl, by kernel_rfl, by kernel_rfl, by kernel_rfl, by kernel_rfl, by kernel_rfl, by kernel_rfl, by kernel_rfl, by kernel_rfl, by kernel_rfl, by kernel_rfl, by kernel_rfl, by kernel_rfl, by kernel_rfl, by kernel_rfl, by kernel_rfl, by kernel_rfl, by kernel_rfl, by kernel_rfl, by kernel_rfl, by kernel_rfl, by kernel_rfl, by kernel_rfl, by kernel_rfl, by kernel_rfl, by kernel_rfl, by kernel_rfl, by kernel_rfl, by kernel_rfl, by kernel_rfl, by kernel_rfl, by kernel_rfl, by kernel_rfl, by kernel_rfl, by kernel_rfl, by kernel_rfl, by kernel_rfl, by kernel_rfl, by kernel_rfl, by kernel_rfl, by kernel_rfl, by kernel_rfl, by kernel_rfl, by kernel_rfl, by kernel_rfl, by kernel_rfl, by kernel_rfl, by kernel_rfl, by kernel_rfl, by kernel_rfl, by kernel_rfl, by kernel_rfl, by kernel_rfl, by kernel_rfl, by kernel_rfl, by kernel_rfl, by kernel_rfl, trivial⟩
theorem zA0 : Tryz.prog.follows .mixedOrders = true := by kernel_rfl
theorem tb3 : Tb 3 = some ⟨.int .i64, 1, 8, [.c (.v (.int .i64 0))]⟩ := rfl
theorem tb4 : Tb 4 = some ⟨.bool, 1, 1, [.c (.v (.bool false))]⟩ := rfl
theorem tb5 : Tb 5 = some ⟨.int .u8, 1, 1, [.c (.v (.int .u8 0))]⟩ := rfl
theorem tb9 : Tb 9 = some ⟨.str, 1, 16, [.c (.v (.string ⟨⟨[]⟩⟩))]⟩ := rfl
theorem sk1 : Tb 22 = some ⟨.slice 5, 1, 24, [.nil]⟩ := rfl
theorem sl1 : Tb 24 = some ⟨.slice 9, 1, 24, [.nil]⟩ := rfl
theorem sm1 : Tb 25 = some ⟨.slice 171, 1, 24, [.nil]⟩ := rfl
theorem sn1 : Tb 27 = some ⟨.struct [(0, 1), (1, 1)] none, 2, 48, [.nil, .nil]⟩ := rfl
theorem so1 : Tb 28 = some ⟨.slice 164, 1, 24, [.nil]⟩ := rfl
theorem sp1 : Tb 29 = some ⟨.slice 204, 1, 24, [.nil]⟩ := rfl
theorem sq1 : Tb 31 = some ⟨.struct [(0, 2), (2, 1), (3, 1)] none, 4, 96, [.nil, .nil, .nil, .nil]⟩ := rfl
theorem sr1 : Tb 32 = some ⟨.slice 34, 1, 24, [.nil]⟩ := rfl
theorem ss1 : Tb 34 = some ⟨.struct [(0, 1), (1, 1), (2, 1), (3, 1)] none, 4, 56, [.c (.v (.int .i64 0)), .c (.v (.int .i64 0)), .c (.v (.string ⟨⟨[]⟩⟩)), AC.nil]⟩ := rfl
theorem st1 : Tb 51 = some ⟨.slice 124, 1, 24, [.nil]⟩ := rfl
theorem su1 : Tb 53 = some ⟨.struct [(0, 4), (4, 1), (5, 1), (6, 1)] none, 7, 96, [.c (.v (.int .i64 0)), .c (.v (.int .i64 0)), .c (.v (.string ⟨⟨[]⟩⟩)), AC.nil, AC.c (C.v (Value.int IntKind.i64 0)), AC.nil, AC.c (C.v (Value.int IntKind.i64 0))]⟩ := rfl
theorem sv1 : Tb 70 = some ⟨.slice 3, 1, 24, [.nil]⟩ := rfl
theorem mq1 : Tb 100 = some ⟨.struct [(0, 1), (1, 1)] none, 2, 32, [.c (.v (.int .i64 0)), .nil]⟩ := rfl
theorem ms1 : Tb 110 = some ⟨.slice 235, 1, 24, [.nil]⟩ := rfl
theorem mt1 : Tb 124 = some ⟨.struct [(0, 4), (4, 1)] none, 5, 64, [.c (.v (.int .i64 0)), .c (.v (.int .i64 0)), .c (.v (.string ⟨⟨[]⟩⟩)), AC.nil, AC.c (C.v (Value.int IntKind.i64 0))]⟩ := rfl
theorem mu1 : Tb 162 = some ⟨.slice 230, 1, 24, [.nil]⟩ := rfl
theorem mv1 : Tb 164 = some ⟨.struct [(0, 1), (1, 4), (5, 4), (9, 1)] none, 10, 152, [.c (.v (.string ⟨⟨[]⟩⟩)), AC.c (C.v (Value.int IntKind.i64 0)), AC.c (C.v (Value.int IntKind.i64 0)), AC.c (C.v (Value.string ⟨⟨[]⟩⟩)), AC.nil, AC.c (C.v (Value.int IntKind.i64 0)), AC.c (C.v (Value.int IntKind.i64 0)), AC.c (C.v (Value.string ⟨⟨[]⟩⟩)), AC.nil, AC.nil]⟩ := rfl
theorem mw1 : Tb 171 = some ⟨.struct [(0, 1), (1, 1), (2, 1)] none, 3, 56, [.c (.v (.string ⟨⟨[]⟩⟩)), AC.nil, AC.c (C.v (Value.string ⟨⟨[]⟩⟩))]⟩ := rfl
theorem mx1 : Tb 174 = some ⟨.slice 261, 1, 24, [.nil]⟩ := rfl
theorem my1 : Tb 181 = some ⟨.struct [(0, 1), (1, 1), (2, 1)] none, 3, 40, [.nil, .c (.v (.int .i64 0)), .c (.v (.int .i64 0))]⟩ := rfl
theorem mz1 : Tb 204 = some ⟨.struct [(0, 1), (1, 1)] (some [(0, CK.str), (1, CK.int .i64)]), 2, 24, [.c (.v (.string ⟨⟨[]⟩⟩)), AC.c (C.v (Value.int IntKind.i64 0))]⟩ := rfl
theorem nA1 : Tb 230 = some ⟨.struct [(0, 1), (1, 4), (5, 4)] none, 9, 120, [.c (.v (.int .i64 0)), .c (.v (.int .i64 0)), .c (.v (.int .i64 0)), .c (.v (.string ⟨⟨[]⟩⟩)), AC.nil, AC.c (C.v (Value.int IntKind.i64 0)), AC.c (C.v (Value.int IntKind.i64 0)), AC.c (C.v (Value.string ⟨⟨[]⟩⟩)), AC.nil]⟩ := rfl
theorem nB1 : Tb 235 = some ⟨.struct [(0, 1), (1, 1)] (some [(0, CK.str), (1, CK.str)]), 2, 32, [.c (.v (.string ⟨⟨[]⟩⟩)), AC.c (C.v (Value.string ⟨⟨[]⟩⟩))]⟩ := rfl
theorem nC1 : Tb 261 = some ⟨.struct [(0, 1), (1, 4)] none, 5, 72, [.c (.v (.string ⟨⟨[]⟩⟩)), AC.c (C.v (Value.int IntKind.i64 0)), AC.c (C.v (Value.int IntKind.i64 0)), AC.c (C.v (Value.string ⟨⟨[]⟩⟩)), AC.nil]⟩ := rfl
theorem nt4 : Tryz.f4.ntmps = 99 := rfl
theorem rs4 : Tryz.f4.results.toList = [.tmp 2] := rfl
theorem nt8 : Tryz.f8.ntmps = 6 := rfl
theorem rs8 : Tryz.f8.results.toList = [.tmp 2] := rfl
theorem rO1 : Tryz.f13.ntmps = 23 := rfl
theorem sE1 : Tryz.f13.results.toList = [.tmp 4] := rfl
theorem rP1 : Tryz.f17.ntmps = 53 := rfl
theorem sF1 : Tryz.f17.results.toList = [.tmp 4] := rfl
theorem rQ1 : Tryz.f19.ntmps = 9 := rfl
theorem sG1 : Tryz.f19.results.toList = [.cell 2 31, .cell 3 53] := rfl
theorem rR1 : Tryz.f20.ntmps = 60 := rfl
theorem sH1 : Tryz.f20.results.toList = [.cell 4 53, .tmp 5] := rfl
theorem rS1 : Tryz.f21.ntmps = 56 := rfl
theorem sI1 : Tryz.f21.results.toList = [.cell 4 53, .tmp 5] := rfl
theorem rT1 : Tryz.f22.ntmps = 71 := rfl
theorem sJ1 : Tryz.f22.results.toList = [.tmp 4] := rfl
theorem rU1 : Tryz.f23.ntmps = 17 := rfl
theorem sK1 : Tryz.f23.results.toList = [.cell 4 34, .tmp 5] := rfl
theorem rV1 : Tryz.f24.ntmps = 6 := rfl
theorem sL1 : Tryz.f24.results.toList = [.cell 2 34] := rfl
theorem rW1 : Tryz.f25.ntmps = 6 := rfl
theorem sM1 : Tryz.f25.results.toList = [.cell 2 53] := rfl
theorem rX1 : Tryz.f53.ntmps = 12 := rfl
theorem sN1 : Tryz.f53.results.toList = [.tmp 4] := rfl
theorem rY1 : Tryz.f54.ntmps = 29 := rfl
theorem sO1 : Tryz.f54.results.toList = [.cell 2 34] := rfl
theorem rZ1 : Tryz.f58.ntmps = 25 := rfl
theorem sP1 : Tryz.f58.results.toList = [.cell 2 34] := rfl
theorem ra1 : Tryz.f60.ntmps = 48 := rfl
theorem sQ1 : Tryz.f60.results.toList = [.tmp 2] := rfl
theorem rb1 : Tryz.f61.ntmps = 15 := rfl
theorem sR1 : Tryz.f61.results.toList = [.tmp 2] := rfl
theorem rc1 : Tryz.f62.ntmps = 8 := rfl
theorem sS1 : Tryz.f62.results.toList = [.tmp 2] := rfl
theorem rd1 : Tryz.f63.ntmps = 71 := rfl
theorem sT1 : Tryz.f63.results.toList = [.tmp 6] := rfl
theorem re1 : Tryz.f70.ntmps = 51 := rfl
theorem sU1 : Tryz.f70.results.toList = [.cell 6 34, .tmp 7] := rfl
theorem rf1 : Tryz.f72.ntmps = 53 := rfl
theorem sV1 : Tryz.f72.results.toList = [.cell 2 31, .cell 3 53] := rfl
theorem rg1 : Tryz.f73.ntmps = 32 := rfl
theorem sW1 : Tryz.f73.results.toList = [.tmp 2] := rfl
theorem rh1 : Tryz.f74.ntmps = 36 := rfl
theorem sX1 : Tryz.f74.results.toList = [.cell 4 34, .tmp 5] := rfl
theorem ri1 : Tryz.f75.ntmps = 34 := rfl
theorem sY1 : Tryz.f75.results.toList = [.cell 2 53] := rfl
theorem rj1 : Tryz.f76.ntmps = 102 := rfl
theorem sZ1 : Tryz.f76.results.toList = [.cell 4 53, .tmp 5] := rfl
theorem rk1 : Tryz.f77.ntmps = 15 := rfl
theorem sa1 : Tryz.f77.results.toList = [.tmp 2] := rfl
theorem rl1 : Tryz.f78.ntmps = 45 := rfl
theorem sb1 : Tryz.f78.results.toList = [.cell 4 34, .tmp 5] := rfl
theorem rm1 : Tryz.f79.ntmps = 40 := rfl
theorem sc1 : Tryz.f79.results.toList = [.cell 2 53] := rfl
theorem rn1 : Tryz.f80.ntmps = 117 := rfl
theorem sd1 : Tryz.f80.results.toList = [.cell 4 53, .tmp 5] := rfl
theorem ro1 : Tryz.f81.ntmps = 48 := rfl
theorem se1 : Tryz.f81.results.toList = [.cell 2 34] := rfl
theorem rp1 : Tryz.f84.ntmps = 6 := rfl
theorem sf1 : Tryz.f84.results.toList = [.cell 2 53] := rfl
theorem rq1 : Tryz.f85.ntmps = 31 := rfl
theorem sg1 : Tryz.f85.results.toList = [.tmp 4] := rfl
theorem rr1 : Tryz.f92.ntmps = 37 := rfl
theorem sh1 : Tryz.f92.results.toList = [.tmp 4] := rfl
theorem rs1 : Tryz.f93.ntmps = 15 := rfl
theorem si1 : Tryz.f93.results.toList = [.tmp 6] := rfl
theorem bl1 : Tryz.f114.ntmps = 66 := rfl
theorem gT1 : Tryz.f114.results.toList = [.cell 2 31] := rfl
theorem bm1 : Tryz.f115.ntmps = 19 := rfl
theorem gU1 : Tryz.f115.results.toList = [.cell 2 34] := rfl
theorem bn1 : Tryz.f116.ntmps = 9 := rfl
theorem gV1 : Tryz.f116.results.toList = [.tmp 4] := rfl
theorem bo1 : Tryz.f118.ntmps = 91 := rfl
theorem gW1 : Tryz.f118.results.toList = [.tmp 2] := rfl
theorem bp1 : Tryz.f119.ntmps = 18 := rfl
theorem gX1 : Tryz.f119.results.toList = [.tmp 4] := rfl
theorem bq1 : Tryz.f120.ntmps = 38 := rfl
theorem gY1 : Tryz.f120.results.toList = [.cell 6 34, .tmp 7] := rfl
theorem br1 : Tryz.f122.ntmps = 12 := rfl
theorem gZ1 : Tryz.f122.results.toList = [.tmp 4] := rfl
theorem bs1 : Tryz.f128.ntmps = 99 := rfl
theorem ga1 : Tryz.f128.results.toList = [.tmp 4] := rfl
theorem bt1 : Tryz.f129.ntmps = 72 := rfl
theorem gb1 : Tryz.f129.results.toList = [.tmp 2] := rfl
theorem bu1 : Tryz.f130.ntmps = 18 := rfl
theorem gc1 : Tryz.f130.results.toList = [.tmp 2] := rfl
theorem bv1 : Tryz.f131.ntmps = 61 := rfl
theorem gd1 : Tryz.f131.results.toList = [.tmp 2] := rfl
theorem bw1 : Tryz.f132.ntmps = 27 := rfl
theorem ge1 : Tryz.f132.results.toList = [.tmp 4] := rfl
theorem bx1 : Tryz.f133.ntmps = 22 := rfl
theorem gf1 : Tryz.f133.results.toList = [.tmp 2] := rfl
theorem by1 : Tryz.f134.ntmps = 20 := rfl
theorem gg1 : Tryz.f134.results.toList = [.tmp 2] := rfl
theorem bz1 : Tryz.f135.ntmps = 29 := rfl
theorem gh1 : Tryz.f135.results.toList = [.tmp 4] := rfl
theorem cA1 : Tryz.f136.ntmps = 24 := rfl
theorem gi1 : Tryz.f136.results.toList = [.tmp 4] := rfl
theorem cB1 : Tryz.f137.ntmps = 40 := rfl
theorem gj1 : Tryz.f137.results.toList = [.cell 4 171, .tmp 5] := rfl
theorem cC1 : Tryz.f139.ntmps = 36 := rfl
theorem gk1 : Tryz.f139.results.toList = [.tmp 4, .tmp 5] := rfl
theorem cD1 : Tryz.f140.ntmps = 33 := rfl
theorem gl1 : Tryz.f140.results.toList = [.tmp 4] := rfl
theorem cE1 : Tryz.f141.ntmps = 34 := rfl
theorem gm1 : Tryz.f141.results.toList = [.cell 4 34, .tmp 5] := rfl
theorem cF1 : Tryz.f142.ntmps = 33 := rfl
theorem gn1 : Tryz.f142.results.toList = [.cell 6 34] := rfl
theorem cG1 : Tryz.f143.ntmps = 78 := rfl
theorem go1 : Tryz.f143.results.toList = [.cell 2 34] := rfl
theorem cH1 : Tryz.f144.ntmps = 48 := rfl
theorem gp1 : Tryz.f144.results.toList = [.cell 4 34] := rfl
theorem cI1 : Tryz.f146.ntmps = 12 := rfl
theorem gq1 : Tryz.f146.results.toList = [.tmp 4] := rfl
theorem cJ1 : Tryz.f147.ntmps = 53 := rfl
theorem gr1 : Tryz.f147.results.toList = [.cell 6 34, .tmp 7] := rfl
theorem cK1 : Tryz.f148.ntmps = 24 := rfl
theorem gs1 : Tryz.f148.results.toList = [.tmp 4] := rfl
theorem cL1 : Tryz.f149.ntmps = 19 := rfl
theorem gt1 : Tryz.f149.results.toList = [.tmp 2] := rfl
theorem cM1 : Tryz.f150.ntmps = 20 := rfl
theorem gu1 : Tryz.f150.results.toList = [.tmp 2] := rfl
theorem cN1 : Tryz.f151.ntmps = 49 := rfl
theorem gv1 : Tryz.f151.results.toList = [.tmp 2] := rfl
theorem cO1 : Tryz.f152.ntmps = 43 := rfl
theorem gw1 : Tryz.f152.results.toList = [.tmp 4] := rfl
theorem cP1 : Tryz.f153.ntmps = 27 := rfl
theorem gx1 : Tryz.f153.results.toList = [.tmp 4] := rfl
theorem cQ1 : Tryz.f154.ntmps = 57 := rfl
theorem gy1 : Tryz.f154.results.toList = [.cell 6 34] := rfl
theorem cR1 : Tryz.f155.ntmps = 12 := rfl
theorem gz1 : Tryz.f155.results.toList = [.tmp 4] := rfl
theorem cS1 : Tryz.f156.ntmps = 5 := rfl
theorem lA1 : Tryz.f156.results.toList = [.cell 2 34] := rfl
theorem cT1 : Tryz.f157.ntmps = 9 := rfl
theorem lB1 : Tryz.f157.results.toList = [.cell 4 34] := rfl
theorem cU1 : Tryz.f158.ntmps = 32 := rfl
theorem lC1 : Tryz.f158.results.toList = [.tmp 6] := rfl
theorem cV1 : Tryz.f160.ntmps = 58 := rfl
theorem lD1 : Tryz.f160.results.toList = [.tmp 2] := rfl
theorem cW1 : Tryz.f180.ntmps = 16 := rfl
theorem lE1 : Tryz.f180.results.toList = [.cell 0 27] := rfl
theorem cX1 : Tryz.f181.ntmps = 125 := rfl
theorem lF1 : Tryz.f181.results.toList = [.cell 4 164] := rfl
theorem cY1 : Tryz.f182.ntmps = 31 := rfl
theorem lG1 : Tryz.f182.results.toList = [.tmp 2] := rfl
theorem cZ1 : Tryz.f183.ntmps = 101 := rfl
theorem lH1 : Tryz.f183.results.toList = [.cell 8 34] := rfl
theorem ca1 : Tryz.f185.ntmps = 93 := rfl
theorem lI1 : Tryz.f185.results.toList = [.tmp 2] := rfl
theorem cb1 : Tryz.f186.ntmps = 84 := rfl
theorem lJ1 : Tryz.f186.results.toList = [.tmp 4] := rfl
theorem cc1 : Tryz.f187.ntmps = 28 := rfl
theorem lK1 : Tryz.f187.results.toList = [.cell 4 171, .tmp 5] := rfl
theorem cd1 : Tryz.f188.ntmps = 13 := rfl
theorem lL1 : Tryz.f188.results.toList = [.tmp 2] := rfl
theorem ce1 : Tryz.f189.ntmps = 9 := rfl
theorem lM1 : Tryz.f189.results.toList = [.tmp 4] := rfl
theorem cf1 : Tryz.f191.ntmps = 7 := rfl
theorem lN1 : Tryz.f191.results.toList = [.tmp 2] := rfl
theorem cg1 : Tryz.f192.ntmps = 80 := rfl
theorem lO1 : Tryz.f192.results.toList = [.tmp 6] := rfl
theorem ch1 : Tryz.f193.ntmps = 87 := rfl
theorem lP1 : Tryz.f193.results.toList = [.tmp 6, .tmp 7] := rfl
theorem ci1 : Tryz.f194.ntmps = 19 := rfl
theorem lQ1 : Tryz.f194.results.toList = [.tmp 4] := rfl
theorem cj1 : Tryz.f195.ntmps = 76 := rfl
theorem lR1 : Tryz.f195.results.toList = [.cell 2 34] := rfl
theorem ck1 : Tryz.f196.ntmps = 47 := rfl
theorem lS1 : Tryz.f196.results.toList = [.cell 4 34] := rfl
theorem cl1 : Tryz.f197.ntmps = 26 := rfl
theorem lT1 : Tryz.f197.results.toList = [.tmp 4] := rfl
theorem cm1 : Tryz.f198.ntmps = 17 := rfl
theorem lU1 : Tryz.f198.results.toList = [.cell 6 34] := rfl
theorem cn1 : Tryz.f199.ntmps = 14 := rfl
theorem lV1 : Tryz.f199.results.toList = [.tmp 2] := rfl
theorem co1 : Tryz.f200.ntmps = 25 := rfl
theorem lW1 : Tryz.f200.results.toList = [.tmp 2] := rfl
theorem cp1 : Tryz.f201.ntmps = 34 := rfl
theorem lX1 : Tryz.f201.results.toList = [.tmp 6, .tmp 7] := rfl
theorem cq1 : Tryz.f202.ntmps = 29 := rfl
theorem lY1 : Tryz.f202.results.toList = [.tmp 4] := rfl
theorem cr1 : Tryz.f203.ntmps = 7 := rfl
theorem lZ1 : Tryz.f203.results.toList = [.tmp 2] := rfl
theorem cs1 : Tryz.f204.ntmps = 49 := rfl
theorem la1 : Tryz.f204.results.toList = [.tmp 6] := rfl
theorem ct1 : Tryz.f205.ntmps = 42 := rfl
theorem lc1 : Tryz.f205.results.toList = [.tmp 4] := rfl
theorem cu1 : Tryz.f206.ntmps = 19 := rfl
theorem ld1 : Tryz.f206.results.toList = [.tmp 4] := rfl
theorem cv1 : Tryz.f207.ntmps = 13 := rfl
theorem le1 : Tryz.f207.results.toList = [.tmp 2] := rfl
theorem cw1 : Tryz.f208.ntmps = 10 := rfl
theorem lf1 : Tryz.f208.results.toList = [.tmp 4] := rfl
theorem cx1 : Tryz.f209.ntmps = 47 := rfl
theorem lg1 : Tryz.f209.results.toList = [.tmp 2] := rfl
theorem cy1 : Tryz.f210.ntmps = 22 := rfl
theorem lh1 : Tryz.f210.results.toList = [.tmp 4, .tmp 5] := rfl
theorem cz1 : Tryz.f211.ntmps = 47 := rfl
theorem li1 : Tryz.f211.results.toList = [.tmp 2] := rfl
theorem dA1 : Tryz.f212.ntmps = 16 := rfl
theorem lj1 : Tryz.f212.results.toList = [.cell 4 230] := rfl
theorem dB1 : Tryz.f213.ntmps = 22 := rfl
theorem lk1 : Tryz.f213.results.toList = [.tmp 2] := rfl
theorem dC1 : Tryz.f214.ntmps = 26 := rfl
theorem ll1 : Tryz.f214.results.toList = [.tmp 6] := rfl
theorem dD1 : Tryz.f215.ntmps = 19 := rfl
theorem lm1 : Tryz.f215.results.toList = [.cell 4 34, .tmp 5] := rfl
theorem dE1 : Tryz.f216.ntmps = 5 := rfl
theorem ln1 : Tryz.f216.results.toList = [.tmp 2] := rfl
theorem dF1 : Tryz.f217.ntmps = 27 := rfl
theorem lo1 : Tryz.f217.results.toList = [.tmp 2] := rfl
theorem dG1 : Tryz.f218.ntmps = 5 := rfl
theorem lp1 : Tryz.f218.results.toList = [.tmp 2] := rfl
theorem dH1 : Tryz.f219.ntmps = 5 := rfl
theorem lq1 : Tryz.f219.results.toList = [.cell 2 34] := rfl
theorem dI1 : Tryz.f220.ntmps = 8 := rfl
theorem lr1 : Tryz.f220.results.toList = [.cell 4 34] := rfl
theorem dJ1 : Tryz.f221.ntmps = 12 := rfl
theorem ls1 : Tryz.f221.results.toList = [.cell 6 34] := rfl
theorem dK1 : Tryz.f229.ntmps = 12 := rfl
theorem lt1 : Tryz.f229.results.toList = [.cell 4 34] := rfl
theorem dL1 : Tryz.f230.ntmps = 29 := rfl
theorem lu1 : Tryz.f230.results.toList = [.cell 2 230] := rfl
theorem dM1 : Tryz.f231.ntmps = 8 := rfl
theorem lv1 : Tryz.f231.results.toList = [.tmp 2] := rfl
theorem dN1 : Tryz.f232.ntmps = 9 := rfl
theorem lw1 : Tryz.f232.results.toList = [.tmp 4] := rfl
theorem dO1 : Tryz.f233.ntmps = 24 := rfl
theorem lx1 : Tryz.f233.results.toList = [.tmp 2] := rfl
theorem dP1 : Tryz.f234.ntmps = 32 := rfl
theorem ly1 : Tryz.f234.results.toList = [.tmp 6, .tmp 7] := rfl
theorem dQ1 : Tryz.f235.ntmps = 27 := rfl
theorem lz1 : Tryz.f235.results.toList = [.tmp 2] := rfl
theorem dR1 : Tryz.f236.ntmps = 11 := rfl
theorem mA1 : Tryz.f236.results.toList = [.tmp 4] := rfl
theorem dS1 : Tryz.f237.ntmps = 79 := rfl
theorem mB1 : Tryz.f237.results.toList = [.tmp 8] := rfl
theorem dT1 : Tryz.f238.ntmps = 11 := rfl
theorem mC1 : Tryz.f238.results.toList = [.cell 2 171] := rfl
theorem dU1 : Tryz.f239.ntmps = 19 := rfl
theorem mD1 : Tryz.f239.results.toList = [.tmp 4] := rfl
theorem dV1 : Tryz.f241.ntmps = 22 := rfl
theorem mE1 : Tryz.f241.results.toList = [.cell 4 34, .tmp 5] := rfl
theorem dW1 : Tryz.f242.ntmps = 49 := rfl
theorem mF1 : Tryz.f242.results.toList = [.tmp 2] := rfl
theorem dX1 : Tryz.f243.ntmps = 16 := rfl
theorem mG1 : Tryz.f243.results.toList = [.cell 4 230] := rfl
theorem dY1 : Tryz.f244.ntmps = 25 := rfl
theorem mH1 : Tryz.f244.results.toList = [.tmp 6] := rfl
theorem dZ1 : Tryz.f245.ntmps = 8 := rfl
theorem mI1 : Tryz.f245.results.toList = [.tmp 2] := rfl
theorem da1 : Tryz.f246.ntmps = 9 := rfl
theorem mJ1 : Tryz.f246.results.toList = [.tmp 2] := rfl
theorem db1 : Tryz.f247.ntmps = 25 := rfl
theorem mK1 : Tryz.f247.results.toList = [.tmp 2] := rfl
theorem dc1 : Tryz.f248.ntmps = 93 := rfl
theorem mL1 : Tryz.f248.results.toList = [.tmp 8, .tmp 9] := rfl
theorem dd1 : Tryz.f249.ntmps = 64 := rfl
theorem mM1 : Tryz.f249.results.toList = [.tmp 2] := rfl
theorem de1 : Tryz.f250.ntmps = 10 := rfl
theorem mN1 : Tryz.f250.results.toList = [.tmp 2] := rfl
theorem df1 : Tryz.f251.ntmps = 14 := rfl
theorem mO1 : Tryz.f251.results.toList = [.tmp 4] := rfl
theorem dg1 : Tryz.f252.ntmps = 19 := rfl
theorem mP1 : Tryz.f252.results.toList = [.tmp 2] := rfl
theorem dh1 : Tryz.f253.ntmps = 92 := rfl
theorem mQ1 : Tryz.f253.results.toList = [.tmp 6, .tmp 7] := rfl
theorem di1 : Tryz.f254.ntmps = 39 := rfl
theorem mR1 : Tryz.f254.results.toList = [.tmp 4] := rfl
theorem dj1 : Tryz.f255.ntmps = 20 := rfl
theorem mS1 : Tryz.f255.results.toList = [.tmp 4] := rfl
theorem dk1 : Tryz.f256.ntmps = 56 := rfl
theorem mT1 : Tryz.f256.results.toList = [.tmp 6] := rfl
theorem dl1 : Tryz.f261.ntmps = 19 := rfl
theorem mU1 : Tryz.f261.results.toList = [.tmp 4] := rfl
theorem dm1 : Tryz.f262.ntmps = 84 := rfl
theorem mV1 : Tryz.f262.results.toList = [.tmp 8, .tmp 9] := rfl
theorem dn1 : Tryz.f263.ntmps = 24 := rfl
theorem mW1 : Tryz.f263.results.toList = [.tmp 4] := rfl
theorem do1 : Tryz.f264.ntmps = 9 := rfl
theorem mX1 : Tryz.f264.results.toList = [.tmp 2] := rfl
theorem dp1 : Tryz.f267.ntmps = 9 := rfl
theorem mY1 : Tryz.f267.results.toList = [.tmp 2] := rfl
attribute [go_sem] tb3 tb4 tb5 tb9 sk1 sl1 sm1 sn1 so1 sp1 sq1 sr1 ss1 st1 su1 sv1 mq1 ms1 mt1 mu1 mv1 mw1 mx1 my1 mz1 nA1 nB1 nC1 nt4 rs4 nt8 rs8 rO1 sE1 rP1 sF1 rQ1 sG1 rR1 sH1 rS1 sI1 rT1 sJ1 rU1 sK1 rV1 sL1 rW1 sM1 rX1 sN1 rY1 sO1 rZ1 sP1 ra1 sQ1 rb1 sR1 rc1 sS1 rd1 sT1 re1 sU1 rf1 sV1 rg1 sW1 rh1 sX1 ri1 sY1 rj1 sZ1 rk1 sa1 rl1 sb1 rm1 sc1 rn1 sd1 ro1 se1 rp1 sf1 rq1 sg1 rr1 sh1 rs1 si1 bl1 gT1 bm1 gU1 bn1 gV1 bo1 gW1 bp1 gX1 bq1 gY1 br1 gZ1 bs1 ga1 bt1 gb1 bu1 gc1 bv1 gd1 bw1 ge1 bx1 gf1 by1 gg1 bz1 gh1 cA1 gi1 cB1 gj1 cC1 gk1 cD1 gl1 cE1 gm1 cF1 gn1 cG1 go1 cH1 gp1 cI1 gq1 cJ1 gr1 cK1 gs1 cL1 gt1 cM1 gu1 cN1 gv1 cO1 gw1 cP1 gx1 cQ1 gy1 cR1 gz1 cS1 lA1 cT1 lB1 cU1 lC1 cV1 lD1 cW1 lE1 cX1 lF1 cY1 lG1 cZ1 lH1 ca1 lI1 cb1 lJ1 cc1 lK1 cd1 lL1 ce1 lM1 cf1 lN1 cg1 lO1 ch1 lP1 ci1 lQ1 cj1 lR1 ck1 lS1 cl1 lT1 cm1 lU1 cn1 lV1 co1 lW1 cp1 lX1 cq1 lY1 cr1 lZ1 cs1 la1 ct1 lc1 cu1 ld1 cv1 le1 cw1 lf1 cx1 lg1 cy1 lh1 cz1 li1 dA1 lj1 dB1 lk1 dC1 ll1 dD1 lm1 dE1 ln1 dF1 lo1 dG1 lp1 dH1 lq1 dI1 lr1 dJ1 ls1 dK1 lt1 dL1 lu1 dM1 lv1 dN1 lw1 dO1 lx1 dP1 ly1 dQ1 lz1 dR1 mA1 dS1 mB1 dT1 mC1 dU1 mD1 dV1 mE1 dW1 mF1 dX1 mG1 dY1 mH1 dZ1 mI1 da1 mJ1 db1 mK1 dc1 mL1 dd1 mM1 de1 mN1 df1 mO1 dg1 mP1 dh1 mQ1 di1 mR1 dj1 mS1 dk1 mT1 dl1 mU1 dm1 mV1 dn1 mW1 do1 mX1 dp1 mY1
end Go.Ai
