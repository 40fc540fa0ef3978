/- The types' table of this seat's program, and what its functions give back. Written by mkseat.py. -/
import Derived.Test.YtofbieojmaobfaaGreatAiRead
import Derived.Test.YtofbieojmaobfaaGreatProg
import Derived.KernelRfl
set_option linter.unusedVariables false
set_option linter.unusedSimpArgs false
namespace Go.Ai
open Go.Proofs
set_option maxRecDepth 100000
def Tb : Tab := tabOf [
 (2, ⟨.int .i64, 1, 8, [.c (.v (.int .i64 0))]⟩),
 (3, ⟨.int .i64, 1, 8, [.c (.v (.int .i64 0))]⟩),
 (4, ⟨.bool, 1, 1, [.c (.v (.bool false))]⟩),
 (5, ⟨.int .u8, 1, 1, [.c (.v (.int .u8 0))]⟩),
 (9, ⟨.str, 1, 16, [.c (.v (.string ⟨⟨[]⟩⟩))]⟩),
 (12, ⟨.int .u64, 1, 8, [.c (.v (.int .u64 0))]⟩),
 (13, ⟨.struct [(0, 1), (1, 1)] none, 2, 24, [.c (.v (.string ⟨⟨[]⟩⟩)), AC.c (C.v (Value.int IntKind.u64 0))]⟩),
 (20, ⟨.iface, 1, 16, [.c (.v .nilIface)]⟩),
 (21, ⟨.int .i32, 1, 4, [.c (.v (.int .i32 0))]⟩),
 (22, ⟨.slice 9, 1, 24, [.nil]⟩),
 (23, ⟨.slice 202, 1, 24, [.nil]⟩),
 (24, ⟨.struct [(0, 1), (1, 1)] none, 2, 48, [.nil, .nil]⟩),
 (25, ⟨.struct [(0, 1), (1, 1)] none, 2, 48, [.nil, .nil]⟩),
 (26, ⟨.slice 146, 1, 24, [.nil]⟩),
 (27, ⟨.slice 149, 1, 24, [.nil]⟩),
 (28, ⟨.struct [(0, 2), (2, 1), (3, 1)] none, 4, 96, [.nil, .nil, .nil, .nil]⟩),
 (29, ⟨.struct [(0, 2), (2, 1), (3, 1)] none, 4, 96, [.nil, .nil, .nil, .nil]⟩),
 (30, ⟨.slice 60, 1, 24, [.nil]⟩),
 (31, ⟨.slice 152, 1, 24, [.nil]⟩),
 (32, ⟨.struct [(0, 1), (1, 1), (2, 1)] none, 3, 56, [.nil, .nil, .c (.v (.bool false))]⟩),
 (33, ⟨.struct [(0, 1), (1, 1), (2, 1)] none, 3, 56, [.nil, .nil, .c (.v (.bool false))]⟩),
 (37, ⟨.slice 204, 1, 24, [.nil]⟩),
 (38, ⟨.struct [(0, 1), (1, 1)] none, 2, 48, [.nil, .nil]⟩),
 (39, ⟨.struct [(0, 1), (1, 1)] none, 2, 48, [.nil, .nil]⟩),
 (40, ⟨.slice 157, 1, 24, [.nil]⟩),
 (41, ⟨.slice 159, 1, 24, [.nil]⟩),
 (42, ⟨.struct [(0, 2), (2, 1), (3, 1)] none, 4, 96, [.nil, .nil, .nil, .nil]⟩),
 (43, ⟨.struct [(0, 2), (2, 1), (3, 1)] none, 4, 96, [.nil, .nil, .nil, .nil]⟩),
 (45, ⟨.slice 65, 1, 24, [.nil]⟩),
 (46, ⟨.slice 131, 1, 24, [.nil]⟩),
 (47, ⟨.struct [(0, 1), (1, 1), (2, 1)] none, 3, 56, [.nil, .nil, .c (.v (.bool false))]⟩),
 (48, ⟨.struct [(0, 1), (1, 1), (2, 1)] none, 3, 56, [.nil, .nil, .c (.v (.bool false))]⟩),
 (53, ⟨.slice 3, 1, 24, [.nil]⟩),
 (59, ⟨.struct [(0, 1), (1, 1), (2, 1), (3, 1)] none, 4, 56, [.c (.v (.int .i64 0)), .c (.v (.int .i64 0)), .c (.v (.string ⟨⟨[]⟩⟩)), AC.nil]⟩),
 (60, ⟨.struct [(0, 1), (1, 1), (2, 1), (3, 1)] none, 4, 56, [.c (.v (.int .i64 0)), .c (.v (.int .i64 0)), .c (.v (.string ⟨⟨[]⟩⟩)), AC.nil]⟩),
 (61, ⟨.slice 116, 1, 24, [.nil]⟩),
 (64, ⟨.struct [(0, 1), (1, 1), (2, 1), (3, 1)] none, 4, 56, [.c (.v (.int .i64 0)), .c (.v (.int .i64 0)), .c (.v (.string ⟨⟨[]⟩⟩)), AC.nil]⟩),
 (65, ⟨.struct [(0, 1), (1, 1), (2, 1), (3, 1)] none, 4, 56, [.c (.v (.int .i64 0)), .c (.v (.int .i64 0)), .c (.v (.string ⟨⟨[]⟩⟩)), AC.nil]⟩),
 (69, ⟨.slice 120, 1, 24, [.nil]⟩),
 (78, ⟨.slice 191, 1, 24, [.nil]⟩),
 (79, ⟨.struct [(0, 4), (4, 1), (5, 1), (6, 1)] none, 7, 96, [.c (.v (.int .i64 0)), .c (.v (.int .i64 0)), .c (.v (.string ⟨⟨[]⟩⟩)), AC.nil, AC.c (C.v (Value.int IntKind.i64 0)), AC.nil, AC.c (C.v (Value.int IntKind.i64 0))]⟩),
 (80, ⟨.struct [(0, 4), (4, 1), (5, 1), (6, 1)] none, 7, 96, [.c (.v (.int .i64 0)), .c (.v (.int .i64 0)), .c (.v (.string ⟨⟨[]⟩⟩)), AC.nil, AC.c (C.v (Value.int IntKind.i64 0)), AC.nil, AC.c (C.v (Value.int IntKind.i64 0))]⟩),
 (86, ⟨.slice 194, 1, 24, [.nil]⟩),
 (87, ⟨.struct [(0, 4), (4, 1), (5, 1), (6, 1)] none, 7, 96, [.c (.v (.int .i64 0)), .c (.v (.int .i64 0)), .c (.v (.string ⟨⟨[]⟩⟩)), AC.nil, AC.c (C.v (Value.int IntKind.i64 0)), AC.nil, AC.c (C.v (Value.int IntKind.i64 0))]⟩),
 (88, ⟨.struct [(0, 4), (4, 1), (5, 1), (6, 1)] none, 7, 96, [.c (.v (.int .i64 0)), .c (.v (.int .i64 0)), .c (.v (.string ⟨⟨[]⟩⟩)), AC.nil, AC.c (C.v (Value.int IntKind.i64 0)), AC.nil, AC.c (C.v (Value.int IntKind.i64 0))]⟩),
 (115, ⟨.struct [(0, 1), (1, 1)] none, 2, 32, [.c (.v (.int .i64 0)), .nil]⟩),
 (116, ⟨.struct [(0, 1), (1, 1)] none, 2, 32, [.c (.v (.int .i64 0)), .nil]⟩),
 (120, ⟨.struct [(0, 1), (1, 1)] none, 2, 32, [.c (.v (.int .i64 0)), .nil]⟩),
 (127, ⟨.ptr, 1, 8, [.c (.v (.pointer none))]⟩),
 (130, ⟨.struct [(0, 1), (1, 1), (2, 2)] none, 4, 48, [.c (.v (.int .i64 0)), .c (.v (.int .i64 0)), .c (.v (.int .i64 0)), .nil]⟩),
 (131, ⟨.struct [(0, 1), (1, 1), (2, 2)] none, 4, 48, [.c (.v (.int .i64 0)), .c (.v (.int .i64 0)), .c (.v (.int .i64 0)), .nil]⟩),
 (144, ⟨.slice 234, 1, 24, [.nil]⟩),
 (145, ⟨.struct [(0, 1), (1, 4), (5, 4), (9, 1)] none, 10, 152, [.c (.v (.string ⟨⟨[]⟩⟩)), AC.c (C.v (Value.int IntKind.i64 0)), AC.c (C.v (Value.int IntKind.i64 0)), AC.c (C.v (Value.string ⟨⟨[]⟩⟩)), AC.nil, AC.c (C.v (Value.int IntKind.i64 0)), AC.c (C.v (Value.int IntKind.i64 0)), AC.c (C.v (Value.string ⟨⟨[]⟩⟩)), AC.nil, AC.nil]⟩),
 (146, ⟨.struct [(0, 1), (1, 4), (5, 4), (9, 1)] none, 10, 152, [.c (.v (.string ⟨⟨[]⟩⟩)), AC.c (C.v (Value.int IntKind.i64 0)), AC.c (C.v (Value.int IntKind.i64 0)), AC.c (C.v (Value.string ⟨⟨[]⟩⟩)), AC.nil, AC.c (C.v (Value.int IntKind.i64 0)), AC.c (C.v (Value.int IntKind.i64 0)), AC.c (C.v (Value.string ⟨⟨[]⟩⟩)), AC.nil, AC.nil]⟩),
 (149, ⟨.struct [(0, 1), (1, 1)] (some [(0, CK.str), (1, CK.int .i64)]), 2, 24, [.c (.v (.string ⟨⟨[]⟩⟩)), AC.c (C.v (Value.int IntKind.i64 0))]⟩),
 (152, ⟨.struct [(0, 1), (1, 1), (2, 2)] none, 4, 48, [.c (.v (.int .i64 0)), .c (.v (.int .i64 0)), .c (.v (.int .i64 0)), .nil]⟩),
 (155, ⟨.slice 211, 1, 24, [.nil]⟩),
 (156, ⟨.struct [(0, 1), (1, 4), (5, 4), (9, 1)] none, 10, 152, [.c (.v (.string ⟨⟨[]⟩⟩)), AC.c (C.v (Value.int IntKind.i64 0)), AC.c (C.v (Value.int IntKind.i64 0)), AC.c (C.v (Value.string ⟨⟨[]⟩⟩)), AC.nil, AC.c (C.v (Value.int IntKind.i64 0)), AC.c (C.v (Value.int IntKind.i64 0)), AC.c (C.v (Value.string ⟨⟨[]⟩⟩)), AC.nil, AC.nil]⟩),
 (157, ⟨.struct [(0, 1), (1, 4), (5, 4), (9, 1)] none, 10, 152, [.c (.v (.string ⟨⟨[]⟩⟩)), AC.c (C.v (Value.int IntKind.i64 0)), AC.c (C.v (Value.int IntKind.i64 0)), AC.c (C.v (Value.string ⟨⟨[]⟩⟩)), AC.nil, AC.c (C.v (Value.int IntKind.i64 0)), AC.c (C.v (Value.int IntKind.i64 0)), AC.c (C.v (Value.string ⟨⟨[]⟩⟩)), AC.nil, AC.nil]⟩),
 (159, ⟨.struct [(0, 1), (1, 1)] (some [(0, CK.str), (1, CK.int .i64)]), 2, 24, [.c (.v (.string ⟨⟨[]⟩⟩)), AC.c (C.v (Value.int IntKind.i64 0))]⟩),
 (175, ⟨.slice 245, 1, 24, [.nil]⟩),
 (176, ⟨.slice 249, 1, 24, [.nil]⟩),
 (190, ⟨.struct [(0, 4), (4, 1)] none, 5, 64, [.c (.v (.int .i64 0)), .c (.v (.int .i64 0)), .c (.v (.string ⟨⟨[]⟩⟩)), AC.nil, AC.c (C.v (Value.int IntKind.i64 0))]⟩),
 (191, ⟨.struct [(0, 4), (4, 1)] none, 5, 64, [.c (.v (.int .i64 0)), .c (.v (.int .i64 0)), .c (.v (.string ⟨⟨[]⟩⟩)), AC.nil, AC.c (C.v (Value.int IntKind.i64 0))]⟩),
 (193, ⟨.struct [(0, 4), (4, 1)] none, 5, 64, [.c (.v (.int .i64 0)), .c (.v (.int .i64 0)), .c (.v (.string ⟨⟨[]⟩⟩)), AC.nil, AC.c (C.v (Value.int IntKind.i64 0))]⟩),
 (194, ⟨.struct [(0, 4), (4, 1)] none, 5, 64, [.c (.v (.int .i64 0)), .c (.v (.int .i64 0)), .c (.v (.string ⟨⟨[]⟩⟩)), AC.nil, AC.c (C.v (Value.int IntKind.i64 0))]⟩),
 (201, ⟨.struct [(0, 1), (1, 1), (2, 1)] none, 3, 56, [.c (.v (.string ⟨⟨[]⟩⟩)), AC.nil, AC.c (C.v (Value.string ⟨⟨[]⟩⟩))]⟩),
 (202, ⟨.struct [(0, 1), (1, 1), (2, 1)] none, 3, 56, [.c (.v (.string ⟨⟨[]⟩⟩)), AC.nil, AC.c (C.v (Value.string ⟨⟨[]⟩⟩))]⟩),
 (204, ⟨.struct [(0, 1), (1, 1), (2, 1)] none, 3, 56, [.c (.v (.string ⟨⟨[]⟩⟩)), AC.nil, AC.c (C.v (Value.string ⟨⟨[]⟩⟩))]⟩),
 (209, ⟨.slice 5, 1, 24, [.nil]⟩),
 (210, ⟨.struct [(0, 1), (1, 4), (5, 4)] none, 9, 120, [.c (.v (.int .i64 0)), .c (.v (.int .i64 0)), .c (.v (.int .i64 0)), .c (.v (.string ⟨⟨[]⟩⟩)), AC.nil, AC.c (C.v (Value.int IntKind.i64 0)), AC.c (C.v (Value.int IntKind.i64 0)), AC.c (C.v (Value.string ⟨⟨[]⟩⟩)), AC.nil]⟩),
 (211, ⟨.struct [(0, 1), (1, 4), (5, 4)] none, 9, 120, [.c (.v (.int .i64 0)), .c (.v (.int .i64 0)), .c (.v (.int .i64 0)), .c (.v (.string ⟨⟨[]⟩⟩)), AC.nil, AC.c (C.v (Value.int IntKind.i64 0)), AC.c (C.v (Value.int IntKind.i64 0)), AC.c (C.v (Value.string ⟨⟨[]⟩⟩)), AC.nil]⟩),
 (233, ⟨.struct [(0, 1), (1, 4), (5, 4)] none, 9, 120, [.c (.v (.int .i64 0)), .c (.v (.int .i64 0)), .c (.v (.int .i64 0)), .c (.v (.string ⟨⟨[]⟩⟩)), AC.nil, AC.c (C.v (Value.int IntKind.i64 0)), AC.c (C.v (Value.int IntKind.i64 0)), AC.c (C.v (Value.string ⟨⟨[]⟩⟩)), AC.nil]⟩),
 (234, ⟨.struct [(0, 1), (1, 4), (5, 4)] none, 9, 120, [.c (.v (.int .i64 0)), .c (.v (.int .i64 0)), .c (.v (.int .i64 0)), .c (.v (.string ⟨⟨[]⟩⟩)), AC.nil, AC.c (C.v (Value.int IntKind.i64 0)), AC.c (C.v (Value.int IntKind.i64 0)), AC.c (C.v (Value.string ⟨⟨[]⟩⟩)), AC.nil]⟩),
 (244, ⟨.struct [(0, 1), (1, 1)] (some [(0, CK.str), (1, CK.str)]), 2, 32, [.c (.v (.string ⟨⟨[]⟩⟩)), AC.c (C.v (Value.string ⟨⟨[]⟩⟩))]⟩),
 (245, ⟨.struct [(0, 1), (1, 1)] (some [(0, CK.str), (1, CK.str)]), 2, 32, [.c (.v (.string ⟨⟨[]⟩⟩)), AC.c (C.v (Value.string ⟨⟨[]⟩⟩))]⟩),
 (248, ⟨.struct [(0, 1), (1, 4)] none, 5, 72, [.c (.v (.string ⟨⟨[]⟩⟩)), AC.c (C.v (Value.int IntKind.i64 0)), AC.c (C.v (Value.int IntKind.i64 0)), AC.c (C.v (Value.string ⟨⟨[]⟩⟩)), AC.nil]⟩),
 (249, ⟨.struct [(0, 1), (1, 4)] none, 5, 72, [.c (.v (.string ⟨⟨[]⟩⟩)), AC.c (C.v (Value.int IntKind.i64 0)), AC.c (C.v (Value.int IntKind.i64 0)), AC.c (C.v (Value.string ⟨⟨[]⟩⟩)), AC.nil]⟩),
 (264, ⟨.int .u64, 1, 8, [.c (.v (.int .u64 0))]⟩),
 (266, ⟨.int .i64, 1, 8, [.c (.v (.int .i64 0))]⟩),
 (275, ⟨.int .u32, 1, 4, [.c (.v (.int .u32 0))]⟩),
 (277, ⟨.int .u64, 1, 8, [.c (.v (.int .u64 0))]⟩),
 (282, ⟨.ptr, 1, 8, [.c (.v (.pointer none))]⟩),
 (297, ⟨.ptr, 1, 8, [.c (.v (.pointer none))]⟩)]
theorem tbOk : TabOk Tryz.prog Tb := tabOk_of _ _ ⟨by kernel_rfl, by kernel_rfl, by kernel_rfl, by kernel_rfl, by kernel_rfl, by kernel_rfl, by kernel_rfl, by kernel_rfl, by kernel_rfl, by kernel_rfl, by kernel_rfl, by kernel_rfl, by kernel_rfl, by kernel_rfl, by kernel_rfl, by kernel_rfl, by kernel_rfl, by kernel_rfl, by kernel_rfl, by kernel_rfl, by kernel_rfl, by kernel_rfl, by kernel_rfl, by kernel_rfl, by kernel_rfl, by kernel_rfl, by kernel_rfl, by kernel_rfl, by kernel_rfl, by kernel_rfl, by kernel_rfl, by kernel_rfl, by kernel_rfl, by kernel_rfl, by kernel_rfl, by kernel_rfl, by kernel_rfl, by kernel_rfl, by kernel_rfl, by kernel_rfl, by kernel_rfl, by kernel_rfl, by kernel_rfl, by kernel_rfl, by kernel_rfl, by kernel_rfl, by kernel_rfl, by kernel_rfl, by kernel_rfl, by kernel_rfl, by kernel_rfl, by kernel_rfl, by kernel_rfl, by kernel_rfl, by kernel_rfl, by kernel_rfl, by kernel_rfl, by kernel_rfl, by kernel_rfl, by kernel_rfl, by kernel_rfl, by kernel_rfl, by kernel_rfl, by kernel_rfl, by kernel_rfl, by kernel_rfl, by kernel_rfl, by kernel_rfl, by kernel_rfl, by kernel_rfl, by kernel_rfl, by kernel_rfl, by kernel_rfl, by kernel_rfl, by kernel_rfl, by kernel_rfl, by kernel_rfl, by kernel_rfl, by kernel_rfl, by kernel_rfl, by kernel_rfl, by kernel_rfl, by kernel_rfl, by kernel_rfl, trivial⟩
theorem mixed : Tryz.prog.follows .mixedOrders = true := by kernel_rfl
theorem tb2 : Tb 2 = some ⟨.int .i64, 1, 8, [.c (.v (.int .i64 0))]⟩ := rfl
theorem tb3 : Tb 3 = some ⟨.int .i64, 1, 8, [.c (.v (.int .i64 0))]⟩ := rfl
theorem tb4 : Tb 4 = some ⟨.bool, 1, 1, [.c (.v (.bool false))]⟩ := rfl
theorem tb5 : Tb 5 = some ⟨.int .u8, 1, 1, [.c (.v (.int .u8 0))]⟩ := rfl
theorem tb9 : Tb 9 = some ⟨.str, 1, 16, [.c (.v (.string ⟨⟨[]⟩⟩))]⟩ := rfl
theorem tb12 : Tb 12 = some ⟨.int .u64, 1, 8, [.c (.v (.int .u64 0))]⟩ := rfl
theorem tb13 : Tb 13 = some ⟨.struct [(0, 1), (1, 1)] none, 2, 24, [.c (.v (.string ⟨⟨[]⟩⟩)), AC.c (C.v (Value.int IntKind.u64 0))]⟩ := rfl
theorem tb20 : Tb 20 = some ⟨.iface, 1, 16, [.c (.v .nilIface)]⟩ := rfl
theorem tb21 : Tb 21 = some ⟨.int .i32, 1, 4, [.c (.v (.int .i32 0))]⟩ := rfl
theorem tb22 : Tb 22 = some ⟨.slice 9, 1, 24, [.nil]⟩ := rfl
theorem tb23 : Tb 23 = some ⟨.slice 202, 1, 24, [.nil]⟩ := rfl
theorem tb24 : Tb 24 = some ⟨.struct [(0, 1), (1, 1)] none, 2, 48, [.nil, .nil]⟩ := rfl
theorem tb25 : Tb 25 = some ⟨.struct [(0, 1), (1, 1)] none, 2, 48, [.nil, .nil]⟩ := rfl
theorem tb26 : Tb 26 = some ⟨.slice 146, 1, 24, [.nil]⟩ := rfl
theorem tb27 : Tb 27 = some ⟨.slice 149, 1, 24, [.nil]⟩ := rfl
theorem tb28 : Tb 28 = some ⟨.struct [(0, 2), (2, 1), (3, 1)] none, 4, 96, [.nil, .nil, .nil, .nil]⟩ := rfl
theorem tb29 : Tb 29 = some ⟨.struct [(0, 2), (2, 1), (3, 1)] none, 4, 96, [.nil, .nil, .nil, .nil]⟩ := rfl
theorem tb30 : Tb 30 = some ⟨.slice 60, 1, 24, [.nil]⟩ := rfl
theorem tb31 : Tb 31 = some ⟨.slice 152, 1, 24, [.nil]⟩ := rfl
theorem tb32 : Tb 32 = some ⟨.struct [(0, 1), (1, 1), (2, 1)] none, 3, 56, [.nil, .nil, .c (.v (.bool false))]⟩ := rfl
theorem tb33 : Tb 33 = some ⟨.struct [(0, 1), (1, 1), (2, 1)] none, 3, 56, [.nil, .nil, .c (.v (.bool false))]⟩ := rfl
theorem tb37 : Tb 37 = some ⟨.slice 204, 1, 24, [.nil]⟩ := rfl
theorem tb38 : Tb 38 = some ⟨.struct [(0, 1), (1, 1)] none, 2, 48, [.nil, .nil]⟩ := rfl
theorem tb39 : Tb 39 = some ⟨.struct [(0, 1), (1, 1)] none, 2, 48, [.nil, .nil]⟩ := rfl
theorem tb40 : Tb 40 = some ⟨.slice 157, 1, 24, [.nil]⟩ := rfl
theorem tb41 : Tb 41 = some ⟨.slice 159, 1, 24, [.nil]⟩ := rfl
theorem tb42 : Tb 42 = some ⟨.struct [(0, 2), (2, 1), (3, 1)] none, 4, 96, [.nil, .nil, .nil, .nil]⟩ := rfl
theorem tb43 : Tb 43 = some ⟨.struct [(0, 2), (2, 1), (3, 1)] none, 4, 96, [.nil, .nil, .nil, .nil]⟩ := rfl
theorem tb45 : Tb 45 = some ⟨.slice 65, 1, 24, [.nil]⟩ := rfl
theorem tb46 : Tb 46 = some ⟨.slice 131, 1, 24, [.nil]⟩ := rfl
theorem tb47 : Tb 47 = some ⟨.struct [(0, 1), (1, 1), (2, 1)] none, 3, 56, [.nil, .nil, .c (.v (.bool false))]⟩ := rfl
theorem tb48 : Tb 48 = some ⟨.struct [(0, 1), (1, 1), (2, 1)] none, 3, 56, [.nil, .nil, .c (.v (.bool false))]⟩ := rfl
theorem tb53 : Tb 53 = some ⟨.slice 3, 1, 24, [.nil]⟩ := rfl
theorem tb59 : Tb 59 = some ⟨.struct [(0, 1), (1, 1), (2, 1), (3, 1)] none, 4, 56, [.c (.v (.int .i64 0)), .c (.v (.int .i64 0)), .c (.v (.string ⟨⟨[]⟩⟩)), AC.nil]⟩ := rfl
theorem tb60 : Tb 60 = some ⟨.struct [(0, 1), (1, 1), (2, 1), (3, 1)] none, 4, 56, [.c (.v (.int .i64 0)), .c (.v (.int .i64 0)), .c (.v (.string ⟨⟨[]⟩⟩)), AC.nil]⟩ := rfl
theorem tb61 : Tb 61 = some ⟨.slice 116, 1, 24, [.nil]⟩ := rfl
theorem tb64 : Tb 64 = some ⟨.struct [(0, 1), (1, 1), (2, 1), (3, 1)] none, 4, 56, [.c (.v (.int .i64 0)), .c (.v (.int .i64 0)), .c (.v (.string ⟨⟨[]⟩⟩)), AC.nil]⟩ := rfl
theorem tb65 : Tb 65 = some ⟨.struct [(0, 1), (1, 1), (2, 1), (3, 1)] none, 4, 56, [.c (.v (.int .i64 0)), .c (.v (.int .i64 0)), .c (.v (.string ⟨⟨[]⟩⟩)), AC.nil]⟩ := rfl
theorem tb69 : Tb 69 = some ⟨.slice 120, 1, 24, [.nil]⟩ := rfl
theorem tb78 : Tb 78 = some ⟨.slice 191, 1, 24, [.nil]⟩ := rfl
theorem tb79 : Tb 79 = some ⟨.struct [(0, 4), (4, 1), (5, 1), (6, 1)] none, 7, 96, [.c (.v (.int .i64 0)), .c (.v (.int .i64 0)), .c (.v (.string ⟨⟨[]⟩⟩)), AC.nil, AC.c (C.v (Value.int IntKind.i64 0)), AC.nil, AC.c (C.v (Value.int IntKind.i64 0))]⟩ := rfl
theorem tb80 : Tb 80 = some ⟨.struct [(0, 4), (4, 1), (5, 1), (6, 1)] none, 7, 96, [.c (.v (.int .i64 0)), .c (.v (.int .i64 0)), .c (.v (.string ⟨⟨[]⟩⟩)), AC.nil, AC.c (C.v (Value.int IntKind.i64 0)), AC.nil, AC.c (C.v (Value.int IntKind.i64 0))]⟩ := rfl
theorem tb86 : Tb 86 = some ⟨.slice 194, 1, 24, [.nil]⟩ := rfl
theorem tb87 : Tb 87 = some ⟨.struct [(0, 4), (4, 1), (5, 1), (6, 1)] none, 7, 96, [.c (.v (.int .i64 0)), .c (.v (.int .i64 0)), .c (.v (.string ⟨⟨[]⟩⟩)), AC.nil, AC.c (C.v (Value.int IntKind.i64 0)), AC.nil, AC.c (C.v (Value.int IntKind.i64 0))]⟩ := rfl
theorem tb88 : Tb 88 = some ⟨.struct [(0, 4), (4, 1), (5, 1), (6, 1)] none, 7, 96, [.c (.v (.int .i64 0)), .c (.v (.int .i64 0)), .c (.v (.string ⟨⟨[]⟩⟩)), AC.nil, AC.c (C.v (Value.int IntKind.i64 0)), AC.nil, AC.c (C.v (Value.int IntKind.i64 0))]⟩ := rfl
theorem tb115 : Tb 115 = some ⟨.struct [(0, 1), (1, 1)] none, 2, 32, [.c (.v (.int .i64 0)), .nil]⟩ := rfl
theorem tb116 : Tb 116 = some ⟨.struct [(0, 1), (1, 1)] none, 2, 32, [.c (.v (.int .i64 0)), .nil]⟩ := rfl
theorem tb120 : Tb 120 = some ⟨.struct [(0, 1), (1, 1)] none, 2, 32, [.c (.v (.int .i64 0)), .nil]⟩ := rfl
theorem tb127 : Tb 127 = some ⟨.ptr, 1, 8, [.c (.v (.pointer none))]⟩ := rfl
theorem tb130 : Tb 130 = some ⟨.struct [(0, 1), (1, 1), (2, 2)] none, 4, 48, [.c (.v (.int .i64 0)), .c (.v (.int .i64 0)), .c (.v (.int .i64 0)), .nil]⟩ := rfl
theorem tb131 : Tb 131 = some ⟨.struct [(0, 1), (1, 1), (2, 2)] none, 4, 48, [.c (.v (.int .i64 0)), .c (.v (.int .i64 0)), .c (.v (.int .i64 0)), .nil]⟩ := rfl
theorem tb144 : Tb 144 = some ⟨.slice 234, 1, 24, [.nil]⟩ := rfl
theorem tb145 : Tb 145 = some ⟨.struct [(0, 1), (1, 4), (5, 4), (9, 1)] none, 10, 152, [.c (.v (.string ⟨⟨[]⟩⟩)), AC.c (C.v (Value.int IntKind.i64 0)), AC.c (C.v (Value.int IntKind.i64 0)), AC.c (C.v (Value.string ⟨⟨[]⟩⟩)), AC.nil, AC.c (C.v (Value.int IntKind.i64 0)), AC.c (C.v (Value.int IntKind.i64 0)), AC.c (C.v (Value.string ⟨⟨[]⟩⟩)), AC.nil, AC.nil]⟩ := rfl
theorem tb146 : Tb 146 = some ⟨.struct [(0, 1), (1, 4), (5, 4), (9, 1)] none, 10, 152, [.c (.v (.string ⟨⟨[]⟩⟩)), AC.c (C.v (Value.int IntKind.i64 0)), AC.c (C.v (Value.int IntKind.i64 0)), AC.c (C.v (Value.string ⟨⟨[]⟩⟩)), AC.nil, AC.c (C.v (Value.int IntKind.i64 0)), AC.c (C.v (Value.int IntKind.i64 0)), AC.c (C.v (Value.string ⟨⟨[]⟩⟩)), AC.nil, AC.nil]⟩ := rfl
theorem tb149 : Tb 149 = some ⟨.struct [(0, 1), (1, 1)] (some [(0, CK.str), (1, CK.int .i64)]), 2, 24, [.c (.v (.string ⟨⟨[]⟩⟩)), AC.c (C.v (Value.int IntKind.i64 0))]⟩ := rfl
theorem tb152 : Tb 152 = some ⟨.struct [(0, 1), (1, 1), (2, 2)] none, 4, 48, [.c (.v (.int .i64 0)), .c (.v (.int .i64 0)), .c (.v (.int .i64 0)), .nil]⟩ := rfl
theorem tb155 : Tb 155 = some ⟨.slice 211, 1, 24, [.nil]⟩ := rfl
theorem tb156 : Tb 156 = some ⟨.struct [(0, 1), (1, 4), (5, 4), (9, 1)] none, 10, 152, [.c (.v (.string ⟨⟨[]⟩⟩)), AC.c (C.v (Value.int IntKind.i64 0)), AC.c (C.v (Value.int IntKind.i64 0)), AC.c (C.v (Value.string ⟨⟨[]⟩⟩)), AC.nil, AC.c (C.v (Value.int IntKind.i64 0)), AC.c (C.v (Value.int IntKind.i64 0)), AC.c (C.v (Value.string ⟨⟨[]⟩⟩)), AC.nil, AC.nil]⟩ := rfl
theorem tb157 : Tb 157 = some ⟨.struct [(0, 1), (1, 4), (5, 4), (9, 1)] none, 10, 152, [.c (.v (.string ⟨⟨[]⟩⟩)), AC.c (C.v (Value.int IntKind.i64 0)), AC.c (C.v (Value.int IntKind.i64 0)), AC.c (C.v (Value.string ⟨⟨[]⟩⟩)), AC.nil, AC.c (C.v (Value.int IntKind.i64 0)), AC.c (C.v (Value.int IntKind.i64 0)), AC.c (C.v (Value.string ⟨⟨[]⟩⟩)), AC.nil, AC.nil]⟩ := rfl
theorem tb159 : Tb 159 = some ⟨.struct [(0, 1), (1, 1)] (some [(0, CK.str), (1, CK.int .i64)]), 2, 24, [.c (.v (.string ⟨⟨[]⟩⟩)), AC.c (C.v (Value.int IntKind.i64 0))]⟩ := rfl
theorem tb175 : Tb 175 = some ⟨.slice 245, 1, 24, [.nil]⟩ := rfl
theorem tb176 : Tb 176 = some ⟨.slice 249, 1, 24, [.nil]⟩ := rfl
theorem tb190 : Tb 190 = some ⟨.struct [(0, 4), (4, 1)] none, 5, 64, [.c (.v (.int .i64 0)), .c (.v (.int .i64 0)), .c (.v (.string ⟨⟨[]⟩⟩)), AC.nil, AC.c (C.v (Value.int IntKind.i64 0))]⟩ := rfl
theorem tb191 : Tb 191 = some ⟨.struct [(0, 4), (4, 1)] none, 5, 64, [.c (.v (.int .i64 0)), .c (.v (.int .i64 0)), .c (.v (.string ⟨⟨[]⟩⟩)), AC.nil, AC.c (C.v (Value.int IntKind.i64 0))]⟩ := rfl
theorem tb193 : Tb 193 = some ⟨.struct [(0, 4), (4, 1)] none, 5, 64, [.c (.v (.int .i64 0)), .c (.v (.int .i64 0)), .c (.v (.string ⟨⟨[]⟩⟩)), AC.nil, AC.c (C.v (Value.int IntKind.i64 0))]⟩ := rfl
theorem tb194 : Tb 194 = some ⟨.struct [(0, 4), (4, 1)] none, 5, 64, [.c (.v (.int .i64 0)), .c (.v (.int .i64 0)), .c (.v (.string ⟨⟨[]⟩⟩)), AC.nil, AC.c (C.v (Value.int IntKind.i64 0))]⟩ := rfl
theorem tb201 : Tb 201 = some ⟨.struct [(0, 1), (1, 1), (2, 1)] none, 3, 56, [.c (.v (.string ⟨⟨[]⟩⟩)), AC.nil, AC.c (C.v (Value.string ⟨⟨[]⟩⟩))]⟩ := rfl
theorem tb202 : Tb 202 = some ⟨.struct [(0, 1), (1, 1), (2, 1)] none, 3, 56, [.c (.v (.string ⟨⟨[]⟩⟩)), AC.nil, AC.c (C.v (Value.string ⟨⟨[]⟩⟩))]⟩ := rfl
theorem tb204 : Tb 204 = some ⟨.struct [(0, 1), (1, 1), (2, 1)] none, 3, 56, [.c (.v (.string ⟨⟨[]⟩⟩)), AC.nil, AC.c (C.v (Value.string ⟨⟨[]⟩⟩))]⟩ := rfl
theorem tb209 : Tb 209 = some ⟨.slice 5, 1, 24, [.nil]⟩ := rfl
theorem tb210 : Tb 210 = some ⟨.struct [(0, 1), (1, 4), (5, 4)] none, 9, 120, [.c (.v (.int .i64 0)), .c (.v (.int .i64 0)), .c (.v (.int .i64 0)), .c (.v (.string ⟨⟨[]⟩⟩)), AC.nil, AC.c (C.v (Value.int IntKind.i64 0)), AC.c (C.v (Value.int IntKind.i64 0)), AC.c (C.v (Value.string ⟨⟨[]⟩⟩)), AC.nil]⟩ := rfl
theorem tb211 : Tb 211 = some ⟨.struct [(0, 1), (1, 4), (5, 4)] none, 9, 120, [.c (.v (.int .i64 0)), .c (.v (.int .i64 0)), .c (.v (.int .i64 0)), .c (.v (.string ⟨⟨[]⟩⟩)), AC.nil, AC.c (C.v (Value.int IntKind.i64 0)), AC.c (C.v (Value.int IntKind.i64 0)), AC.c (C.v (Value.string ⟨⟨[]⟩⟩)), AC.nil]⟩ := rfl
theorem tb233 : Tb 233 = some ⟨.struct [(0, 1), (1, 4), (5, 4)] none, 9, 120, [.c (.v (.int .i64 0)), .c (.v (.int .i64 0)), .c (.v (.int .i64 0)), .c (.v (.string ⟨⟨[]⟩⟩)), AC.nil, AC.c (C.v (Value.int IntKind.i64 0)), AC.c (C.v (Value.int IntKind.i64 0)), AC.c (C.v (Value.string ⟨⟨[]⟩⟩)), AC.nil]⟩ := rfl
theorem tb234 : Tb 234 = some ⟨.struct [(0, 1), (1, 4), (5, 4)] none, 9, 120, [.c (.v (.int .i64 0)), .c (.v (.int .i64 0)), .c (.v (.int .i64 0)), .c (.v (.string ⟨⟨[]⟩⟩)), AC.nil, AC.c (C.v (Value.int IntKind.i64 0)), AC.c (C.v (Value.int IntKind.i64 0)), AC.c (C.v (Value.string ⟨⟨[]⟩⟩)), AC.nil]⟩ := rfl
theorem tb244 : Tb 244 = some ⟨.struct [(0, 1), (1, 1)] (some [(0, CK.str), (1, CK.str)]), 2, 32, [.c (.v (.string ⟨⟨[]⟩⟩)), AC.c (C.v (Value.string ⟨⟨[]⟩⟩))]⟩ := rfl
theorem tb245 : Tb 245 = some ⟨.struct [(0, 1), (1, 1)] (some [(0, CK.str), (1, CK.str)]), 2, 32, [.c (.v (.string ⟨⟨[]⟩⟩)), AC.c (C.v (Value.string ⟨⟨[]⟩⟩))]⟩ := rfl
theorem tb248 : Tb 248 = some ⟨.struct [(0, 1), (1, 4)] none, 5, 72, [.c (.v (.string ⟨⟨[]⟩⟩)), AC.c (C.v (Value.int IntKind.i64 0)), AC.c (C.v (Value.int IntKind.i64 0)), AC.c (C.v (Value.string ⟨⟨[]⟩⟩)), AC.nil]⟩ := rfl
theorem tb249 : Tb 249 = some ⟨.struct [(0, 1), (1, 4)] none, 5, 72, [.c (.v (.string ⟨⟨[]⟩⟩)), AC.c (C.v (Value.int IntKind.i64 0)), AC.c (C.v (Value.int IntKind.i64 0)), AC.c (C.v (Value.string ⟨⟨[]⟩⟩)), AC.nil]⟩ := rfl
theorem tb264 : Tb 264 = some ⟨.int .u64, 1, 8, [.c (.v (.int .u64 0))]⟩ := rfl
theorem tb266 : Tb 266 = some ⟨.int .i64, 1, 8, [.c (.v (.int .i64 0))]⟩ := rfl
theorem tb275 : Tb 275 = some ⟨.int .u32, 1, 4, [.c (.v (.int .u32 0))]⟩ := rfl
theorem tb277 : Tb 277 = some ⟨.int .u64, 1, 8, [.c (.v (.int .u64 0))]⟩ := rfl
theorem tb282 : Tb 282 = some ⟨.ptr, 1, 8, [.c (.v (.pointer none))]⟩ := rfl
theorem tb297 : Tb 297 = some ⟨.ptr, 1, 8, [.c (.v (.pointer none))]⟩ := rfl
theorem nt5 : Tryz.f5.ntmps = 142 := rfl
theorem rs5 : Tryz.f5.results.toList = [.tmp 6] := rfl
theorem nt9 : Tryz.f9.ntmps = 24 := rfl
theorem rs9 : Tryz.f9.results.toList = [.tmp 4] := rfl
theorem nt12 : Tryz.f12.ntmps = 17 := rfl
theorem rs12 : Tryz.f12.results.toList = [.cell 2 43] := rfl
theorem nt15 : Tryz.f15.ntmps = 23 := rfl
theorem rs15 : Tryz.f15.results.toList = [.tmp 4] := rfl
theorem nt19 : Tryz.f19.ntmps = 26 := rfl
theorem rs19 : Tryz.f19.results.toList = [.tmp 4] := rfl
theorem nt20 : Tryz.f20.ntmps = 18 := rfl
theorem rs20 : Tryz.f20.results.toList = [.tmp 4] := rfl
theorem nt22 : Tryz.f22.ntmps = 19 := rfl
theorem rs22 : Tryz.f22.results.toList = [.tmp 4] := rfl
theorem nt23 : Tryz.f23.ntmps = 21 := rfl
theorem rs23 : Tryz.f23.results.toList = [.tmp 4] := rfl
theorem nt24 : Tryz.f24.ntmps = 19 := rfl
theorem rs24 : Tryz.f24.results.toList = [.tmp 4] := rfl
theorem nt25 : Tryz.f25.ntmps = 27 := rfl
theorem rs25 : Tryz.f25.results.toList = [.tmp 4] := rfl
theorem nt26 : Tryz.f26.ntmps = 52 := rfl
theorem rs26 : Tryz.f26.results.toList = [.cell 6 65, .tmp 7] := rfl
theorem nt27 : Tryz.f27.ntmps = 18 := rfl
theorem rs27 : Tryz.f27.results.toList = [.cell 2 65] := rfl
theorem nt28 : Tryz.f28.ntmps = 23 := rfl
theorem rs28 : Tryz.f28.results.toList = [.tmp 2] := rfl
theorem nt29 : Tryz.f29.ntmps = 47 := rfl
theorem rs29 : Tryz.f29.results.toList = [.cell 6 65, .tmp 7] := rfl
theorem nt30 : Tryz.f30.ntmps = 26 := rfl
theorem rs30 : Tryz.f30.results.toList = [.tmp 4] := rfl
theorem nt31 : Tryz.f31.ntmps = 27 := rfl
theorem rs31 : Tryz.f31.results.toList = [.tmp 4] := rfl
theorem nt32 : Tryz.f32.ntmps = 10 := rfl
theorem rs32 : Tryz.f32.results.toList = [.tmp 4] := rfl
theorem nt33 : Tryz.f33.ntmps = 27 := rfl
theorem rs33 : Tryz.f33.results.toList = [.tmp 4] := rfl
theorem nt34 : Tryz.f34.ntmps = 12 := rfl
theorem rs34 : Tryz.f34.results.toList = [.tmp 4] := rfl
theorem nt47 : Tryz.f47.ntmps = 18 := rfl
theorem rs47 : Tryz.f47.results.toList = [.tmp 4] := rfl
theorem nt48 : Tryz.f48.ntmps = 27 := rfl
theorem rs48 : Tryz.f48.results.toList = [.tmp 4] := rfl
theorem nt49 : Tryz.f49.ntmps = 27 := rfl
theorem rs49 : Tryz.f49.results.toList = [.tmp 4] := rfl
theorem nt50 : Tryz.f50.ntmps = 27 := rfl
theorem rs50 : Tryz.f50.results.toList = [.tmp 4] := rfl
theorem nt52 : Tryz.f52.ntmps = 13 := rfl
theorem rs52 : Tryz.f52.results.toList = [.cell 2 39] := rfl
theorem nt53 : Tryz.f53.ntmps = 23 := rfl
theorem rs53 : Tryz.f53.results.toList = [.tmp 2] := rfl
theorem nt54 : Tryz.f54.ntmps = 23 := rfl
theorem rs54 : Tryz.f54.results.toList = [.tmp 2] := rfl
theorem nt55 : Tryz.f55.ntmps = 23 := rfl
theorem rs55 : Tryz.f55.results.toList = [.tmp 2] := rfl
theorem nt57 : Tryz.f57.ntmps = 17 := rfl
theorem rs57 : Tryz.f57.results.toList = [.tmp 4] := rfl
theorem nt58 : Tryz.f58.ntmps = 27 := rfl
theorem rs58 : Tryz.f58.results.toList = [.tmp 4] := rfl
theorem nt59 : Tryz.f59.ntmps = 27 := rfl
theorem rs59 : Tryz.f59.results.toList = [.tmp 4] := rfl
theorem nt60 : Tryz.f60.ntmps = 27 := rfl
theorem rs60 : Tryz.f60.results.toList = [.tmp 4] := rfl
theorem nt62 : Tryz.f62.ntmps = 20 := rfl
theorem rs62 : Tryz.f62.results.toList = [.tmp 4] := rfl
theorem nt63 : Tryz.f63.ntmps = 19 := rfl
theorem rs63 : Tryz.f63.results.toList = [.tmp 4] := rfl
theorem nt64 : Tryz.f64.ntmps = 14 := rfl
theorem rs64 : Tryz.f64.results.toList = [.tmp 4] := rfl
theorem nt65 : Tryz.f65.ntmps = 94 := rfl
theorem rs65 : Tryz.f65.results.toList = [.tmp 4] := rfl
theorem nt66 : Tryz.f66.ntmps = 28 := rfl
theorem rs66 : Tryz.f66.results.toList = [.tmp 4] := rfl
theorem nt67 : Tryz.f67.ntmps = 42 := rfl
theorem rs67 : Tryz.f67.results.toList = [.tmp 4] := rfl
theorem nt69 : Tryz.f69.ntmps = 12 := rfl
theorem rs69 : Tryz.f69.results.toList = [.tmp 4] := rfl
theorem nt70 : Tryz.f70.ntmps = 23 := rfl
theorem rs70 : Tryz.f70.results.toList = [.tmp 4] := rfl
theorem nt71 : Tryz.f71.ntmps = 25 := rfl
theorem rs71 : Tryz.f71.results.toList = [.cell 2 65] := rfl
theorem nt72 : Tryz.f72.ntmps = 30 := rfl
theorem rs72 : Tryz.f72.results.toList = [.tmp 4] := rfl
theorem nt73 : Tryz.f73.ntmps = 85 := rfl
theorem rs73 : Tryz.f73.results.toList = [.tmp 8] := rfl
theorem nt74 : Tryz.f74.ntmps = 51 := rfl
theorem rs74 : Tryz.f74.results.toList = [.cell 6 65, .tmp 7] := rfl
theorem nt75 : Tryz.f75.ntmps = 12 := rfl
theorem rs75 : Tryz.f75.results.toList = [.cell 2 120] := rfl
theorem nt76 : Tryz.f76.ntmps = 12 := rfl
theorem rs76 : Tryz.f76.results.toList = [.tmp 4] := rfl
theorem nt77 : Tryz.f77.ntmps = 29 := rfl
theorem rs77 : Tryz.f77.results.toList = [.cell 2 65] := rfl
theorem nt78 : Tryz.f78.ntmps = 9 := rfl
theorem rs78 : Tryz.f78.results.toList = [.tmp 4] := rfl
theorem nt79 : Tryz.f79.ntmps = 59 := rfl
theorem rs79 : Tryz.f79.results.toList = [.tmp 6] := rfl
theorem nt80 : Tryz.f80.ntmps = 7 := rfl
theorem rs80 : Tryz.f80.results.toList = [.tmp 3] := rfl
theorem nt81 : Tryz.f81.ntmps = 17 := rfl
theorem rs81 : Tryz.f81.results.toList = [.tmp 4] := rfl
theorem nt82 : Tryz.f82.ntmps = 36 := rfl
theorem rs82 : Tryz.f82.results.toList = [.cell 6 65, .tmp 7] := rfl
theorem nt83 : Tryz.f83.ntmps = 16 := rfl
theorem rs83 : Tryz.f83.results.toList = [.tmp 4] := rfl
theorem nt84 : Tryz.f84.ntmps = 50 := rfl
theorem rs84 : Tryz.f84.results.toList = [.tmp 4] := rfl
theorem nt98 : Tryz.f98.ntmps = 15 := rfl
theorem rs98 : Tryz.f98.results.toList = [.tmp 2] := rfl
theorem nt103 : Tryz.f103.ntmps = 15 := rfl
theorem rs103 : Tryz.f103.results.toList = [.tmp 2] := rfl
theorem nt104 : Tryz.f104.ntmps = 28 := rfl
theorem rs104 : Tryz.f104.results.toList = [.tmp 4] := rfl
theorem nt105 : Tryz.f105.ntmps = 27 := rfl
theorem rs105 : Tryz.f105.results.toList = [.tmp 4] := rfl
theorem nt106 : Tryz.f106.ntmps = 31 := rfl
theorem rs106 : Tryz.f106.results.toList = [.tmp 4] := rfl
theorem nt107 : Tryz.f107.ntmps = 13 := rfl
theorem rs107 : Tryz.f107.results.toList = [.tmp 4] := rfl
theorem nt109 : Tryz.f109.ntmps = 22 := rfl
theorem rs109 : Tryz.f109.results.toList = [.tmp 2] := rfl
theorem nt110 : Tryz.f110.ntmps = 23 := rfl
theorem rs110 : Tryz.f110.results.toList = [.tmp 2] := rfl
theorem nt111 : Tryz.f111.ntmps = 20 := rfl
theorem rs111 : Tryz.f111.results.toList = [.cell 2 157] := rfl
theorem nt112 : Tryz.f112.ntmps = 11 := rfl
theorem rs112 : Tryz.f112.results.toList = [.cell 2 159] := rfl
theorem nt114 : Tryz.f114.ntmps = 26 := rfl
theorem rs114 : Tryz.f114.results.toList = [.tmp 4] := rfl
theorem nt115 : Tryz.f115.ntmps = 27 := rfl
theorem rs115 : Tryz.f115.results.toList = [.tmp 4] := rfl
theorem nt116 : Tryz.f116.ntmps = 28 := rfl
theorem rs116 : Tryz.f116.results.toList = [.tmp 4] := rfl
theorem nt117 : Tryz.f117.ntmps = 15 := rfl
theorem rs117 : Tryz.f117.results.toList = [.tmp 4] := rfl
theorem nt119 : Tryz.f119.ntmps = 23 := rfl
theorem rs119 : Tryz.f119.results.toList = [.cell 4 120, .tmp 5] := rfl
theorem nt120 : Tryz.f120.ntmps = 48 := rfl
theorem rs120 : Tryz.f120.results.toList = [.cell 6 120, .tmp 7] := rfl
theorem nt121 : Tryz.f121.ntmps = 20 := rfl
theorem rs121 : Tryz.f121.results.toList = [.tmp 4] := rfl
theorem nt122 : Tryz.f122.ntmps = 36 := rfl
theorem rs122 : Tryz.f122.results.toList = [.tmp 4] := rfl
theorem nt123 : Tryz.f123.ntmps = 20 := rfl
theorem rs123 : Tryz.f123.results.toList = [.tmp 2] := rfl
theorem nt124 : Tryz.f124.ntmps = 86 := rfl
theorem rs124 : Tryz.f124.results.toList = [.tmp 4] := rfl
theorem nt125 : Tryz.f125.ntmps = 12 := rfl
theorem rs125 : Tryz.f125.results.toList = [.tmp 4] := rfl
theorem nt126 : Tryz.f126.ntmps = 48 := rfl
theorem rs126 : Tryz.f126.results.toList = [.tmp 2] := rfl
theorem nt127 : Tryz.f127.ntmps = 8 := rfl
theorem rs127 : Tryz.f127.results.toList = [.tmp 2] := rfl
theorem nt128 : Tryz.f128.ntmps = 71 := rfl
theorem rs128 : Tryz.f128.results.toList = [.tmp 6] := rfl
theorem nt129 : Tryz.f129.ntmps = 26 := rfl
theorem rs129 : Tryz.f129.results.toList = [.tmp 4] := rfl
theorem nt130 : Tryz.f130.ntmps = 36 := rfl
theorem rs130 : Tryz.f130.results.toList = [.tmp 4, .tmp 5] := rfl
theorem nt131 : Tryz.f131.ntmps = 33 := rfl
theorem rs131 : Tryz.f131.results.toList = [.tmp 4] := rfl
theorem nt132 : Tryz.f132.ntmps = 15 := rfl
theorem rs132 : Tryz.f132.results.toList = [.tmp 6] := rfl
theorem nt133 : Tryz.f133.ntmps = 34 := rfl
theorem rs133 : Tryz.f133.results.toList = [.cell 4 65, .tmp 5] := rfl
theorem nt134 : Tryz.f134.ntmps = 33 := rfl
theorem rs134 : Tryz.f134.results.toList = [.cell 6 65] := rfl
theorem nt135 : Tryz.f135.ntmps = 78 := rfl
theorem rs135 : Tryz.f135.results.toList = [.cell 2 65] := rfl
theorem nt136 : Tryz.f136.ntmps = 48 := rfl
theorem rs136 : Tryz.f136.results.toList = [.cell 4 65] := rfl
theorem nt137 : Tryz.f137.ntmps = 22 := rfl
theorem rs137 : Tryz.f137.results.toList = [.tmp 2] := rfl
theorem nt138 : Tryz.f138.ntmps = 91 := rfl
theorem rs138 : Tryz.f138.results.toList = [.tmp 2] := rfl
theorem nt139 : Tryz.f139.ntmps = 18 := rfl
theorem rs139 : Tryz.f139.results.toList = [.tmp 4] := rfl
theorem nt140 : Tryz.f140.ntmps = 19 := rfl
theorem rs140 : Tryz.f140.results.toList = [.tmp 4] := rfl
theorem nt141 : Tryz.f141.ntmps = 38 := rfl
theorem rs141 : Tryz.f141.results.toList = [.cell 6 65, .tmp 7] := rfl
theorem nt142 : Tryz.f142.ntmps = 8 := rfl
theorem rs142 : Tryz.f142.results.toList = [.tmp 2] := rfl
theorem nt143 : Tryz.f143.ntmps = 12 := rfl
theorem rs143 : Tryz.f143.results.toList = [.tmp 4] := rfl
theorem nt144 : Tryz.f144.ntmps = 26 := rfl
theorem rs144 : Tryz.f144.results.toList = [.tmp 4] := rfl
theorem nt145 : Tryz.f145.ntmps = 31 := rfl
theorem rs145 : Tryz.f145.results.toList = [.cell 4 65, .tmp 5] := rfl
theorem nt146 : Tryz.f146.ntmps = 27 := rfl
theorem rs146 : Tryz.f146.results.toList = [.cell 6 65] := rfl
theorem nt150 : Tryz.f150.ntmps = 31 := rfl
theorem rs150 : Tryz.f150.results.toList = [.tmp 4] := rfl
theorem nt154 : Tryz.f154.ntmps = 27 := rfl
theorem rs154 : Tryz.f154.results.toList = [.tmp 4] := rfl
theorem nt155 : Tryz.f155.ntmps = 27 := rfl
theorem rs155 : Tryz.f155.results.toList = [.tmp 4] := rfl
theorem nt156 : Tryz.f156.ntmps = 22 := rfl
theorem rs156 : Tryz.f156.results.toList = [.tmp 2] := rfl
theorem nt157 : Tryz.f157.ntmps = 20 := rfl
theorem rs157 : Tryz.f157.results.toList = [.tmp 2] := rfl
theorem nt160 : Tryz.f160.ntmps = 24 := rfl
theorem rs160 : Tryz.f160.results.toList = [.tmp 4] := rfl
theorem nt161 : Tryz.f161.ntmps = 19 := rfl
theorem rs161 : Tryz.f161.results.toList = [.tmp 2] := rfl
theorem nt162 : Tryz.f162.ntmps = 20 := rfl
theorem rs162 : Tryz.f162.results.toList = [.tmp 2] := rfl
theorem nt163 : Tryz.f163.ntmps = 49 := rfl
theorem rs163 : Tryz.f163.results.toList = [.tmp 2] := rfl
theorem nt164 : Tryz.f164.ntmps = 26 := rfl
theorem rs164 : Tryz.f164.results.toList = [.tmp 4] := rfl
theorem nt165 : Tryz.f165.ntmps = 27 := rfl
theorem rs165 : Tryz.f165.results.toList = [.tmp 4] := rfl
theorem nt166 : Tryz.f166.ntmps = 15 := rfl
theorem rs166 : Tryz.f166.results.toList = [.cell 2 204] := rfl
theorem nt167 : Tryz.f167.ntmps = 23 := rfl
theorem rs167 : Tryz.f167.results.toList = [.tmp 2] := rfl
theorem nt168 : Tryz.f168.ntmps = 21 := rfl
theorem rs168 : Tryz.f168.results.toList = [.tmp 4] := rfl
theorem nt169 : Tryz.f169.ntmps = 27 := rfl
theorem rs169 : Tryz.f169.results.toList = [.tmp 4] := rfl
theorem nt170 : Tryz.f170.ntmps = 69 := rfl
theorem rs170 : Tryz.f170.results.toList = [.cell 4 120, .tmp 5] := rfl
theorem nt171 : Tryz.f171.ntmps = 99 := rfl
theorem rs171 : Tryz.f171.results.toList = [.tmp 4] := rfl
theorem nt172 : Tryz.f172.ntmps = 72 := rfl
theorem rs172 : Tryz.f172.results.toList = [.tmp 2] := rfl
theorem nt173 : Tryz.f173.ntmps = 18 := rfl
theorem rs173 : Tryz.f173.results.toList = [.tmp 2] := rfl
theorem nt174 : Tryz.f174.ntmps = 61 := rfl
theorem rs174 : Tryz.f174.results.toList = [.tmp 2] := rfl
theorem nt175 : Tryz.f175.ntmps = 29 := rfl
theorem rs175 : Tryz.f175.results.toList = [.tmp 4] := rfl
theorem nt176 : Tryz.f176.ntmps = 24 := rfl
theorem rs176 : Tryz.f176.results.toList = [.tmp 4] := rfl
theorem nt177 : Tryz.f177.ntmps = 40 := rfl
theorem rs177 : Tryz.f177.results.toList = [.cell 4 204, .tmp 5] := rfl
theorem nt178 : Tryz.f178.ntmps = 22 := rfl
theorem rs178 : Tryz.f178.results.toList = [.tmp 4, .tmp 5] := rfl
theorem nt179 : Tryz.f179.ntmps = 47 := rfl
theorem rs179 : Tryz.f179.results.toList = [.tmp 2] := rfl
theorem nt180 : Tryz.f180.ntmps = 16 := rfl
theorem rs180 : Tryz.f180.results.toList = [.cell 4 211] := rfl
theorem nt181 : Tryz.f181.ntmps = 13 := rfl
theorem rs181 : Tryz.f181.results.toList = [.tmp 2] := rfl
theorem nt182 : Tryz.f182.ntmps = 22 := rfl
theorem rs182 : Tryz.f182.results.toList = [.tmp 2] := rfl
theorem nt183 : Tryz.f183.ntmps = 5 := rfl
theorem rs183 : Tryz.f183.results.toList = [.cell 2 65] := rfl
theorem nt184 : Tryz.f184.ntmps = 26 := rfl
theorem rs184 : Tryz.f184.results.toList = [.tmp 6] := rfl
theorem nt185 : Tryz.f185.ntmps = 19 := rfl
theorem rs185 : Tryz.f185.results.toList = [.cell 4 65, .tmp 5] := rfl
theorem nt186 : Tryz.f186.ntmps = 93 := rfl
theorem rs186 : Tryz.f186.results.toList = [.tmp 2] := rfl
theorem nt187 : Tryz.f187.ntmps = 84 := rfl
theorem rs187 : Tryz.f187.results.toList = [.tmp 4] := rfl
theorem nt188 : Tryz.f188.ntmps = 28 := rfl
theorem rs188 : Tryz.f188.results.toList = [.cell 4 204, .tmp 5] := rfl
theorem nt189 : Tryz.f189.ntmps = 13 := rfl
theorem rs189 : Tryz.f189.results.toList = [.tmp 2] := rfl
theorem nt190 : Tryz.f190.ntmps = 9 := rfl
theorem rs190 : Tryz.f190.results.toList = [.tmp 4] := rfl
theorem nt191 : Tryz.f191.ntmps = 9 := rfl
theorem rs191 : Tryz.f191.results.toList = [.tmp 2] := rfl
theorem nt192 : Tryz.f192.ntmps = 7 := rfl
theorem rs192 : Tryz.f192.results.toList = [.tmp 2] := rfl
theorem nt193 : Tryz.f193.ntmps = 80 := rfl
theorem rs193 : Tryz.f193.results.toList = [.tmp 6] := rfl
theorem nt194 : Tryz.f194.ntmps = 87 := rfl
theorem rs194 : Tryz.f194.results.toList = [.tmp 6, .tmp 7] := rfl
theorem nt195 : Tryz.f195.ntmps = 19 := rfl
theorem rs195 : Tryz.f195.results.toList = [.tmp 4] := rfl
theorem nt196 : Tryz.f196.ntmps = 76 := rfl
theorem rs196 : Tryz.f196.results.toList = [.cell 2 65] := rfl
theorem nt197 : Tryz.f197.ntmps = 47 := rfl
theorem rs197 : Tryz.f197.results.toList = [.cell 4 65] := rfl
theorem nt198 : Tryz.f198.ntmps = 26 := rfl
theorem rs198 : Tryz.f198.results.toList = [.tmp 4] := rfl
theorem nt199 : Tryz.f199.ntmps = 17 := rfl
theorem rs199 : Tryz.f199.results.toList = [.cell 6 65] := rfl
theorem nt200 : Tryz.f200.ntmps = 53 := rfl
theorem rs200 : Tryz.f200.results.toList = [.tmp 4] := rfl
theorem nt201 : Tryz.f201.ntmps = 32 := rfl
theorem rs201 : Tryz.f201.results.toList = [.tmp 6] := rfl
theorem nt202 : Tryz.f202.ntmps = 10 := rfl
theorem rs202 : Tryz.f202.results.toList = [.tmp 4] := rfl
theorem nt203 : Tryz.f203.ntmps = 47 := rfl
theorem rs203 : Tryz.f203.results.toList = [.tmp 2] := rfl
theorem nt204 : Tryz.f204.ntmps = 5 := rfl
theorem rs204 : Tryz.f204.results.toList = [.tmp 2] := rfl
theorem nt205 : Tryz.f205.ntmps = 27 := rfl
theorem rs205 : Tryz.f205.results.toList = [.tmp 2] := rfl
theorem nt206 : Tryz.f206.ntmps = 5 := rfl
theorem rs206 : Tryz.f206.results.toList = [.tmp 2] := rfl
theorem nt207 : Tryz.f207.ntmps = 18 := rfl
theorem rs207 : Tryz.f207.results.toList = [.tmp 4] := rfl
theorem nt208 : Tryz.f208.ntmps = 16 := rfl
theorem rs208 : Tryz.f208.results.toList = [.cell 2 211] := rfl
theorem nt209 : Tryz.f209.ntmps = 22 := rfl
theorem rs209 : Tryz.f209.results.toList = [.tmp 4] := rfl
theorem nt210 : Tryz.f210.ntmps = 14 := rfl
theorem rs210 : Tryz.f210.results.toList = [.tmp 2] := rfl
theorem nt211 : Tryz.f211.ntmps = 25 := rfl
theorem rs211 : Tryz.f211.results.toList = [.tmp 2] := rfl
theorem nt212 : Tryz.f212.ntmps = 34 := rfl
theorem rs212 : Tryz.f212.results.toList = [.tmp 6, .tmp 7] := rfl
theorem nt213 : Tryz.f213.ntmps = 29 := rfl
theorem rs213 : Tryz.f213.results.toList = [.tmp 4] := rfl
theorem nt214 : Tryz.f214.ntmps = 7 := rfl
theorem rs214 : Tryz.f214.results.toList = [.tmp 2] := rfl
theorem nt215 : Tryz.f215.ntmps = 49 := rfl
theorem rs215 : Tryz.f215.results.toList = [.tmp 6] := rfl
theorem nt216 : Tryz.f216.ntmps = 42 := rfl
theorem rs216 : Tryz.f216.results.toList = [.tmp 4] := rfl
theorem nt217 : Tryz.f217.ntmps = 19 := rfl
theorem rs217 : Tryz.f217.results.toList = [.tmp 4] := rfl
theorem nt218 : Tryz.f218.ntmps = 92 := rfl
theorem rs218 : Tryz.f218.results.toList = [.tmp 6, .tmp 7] := rfl
theorem nt219 : Tryz.f219.ntmps = 39 := rfl
theorem rs219 : Tryz.f219.results.toList = [.tmp 4] := rfl
theorem nt220 : Tryz.f220.ntmps = 20 := rfl
theorem rs220 : Tryz.f220.results.toList = [.tmp 4] := rfl
theorem nt221 : Tryz.f221.ntmps = 8 := rfl
theorem rs221 : Tryz.f221.results.toList = [.tmp 2] := rfl
theorem nt222 : Tryz.f222.ntmps = 9 := rfl
theorem rs222 : Tryz.f222.results.toList = [.tmp 4] := rfl
theorem nt223 : Tryz.f223.ntmps = 24 := rfl
theorem rs223 : Tryz.f223.results.toList = [.tmp 2] := rfl
theorem nt224 : Tryz.f224.ntmps = 32 := rfl
theorem rs224 : Tryz.f224.results.toList = [.tmp 6, .tmp 7] := rfl
theorem nt225 : Tryz.f225.ntmps = 27 := rfl
theorem rs225 : Tryz.f225.results.toList = [.tmp 2] := rfl
theorem nt226 : Tryz.f226.ntmps = 11 := rfl
theorem rs226 : Tryz.f226.results.toList = [.tmp 4] := rfl
theorem nt227 : Tryz.f227.ntmps = 79 := rfl
theorem rs227 : Tryz.f227.results.toList = [.tmp 8] := rfl
theorem nt228 : Tryz.f228.ntmps = 11 := rfl
theorem rs228 : Tryz.f228.results.toList = [.cell 2 204] := rfl
theorem nt229 : Tryz.f229.ntmps = 19 := rfl
theorem rs229 : Tryz.f229.results.toList = [.tmp 4] := rfl
theorem nt230 : Tryz.f230.ntmps = 10 := rfl
theorem rs230 : Tryz.f230.results.toList = [.tmp 2] := rfl
theorem nt231 : Tryz.f231.ntmps = 22 := rfl
theorem rs231 : Tryz.f231.results.toList = [.cell 4 65, .tmp 5] := rfl
theorem nt232 : Tryz.f232.ntmps = 49 := rfl
theorem rs232 : Tryz.f232.results.toList = [.tmp 2] := rfl
theorem nt233 : Tryz.f233.ntmps = 16 := rfl
theorem rs233 : Tryz.f233.results.toList = [.cell 4 211] := rfl
theorem nt234 : Tryz.f234.ntmps = 25 := rfl
theorem rs234 : Tryz.f234.results.toList = [.tmp 6] := rfl
theorem nt235 : Tryz.f235.ntmps = 8 := rfl
theorem rs235 : Tryz.f235.results.toList = [.tmp 2] := rfl
theorem nt236 : Tryz.f236.ntmps = 19 := rfl
theorem rs236 : Tryz.f236.results.toList = [.tmp 2] := rfl
theorem nt237 : Tryz.f237.ntmps = 56 := rfl
theorem rs237 : Tryz.f237.results.toList = [.tmp 6] := rfl
theorem nt238 : Tryz.f238.ntmps = 9 := rfl
theorem rs238 : Tryz.f238.results.toList = [.tmp 2] := rfl
theorem nt239 : Tryz.f239.ntmps = 25 := rfl
theorem rs239 : Tryz.f239.results.toList = [.tmp 2] := rfl
theorem nt240 : Tryz.f240.ntmps = 93 := rfl
theorem rs240 : Tryz.f240.results.toList = [.tmp 8, .tmp 9] := rfl
theorem nt241 : Tryz.f241.ntmps = 64 := rfl
theorem rs241 : Tryz.f241.results.toList = [.tmp 2] := rfl
theorem nt242 : Tryz.f242.ntmps = 10 := rfl
theorem rs242 : Tryz.f242.results.toList = [.tmp 2] := rfl
theorem nt243 : Tryz.f243.ntmps = 14 := rfl
theorem rs243 : Tryz.f243.results.toList = [.tmp 4] := rfl
theorem nt244 : Tryz.f244.ntmps = 19 := rfl
theorem rs244 : Tryz.f244.results.toList = [.tmp 4] := rfl
theorem nt245 : Tryz.f245.ntmps = 84 := rfl
theorem rs245 : Tryz.f245.results.toList = [.tmp 8, .tmp 9] := rfl
theorem nt246 : Tryz.f246.ntmps = 24 := rfl
theorem rs246 : Tryz.f246.results.toList = [.tmp 4] := rfl
theorem nt247 : Tryz.f247.ntmps = 9 := rfl
theorem rs247 : Tryz.f247.results.toList = [.tmp 2] := rfl
theorem nt248 : Tryz.f248.ntmps = 11 := rfl
theorem rs248 : Tryz.f248.results.toList = [] := rfl
theorem nt249 : Tryz.f249.ntmps = 61 := rfl
theorem rs249 : Tryz.f249.results.toList = [.tmp 2] := rfl
theorem nt250 : Tryz.f250.ntmps = 9 := rfl
theorem rs250 : Tryz.f250.results.toList = [.tmp 2] := rfl
theorem nt251 : Tryz.f251.ntmps = 134 := rfl
theorem rs251 : Tryz.f251.results.toList = [] := rfl
theorem nt252 : Tryz.f252.ntmps = 8 := rfl
theorem rs252 : Tryz.f252.results.toList = [.tmp 2] := rfl
theorem nt253 : Tryz.f253.ntmps = 49 := rfl
theorem rs253 : Tryz.f253.results.toList = [] := rfl
attribute [go_sem] tb2 tb3 tb4 tb5 tb9 tb12 tb13 tb20 tb21 tb22 tb23 tb24 tb25 tb26 tb27 tb28 tb29 tb30 tb31 tb32 tb33 tb37 tb38 tb39 tb40 tb41 tb42 tb43 tb45 tb46 tb47 tb48 tb53 tb59 tb60 tb61 tb64 tb65 tb69 tb78 tb79 tb80 tb86 tb87 tb88 tb115 tb116 tb120 tb127 tb130 tb131 tb144 tb145 tb146 tb149 tb152 tb155 tb156 tb157 tb159 tb175 tb176 tb190 tb191 tb193 tb194 tb201 tb202 tb204 tb209 tb210 tb211 tb233 tb234 tb244 tb245 tb248 tb249 tb264 tb266 tb275 tb277 tb282 tb297 nt5 rs5 nt9 rs9 nt12 rs12 nt15 rs15 nt19 rs19 nt20 rs20 nt22 rs22 nt23 rs23 nt24 rs24 nt25 rs25 nt26 rs26 nt27 rs27 nt28 rs28 nt29 rs29 nt30 rs30 nt31 rs31 nt32 rs32 nt33 rs33 nt34 rs34 nt47 rs47 nt48 rs48 nt49 rs49 nt50 rs50 nt52 rs52 nt53 rs53 nt54 rs54 nt55 rs55 nt57 rs57 nt58 rs58 nt59 rs59 nt60 rs60 nt62 rs62 nt63 rs63 nt64 rs64 nt65 rs65 nt66 rs66 nt67 rs67 nt69 rs69 nt70 rs70 nt71 rs71 nt72 rs72 nt73 rs73 nt74 rs74 nt75 rs75 nt76 rs76 nt77 rs77 nt78 rs78 nt79 rs79 nt80 rs80 nt81 rs81 nt82 rs82 nt83 rs83 nt84 rs84 nt98 rs98 nt103 rs103 nt104 rs104 nt105 rs105 nt106 rs106 nt107 rs107 nt109 rs109 nt110 rs110 nt111 rs111 nt112 rs112 nt114 rs114 nt115 rs115 nt116 rs116 nt117 rs117 nt119 rs119 nt120 rs120 nt121 rs121 nt122 rs122 nt123 rs123 nt124 rs124 nt125 rs125 nt126 rs126 nt127 rs127 nt128 rs128 nt129 rs129 nt130 rs130 nt131 rs131 nt132 rs132 nt133 rs133 nt134 rs134 nt135 rs135 nt136 rs136 nt137 rs137 nt138 rs138 nt139 rs139 nt140 rs140 nt141 rs141 nt142 rs142 nt143 rs143 nt144 rs144 nt145 rs145 nt146 rs146 nt150 rs150 nt154 rs154 nt155 rs155 nt156 rs156 nt157 rs157 nt160 rs160 nt161 rs161 nt162 rs162 nt163 rs163 nt164 rs164 nt165 rs165 nt166 rs166 nt167 rs167 nt168 rs168 nt169 rs169 nt170 rs170 nt171 rs171 nt172 rs172 nt173 rs173 nt174 rs174 nt175 rs175 nt176 rs176 nt177 rs177 nt178 rs178 nt179 rs179 nt180 rs180 nt181 rs181 nt182 rs182 nt183 rs183 nt184 rs184 nt185 rs185 nt186 rs186 nt187 rs187 nt188 rs188 nt189 rs189 nt190 rs190 nt191 rs191 nt192 rs192 nt193 rs193 nt194 rs194 nt195 rs195 nt196 rs196 nt197 rs197 nt198 rs198 nt199 rs199 nt200 rs200 nt201 rs201 nt202 rs202 nt203 rs203 nt204 rs204 nt205 rs205 nt206 rs206 nt207 rs207 nt208 rs208 nt209 rs209 nt210 rs210 nt211 rs211 nt212 rs212 nt213 rs213 nt214 rs214 nt215 rs215 nt216 rs216 nt217 rs217 nt218 rs218 nt219 rs219 nt220 rs220 nt221 rs221 nt222 rs222 nt223 rs223 nt224 rs224 nt225 rs225 nt226 rs226 nt227 rs227 nt228 rs228 nt229 rs229 nt230 rs230 nt231 rs231 nt232 rs232 nt233 rs233 nt234 rs234 nt235 rs235 nt236 rs236 nt237 rs237 nt238 rs238 nt239 rs239 nt240 rs240 nt241 rs241 nt242 rs242 nt243 rs243 nt244 rs244 nt245 rs245 nt246 rs246 nt247 rs247 nt248 rs248 nt249 rs249 nt250 rs250 nt251 rs251 nt252 rs252 nt253 rs253
end Go.Ai
