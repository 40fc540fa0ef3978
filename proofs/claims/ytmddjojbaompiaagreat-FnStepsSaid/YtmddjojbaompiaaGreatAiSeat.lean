/- The types' table of this seat's program, and what its functions give back. Written by mkseat.py. -/
import Derived.Test.YtmddjojbaompiaaGreatAiRows
import Derived.Test.YtmddjojbaompiaaGreatProg
import Derived.KernelRfl
set_option linter.unusedVariables false
set_option linter.unusedSimpArgs false
namespace Go.Ai
open Go.Proofs
set_option maxRecDepth 100000
def Tb : Tab := tabOf [
 (2, ⟨.int .i64, 1, 8, [.c (.v (.int .i64 0))]⟩),
 (3, ⟨.int .i64, 1, 8, [.c (.v (.int .i64 0))]⟩),
 (4, ⟨.bool, 1, 1, [.c (.v (.bool false))]⟩),
 (5, ⟨.int .u8, 1, 1, [.c (.v (.int .u8 0))]⟩),
 (9, ⟨.str, 1, 16, [.c (.v (.string ⟨⟨[]⟩⟩))]⟩),
 (12, ⟨.int .u64, 1, 8, [.c (.v (.int .u64 0))]⟩),
 (13, ⟨.struct [(0, 1), (1, 1)] none, 2, 24, [.c (.v (.string ⟨⟨[]⟩⟩)), AC.c (C.v (Value.int IntKind.u64 0))]⟩),
 (20, ⟨.iface, 1, 16, [.c (.v .nilIface)]⟩),
 (21, ⟨.int .i32, 1, 4, [.c (.v (.int .i32 0))]⟩),
 (22, ⟨.slice 5, 1, 24, [.nil]⟩),
 (24, ⟨.slice 9, 1, 24, [.nil]⟩),
 (25, ⟨.slice 90, 1, 24, [.nil]⟩),
 (26, ⟨.struct [(0, 1), (1, 1)] none, 2, 48, [.nil, .nil]⟩),
 (27, ⟨.struct [(0, 1), (1, 1)] none, 2, 48, [.nil, .nil]⟩),
 (28, ⟨.slice 40, 1, 24, [.nil]⟩),
 (29, ⟨.slice 88, 1, 24, [.nil]⟩),
 (30, ⟨.struct [(0, 2), (2, 1), (3, 1)] none, 4, 96, [.nil, .nil, .nil, .nil]⟩),
 (31, ⟨.struct [(0, 2), (2, 1), (3, 1)] none, 4, 96, [.nil, .nil, .nil, .nil]⟩),
 (35, ⟨.slice 37, 1, 24, [.nil]⟩),
 (36, ⟨.struct [(0, 1), (1, 1), (2, 1), (3, 1)] none, 4, 56, [.c (.v (.int .i64 0)), .c (.v (.int .i64 0)), .c (.v (.string ⟨⟨[]⟩⟩)), AC.nil]⟩),
 (37, ⟨.struct [(0, 1), (1, 1), (2, 1), (3, 1)] none, 4, 56, [.c (.v (.int .i64 0)), .c (.v (.int .i64 0)), .c (.v (.string ⟨⟨[]⟩⟩)), AC.nil]⟩),
 (38, ⟨.slice 118, 1, 24, [.nil]⟩),
 (39, ⟨.struct [(0, 1), (1, 4), (5, 4), (9, 1)] none, 10, 152, [.c (.v (.string ⟨⟨[]⟩⟩)), AC.c (C.v (Value.int IntKind.i64 0)), AC.c (C.v (Value.int IntKind.i64 0)), AC.c (C.v (Value.string ⟨⟨[]⟩⟩)), AC.nil, AC.c (C.v (Value.int IntKind.i64 0)), AC.c (C.v (Value.int IntKind.i64 0)), AC.c (C.v (Value.string ⟨⟨[]⟩⟩)), AC.nil, AC.nil]⟩),
 (40, ⟨.struct [(0, 1), (1, 4), (5, 4), (9, 1)] none, 10, 152, [.c (.v (.string ⟨⟨[]⟩⟩)), AC.c (C.v (Value.int IntKind.i64 0)), AC.c (C.v (Value.int IntKind.i64 0)), AC.c (C.v (Value.string ⟨⟨[]⟩⟩)), AC.nil, AC.c (C.v (Value.int IntKind.i64 0)), AC.c (C.v (Value.int IntKind.i64 0)), AC.c (C.v (Value.string ⟨⟨[]⟩⟩)), AC.nil, AC.nil]⟩),
 (45, ⟨.slice 3, 1, 24, [.nil]⟩),
 (53, ⟨.struct [(0, 1), (1, 4), (5, 1)] none, 6, 104, [.nil, .c (.v (.int .i64 0)), .c (.v (.int .i64 0)), .c (.v (.string ⟨⟨[]⟩⟩)), AC.nil, AC.nil]⟩),
 (54, ⟨.struct [(0, 1), (1, 4), (5, 1)] none, 6, 104, [.nil, .c (.v (.int .i64 0)), .c (.v (.int .i64 0)), .c (.v (.string ⟨⟨[]⟩⟩)), AC.nil, AC.nil]⟩),
 (67, ⟨.slice 72, 1, 24, [.nil]⟩),
 (71, ⟨.struct [(0, 1), (1, 1)] none, 2, 32, [.c (.v (.int .i64 0)), .nil]⟩),
 (72, ⟨.struct [(0, 1), (1, 1)] none, 2, 32, [.c (.v (.int .i64 0)), .nil]⟩),
 (84, ⟨.ptr, 1, 8, [.c (.v (.pointer none))]⟩),
 (87, ⟨.struct [(0, 1), (1, 1)] (some [(0, CK.str), (1, CK.int .i64)]), 2, 24, [.c (.v (.string ⟨⟨[]⟩⟩)), AC.c (C.v (Value.int IntKind.i64 0))]⟩),
 (88, ⟨.struct [(0, 1), (1, 1)] (some [(0, CK.str), (1, CK.int .i64)]), 2, 24, [.c (.v (.string ⟨⟨[]⟩⟩)), AC.c (C.v (Value.int IntKind.i64 0))]⟩),
 (89, ⟨.struct [(0, 1), (1, 1), (2, 1)] none, 3, 56, [.c (.v (.string ⟨⟨[]⟩⟩)), AC.nil, AC.c (C.v (Value.string ⟨⟨[]⟩⟩))]⟩),
 (90, ⟨.struct [(0, 1), (1, 1), (2, 1)] none, 3, 56, [.c (.v (.string ⟨⟨[]⟩⟩)), AC.nil, AC.c (C.v (Value.string ⟨⟨[]⟩⟩))]⟩),
 (103, ⟨.slice 150, 1, 24, [.nil]⟩),
 (117, ⟨.struct [(0, 1), (1, 4), (5, 4)] none, 9, 120, [.c (.v (.int .i64 0)), .c (.v (.int .i64 0)), .c (.v (.int .i64 0)), .c (.v (.string ⟨⟨[]⟩⟩)), AC.nil, AC.c (C.v (Value.int IntKind.i64 0)), AC.c (C.v (Value.int IntKind.i64 0)), AC.c (C.v (Value.string ⟨⟨[]⟩⟩)), AC.nil]⟩),
 (118, ⟨.struct [(0, 1), (1, 4), (5, 4)] none, 9, 120, [.c (.v (.int .i64 0)), .c (.v (.int .i64 0)), .c (.v (.int .i64 0)), .c (.v (.string ⟨⟨[]⟩⟩)), AC.nil, AC.c (C.v (Value.int IntKind.i64 0)), AC.c (C.v (Value.int IntKind.i64 0)), AC.c (C.v (Value.string ⟨⟨[]⟩⟩)), AC.nil]⟩),
 (126, ⟨.slice 171, 1, 24, [.nil]⟩),
 (138, ⟨.struct [(0, 1), (1, 1), (2, 1)] none, 3, 40, [.nil, .c (.v (.int .i64 0)), .c (.v (.int .i64 0))]⟩),
 (139, ⟨.struct [(0, 1), (1, 1), (2, 1)] none, 3, 40, [.nil, .c (.v (.int .i64 0)), .c (.v (.int .i64 0))]⟩),
 (149, ⟨.struct [(0, 1), (1, 1)] (some [(0, CK.str), (1, CK.str)]), 2, 32, [.c (.v (.string ⟨⟨[]⟩⟩)), AC.c (C.v (Value.string ⟨⟨[]⟩⟩))]⟩),
 (150, ⟨.struct [(0, 1), (1, 1)] (some [(0, CK.str), (1, CK.str)]), 2, 32, [.c (.v (.string ⟨⟨[]⟩⟩)), AC.c (C.v (Value.string ⟨⟨[]⟩⟩))]⟩),
 (170, ⟨.struct [(0, 1), (1, 4)] none, 5, 72, [.c (.v (.string ⟨⟨[]⟩⟩)), AC.c (C.v (Value.int IntKind.i64 0)), AC.c (C.v (Value.int IntKind.i64 0)), AC.c (C.v (Value.string ⟨⟨[]⟩⟩)), AC.nil]⟩),
 (171, ⟨.struct [(0, 1), (1, 4)] none, 5, 72, [.c (.v (.string ⟨⟨[]⟩⟩)), AC.c (C.v (Value.int IntKind.i64 0)), AC.c (C.v (Value.int IntKind.i64 0)), AC.c (C.v (Value.string ⟨⟨[]⟩⟩)), AC.nil]⟩),
 (186, ⟨.int .u64, 1, 8, [.c (.v (.int .u64 0))]⟩),
 (194, ⟨.int .i64, 1, 8, [.c (.v (.int .i64 0))]⟩),
 (203, ⟨.int .u32, 1, 4, [.c (.v (.int .u32 0))]⟩),
 (205, ⟨.int .u64, 1, 8, [.c (.v (.int .u64 0))]⟩),
 (206, ⟨.int .u64, 1, 8, [.c (.v (.int .u64 0))]⟩),
 (210, ⟨.ptr, 1, 8, [.c (.v (.pointer none))]⟩),
 (212, ⟨.ptr, 1, 8, [.c (.v (.pointer none))]⟩),
 (225, ⟨.ptr, 1, 8, [.c (.v (.pointer none))]⟩)]
theorem tbOk : TabOk Tryz.prog Tb := tabOk_of _ _ ⟨by kernel_rfl, by kernel_rfl, by kernel_rfl, by kernel_rfl, by kernel_rfl, by kernel_rfl, by kernel_rfl, by kernel_rfl, by kernel_rfl, by kernel_rfl, by kernel_rfl, by kernel_rfl, by kernel_rfl, by kernel_rfl, by kernel_rfl, by kernel_rfl, by kernel_rfl, by kernel_rfl, by kernel_rfl, by kernel_rfl, by kernel_rfl, by kernel_rfl, by kernel_rfl, by kernel_rfl, by kernel_rfl, by kernel_rfl, by kernel_rfl, by kernel_rfl, by kernel_rfl, by kernel_rfl, by kernel_rfl, by kernel_rfl, by kernel_rfl, by kernel_rfl, by kernel_rfl, by kernel_rfl, by kernel_rfl, by kernel_rfl, by kernel_rfl, by kernel_rfl, by kernel_rfl, by kernel_rfl, by kernel_rfl, by kernel_rfl, by kernel_rfl, by kernel_rfl, by kernel_rfl, by kernel_rfl, by kernel_rfl, by kernel_rfl, by kernel_rfl, by kernel_rfl, by kernel_rfl, trivial⟩
theorem mixed : Tryz.prog.follows .mixedOrders = true := by kernel_rfl
theorem tb3 : Tb 3 = some ⟨.int .i64, 1, 8, [.c (.v (.int .i64 0))]⟩ := rfl
theorem tb4 : Tb 4 = some ⟨.bool, 1, 1, [.c (.v (.bool false))]⟩ := rfl
theorem tb5 : Tb 5 = some ⟨.int .u8, 1, 1, [.c (.v (.int .u8 0))]⟩ := rfl
theorem tb9 : Tb 9 = some ⟨.str, 1, 16, [.c (.v (.string ⟨⟨[]⟩⟩))]⟩ := rfl
theorem tb22 : Tb 22 = some ⟨.slice 5, 1, 24, [.nil]⟩ := rfl
theorem tb24 : Tb 24 = some ⟨.slice 9, 1, 24, [.nil]⟩ := rfl
theorem tb25 : Tb 25 = some ⟨.slice 90, 1, 24, [.nil]⟩ := rfl
theorem tb27 : Tb 27 = some ⟨.struct [(0, 1), (1, 1)] none, 2, 48, [.nil, .nil]⟩ := rfl
theorem tb28 : Tb 28 = some ⟨.slice 40, 1, 24, [.nil]⟩ := rfl
theorem tb29 : Tb 29 = some ⟨.slice 88, 1, 24, [.nil]⟩ := rfl
theorem tb31 : Tb 31 = some ⟨.struct [(0, 2), (2, 1), (3, 1)] none, 4, 96, [.nil, .nil, .nil, .nil]⟩ := rfl
theorem tb35 : Tb 35 = some ⟨.slice 37, 1, 24, [.nil]⟩ := rfl
theorem tb37 : Tb 37 = some ⟨.struct [(0, 1), (1, 1), (2, 1), (3, 1)] none, 4, 56, [.c (.v (.int .i64 0)), .c (.v (.int .i64 0)), .c (.v (.string ⟨⟨[]⟩⟩)), AC.nil]⟩ := rfl
theorem tb38 : Tb 38 = some ⟨.slice 118, 1, 24, [.nil]⟩ := rfl
theorem tb40 : Tb 40 = some ⟨.struct [(0, 1), (1, 4), (5, 4), (9, 1)] none, 10, 152, [.c (.v (.string ⟨⟨[]⟩⟩)), AC.c (C.v (Value.int IntKind.i64 0)), AC.c (C.v (Value.int IntKind.i64 0)), AC.c (C.v (Value.string ⟨⟨[]⟩⟩)), AC.nil, AC.c (C.v (Value.int IntKind.i64 0)), AC.c (C.v (Value.int IntKind.i64 0)), AC.c (C.v (Value.string ⟨⟨[]⟩⟩)), AC.nil, AC.nil]⟩ := rfl
theorem tb45 : Tb 45 = some ⟨.slice 3, 1, 24, [.nil]⟩ := rfl
theorem tb67 : Tb 67 = some ⟨.slice 72, 1, 24, [.nil]⟩ := rfl
theorem tb72 : Tb 72 = some ⟨.struct [(0, 1), (1, 1)] none, 2, 32, [.c (.v (.int .i64 0)), .nil]⟩ := rfl
theorem tb88 : Tb 88 = some ⟨.struct [(0, 1), (1, 1)] (some [(0, CK.str), (1, CK.int .i64)]), 2, 24, [.c (.v (.string ⟨⟨[]⟩⟩)), AC.c (C.v (Value.int IntKind.i64 0))]⟩ := rfl
theorem tb90 : Tb 90 = some ⟨.struct [(0, 1), (1, 1), (2, 1)] none, 3, 56, [.c (.v (.string ⟨⟨[]⟩⟩)), AC.nil, AC.c (C.v (Value.string ⟨⟨[]⟩⟩))]⟩ := rfl
theorem tb103 : Tb 103 = some ⟨.slice 150, 1, 24, [.nil]⟩ := rfl
theorem tb118 : Tb 118 = some ⟨.struct [(0, 1), (1, 4), (5, 4)] none, 9, 120, [.c (.v (.int .i64 0)), .c (.v (.int .i64 0)), .c (.v (.int .i64 0)), .c (.v (.string ⟨⟨[]⟩⟩)), AC.nil, AC.c (C.v (Value.int IntKind.i64 0)), AC.c (C.v (Value.int IntKind.i64 0)), AC.c (C.v (Value.string ⟨⟨[]⟩⟩)), AC.nil]⟩ := rfl
theorem tb126 : Tb 126 = some ⟨.slice 171, 1, 24, [.nil]⟩ := rfl
theorem tb139 : Tb 139 = some ⟨.struct [(0, 1), (1, 1), (2, 1)] none, 3, 40, [.nil, .c (.v (.int .i64 0)), .c (.v (.int .i64 0))]⟩ := rfl
theorem tb150 : Tb 150 = some ⟨.struct [(0, 1), (1, 1)] (some [(0, CK.str), (1, CK.str)]), 2, 32, [.c (.v (.string ⟨⟨[]⟩⟩)), AC.c (C.v (Value.string ⟨⟨[]⟩⟩))]⟩ := rfl
theorem tb171 : Tb 171 = some ⟨.struct [(0, 1), (1, 4)] none, 5, 72, [.c (.v (.string ⟨⟨[]⟩⟩)), AC.c (C.v (Value.int IntKind.i64 0)), AC.c (C.v (Value.int IntKind.i64 0)), AC.c (C.v (Value.string ⟨⟨[]⟩⟩)), AC.nil]⟩ := rfl
theorem nt6 : Tryz.f6.ntmps = 118 := rfl
theorem rs6 : Tryz.f6.results.toList = [.tmp 2] := rfl
theorem nt7 : Tryz.f7.ntmps = 6 := rfl
theorem rs7 : Tryz.f7.results.toList = [.tmp 2] := rfl
theorem nt9 : Tryz.f9.ntmps = 91 := rfl
theorem rs9 : Tryz.f9.results.toList = [.tmp 2] := rfl
theorem nt10 : Tryz.f10.ntmps = 48 := rfl
theorem rs10 : Tryz.f10.results.toList = [.tmp 2] := rfl
theorem nt12 : Tryz.f12.ntmps = 84 := rfl
theorem rs12 : Tryz.f12.results.toList = [.tmp 4] := rfl
theorem nt13 : Tryz.f13.ntmps = 29 := rfl
theorem rs13 : Tryz.f13.results.toList = [.tmp 4] := rfl
theorem nt14 : Tryz.f14.ntmps = 7 := rfl
theorem rs14 : Tryz.f14.results.toList = [.tmp 2] := rfl
theorem nt19 : Tryz.f19.ntmps = 99 := rfl
theorem rs19 : Tryz.f19.results.toList = [.tmp 4] := rfl
theorem nt20 : Tryz.f20.ntmps = 26 := rfl
theorem rs20 : Tryz.f20.results.toList = [.tmp 4] := rfl
theorem nt21 : Tryz.f21.ntmps = 26 := rfl
theorem rs21 : Tryz.f21.results.toList = [.tmp 4] := rfl
theorem nt22 : Tryz.f22.ntmps = 33 := rfl
theorem rs22 : Tryz.f22.results.toList = [.tmp 4] := rfl
theorem nt30 : Tryz.f30.ntmps = 23 := rfl
theorem rs30 : Tryz.f30.results.toList = [.tmp 4] := rfl
theorem nt33 : Tryz.f33.ntmps = 53 := rfl
theorem rs33 : Tryz.f33.results.toList = [.tmp 4] := rfl
theorem nt36 : Tryz.f36.ntmps = 42 := rfl
theorem rs36 : Tryz.f36.results.toList = [.tmp 4] := rfl
theorem nt40 : Tryz.f40.ntmps = 34 := rfl
theorem rs40 : Tryz.f40.results.toList = [.cell 4 37, .tmp 5] := rfl
theorem nt45 : Tryz.f45.ntmps = 8 := rfl
theorem rs45 : Tryz.f45.results.toList = [.cell 2 31, .cell 3 37] := rfl
theorem nt46 : Tryz.f46.ntmps = 29 := rfl
theorem rs46 : Tryz.f46.results.toList = [.cell 4 37, .tmp 5] := rfl
theorem nt47 : Tryz.f47.ntmps = 32 := rfl
theorem rs47 : Tryz.f47.results.toList = [.cell 4 37, .tmp 5] := rfl
theorem nt48 : Tryz.f48.ntmps = 16 := rfl
theorem rs48 : Tryz.f48.results.toList = [.cell 4 72, .tmp 5] := rfl
theorem nt49 : Tryz.f49.ntmps = 23 := rfl
theorem rs49 : Tryz.f49.results.toList = [.cell 4 72, .tmp 5] := rfl
theorem nt50 : Tryz.f50.ntmps = 19 := rfl
theorem rs50 : Tryz.f50.results.toList = [.tmp 4] := rfl
theorem nt51 : Tryz.f51.ntmps = 12 := rfl
theorem rs51 : Tryz.f51.results.toList = [.tmp 4] := rfl
theorem nt52 : Tryz.f52.ntmps = 52 := rfl
theorem rs52 : Tryz.f52.results.toList = [.cell 6 37, .tmp 7] := rfl
theorem nt53 : Tryz.f53.ntmps = 71 := rfl
theorem rs53 : Tryz.f53.results.toList = [.tmp 6] := rfl
theorem nt54 : Tryz.f54.ntmps = 42 := rfl
theorem rs54 : Tryz.f54.results.toList = [.cell 2 31] := rfl
theorem nt55 : Tryz.f55.ntmps = 32 := rfl
theorem rs55 : Tryz.f55.results.toList = [.tmp 2] := rfl
theorem nt56 : Tryz.f56.ntmps = 93 := rfl
theorem rs56 : Tryz.f56.results.toList = [.tmp 2] := rfl
theorem nt57 : Tryz.f57.ntmps = 28 := rfl
theorem rs57 : Tryz.f57.results.toList = [.cell 4 90, .tmp 5] := rfl
theorem nt58 : Tryz.f58.ntmps = 13 := rfl
theorem rs58 : Tryz.f58.results.toList = [.tmp 2] := rfl
theorem nt59 : Tryz.f59.ntmps = 9 := rfl
theorem rs59 : Tryz.f59.results.toList = [.tmp 4] := rfl
theorem nt61 : Tryz.f61.ntmps = 72 := rfl
theorem rs61 : Tryz.f61.results.toList = [.tmp 2] := rfl
theorem nt62 : Tryz.f62.ntmps = 18 := rfl
theorem rs62 : Tryz.f62.results.toList = [.tmp 2] := rfl
theorem nt63 : Tryz.f63.ntmps = 61 := rfl
theorem rs63 : Tryz.f63.results.toList = [.tmp 2] := rfl
theorem nt70 : Tryz.f70.ntmps = 5 := rfl
theorem rs70 : Tryz.f70.results.toList = [.tmp 2] := rfl
theorem nt71 : Tryz.f71.ntmps = 15 := rfl
theorem rs71 : Tryz.f71.results.toList = [.tmp 2] := rfl
theorem nt72 : Tryz.f72.ntmps = 24 := rfl
theorem rs72 : Tryz.f72.results.toList = [.tmp 2] := rfl
theorem nt73 : Tryz.f73.ntmps = 32 := rfl
theorem rs73 : Tryz.f73.results.toList = [.tmp 6, .tmp 7] := rfl
theorem nt74 : Tryz.f74.ntmps = 27 := rfl
theorem rs74 : Tryz.f74.results.toList = [.tmp 2] := rfl
theorem nt75 : Tryz.f75.ntmps = 80 := rfl
theorem rs75 : Tryz.f75.results.toList = [.tmp 6] := rfl
theorem nt76 : Tryz.f76.ntmps = 11 := rfl
theorem rs76 : Tryz.f76.results.toList = [.tmp 4] := rfl
theorem nt77 : Tryz.f77.ntmps = 79 := rfl
theorem rs77 : Tryz.f77.results.toList = [.tmp 8] := rfl
theorem nt78 : Tryz.f78.ntmps = 19 := rfl
theorem rs78 : Tryz.f78.results.toList = [.tmp 4] := rfl
theorem nt79 : Tryz.f79.ntmps = 64 := rfl
theorem rs79 : Tryz.f79.results.toList = [.tmp 2] := rfl
theorem nt80 : Tryz.f80.ntmps = 29 := rfl
theorem rs80 : Tryz.f80.results.toList = [.tmp 4] := rfl
theorem nt81 : Tryz.f81.ntmps = 125 := rfl
theorem rs81 : Tryz.f81.results.toList = [.cell 4 40] := rfl
theorem nt82 : Tryz.f82.ntmps = 12 := rfl
theorem rs82 : Tryz.f82.results.toList = [.tmp 4] := rfl
theorem nt83 : Tryz.f83.ntmps = 9 := rfl
theorem rs83 : Tryz.f83.results.toList = [.tmp 4] := rfl
theorem nt84 : Tryz.f84.ntmps = 48 := rfl
theorem rs84 : Tryz.f84.results.toList = [.cell 2 37] := rfl
theorem nt85 : Tryz.f85.ntmps = 43 := rfl
theorem rs85 : Tryz.f85.results.toList = [.cell 2 27] := rfl
theorem nt87 : Tryz.f87.ntmps = 14 := rfl
theorem rs87 : Tryz.f87.results.toList = [.tmp 2] := rfl
theorem nt88 : Tryz.f88.ntmps = 15 := rfl
theorem rs88 : Tryz.f88.results.toList = [.tmp 2] := rfl
theorem nt89 : Tryz.f89.ntmps = 25 := rfl
theorem rs89 : Tryz.f89.results.toList = [.tmp 2] := rfl
theorem nt90 : Tryz.f90.ntmps = 40 := rfl
theorem rs90 : Tryz.f90.results.toList = [.cell 4 90, .tmp 5] := rfl
theorem nt91 : Tryz.f91.ntmps = 34 := rfl
theorem rs91 : Tryz.f91.results.toList = [.tmp 6, .tmp 7] := rfl
theorem nt92 : Tryz.f92.ntmps = 49 := rfl
theorem rs92 : Tryz.f92.results.toList = [.tmp 6] := rfl
theorem nt94 : Tryz.f94.ntmps = 5 := rfl
theorem rs94 : Tryz.f94.results.toList = [.tmp 2] := rfl
theorem nt98 : Tryz.f98.ntmps = 15 := rfl
theorem rs98 : Tryz.f98.results.toList = [.tmp 6] := rfl
theorem nt101 : Tryz.f101.ntmps = 31 := rfl
theorem rs101 : Tryz.f101.results.toList = [.tmp 4] := rfl
theorem nt103 : Tryz.f103.ntmps = 76 := rfl
theorem rs103 : Tryz.f103.results.toList = [.cell 2 37] := rfl
theorem nt104 : Tryz.f104.ntmps = 47 := rfl
theorem rs104 : Tryz.f104.results.toList = [.cell 4 37] := rfl
theorem nt106 : Tryz.f106.ntmps = 8 := rfl
theorem rs106 : Tryz.f106.results.toList = [.tmp 2] := rfl
theorem nt107 : Tryz.f107.ntmps = 37 := rfl
theorem rs107 : Tryz.f107.results.toList = [.tmp 4] := rfl
theorem nt109 : Tryz.f109.ntmps = 19 := rfl
theorem rs109 : Tryz.f109.results.toList = [.cell 2 31, .cell 3 37] := rfl
theorem nt111 : Tryz.f111.ntmps = 85 := rfl
theorem rs111 : Tryz.f111.results.toList = [.tmp 8] := rfl
theorem nt112 : Tryz.f112.ntmps = 24 := rfl
theorem rs112 : Tryz.f112.results.toList = [.tmp 4] := rfl
theorem nt113 : Tryz.f113.ntmps = 27 := rfl
theorem rs113 : Tryz.f113.results.toList = [.tmp 4] := rfl
theorem nt114 : Tryz.f114.ntmps = 25 := rfl
theorem rs114 : Tryz.f114.results.toList = [.cell 2 37] := rfl
theorem nt115 : Tryz.f115.ntmps = 38 := rfl
theorem rs115 : Tryz.f115.results.toList = [.cell 6 37, .tmp 7] := rfl
theorem nt117 : Tryz.f117.ntmps = 36 := rfl
theorem rs117 : Tryz.f117.results.toList = [.tmp 4, .tmp 5] := rfl
theorem nt118 : Tryz.f118.ntmps = 78 := rfl
theorem rs118 : Tryz.f118.results.toList = [.cell 2 37] := rfl
theorem nt119 : Tryz.f119.ntmps = 48 := rfl
theorem rs119 : Tryz.f119.results.toList = [.cell 4 37] := rfl
theorem nt120 : Tryz.f120.ntmps = 36 := rfl
theorem rs120 : Tryz.f120.results.toList = [.cell 6 37, .tmp 7] := rfl
theorem nt121 : Tryz.f121.ntmps = 29 := rfl
theorem rs121 : Tryz.f121.results.toList = [.cell 2 37] := rfl
theorem nt122 : Tryz.f122.ntmps = 51 := rfl
theorem rs122 : Tryz.f122.results.toList = [.cell 6 37, .tmp 7] := rfl
theorem nt123 : Tryz.f123.ntmps = 48 := rfl
theorem rs123 : Tryz.f123.results.toList = [.cell 6 72, .tmp 7] := rfl
theorem nt124 : Tryz.f124.ntmps = 69 := rfl
theorem rs124 : Tryz.f124.results.toList = [.cell 4 72, .tmp 5] := rfl
theorem nt125 : Tryz.f125.ntmps = 18 := rfl
theorem rs125 : Tryz.f125.results.toList = [.tmp 4] := rfl
theorem nt126 : Tryz.f126.ntmps = 30 := rfl
theorem rs126 : Tryz.f126.results.toList = [.tmp 4] := rfl
theorem nt127 : Tryz.f127.ntmps = 24 := rfl
theorem rs127 : Tryz.f127.results.toList = [.tmp 4] := rfl
theorem nt128 : Tryz.f128.ntmps = 66 := rfl
theorem rs128 : Tryz.f128.results.toList = [.cell 2 31] := rfl
theorem nt129 : Tryz.f129.ntmps = 8 := rfl
theorem rs129 : Tryz.f129.results.toList = [.tmp 2] := rfl
theorem nt130 : Tryz.f130.ntmps = 9 := rfl
theorem rs130 : Tryz.f130.results.toList = [.tmp 4] := rfl
theorem nt131 : Tryz.f131.ntmps = 11 := rfl
theorem rs131 : Tryz.f131.results.toList = [.cell 2 90] := rfl
theorem nt132 : Tryz.f132.ntmps = 19 := rfl
theorem rs132 : Tryz.f132.results.toList = [.tmp 4] := rfl
theorem nt134 : Tryz.f134.ntmps = 42 := rfl
theorem rs134 : Tryz.f134.results.toList = [.tmp 4] := rfl
theorem nt135 : Tryz.f135.ntmps = 13 := rfl
theorem rs135 : Tryz.f135.results.toList = [.tmp 2] := rfl
theorem nt138 : Tryz.f138.ntmps = 56 := rfl
theorem rs138 : Tryz.f138.results.toList = [.tmp 6] := rfl
theorem nt139 : Tryz.f139.ntmps = 19 := rfl
theorem rs139 : Tryz.f139.results.toList = [.tmp 2] := rfl
theorem nt140 : Tryz.f140.ntmps = 20 := rfl
theorem rs140 : Tryz.f140.results.toList = [.tmp 2] := rfl
theorem nt141 : Tryz.f141.ntmps = 49 := rfl
theorem rs141 : Tryz.f141.results.toList = [.tmp 2] := rfl
theorem nt142 : Tryz.f142.ntmps = 84 := rfl
theorem rs142 : Tryz.f142.results.toList = [.tmp 8, .tmp 9] := rfl
theorem nt143 : Tryz.f143.ntmps = 24 := rfl
theorem rs143 : Tryz.f143.results.toList = [.tmp 4] := rfl
theorem nt144 : Tryz.f144.ntmps = 9 := rfl
theorem rs144 : Tryz.f144.results.toList = [.tmp 2] := rfl
theorem nt145 : Tryz.f145.ntmps = 5 := rfl
theorem rs145 : Tryz.f145.results.toList = [.cell 2 37] := rfl
theorem nt146 : Tryz.f146.ntmps = 9 := rfl
theorem rs146 : Tryz.f146.results.toList = [.cell 4 37] := rfl
theorem nt147 : Tryz.f147.ntmps = 12 := rfl
theorem rs147 : Tryz.f147.results.toList = [.cell 6 37] := rfl
theorem nt148 : Tryz.f148.ntmps = 12 := rfl
theorem rs148 : Tryz.f148.results.toList = [.cell 4 37] := rfl
theorem nt149 : Tryz.f149.ntmps = 8 := rfl
theorem rs149 : Tryz.f149.results.toList = [.cell 4 37] := rfl
theorem nt150 : Tryz.f150.ntmps = 5 := rfl
theorem rs150 : Tryz.f150.results.toList = [.cell 2 37] := rfl
theorem nt151 : Tryz.f151.ntmps = 101 := rfl
theorem rs151 : Tryz.f151.results.toList = [.cell 8 37] := rfl
theorem nt152 : Tryz.f152.ntmps = 29 := rfl
theorem rs152 : Tryz.f152.results.toList = [.cell 2 118] := rfl
theorem nt153 : Tryz.f153.ntmps = 57 := rfl
theorem rs153 : Tryz.f153.results.toList = [.cell 6 37] := rfl
theorem nt154 : Tryz.f154.ntmps = 12 := rfl
theorem rs154 : Tryz.f154.results.toList = [.tmp 4] := rfl
theorem nt155 : Tryz.f155.ntmps = 16 := rfl
theorem rs155 : Tryz.f155.results.toList = [.cell 0 27] := rfl
theorem nt156 : Tryz.f156.ntmps = 9 := rfl
theorem rs156 : Tryz.f156.results.toList = [.tmp 2] := rfl
theorem nt157 : Tryz.f157.ntmps = 25 := rfl
theorem rs157 : Tryz.f157.results.toList = [.tmp 2] := rfl
theorem nt158 : Tryz.f158.ntmps = 27 := rfl
theorem rs158 : Tryz.f158.results.toList = [.tmp 4] := rfl
theorem nt159 : Tryz.f159.ntmps = 22 := rfl
theorem rs159 : Tryz.f159.results.toList = [.tmp 2] := rfl
theorem nt160 : Tryz.f160.ntmps = 20 := rfl
theorem rs160 : Tryz.f160.results.toList = [.tmp 2] := rfl
theorem nt161 : Tryz.f161.ntmps = 93 := rfl
theorem rs161 : Tryz.f161.results.toList = [.tmp 8, .tmp 9] := rfl
theorem nt162 : Tryz.f162.ntmps = 10 := rfl
theorem rs162 : Tryz.f162.results.toList = [.tmp 2] := rfl
theorem nt166 : Tryz.f166.ntmps = 19 := rfl
theorem rs166 : Tryz.f166.results.toList = [.tmp 2] := rfl
theorem nt167 : Tryz.f167.ntmps = 32 := rfl
theorem rs167 : Tryz.f167.results.toList = [.tmp 6] := rfl
theorem nt168 : Tryz.f168.ntmps = 27 := rfl
theorem rs168 : Tryz.f168.results.toList = [.tmp 2] := rfl
theorem nt169 : Tryz.f169.ntmps = 25 := rfl
theorem rs169 : Tryz.f169.results.toList = [.tmp 6] := rfl
theorem nt170 : Tryz.f170.ntmps = 22 := rfl
theorem rs170 : Tryz.f170.results.toList = [.cell 4 37, .tmp 5] := rfl
theorem nt172 : Tryz.f172.ntmps = 58 := rfl
theorem rs172 : Tryz.f172.results.toList = [.tmp 2] := rfl
theorem nt174 : Tryz.f174.ntmps = 19 := rfl
theorem rs174 : Tryz.f174.results.toList = [.cell 2 37] := rfl
theorem nt175 : Tryz.f175.ntmps = 8 := rfl
theorem rs175 : Tryz.f175.results.toList = [.tmp 2] := rfl
theorem nt176 : Tryz.f176.ntmps = 12 := rfl
theorem rs176 : Tryz.f176.results.toList = [.tmp 4] := rfl
theorem nt177 : Tryz.f177.ntmps = 87 := rfl
theorem rs177 : Tryz.f177.results.toList = [.tmp 6, .tmp 7] := rfl
theorem nt178 : Tryz.f178.ntmps = 19 := rfl
theorem rs178 : Tryz.f178.results.toList = [.tmp 4] := rfl
theorem nt179 : Tryz.f179.ntmps = 22 := rfl
theorem rs179 : Tryz.f179.results.toList = [.tmp 4, .tmp 5] := rfl
theorem nt180 : Tryz.f180.ntmps = 47 := rfl
theorem rs180 : Tryz.f180.results.toList = [.tmp 2] := rfl
theorem nt181 : Tryz.f181.ntmps = 16 := rfl
theorem rs181 : Tryz.f181.results.toList = [.cell 4 118] := rfl
theorem nt182 : Tryz.f182.ntmps = 22 := rfl
theorem rs182 : Tryz.f182.results.toList = [.tmp 2] := rfl
theorem nt183 : Tryz.f183.ntmps = 26 := rfl
theorem rs183 : Tryz.f183.results.toList = [.tmp 6] := rfl
theorem nt184 : Tryz.f184.ntmps = 19 := rfl
theorem rs184 : Tryz.f184.results.toList = [.cell 4 37, .tmp 5] := rfl
theorem nt185 : Tryz.f185.ntmps = 31 := rfl
theorem rs185 : Tryz.f185.results.toList = [.cell 4 37, .tmp 5] := rfl
theorem nt186 : Tryz.f186.ntmps = 27 := rfl
theorem rs186 : Tryz.f186.results.toList = [.cell 6 37] := rfl
theorem nt187 : Tryz.f187.ntmps = 33 := rfl
theorem rs187 : Tryz.f187.results.toList = [.cell 6 37] := rfl
theorem nt188 : Tryz.f188.ntmps = 10 := rfl
theorem rs188 : Tryz.f188.results.toList = [.tmp 4] := rfl
theorem nt189 : Tryz.f189.ntmps = 7 := rfl
theorem rs189 : Tryz.f189.results.toList = [.tmp 2] := rfl
theorem nt190 : Tryz.f190.ntmps = 26 := rfl
theorem rs190 : Tryz.f190.results.toList = [.tmp 4] := rfl
theorem nt191 : Tryz.f191.ntmps = 31 := rfl
theorem rs191 : Tryz.f191.results.toList = [.tmp 2] := rfl
theorem nt192 : Tryz.f192.ntmps = 19 := rfl
theorem rs192 : Tryz.f192.results.toList = [.tmp 4] := rfl
theorem nt195 : Tryz.f195.ntmps = 14 := rfl
theorem rs195 : Tryz.f195.results.toList = [.tmp 4] := rfl
theorem nt196 : Tryz.f196.ntmps = 9 := rfl
theorem rs196 : Tryz.f196.results.toList = [.tmp 2] := rfl
theorem nt197 : Tryz.f197.ntmps = 47 := rfl
theorem rs197 : Tryz.f197.results.toList = [.tmp 2] := rfl
theorem nt202 : Tryz.f202.ntmps = 49 := rfl
theorem rs202 : Tryz.f202.results.toList = [.tmp 2] := rfl
theorem nt203 : Tryz.f203.ntmps = 16 := rfl
theorem rs203 : Tryz.f203.results.toList = [.cell 4 118] := rfl
theorem nt204 : Tryz.f204.ntmps = 92 := rfl
theorem rs204 : Tryz.f204.results.toList = [.tmp 6, .tmp 7] := rfl
theorem nt205 : Tryz.f205.ntmps = 39 := rfl
theorem rs205 : Tryz.f205.results.toList = [.tmp 4] := rfl
theorem nt206 : Tryz.f206.ntmps = 20 := rfl
theorem rs206 : Tryz.f206.results.toList = [.tmp 4] := rfl
theorem nt207 : Tryz.f207.ntmps = 17 := rfl
theorem rs207 : Tryz.f207.results.toList = [.cell 6 37] := rfl
theorem nt210 : Tryz.f210.ntmps = 8 := rfl
theorem rs210 : Tryz.f210.results.toList = [.tmp 2] := rfl
attribute [go_sem] tb3 tb4 tb5 tb9 tb22 tb24 tb25 tb27 tb28 tb29 tb31 tb35 tb37 tb38 tb40 tb45 tb67 tb72 tb88 tb90 tb103 tb118 tb126 tb139 tb150 tb171 nt6 rs6 nt7 rs7 nt9 rs9 nt10 rs10 nt12 rs12 nt13 rs13 nt14 rs14 nt19 rs19 nt20 rs20 nt21 rs21 nt22 rs22 nt30 rs30 nt33 rs33 nt36 rs36 nt40 rs40 nt45 rs45 nt46 rs46 nt47 rs47 nt48 rs48 nt49 rs49 nt50 rs50 nt51 rs51 nt52 rs52 nt53 rs53 nt54 rs54 nt55 rs55 nt56 rs56 nt57 rs57 nt58 rs58 nt59 rs59 nt61 rs61 nt62 rs62 nt63 rs63 nt70 rs70 nt71 rs71 nt72 rs72 nt73 rs73 nt74 rs74 nt75 rs75 nt76 rs76 nt77 rs77 nt78 rs78 nt79 rs79 nt80 rs80 nt81 rs81 nt82 rs82 nt83 rs83 nt84 rs84 nt85 rs85 nt87 rs87 nt88 rs88 nt89 rs89 nt90 rs90 nt91 rs91 nt92 rs92 nt94 rs94 nt98 rs98 nt101 rs101 nt103 rs103 nt104 rs104 nt106 rs106 nt107 rs107 nt109 rs109 nt111 rs111 nt112 rs112 nt113 rs113 nt114 rs114 nt115 rs115 nt117 rs117 nt118 rs118 nt119 rs119 nt120 rs120 nt121 rs121 nt122 rs122 nt123 rs123 nt124 rs124 nt125 rs125 nt126 rs126 nt127 rs127 nt128 rs128 nt129 rs129 nt130 rs130 nt131 rs131 nt132 rs132 nt134 rs134 nt135 rs135 nt138 rs138 nt139 rs139 nt140 rs140 nt141 rs141 nt142 rs142 nt143 rs143 nt144 rs144 nt145 rs145 nt146 rs146 nt147 rs147 nt148 rs148 nt149 rs149 nt150 rs150 nt151 rs151 nt152 rs152 nt153 rs153 nt154 rs154 nt155 rs155 nt156 rs156 nt157 rs157 nt158 rs158 nt159 rs159 nt160 rs160 nt161 rs161 nt162 rs162 nt166 rs166 nt167 rs167 nt168 rs168 nt169 rs169 nt170 rs170 nt172 rs172 nt174 rs174 nt175 rs175 nt176 rs176 nt177 rs177 nt178 rs178 nt179 rs179 nt180 rs180 nt181 rs181 nt182 rs182 nt183 rs183 nt184 rs184 nt185 rs185 nt186 rs186 nt187 rs187 nt188 rs188 nt189 rs189 nt190 rs190 nt191 rs191 nt192 rs192 nt195 rs195 nt196 rs196 nt197 rs197 nt202 rs202 nt203 rs203 nt204 rs204 nt205 rs205 nt206 rs206 nt207 rs207 nt210 rs210
end Go.Ai
