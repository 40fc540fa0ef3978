/- The types' table of this seat's program, and what its functions give back. Written by mkseat.py. -/
import Derived.Test.YtmddjojbaompiaaGreatAiRead
import Derived.Test.YtmddjojbaompiaaGreatProg
import Derived.KernelRfl
set_option linter.unusedVariables false
set_option linter.unusedSimpArgs false
namespace Go.Ai
open Go.Proofs
set_option maxRecDepth 100000
def Tb : Tab := tabOf [
 (2, { d := TyD.int IntKind.i64, size := 1, bytes := 8, zero := [AC.c (C.v (Value.int IntKind.i64 0))] }),
 (3, { d := TyD.int IntKind.i64, size := 1, bytes := 8, zero := [AC.c (C.v (Value.int IntKind.i64 0))] }),
 (4, { d := TyD.bool, size := 1, bytes := 1, zero := [AC.c (C.v (Value.bool false))] }),
 (5, { d := TyD.int IntKind.u8, size := 1, bytes := 1, zero := [AC.c (C.v (Value.int IntKind.u8 0))] }),
 (9, { d := TyD.str, size := 1, bytes := 16, zero := [AC.c (C.v (Value.string ⟨⟨[]⟩⟩))] }),
 (12, { d := TyD.int IntKind.u64, size := 1, bytes := 8, zero := [AC.c (C.v (Value.int IntKind.u64 0))] }),
 (13, { d := TyD.struct [(0, 1), (1, 1)] none, size := 2, bytes := 24, zero := [AC.c (C.v (Value.string ⟨⟨[]⟩⟩)), AC.c (C.v (Value.int IntKind.u64 0))] }),
 (20, { d := TyD.iface, size := 1, bytes := 16, zero := [AC.c (C.v Value.nilIface)] }),
 (21, { d := TyD.int IntKind.i32, size := 1, bytes := 4, zero := [AC.c (C.v (Value.int IntKind.i32 0))] }),
 (22, { d := TyD.slice 5, size := 1, bytes := 24, zero := [AC.nil] }),
 (24, { d := TyD.slice 9, size := 1, bytes := 24, zero := [AC.nil] }),
 (25, { d := TyD.slice 90, size := 1, bytes := 24, zero := [AC.nil] }),
 (26, { d := TyD.struct [(0, 1), (1, 1)] none, size := 2, bytes := 48, zero := [AC.nil, AC.nil] }),
 (27, { d := TyD.struct [(0, 1), (1, 1)] none, size := 2, bytes := 48, zero := [AC.nil, AC.nil] }),
 (28, { d := TyD.slice 40, size := 1, bytes := 24, zero := [AC.nil] }),
 (29, { d := TyD.slice 88, size := 1, bytes := 24, zero := [AC.nil] }),
 (30, { d := TyD.struct [(0, 2), (2, 1), (3, 1)] none, size := 4, bytes := 96, zero := [AC.nil, AC.nil, AC.nil, AC.nil] }),
 (31, { d := TyD.struct [(0, 2), (2, 1), (3, 1)] none, size := 4, bytes := 96, zero := [AC.nil, AC.nil, AC.nil, AC.nil] }),
 (35, { d := TyD.slice 37, size := 1, bytes := 24, zero := [AC.nil] }),
 (36, { d := TyD.struct [(0, 1), (1, 1), (2, 1), (3, 1)] none, size := 4, bytes := 56, zero := [AC.c (C.v (Value.int IntKind.i64 0)), AC.c (C.v (Value.int IntKind.i64 0)), AC.c (C.v (Value.string ⟨⟨[]⟩⟩)), AC.nil] }),
 (37, { d := TyD.struct [(0, 1), (1, 1), (2, 1), (3, 1)] none, size := 4, bytes := 56, zero := [AC.c (C.v (Value.int IntKind.i64 0)), AC.c (C.v (Value.int IntKind.i64 0)), AC.c (C.v (Value.string ⟨⟨[]⟩⟩)), AC.nil] }),
 (38, { d := TyD.slice 118, size := 1, bytes := 24, zero := [AC.nil] }),
 (39, { d := TyD.struct [(0, 1), (1, 4), (5, 4), (9, 1)] none, size := 10, bytes := 152, zero := [AC.c (C.v (Value.string ⟨⟨[]⟩⟩)), AC.c (C.v (Value.int IntKind.i64 0)), AC.c (C.v (Value.int IntKind.i64 0)), AC.c (C.v (Value.string ⟨⟨[]⟩⟩)), AC.nil, AC.c (C.v (Value.int IntKind.i64 0)), AC.c (C.v (Value.int IntKind.i64 0)), AC.c (C.v (Value.string ⟨⟨[]⟩⟩)), AC.nil, AC.nil] }),
 (40, { d := TyD.struct [(0, 1), (1, 4), (5, 4), (9, 1)] none, size := 10, bytes := 152, zero := [AC.c (C.v (Value.string ⟨⟨[]⟩⟩)), AC.c (C.v (Value.int IntKind.i64 0)), AC.c (C.v (Value.int IntKind.i64 0)), AC.c (C.v (Value.string ⟨⟨[]⟩⟩)), AC.nil, AC.c (C.v (Value.int IntKind.i64 0)), AC.c (C.v (Value.int IntKind.i64 0)), AC.c (C.v (Value.string ⟨⟨[]⟩⟩)), AC.nil, AC.nil] }),
 (45, { d := TyD.slice 3, size := 1, bytes := 24, zero := [AC.nil] }),
 (53, { d := TyD.struct [(0, 1), (1, 4), (5, 1)] none, size := 6, bytes := 104, zero := [AC.nil, AC.c (C.v (Value.int IntKind.i64 0)), AC.c (C.v (Value.int IntKind.i64 0)), AC.c (C.v (Value.string ⟨⟨[]⟩⟩)), AC.nil, AC.nil] }),
 (54, { d := TyD.struct [(0, 1), (1, 4), (5, 1)] none, size := 6, bytes := 104, zero := [AC.nil, AC.c (C.v (Value.int IntKind.i64 0)), AC.c (C.v (Value.int IntKind.i64 0)), AC.c (C.v (Value.string ⟨⟨[]⟩⟩)), AC.nil, AC.nil] }),
 (67, { d := TyD.slice 72, size := 1, bytes := 24, zero := [AC.nil] }),
 (71, { d := TyD.struct [(0, 1), (1, 1)] none, size := 2, bytes := 32, zero := [AC.c (C.v (Value.int IntKind.i64 0)), AC.nil] }),
 (72, { d := TyD.struct [(0, 1), (1, 1)] none, size := 2, bytes := 32, zero := [AC.c (C.v (Value.int IntKind.i64 0)), AC.nil] }),
 (84, { d := TyD.ptr, size := 1, bytes := 8, zero := [AC.c (C.v (Value.pointer none))] }),
 (87, { d := TyD.struct [(0, 1), (1, 1)] (some [(0, CK.str), (1, CK.int IntKind.i64)]), size := 2, bytes := 24, zero := [AC.c (C.v (Value.string ⟨⟨[]⟩⟩)), AC.c (C.v (Value.int IntKind.i64 0))] }),
 (88, { d := TyD.struct [(0, 1), (1, 1)] (some [(0, CK.str), (1, CK.int IntKind.i64)]), size := 2, bytes := 24, zero := [AC.c (C.v (Value.string ⟨⟨[]⟩⟩)), AC.c (C.v (Value.int IntKind.i64 0))] }),
 (89, { d := TyD.struct [(0, 1), (1, 1), (2, 1)] none, size := 3, bytes := 56, zero := [AC.c (C.v (Value.string ⟨⟨[]⟩⟩)), AC.nil, AC.c (C.v (Value.string ⟨⟨[]⟩⟩))] }),
 (90, { d := TyD.struct [(0, 1), (1, 1), (2, 1)] none, size := 3, bytes := 56, zero := [AC.c (C.v (Value.string ⟨⟨[]⟩⟩)), AC.nil, AC.c (C.v (Value.string ⟨⟨[]⟩⟩))] }),
 (103, { d := TyD.slice 150, size := 1, bytes := 24, zero := [AC.nil] }),
 (117, { d := TyD.struct [(0, 1), (1, 4), (5, 4)] none, size := 9, bytes := 120, zero := [AC.c (C.v (Value.int IntKind.i64 0)), AC.c (C.v (Value.int IntKind.i64 0)), AC.c (C.v (Value.int IntKind.i64 0)), AC.c (C.v (Value.string ⟨⟨[]⟩⟩)), AC.nil, AC.c (C.v (Value.int IntKind.i64 0)), AC.c (C.v (Value.int IntKind.i64 0)), AC.c (C.v (Value.string ⟨⟨[]⟩⟩)), AC.nil] }),
 (118, { d := TyD.struct [(0, 1), (1, 4), (5, 4)] none, size := 9, bytes := 120, zero := [AC.c (C.v (Value.int IntKind.i64 0)), AC.c (C.v (Value.int IntKind.i64 0)), AC.c (C.v (Value.int IntKind.i64 0)), AC.c (C.v (Value.string ⟨⟨[]⟩⟩)), AC.nil, AC.c (C.v (Value.int IntKind.i64 0)), AC.c (C.v (Value.int IntKind.i64 0)), AC.c (C.v (Value.string ⟨⟨[]⟩⟩)), AC.nil] }),
 (126, { d := TyD.slice 171, size := 1, bytes := 24, zero := [AC.nil] }),
 (138, { d := TyD.struct [(0, 1), (1, 1), (2, 1)] none, size := 3, bytes := 40, zero := [AC.nil, AC.c (C.v (Value.int IntKind.i64 0)), AC.c (C.v (Value.int IntKind.i64 0))] }),
 (139, { d := TyD.struct [(0, 1), (1, 1), (2, 1)] none, size := 3, bytes := 40, zero := [AC.nil, AC.c (C.v (Value.int IntKind.i64 0)), AC.c (C.v (Value.int IntKind.i64 0))] }),
 (149, { d := TyD.struct [(0, 1), (1, 1)] (some [(0, CK.str), (1, CK.str)]), size := 2, bytes := 32, zero := [AC.c (C.v (Value.string ⟨⟨[]⟩⟩)), AC.c (C.v (Value.string ⟨⟨[]⟩⟩))] }),
 (150, { d := TyD.struct [(0, 1), (1, 1)] (some [(0, CK.str), (1, CK.str)]), size := 2, bytes := 32, zero := [AC.c (C.v (Value.string ⟨⟨[]⟩⟩)), AC.c (C.v (Value.string ⟨⟨[]⟩⟩))] }),
 (170, { d := TyD.struct [(0, 1), (1, 4)] none, size := 5, bytes := 72, zero := [AC.c (C.v (Value.string ⟨⟨[]⟩⟩)), AC.c (C.v (Value.int IntKind.i64 0)), AC.c (C.v (Value.int IntKind.i64 0)), AC.c (C.v (Value.string ⟨⟨[]⟩⟩)), AC.nil] }),
 (171, { d := TyD.struct [(0, 1), (1, 4)] none, size := 5, bytes := 72, zero := [AC.c (C.v (Value.string ⟨⟨[]⟩⟩)), AC.c (C.v (Value.int IntKind.i64 0)), AC.c (C.v (Value.int IntKind.i64 0)), AC.c (C.v (Value.string ⟨⟨[]⟩⟩)), AC.nil] }),
 (186, { d := TyD.int IntKind.u64, size := 1, bytes := 8, zero := [AC.c (C.v (Value.int IntKind.u64 0))] }),
 (194, { d := TyD.int IntKind.i64, size := 1, bytes := 8, zero := [AC.c (C.v (Value.int IntKind.i64 0))] }),
 (203, { d := TyD.int IntKind.u32, size := 1, bytes := 4, zero := [AC.c (C.v (Value.int IntKind.u32 0))] }),
 (205, { d := TyD.int IntKind.u64, size := 1, bytes := 8, zero := [AC.c (C.v (Value.int IntKind.u64 0))] }),
 (206, { d := TyD.int IntKind.u64, size := 1, bytes := 8, zero := [AC.c (C.v (Value.int IntKind.u64 0))] }),
 (210, { d := TyD.ptr, size := 1, bytes := 8, zero := [AC.c (C.v (Value.pointer none))] }),
 (212, { d := TyD.ptr, size := 1, bytes := 8, zero := [AC.c (C.v (Value.pointer none))] }),
 (225, { d := TyD.ptr, size := 1, bytes := 8, zero := [AC.c (C.v (Value.pointer none))] })]
theorem tbOk : TabOk Tryz.prog Tb := tabOk_of _ _ ⟨by kernel_rfl, by kernel_rfl, by kernel_rfl, by kernel_rfl, by kernel_rfl, by kernel_rfl, by kernel_rfl, by kernel_rfl, by kernel_rfl, by kernel_rfl, by kernel_rfl, by kernel_rfl, by kernel_rfl, by kernel_rfl, by kernel_rfl, by kernel_rfl, by kernel_rfl, by kernel_rfl, by kernel_rfl, by kernel_rfl, by kernel_rfl, by kernel_rfl, by kernel_rfl, by kernel_rfl, by kernel_rfl, by kernel_rfl, by kernel_rfl, by kernel_rfl, by kernel_rfl, by kernel_rfl, by kernel_rfl, by kernel_rfl, by kernel_rfl, by kernel_rfl, by kernel_rfl, by kernel_rfl, by kernel_rfl, by kernel_rfl, by kernel_rfl, by kernel_rfl, by kernel_rfl, by kernel_rfl, by kernel_rfl, by kernel_rfl, by kernel_rfl, by kernel_rfl, by kernel_rfl, by kernel_rfl, by kernel_rfl, by kernel_rfl, by kernel_rfl, by kernel_rfl, by kernel_rfl, trivial⟩
theorem mixed : Tryz.prog.follows .mixedOrders = true := by kernel_rfl
theorem tb2 : Tb 2 = some { d := TyD.int IntKind.i64, size := 1, bytes := 8, zero := [AC.c (C.v (Value.int IntKind.i64 0))] } := rfl
theorem tb3 : Tb 3 = some { d := TyD.int IntKind.i64, size := 1, bytes := 8, zero := [AC.c (C.v (Value.int IntKind.i64 0))] } := rfl
theorem tb4 : Tb 4 = some { d := TyD.bool, size := 1, bytes := 1, zero := [AC.c (C.v (Value.bool false))] } := rfl
theorem tb5 : Tb 5 = some { d := TyD.int IntKind.u8, size := 1, bytes := 1, zero := [AC.c (C.v (Value.int IntKind.u8 0))] } := rfl
theorem tb9 : Tb 9 = some { d := TyD.str, size := 1, bytes := 16, zero := [AC.c (C.v (Value.string ⟨⟨[]⟩⟩))] } := rfl
theorem tb12 : Tb 12 = some { d := TyD.int IntKind.u64, size := 1, bytes := 8, zero := [AC.c (C.v (Value.int IntKind.u64 0))] } := rfl
theorem tb13 : Tb 13 = some { d := TyD.struct [(0, 1), (1, 1)] none, size := 2, bytes := 24, zero := [AC.c (C.v (Value.string ⟨⟨[]⟩⟩)), AC.c (C.v (Value.int IntKind.u64 0))] } := rfl
theorem tb20 : Tb 20 = some { d := TyD.iface, size := 1, bytes := 16, zero := [AC.c (C.v Value.nilIface)] } := rfl
theorem tb21 : Tb 21 = some { d := TyD.int IntKind.i32, size := 1, bytes := 4, zero := [AC.c (C.v (Value.int IntKind.i32 0))] } := rfl
theorem tb22 : Tb 22 = some { d := TyD.slice 5, size := 1, bytes := 24, zero := [AC.nil] } := rfl
theorem tb24 : Tb 24 = some { d := TyD.slice 9, size := 1, bytes := 24, zero := [AC.nil] } := rfl
theorem tb25 : Tb 25 = some { d := TyD.slice 90, size := 1, bytes := 24, zero := [AC.nil] } := rfl
theorem tb26 : Tb 26 = some { d := TyD.struct [(0, 1), (1, 1)] none, size := 2, bytes := 48, zero := [AC.nil, AC.nil] } := rfl
theorem tb27 : Tb 27 = some { d := TyD.struct [(0, 1), (1, 1)] none, size := 2, bytes := 48, zero := [AC.nil, AC.nil] } := rfl
theorem tb28 : Tb 28 = some { d := TyD.slice 40, size := 1, bytes := 24, zero := [AC.nil] } := rfl
theorem tb29 : Tb 29 = some { d := TyD.slice 88, size := 1, bytes := 24, zero := [AC.nil] } := rfl
theorem tb30 : Tb 30 = some { d := TyD.struct [(0, 2), (2, 1), (3, 1)] none, size := 4, bytes := 96, zero := [AC.nil, AC.nil, AC.nil, AC.nil] } := rfl
theorem tb31 : Tb 31 = some { d := TyD.struct [(0, 2), (2, 1), (3, 1)] none, size := 4, bytes := 96, zero := [AC.nil, AC.nil, AC.nil, AC.nil] } := rfl
theorem tb35 : Tb 35 = some { d := TyD.slice 37, size := 1, bytes := 24, zero := [AC.nil] } := rfl
theorem tb36 : Tb 36 = some { d := TyD.struct [(0, 1), (1, 1), (2, 1), (3, 1)] none, size := 4, bytes := 56, zero := [AC.c (C.v (Value.int IntKind.i64 0)), AC.c (C.v (Value.int IntKind.i64 0)), AC.c (C.v (Value.string ⟨⟨[]⟩⟩)), AC.nil] } := rfl
theorem tb37 : Tb 37 = some { d := TyD.struct [(0, 1), (1, 1), (2, 1), (3, 1)] none, size := 4, bytes := 56, zero := [AC.c (C.v (Value.int IntKind.i64 0)), AC.c (C.v (Value.int IntKind.i64 0)), AC.c (C.v (Value.string ⟨⟨[]⟩⟩)), AC.nil] } := rfl
theorem tb38 : Tb 38 = some { d := TyD.slice 118, size := 1, bytes := 24, zero := [AC.nil] } := rfl
theorem tb39 : Tb 39 = some { d := TyD.struct [(0, 1), (1, 4), (5, 4), (9, 1)] none, size := 10, bytes := 152, zero := [AC.c (C.v (Value.string ⟨⟨[]⟩⟩)), AC.c (C.v (Value.int IntKind.i64 0)), AC.c (C.v (Value.int IntKind.i64 0)), AC.c (C.v (Value.string ⟨⟨[]⟩⟩)), AC.nil, AC.c (C.v (Value.int IntKind.i64 0)), AC.c (C.v (Value.int IntKind.i64 0)), AC.c (C.v (Value.string ⟨⟨[]⟩⟩)), AC.nil, AC.nil] } := rfl
theorem tb40 : Tb 40 = some { d := TyD.struct [(0, 1), (1, 4), (5, 4), (9, 1)] none, size := 10, bytes := 152, zero := [AC.c (C.v (Value.string ⟨⟨[]⟩⟩)), AC.c (C.v (Value.int IntKind.i64 0)), AC.c (C.v (Value.int IntKind.i64 0)), AC.c (C.v (Value.string ⟨⟨[]⟩⟩)), AC.nil, AC.c (C.v (Value.int IntKind.i64 0)), AC.c (C.v (Value.int IntKind.i64 0)), AC.c (C.v (Value.string ⟨⟨[]⟩⟩)), AC.nil, AC.nil] } := rfl
theorem tb45 : Tb 45 = some { d := TyD.slice 3, size := 1, bytes := 24, zero := [AC.nil] } := rfl
theorem tb53 : Tb 53 = some { d := TyD.struct [(0, 1), (1, 4), (5, 1)] none, size := 6, bytes := 104, zero := [AC.nil, AC.c (C.v (Value.int IntKind.i64 0)), AC.c (C.v (Value.int IntKind.i64 0)), AC.c (C.v (Value.string ⟨⟨[]⟩⟩)), AC.nil, AC.nil] } := rfl
theorem tb54 : Tb 54 = some { d := TyD.struct [(0, 1), (1, 4), (5, 1)] none, size := 6, bytes := 104, zero := [AC.nil, AC.c (C.v (Value.int IntKind.i64 0)), AC.c (C.v (Value.int IntKind.i64 0)), AC.c (C.v (Value.string ⟨⟨[]⟩⟩)), AC.nil, AC.nil] } := rfl
theorem tb67 : Tb 67 = some { d := TyD.slice 72, size := 1, bytes := 24, zero := [AC.nil] } := rfl
theorem tb71 : Tb 71 = some { d := TyD.struct [(0, 1), (1, 1)] none, size := 2, bytes := 32, zero := [AC.c (C.v (Value.int IntKind.i64 0)), AC.nil] } := rfl
theorem tb72 : Tb 72 = some { d := TyD.struct [(0, 1), (1, 1)] none, size := 2, bytes := 32, zero := [AC.c (C.v (Value.int IntKind.i64 0)), AC.nil] } := rfl
theorem tb84 : Tb 84 = some { d := TyD.ptr, size := 1, bytes := 8, zero := [AC.c (C.v (Value.pointer none))] } := rfl
theorem tb87 : Tb 87 = some { d := TyD.struct [(0, 1), (1, 1)] (some [(0, CK.str), (1, CK.int IntKind.i64)]), size := 2, bytes := 24, zero := [AC.c (C.v (Value.string ⟨⟨[]⟩⟩)), AC.c (C.v (Value.int IntKind.i64 0))] } := rfl
theorem tb88 : Tb 88 = some { d := TyD.struct [(0, 1), (1, 1)] (some [(0, CK.str), (1, CK.int IntKind.i64)]), size := 2, bytes := 24, zero := [AC.c (C.v (Value.string ⟨⟨[]⟩⟩)), AC.c (C.v (Value.int IntKind.i64 0))] } := rfl
theorem tb89 : Tb 89 = some { d := TyD.struct [(0, 1), (1, 1), (2, 1)] none, size := 3, bytes := 56, zero := [AC.c (C.v (Value.string ⟨⟨[]⟩⟩)), AC.nil, AC.c (C.v (Value.string ⟨⟨[]⟩⟩))] } := rfl
theorem tb90 : Tb 90 = some { d := TyD.struct [(0, 1), (1, 1), (2, 1)] none, size := 3, bytes := 56, zero := [AC.c (C.v (Value.string ⟨⟨[]⟩⟩)), AC.nil, AC.c (C.v (Value.string ⟨⟨[]⟩⟩))] } := rfl
theorem tb103 : Tb 103 = some { d := TyD.slice 150, size := 1, bytes := 24, zero := [AC.nil] } := rfl
theorem tb117 : Tb 117 = some { d := TyD.struct [(0, 1), (1, 4), (5, 4)] none, size := 9, bytes := 120, zero := [AC.c (C.v (Value.int IntKind.i64 0)), AC.c (C.v (Value.int IntKind.i64 0)), AC.c (C.v (Value.int IntKind.i64 0)), AC.c (C.v (Value.string ⟨⟨[]⟩⟩)), AC.nil, AC.c (C.v (Value.int IntKind.i64 0)), AC.c (C.v (Value.int IntKind.i64 0)), AC.c (C.v (Value.string ⟨⟨[]⟩⟩)), AC.nil] } := rfl
theorem tb118 : Tb 118 = some { d := TyD.struct [(0, 1), (1, 4), (5, 4)] none, size := 9, bytes := 120, zero := [AC.c (C.v (Value.int IntKind.i64 0)), AC.c (C.v (Value.int IntKind.i64 0)), AC.c (C.v (Value.int IntKind.i64 0)), AC.c (C.v (Value.string ⟨⟨[]⟩⟩)), AC.nil, AC.c (C.v (Value.int IntKind.i64 0)), AC.c (C.v (Value.int IntKind.i64 0)), AC.c (C.v (Value.string ⟨⟨[]⟩⟩)), AC.nil] } := rfl
theorem tb126 : Tb 126 = some { d := TyD.slice 171, size := 1, bytes := 24, zero := [AC.nil] } := rfl
theorem tb138 : Tb 138 = some { d := TyD.struct [(0, 1), (1, 1), (2, 1)] none, size := 3, bytes := 40, zero := [AC.nil, AC.c (C.v (Value.int IntKind.i64 0)), AC.c (C.v (Value.int IntKind.i64 0))] } := rfl
theorem tb139 : Tb 139 = some { d := TyD.struct [(0, 1), (1, 1), (2, 1)] none, size := 3, bytes := 40, zero := [AC.nil, AC.c (C.v (Value.int IntKind.i64 0)), AC.c (C.v (Value.int IntKind.i64 0))] } := rfl
theorem tb149 : Tb 149 = some { d := TyD.struct [(0, 1), (1, 1)] (some [(0, CK.str), (1, CK.str)]), size := 2, bytes := 32, zero := [AC.c (C.v (Value.string ⟨⟨[]⟩⟩)), AC.c (C.v (Value.string ⟨⟨[]⟩⟩))] } := rfl
theorem tb150 : Tb 150 = some { d := TyD.struct [(0, 1), (1, 1)] (some [(0, CK.str), (1, CK.str)]), size := 2, bytes := 32, zero := [AC.c (C.v (Value.string ⟨⟨[]⟩⟩)), AC.c (C.v (Value.string ⟨⟨[]⟩⟩))] } := rfl
theorem tb170 : Tb 170 = some { d := TyD.struct [(0, 1), (1, 4)] none, size := 5, bytes := 72, zero := [AC.c (C.v (Value.string ⟨⟨[]⟩⟩)), AC.c (C.v (Value.int IntKind.i64 0)), AC.c (C.v (Value.int IntKind.i64 0)), AC.c (C.v (Value.string ⟨⟨[]⟩⟩)), AC.nil] } := rfl
theorem tb171 : Tb 171 = some { d := TyD.struct [(0, 1), (1, 4)] none, size := 5, bytes := 72, zero := [AC.c (C.v (Value.string ⟨⟨[]⟩⟩)), AC.c (C.v (Value.int IntKind.i64 0)), AC.c (C.v (Value.int IntKind.i64 0)), AC.c (C.v (Value.string ⟨⟨[]⟩⟩)), AC.nil] } := rfl
theorem tb186 : Tb 186 = some { d := TyD.int IntKind.u64, size := 1, bytes := 8, zero := [AC.c (C.v (Value.int IntKind.u64 0))] } := rfl
theorem tb194 : Tb 194 = some { d := TyD.int IntKind.i64, size := 1, bytes := 8, zero := [AC.c (C.v (Value.int IntKind.i64 0))] } := rfl
theorem tb203 : Tb 203 = some { d := TyD.int IntKind.u32, size := 1, bytes := 4, zero := [AC.c (C.v (Value.int IntKind.u32 0))] } := rfl
theorem tb205 : Tb 205 = some { d := TyD.int IntKind.u64, size := 1, bytes := 8, zero := [AC.c (C.v (Value.int IntKind.u64 0))] } := rfl
theorem tb206 : Tb 206 = some { d := TyD.int IntKind.u64, size := 1, bytes := 8, zero := [AC.c (C.v (Value.int IntKind.u64 0))] } := rfl
theorem tb210 : Tb 210 = some { d := TyD.ptr, size := 1, bytes := 8, zero := [AC.c (C.v (Value.pointer none))] } := rfl
theorem tb212 : Tb 212 = some { d := TyD.ptr, size := 1, bytes := 8, zero := [AC.c (C.v (Value.pointer none))] } := rfl
theorem tb225 : Tb 225 = some { d := TyD.ptr, size := 1, bytes := 8, zero := [AC.c (C.v (Value.pointer none))] } := rfl
theorem nt3 : Tryz.f3.ntmps = 109 := rfl
theorem rs3 : Tryz.f3.results.toList = [ResultVar.tmp 2] := rfl
theorem nt4 : Tryz.f4.ntmps = 89 := rfl
theorem rs4 : Tryz.f4.results.toList = [ResultVar.tmp 2] := rfl
theorem nt5 : Tryz.f5.ntmps = 140 := rfl
theorem rs5 : Tryz.f5.results.toList = [ResultVar.tmp 2] := rfl
theorem nt6 : Tryz.f6.ntmps = 118 := rfl
theorem rs6 : Tryz.f6.results.toList = [ResultVar.tmp 2] := rfl
theorem nt7 : Tryz.f7.ntmps = 6 := rfl
theorem rs7 : Tryz.f7.results.toList = [ResultVar.tmp 2] := rfl
theorem nt8 : Tryz.f8.ntmps = 6 := rfl
theorem rs8 : Tryz.f8.results.toList = [ResultVar.cell 2 31] := rfl
theorem nt9 : Tryz.f9.ntmps = 91 := rfl
theorem rs9 : Tryz.f9.results.toList = [ResultVar.tmp 2] := rfl
theorem nt10 : Tryz.f10.ntmps = 48 := rfl
theorem rs10 : Tryz.f10.results.toList = [ResultVar.tmp 2] := rfl
theorem nt11 : Tryz.f11.ntmps = 35 := rfl
theorem rs11 : Tryz.f11.results.toList = [ResultVar.tmp 4] := rfl
theorem nt12 : Tryz.f12.ntmps = 84 := rfl
theorem rs12 : Tryz.f12.results.toList = [ResultVar.tmp 4] := rfl
theorem nt13 : Tryz.f13.ntmps = 29 := rfl
theorem rs13 : Tryz.f13.results.toList = [ResultVar.tmp 4] := rfl
theorem nt14 : Tryz.f14.ntmps = 7 := rfl
theorem rs14 : Tryz.f14.results.toList = [ResultVar.tmp 2] := rfl
theorem nt15 : Tryz.f15.ntmps = 18 := rfl
theorem rs15 : Tryz.f15.results.toList = [ResultVar.tmp 4] := rfl
theorem nt16 : Tryz.f16.ntmps = 33 := rfl
theorem rs16 : Tryz.f16.results.toList = [ResultVar.tmp 4] := rfl
theorem nt17 : Tryz.f17.ntmps = 21 := rfl
theorem rs17 : Tryz.f17.results.toList = [ResultVar.cell 2 27, ResultVar.cell 3 40] := rfl
theorem nt18 : Tryz.f18.ntmps = 8 := rfl
theorem rs18 : Tryz.f18.results.toList = [ResultVar.cell 2 31, ResultVar.tmp 3] := rfl
theorem nt19 : Tryz.f19.ntmps = 99 := rfl
theorem rs19 : Tryz.f19.results.toList = [ResultVar.tmp 4] := rfl
theorem nt20 : Tryz.f20.ntmps = 26 := rfl
theorem rs20 : Tryz.f20.results.toList = [ResultVar.tmp 4] := rfl
theorem nt21 : Tryz.f21.ntmps = 26 := rfl
theorem rs21 : Tryz.f21.results.toList = [ResultVar.tmp 4] := rfl
theorem nt22 : Tryz.f22.ntmps = 33 := rfl
theorem rs22 : Tryz.f22.results.toList = [ResultVar.tmp 4] := rfl
theorem nt23 : Tryz.f23.ntmps = 39 := rfl
theorem rs23 : Tryz.f23.results.toList = [ResultVar.tmp 4] := rfl
theorem nt24 : Tryz.f24.ntmps = 20 := rfl
theorem rs24 : Tryz.f24.results.toList = [ResultVar.tmp 2] := rfl
theorem nt25 : Tryz.f25.ntmps = 13 := rfl
theorem rs25 : Tryz.f25.results.toList = [ResultVar.cell 2 31, ResultVar.cell 3 54] := rfl
theorem nt26 : Tryz.f26.ntmps = 87 := rfl
theorem rs26 : Tryz.f26.results.toList = [ResultVar.tmp 4] := rfl
theorem nt27 : Tryz.f27.ntmps = 77 := rfl
theorem rs27 : Tryz.f27.results.toList = [ResultVar.tmp 4] := rfl
theorem nt28 : Tryz.f28.ntmps = 24 := rfl
theorem rs28 : Tryz.f28.results.toList = [ResultVar.tmp 4] := rfl
theorem nt29 : Tryz.f29.ntmps = 21 := rfl
theorem rs29 : Tryz.f29.results.toList = [ResultVar.cell 4 37, ResultVar.tmp 5] := rfl
theorem nt30 : Tryz.f30.ntmps = 23 := rfl
theorem rs30 : Tryz.f30.results.toList = [ResultVar.tmp 4] := rfl
theorem nt31 : Tryz.f31.ntmps = 12 := rfl
theorem rs31 : Tryz.f31.results.toList = [ResultVar.cell 2 54, ResultVar.tmp 3] := rfl
theorem nt32 : Tryz.f32.ntmps = 21 := rfl
theorem rs32 : Tryz.f32.results.toList = [ResultVar.cell 4 37, ResultVar.tmp 5] := rfl
theorem nt33 : Tryz.f33.ntmps = 53 := rfl
theorem rs33 : Tryz.f33.results.toList = [ResultVar.tmp 4] := rfl
theorem nt34 : Tryz.f34.ntmps = 8 := rfl
theorem rs34 : Tryz.f34.results.toList = [ResultVar.cell 2 31, ResultVar.cell 3 37] := rfl
theorem nt35 : Tryz.f35.ntmps = 12 := rfl
theorem rs35 : Tryz.f35.results.toList = [ResultVar.tmp 4] := rfl
theorem nt36 : Tryz.f36.ntmps = 42 := rfl
theorem rs36 : Tryz.f36.results.toList = [ResultVar.tmp 4] := rfl
theorem nt37 : Tryz.f37.ntmps = 15 := rfl
theorem rs37 : Tryz.f37.results.toList = [ResultVar.tmp 4] := rfl
theorem nt38 : Tryz.f38.ntmps = 12 := rfl
theorem rs38 : Tryz.f38.results.toList = [ResultVar.tmp 4] := rfl
theorem nt39 : Tryz.f39.ntmps = 12 := rfl
theorem rs39 : Tryz.f39.results.toList = [ResultVar.tmp 4] := rfl
theorem nt40 : Tryz.f40.ntmps = 34 := rfl
theorem rs40 : Tryz.f40.results.toList = [ResultVar.cell 4 37, ResultVar.tmp 5] := rfl
theorem nt41 : Tryz.f41.ntmps = 30 := rfl
theorem rs41 : Tryz.f41.results.toList = [ResultVar.cell 6 37, ResultVar.tmp 7] := rfl
theorem nt42 : Tryz.f42.ntmps = 52 := rfl
theorem rs42 : Tryz.f42.results.toList = [ResultVar.tmp 6] := rfl
theorem nt43 : Tryz.f43.ntmps = 22 := rfl
theorem rs43 : Tryz.f43.results.toList = [ResultVar.cell 2 31, ResultVar.tmp 3, ResultVar.cell 4 37] := rfl
theorem nt44 : Tryz.f44.ntmps = 46 := rfl
theorem rs44 : Tryz.f44.results.toList = [ResultVar.cell 6 37, ResultVar.tmp 7] := rfl
theorem nt45 : Tryz.f45.ntmps = 8 := rfl
theorem rs45 : Tryz.f45.results.toList = [ResultVar.cell 2 31, ResultVar.cell 3 37] := rfl
theorem nt46 : Tryz.f46.ntmps = 29 := rfl
theorem rs46 : Tryz.f46.results.toList = [ResultVar.cell 4 37, ResultVar.tmp 5] := rfl
theorem nt47 : Tryz.f47.ntmps = 32 := rfl
theorem rs47 : Tryz.f47.results.toList = [ResultVar.cell 4 37, ResultVar.tmp 5] := rfl
theorem nt48 : Tryz.f48.ntmps = 16 := rfl
theorem rs48 : Tryz.f48.results.toList = [ResultVar.cell 4 72, ResultVar.tmp 5] := rfl
theorem nt49 : Tryz.f49.ntmps = 23 := rfl
theorem rs49 : Tryz.f49.results.toList = [ResultVar.cell 4 72, ResultVar.tmp 5] := rfl
theorem nt50 : Tryz.f50.ntmps = 19 := rfl
theorem rs50 : Tryz.f50.results.toList = [ResultVar.tmp 4] := rfl
theorem nt51 : Tryz.f51.ntmps = 12 := rfl
theorem rs51 : Tryz.f51.results.toList = [ResultVar.tmp 4] := rfl
theorem nt52 : Tryz.f52.ntmps = 52 := rfl
theorem rs52 : Tryz.f52.results.toList = [ResultVar.cell 6 37, ResultVar.tmp 7] := rfl
theorem nt53 : Tryz.f53.ntmps = 71 := rfl
theorem rs53 : Tryz.f53.results.toList = [ResultVar.tmp 6] := rfl
theorem nt54 : Tryz.f54.ntmps = 42 := rfl
theorem rs54 : Tryz.f54.results.toList = [ResultVar.cell 2 31] := rfl
theorem nt55 : Tryz.f55.ntmps = 32 := rfl
theorem rs55 : Tryz.f55.results.toList = [ResultVar.tmp 2] := rfl
theorem nt56 : Tryz.f56.ntmps = 93 := rfl
theorem rs56 : Tryz.f56.results.toList = [ResultVar.tmp 2] := rfl
theorem nt57 : Tryz.f57.ntmps = 28 := rfl
theorem rs57 : Tryz.f57.results.toList = [ResultVar.cell 4 90, ResultVar.tmp 5] := rfl
theorem nt58 : Tryz.f58.ntmps = 13 := rfl
theorem rs58 : Tryz.f58.results.toList = [ResultVar.tmp 2] := rfl
theorem nt59 : Tryz.f59.ntmps = 9 := rfl
theorem rs59 : Tryz.f59.results.toList = [ResultVar.tmp 4] := rfl
theorem nt60 : Tryz.f60.ntmps = 9 := rfl
theorem rs60 : Tryz.f60.results.toList = [ResultVar.tmp 2] := rfl
theorem nt61 : Tryz.f61.ntmps = 72 := rfl
theorem rs61 : Tryz.f61.results.toList = [ResultVar.tmp 2] := rfl
theorem nt62 : Tryz.f62.ntmps = 18 := rfl
theorem rs62 : Tryz.f62.results.toList = [ResultVar.tmp 2] := rfl
theorem nt63 : Tryz.f63.ntmps = 61 := rfl
theorem rs63 : Tryz.f63.results.toList = [ResultVar.tmp 2] := rfl
theorem nt64 : Tryz.f64.ntmps = 26 := rfl
theorem rs64 : Tryz.f64.results.toList = [ResultVar.tmp 4] := rfl
theorem nt65 : Tryz.f65.ntmps = 32 := rfl
theorem rs65 : Tryz.f65.results.toList = [ResultVar.tmp 6] := rfl
theorem nt66 : Tryz.f66.ntmps = 24 := rfl
theorem rs66 : Tryz.f66.results.toList = [ResultVar.tmp 4] := rfl
theorem nt67 : Tryz.f67.ntmps = 32 := rfl
theorem rs67 : Tryz.f67.results.toList = [ResultVar.tmp 6] := rfl
theorem nt68 : Tryz.f68.ntmps = 31 := rfl
theorem rs68 : Tryz.f68.results.toList = [ResultVar.tmp 4] := rfl
theorem nt69 : Tryz.f69.ntmps = 26 := rfl
theorem rs69 : Tryz.f69.results.toList = [ResultVar.tmp 4] := rfl
theorem nt70 : Tryz.f70.ntmps = 5 := rfl
theorem rs70 : Tryz.f70.results.toList = [ResultVar.tmp 2] := rfl
theorem nt71 : Tryz.f71.ntmps = 15 := rfl
theorem rs71 : Tryz.f71.results.toList = [ResultVar.tmp 2] := rfl
theorem nt72 : Tryz.f72.ntmps = 24 := rfl
theorem rs72 : Tryz.f72.results.toList = [ResultVar.tmp 2] := rfl
theorem nt73 : Tryz.f73.ntmps = 32 := rfl
theorem rs73 : Tryz.f73.results.toList = [ResultVar.tmp 6, ResultVar.tmp 7] := rfl
theorem nt74 : Tryz.f74.ntmps = 27 := rfl
theorem rs74 : Tryz.f74.results.toList = [ResultVar.tmp 2] := rfl
theorem nt75 : Tryz.f75.ntmps = 80 := rfl
theorem rs75 : Tryz.f75.results.toList = [ResultVar.tmp 6] := rfl
theorem nt76 : Tryz.f76.ntmps = 11 := rfl
theorem rs76 : Tryz.f76.results.toList = [ResultVar.tmp 4] := rfl
theorem nt77 : Tryz.f77.ntmps = 79 := rfl
theorem rs77 : Tryz.f77.results.toList = [ResultVar.tmp 8] := rfl
theorem nt78 : Tryz.f78.ntmps = 19 := rfl
theorem rs78 : Tryz.f78.results.toList = [ResultVar.tmp 4] := rfl
theorem nt79 : Tryz.f79.ntmps = 64 := rfl
theorem rs79 : Tryz.f79.results.toList = [ResultVar.tmp 2] := rfl
theorem nt80 : Tryz.f80.ntmps = 29 := rfl
theorem rs80 : Tryz.f80.results.toList = [ResultVar.tmp 4] := rfl
theorem nt81 : Tryz.f81.ntmps = 125 := rfl
theorem rs81 : Tryz.f81.results.toList = [ResultVar.cell 4 40] := rfl
theorem nt82 : Tryz.f82.ntmps = 12 := rfl
theorem rs82 : Tryz.f82.results.toList = [ResultVar.tmp 4] := rfl
theorem nt83 : Tryz.f83.ntmps = 9 := rfl
theorem rs83 : Tryz.f83.results.toList = [ResultVar.tmp 4] := rfl
theorem nt84 : Tryz.f84.ntmps = 48 := rfl
theorem rs84 : Tryz.f84.results.toList = [ResultVar.cell 2 37] := rfl
theorem nt85 : Tryz.f85.ntmps = 43 := rfl
theorem rs85 : Tryz.f85.results.toList = [ResultVar.cell 2 27] := rfl
theorem nt86 : Tryz.f86.ntmps = 12 := rfl
theorem rs86 : Tryz.f86.results.toList = [ResultVar.cell 2 31, ResultVar.tmp 3] := rfl
theorem nt87 : Tryz.f87.ntmps = 14 := rfl
theorem rs87 : Tryz.f87.results.toList = [ResultVar.tmp 2] := rfl
theorem nt88 : Tryz.f88.ntmps = 15 := rfl
theorem rs88 : Tryz.f88.results.toList = [ResultVar.tmp 2] := rfl
theorem nt89 : Tryz.f89.ntmps = 25 := rfl
theorem rs89 : Tryz.f89.results.toList = [ResultVar.tmp 2] := rfl
theorem nt90 : Tryz.f90.ntmps = 40 := rfl
theorem rs90 : Tryz.f90.results.toList = [ResultVar.cell 4 90, ResultVar.tmp 5] := rfl
theorem nt91 : Tryz.f91.ntmps = 34 := rfl
theorem rs91 : Tryz.f91.results.toList = [ResultVar.tmp 6, ResultVar.tmp 7] := rfl
theorem nt92 : Tryz.f92.ntmps = 49 := rfl
theorem rs92 : Tryz.f92.results.toList = [ResultVar.tmp 6] := rfl
theorem nt93 : Tryz.f93.ntmps = 34 := rfl
theorem rs93 : Tryz.f93.results.toList = [ResultVar.cell 2 54] := rfl
theorem nt94 : Tryz.f94.ntmps = 5 := rfl
theorem rs94 : Tryz.f94.results.toList = [ResultVar.tmp 2] := rfl
theorem nt95 : Tryz.f95.ntmps = 19 := rfl
theorem rs95 : Tryz.f95.results.toList = [ResultVar.tmp 2] := rfl
theorem nt96 : Tryz.f96.ntmps = 13 := rfl
theorem rs96 : Tryz.f96.results.toList = [ResultVar.tmp 4] := rfl
theorem nt97 : Tryz.f97.ntmps = 23 := rfl
theorem rs97 : Tryz.f97.results.toList = [ResultVar.tmp 2] := rfl
theorem nt98 : Tryz.f98.ntmps = 15 := rfl
theorem rs98 : Tryz.f98.results.toList = [ResultVar.tmp 6] := rfl
theorem nt99 : Tryz.f99.ntmps = 16 := rfl
theorem rs99 : Tryz.f99.results.toList = [ResultVar.tmp 2] := rfl
theorem nt100 : Tryz.f100.ntmps = 21 := rfl
theorem rs100 : Tryz.f100.results.toList = [ResultVar.tmp 2] := rfl
theorem nt101 : Tryz.f101.ntmps = 31 := rfl
theorem rs101 : Tryz.f101.results.toList = [ResultVar.tmp 4] := rfl
theorem nt102 : Tryz.f102.ntmps = 26 := rfl
theorem rs102 : Tryz.f102.results.toList = [ResultVar.tmp 4] := rfl
theorem nt103 : Tryz.f103.ntmps = 76 := rfl
theorem rs103 : Tryz.f103.results.toList = [ResultVar.cell 2 37] := rfl
theorem nt104 : Tryz.f104.ntmps = 47 := rfl
theorem rs104 : Tryz.f104.results.toList = [ResultVar.cell 4 37] := rfl
theorem nt105 : Tryz.f105.ntmps = 30 := rfl
theorem rs105 : Tryz.f105.results.toList = [ResultVar.tmp 4] := rfl
theorem nt106 : Tryz.f106.ntmps = 8 := rfl
theorem rs106 : Tryz.f106.results.toList = [ResultVar.tmp 2] := rfl
theorem nt107 : Tryz.f107.ntmps = 37 := rfl
theorem rs107 : Tryz.f107.results.toList = [ResultVar.tmp 4] := rfl
theorem nt108 : Tryz.f108.ntmps = 13 := rfl
theorem rs108 : Tryz.f108.results.toList = [ResultVar.cell 6 37] := rfl
theorem nt109 : Tryz.f109.ntmps = 19 := rfl
theorem rs109 : Tryz.f109.results.toList = [ResultVar.cell 2 31, ResultVar.cell 3 37] := rfl
theorem nt110 : Tryz.f110.ntmps = 59 := rfl
theorem rs110 : Tryz.f110.results.toList = [ResultVar.tmp 6] := rfl
theorem nt111 : Tryz.f111.ntmps = 85 := rfl
theorem rs111 : Tryz.f111.results.toList = [ResultVar.tmp 8] := rfl
theorem nt112 : Tryz.f112.ntmps = 24 := rfl
theorem rs112 : Tryz.f112.results.toList = [ResultVar.tmp 4] := rfl
theorem nt113 : Tryz.f113.ntmps = 27 := rfl
theorem rs113 : Tryz.f113.results.toList = [ResultVar.tmp 4] := rfl
theorem nt114 : Tryz.f114.ntmps = 25 := rfl
theorem rs114 : Tryz.f114.results.toList = [ResultVar.cell 2 37] := rfl
theorem nt115 : Tryz.f115.ntmps = 38 := rfl
theorem rs115 : Tryz.f115.results.toList = [ResultVar.cell 6 37, ResultVar.tmp 7] := rfl
theorem nt116 : Tryz.f116.ntmps = 18 := rfl
theorem rs116 : Tryz.f116.results.toList = [ResultVar.tmp 4] := rfl
theorem nt117 : Tryz.f117.ntmps = 36 := rfl
theorem rs117 : Tryz.f117.results.toList = [ResultVar.tmp 4, ResultVar.tmp 5] := rfl
theorem nt118 : Tryz.f118.ntmps = 78 := rfl
theorem rs118 : Tryz.f118.results.toList = [ResultVar.cell 2 37] := rfl
theorem nt119 : Tryz.f119.ntmps = 48 := rfl
theorem rs119 : Tryz.f119.results.toList = [ResultVar.cell 4 37] := rfl
theorem nt120 : Tryz.f120.ntmps = 36 := rfl
theorem rs120 : Tryz.f120.results.toList = [ResultVar.cell 6 37, ResultVar.tmp 7] := rfl
theorem nt121 : Tryz.f121.ntmps = 29 := rfl
theorem rs121 : Tryz.f121.results.toList = [ResultVar.cell 2 37] := rfl
theorem nt122 : Tryz.f122.ntmps = 51 := rfl
theorem rs122 : Tryz.f122.results.toList = [ResultVar.cell 6 37, ResultVar.tmp 7] := rfl
theorem nt123 : Tryz.f123.ntmps = 48 := rfl
theorem rs123 : Tryz.f123.results.toList = [ResultVar.cell 6 72, ResultVar.tmp 7] := rfl
theorem nt124 : Tryz.f124.ntmps = 69 := rfl
theorem rs124 : Tryz.f124.results.toList = [ResultVar.cell 4 72, ResultVar.tmp 5] := rfl
theorem nt125 : Tryz.f125.ntmps = 18 := rfl
theorem rs125 : Tryz.f125.results.toList = [ResultVar.tmp 4] := rfl
theorem nt126 : Tryz.f126.ntmps = 30 := rfl
theorem rs126 : Tryz.f126.results.toList = [ResultVar.tmp 4] := rfl
theorem nt127 : Tryz.f127.ntmps = 24 := rfl
theorem rs127 : Tryz.f127.results.toList = [ResultVar.tmp 4] := rfl
theorem nt128 : Tryz.f128.ntmps = 66 := rfl
theorem rs128 : Tryz.f128.results.toList = [ResultVar.cell 2 31] := rfl
theorem nt129 : Tryz.f129.ntmps = 8 := rfl
theorem rs129 : Tryz.f129.results.toList = [ResultVar.tmp 2] := rfl
theorem nt130 : Tryz.f130.ntmps = 9 := rfl
theorem rs130 : Tryz.f130.results.toList = [ResultVar.tmp 4] := rfl
theorem nt131 : Tryz.f131.ntmps = 11 := rfl
theorem rs131 : Tryz.f131.results.toList = [ResultVar.cell 2 90] := rfl
theorem nt132 : Tryz.f132.ntmps = 19 := rfl
theorem rs132 : Tryz.f132.results.toList = [ResultVar.tmp 4] := rfl
theorem nt133 : Tryz.f133.ntmps = 10 := rfl
theorem rs133 : Tryz.f133.results.toList = [ResultVar.tmp 2] := rfl
theorem nt134 : Tryz.f134.ntmps = 42 := rfl
theorem rs134 : Tryz.f134.results.toList = [ResultVar.tmp 4] := rfl
theorem nt135 : Tryz.f135.ntmps = 13 := rfl
theorem rs135 : Tryz.f135.results.toList = [ResultVar.tmp 2] := rfl
theorem nt136 : Tryz.f136.ntmps = 32 := rfl
theorem rs136 : Tryz.f136.results.toList = [ResultVar.tmp 6] := rfl
theorem nt137 : Tryz.f137.ntmps = 24 := rfl
theorem rs137 : Tryz.f137.results.toList = [ResultVar.tmp 4] := rfl
theorem nt138 : Tryz.f138.ntmps = 56 := rfl
theorem rs138 : Tryz.f138.results.toList = [ResultVar.tmp 6] := rfl
theorem nt139 : Tryz.f139.ntmps = 19 := rfl
theorem rs139 : Tryz.f139.results.toList = [ResultVar.tmp 2] := rfl
theorem nt140 : Tryz.f140.ntmps = 20 := rfl
theorem rs140 : Tryz.f140.results.toList = [ResultVar.tmp 2] := rfl
theorem nt141 : Tryz.f141.ntmps = 49 := rfl
theorem rs141 : Tryz.f141.results.toList = [ResultVar.tmp 2] := rfl
theorem nt142 : Tryz.f142.ntmps = 84 := rfl
theorem rs142 : Tryz.f142.results.toList = [ResultVar.tmp 8, ResultVar.tmp 9] := rfl
theorem nt143 : Tryz.f143.ntmps = 24 := rfl
theorem rs143 : Tryz.f143.results.toList = [ResultVar.tmp 4] := rfl
theorem nt144 : Tryz.f144.ntmps = 9 := rfl
theorem rs144 : Tryz.f144.results.toList = [ResultVar.tmp 2] := rfl
theorem nt145 : Tryz.f145.ntmps = 5 := rfl
theorem rs145 : Tryz.f145.results.toList = [ResultVar.cell 2 37] := rfl
theorem nt146 : Tryz.f146.ntmps = 9 := rfl
theorem rs146 : Tryz.f146.results.toList = [ResultVar.cell 4 37] := rfl
theorem nt147 : Tryz.f147.ntmps = 12 := rfl
theorem rs147 : Tryz.f147.results.toList = [ResultVar.cell 6 37] := rfl
theorem nt148 : Tryz.f148.ntmps = 12 := rfl
theorem rs148 : Tryz.f148.results.toList = [ResultVar.cell 4 37] := rfl
theorem nt149 : Tryz.f149.ntmps = 8 := rfl
theorem rs149 : Tryz.f149.results.toList = [ResultVar.cell 4 37] := rfl
theorem nt150 : Tryz.f150.ntmps = 5 := rfl
theorem rs150 : Tryz.f150.results.toList = [ResultVar.cell 2 37] := rfl
theorem nt151 : Tryz.f151.ntmps = 101 := rfl
theorem rs151 : Tryz.f151.results.toList = [ResultVar.cell 8 37] := rfl
theorem nt152 : Tryz.f152.ntmps = 29 := rfl
theorem rs152 : Tryz.f152.results.toList = [ResultVar.cell 2 118] := rfl
theorem nt153 : Tryz.f153.ntmps = 57 := rfl
theorem rs153 : Tryz.f153.results.toList = [ResultVar.cell 6 37] := rfl
theorem nt154 : Tryz.f154.ntmps = 12 := rfl
theorem rs154 : Tryz.f154.results.toList = [ResultVar.tmp 4] := rfl
theorem nt155 : Tryz.f155.ntmps = 16 := rfl
theorem rs155 : Tryz.f155.results.toList = [ResultVar.cell 0 27] := rfl
theorem nt156 : Tryz.f156.ntmps = 9 := rfl
theorem rs156 : Tryz.f156.results.toList = [ResultVar.tmp 2] := rfl
theorem nt157 : Tryz.f157.ntmps = 25 := rfl
theorem rs157 : Tryz.f157.results.toList = [ResultVar.tmp 2] := rfl
theorem nt158 : Tryz.f158.ntmps = 27 := rfl
theorem rs158 : Tryz.f158.results.toList = [ResultVar.tmp 4] := rfl
theorem nt159 : Tryz.f159.ntmps = 22 := rfl
theorem rs159 : Tryz.f159.results.toList = [ResultVar.tmp 2] := rfl
theorem nt160 : Tryz.f160.ntmps = 20 := rfl
theorem rs160 : Tryz.f160.results.toList = [ResultVar.tmp 2] := rfl
theorem nt161 : Tryz.f161.ntmps = 93 := rfl
theorem rs161 : Tryz.f161.results.toList = [ResultVar.tmp 8, ResultVar.tmp 9] := rfl
theorem nt162 : Tryz.f162.ntmps = 10 := rfl
theorem rs162 : Tryz.f162.results.toList = [ResultVar.tmp 2] := rfl
theorem nt163 : Tryz.f163.ntmps = 34 := rfl
theorem rs163 : Tryz.f163.results.toList = [ResultVar.cell 2 54] := rfl
theorem nt164 : Tryz.f164.ntmps = 14 := rfl
theorem rs164 : Tryz.f164.results.toList = [ResultVar.cell 2 37] := rfl
theorem nt165 : Tryz.f165.ntmps = 17 := rfl
theorem rs165 : Tryz.f165.results.toList = [ResultVar.tmp 2] := rfl
theorem nt166 : Tryz.f166.ntmps = 19 := rfl
theorem rs166 : Tryz.f166.results.toList = [ResultVar.tmp 2] := rfl
theorem nt167 : Tryz.f167.ntmps = 32 := rfl
theorem rs167 : Tryz.f167.results.toList = [ResultVar.tmp 6] := rfl
theorem nt168 : Tryz.f168.ntmps = 27 := rfl
theorem rs168 : Tryz.f168.results.toList = [ResultVar.tmp 2] := rfl
theorem nt169 : Tryz.f169.ntmps = 25 := rfl
theorem rs169 : Tryz.f169.results.toList = [ResultVar.tmp 6] := rfl
theorem nt170 : Tryz.f170.ntmps = 22 := rfl
theorem rs170 : Tryz.f170.results.toList = [ResultVar.cell 4 37, ResultVar.tmp 5] := rfl
theorem nt171 : Tryz.f171.ntmps = 24 := rfl
theorem rs171 : Tryz.f171.results.toList = [ResultVar.tmp 4] := rfl
theorem nt172 : Tryz.f172.ntmps = 58 := rfl
theorem rs172 : Tryz.f172.results.toList = [ResultVar.tmp 2] := rfl
theorem nt173 : Tryz.f173.ntmps = 33 := rfl
theorem rs173 : Tryz.f173.results.toList = [ResultVar.tmp 4] := rfl
theorem nt174 : Tryz.f174.ntmps = 19 := rfl
theorem rs174 : Tryz.f174.results.toList = [ResultVar.cell 2 37] := rfl
theorem nt175 : Tryz.f175.ntmps = 8 := rfl
theorem rs175 : Tryz.f175.results.toList = [ResultVar.tmp 2] := rfl
theorem nt176 : Tryz.f176.ntmps = 12 := rfl
theorem rs176 : Tryz.f176.results.toList = [ResultVar.tmp 4] := rfl
theorem nt177 : Tryz.f177.ntmps = 87 := rfl
theorem rs177 : Tryz.f177.results.toList = [ResultVar.tmp 6, ResultVar.tmp 7] := rfl
theorem nt178 : Tryz.f178.ntmps = 19 := rfl
theorem rs178 : Tryz.f178.results.toList = [ResultVar.tmp 4] := rfl
theorem nt179 : Tryz.f179.ntmps = 22 := rfl
theorem rs179 : Tryz.f179.results.toList = [ResultVar.tmp 4, ResultVar.tmp 5] := rfl
theorem nt180 : Tryz.f180.ntmps = 47 := rfl
theorem rs180 : Tryz.f180.results.toList = [ResultVar.tmp 2] := rfl
theorem nt181 : Tryz.f181.ntmps = 16 := rfl
theorem rs181 : Tryz.f181.results.toList = [ResultVar.cell 4 118] := rfl
theorem nt182 : Tryz.f182.ntmps = 22 := rfl
theorem rs182 : Tryz.f182.results.toList = [ResultVar.tmp 2] := rfl
theorem nt183 : Tryz.f183.ntmps = 26 := rfl
theorem rs183 : Tryz.f183.results.toList = [ResultVar.tmp 6] := rfl
theorem nt184 : Tryz.f184.ntmps = 19 := rfl
theorem rs184 : Tryz.f184.results.toList = [ResultVar.cell 4 37, ResultVar.tmp 5] := rfl
theorem nt185 : Tryz.f185.ntmps = 31 := rfl
theorem rs185 : Tryz.f185.results.toList = [ResultVar.cell 4 37, ResultVar.tmp 5] := rfl
theorem nt186 : Tryz.f186.ntmps = 27 := rfl
theorem rs186 : Tryz.f186.results.toList = [ResultVar.cell 6 37] := rfl
theorem nt187 : Tryz.f187.ntmps = 33 := rfl
theorem rs187 : Tryz.f187.results.toList = [ResultVar.cell 6 37] := rfl
theorem nt188 : Tryz.f188.ntmps = 10 := rfl
theorem rs188 : Tryz.f188.results.toList = [ResultVar.tmp 4] := rfl
theorem nt189 : Tryz.f189.ntmps = 7 := rfl
theorem rs189 : Tryz.f189.results.toList = [ResultVar.tmp 2] := rfl
theorem nt190 : Tryz.f190.ntmps = 26 := rfl
theorem rs190 : Tryz.f190.results.toList = [ResultVar.tmp 4] := rfl
theorem nt191 : Tryz.f191.ntmps = 31 := rfl
theorem rs191 : Tryz.f191.results.toList = [ResultVar.tmp 2] := rfl
theorem nt192 : Tryz.f192.ntmps = 19 := rfl
theorem rs192 : Tryz.f192.results.toList = [ResultVar.tmp 4] := rfl
theorem nt193 : Tryz.f193.ntmps = 11 := rfl
theorem rs193 : Tryz.f193.results.toList = [] := rfl
theorem nt194 : Tryz.f194.ntmps = 61 := rfl
theorem rs194 : Tryz.f194.results.toList = [ResultVar.tmp 2] := rfl
theorem nt195 : Tryz.f195.ntmps = 14 := rfl
theorem rs195 : Tryz.f195.results.toList = [ResultVar.tmp 4] := rfl
theorem nt196 : Tryz.f196.ntmps = 9 := rfl
theorem rs196 : Tryz.f196.results.toList = [ResultVar.tmp 2] := rfl
theorem nt197 : Tryz.f197.ntmps = 47 := rfl
theorem rs197 : Tryz.f197.results.toList = [ResultVar.tmp 2] := rfl
theorem nt198 : Tryz.f198.ntmps = 12 := rfl
theorem rs198 : Tryz.f198.results.toList = [ResultVar.cell 2 37] := rfl
theorem nt199 : Tryz.f199.ntmps = 43 := rfl
theorem rs199 : Tryz.f199.results.toList = [ResultVar.tmp 4] := rfl
theorem nt200 : Tryz.f200.ntmps = 28 := rfl
theorem rs200 : Tryz.f200.results.toList = [] := rfl
theorem nt201 : Tryz.f201.ntmps = 30 := rfl
theorem rs201 : Tryz.f201.results.toList = [ResultVar.tmp 4] := rfl
theorem nt202 : Tryz.f202.ntmps = 49 := rfl
theorem rs202 : Tryz.f202.results.toList = [ResultVar.tmp 2] := rfl
theorem nt203 : Tryz.f203.ntmps = 16 := rfl
theorem rs203 : Tryz.f203.results.toList = [ResultVar.cell 4 118] := rfl
theorem nt204 : Tryz.f204.ntmps = 92 := rfl
theorem rs204 : Tryz.f204.results.toList = [ResultVar.tmp 6, ResultVar.tmp 7] := rfl
theorem nt205 : Tryz.f205.ntmps = 39 := rfl
theorem rs205 : Tryz.f205.results.toList = [ResultVar.tmp 4] := rfl
theorem nt206 : Tryz.f206.ntmps = 20 := rfl
theorem rs206 : Tryz.f206.results.toList = [ResultVar.tmp 4] := rfl
theorem nt207 : Tryz.f207.ntmps = 17 := rfl
theorem rs207 : Tryz.f207.results.toList = [ResultVar.cell 6 37] := rfl
theorem nt208 : Tryz.f208.ntmps = 134 := rfl
theorem rs208 : Tryz.f208.results.toList = [] := rfl
theorem nt209 : Tryz.f209.ntmps = 8 := rfl
theorem rs209 : Tryz.f209.results.toList = [ResultVar.tmp 2] := rfl
theorem nt210 : Tryz.f210.ntmps = 8 := rfl
theorem rs210 : Tryz.f210.results.toList = [ResultVar.tmp 2] := rfl
theorem nt211 : Tryz.f211.ntmps = 49 := rfl
theorem rs211 : Tryz.f211.results.toList = [] := rfl
theorem nt212 : Tryz.f212.ntmps = 56 := rfl
theorem rs212 : Tryz.f212.results.toList = [] := rfl
theorem nt213 : Tryz.f213.ntmps = 65 := rfl
theorem rs213 : Tryz.f213.results.toList = [] := rfl
theorem nt214 : Tryz.f214.ntmps = 57 := rfl
theorem rs214 : Tryz.f214.results.toList = [ResultVar.tmp 6, ResultVar.tmp 7] := rfl
theorem nt215 : Tryz.f215.ntmps = 32 := rfl
theorem rs215 : Tryz.f215.results.toList = [] := rfl
theorem nt216 : Tryz.f216.ntmps = 133 := rfl
theorem rs216 : Tryz.f216.results.toList = [ResultVar.tmp 6] := rfl
theorem nt217 : Tryz.f217.ntmps = 17 := rfl
theorem rs217 : Tryz.f217.results.toList = [ResultVar.tmp 4] := rfl
theorem nt218 : Tryz.f218.ntmps = 84 := rfl
theorem rs218 : Tryz.f218.results.toList = [ResultVar.tmp 8] := rfl
theorem nt219 : Tryz.f219.ntmps = 168 := rfl
theorem rs219 : Tryz.f219.results.toList = [ResultVar.tmp 8, ResultVar.tmp 9] := rfl
theorem nt220 : Tryz.f220.ntmps = 19 := rfl
theorem rs220 : Tryz.f220.results.toList = [ResultVar.tmp 2] := rfl
theorem nt221 : Tryz.f221.ntmps = 25 := rfl
theorem rs221 : Tryz.f221.results.toList = [ResultVar.tmp 2] := rfl
theorem nt222 : Tryz.f222.ntmps = 76 := rfl
theorem rs222 : Tryz.f222.results.toList = [] := rfl
theorem nt223 : Tryz.f223.ntmps = 7 := rfl
theorem rs223 : Tryz.f223.results.toList = [ResultVar.tmp 2] := rfl
theorem nt224 : Tryz.f224.ntmps = 33 := rfl
theorem rs224 : Tryz.f224.results.toList = [ResultVar.tmp 2] := rfl
theorem nt225 : Tryz.f225.ntmps = 15 := rfl
theorem rs225 : Tryz.f225.results.toList = [ResultVar.tmp 6] := rfl
theorem nt226 : Tryz.f226.ntmps = 36 := rfl
theorem rs226 : Tryz.f226.results.toList = [ResultVar.tmp 10] := rfl
theorem nt227 : Tryz.f227.ntmps = 6 := rfl
theorem rs227 : Tryz.f227.results.toList = [ResultVar.tmp 2] := rfl
theorem nt228 : Tryz.f228.ntmps = 28 := rfl
theorem rs228 : Tryz.f228.results.toList = [ResultVar.tmp 8, ResultVar.tmp 9] := rfl
attribute [go_sem] tb2 tb3 tb4 tb5 tb9 tb12 tb13 tb20 tb21 tb22 tb24 tb25 tb26 tb27 tb28 tb29 tb30 tb31 tb35 tb36 tb37 tb38 tb39 tb40 tb45 tb53 tb54 tb67 tb71 tb72 tb84 tb87 tb88 tb89 tb90 tb103 tb117 tb118 tb126 tb138 tb139 tb149 tb150 tb170 tb171 tb186 tb194 tb203 tb205 tb206 tb210 tb212 tb225 nt3 rs3 nt4 rs4 nt5 rs5 nt6 rs6 nt7 rs7 nt8 rs8 nt9 rs9 nt10 rs10 nt11 rs11 nt12 rs12 nt13 rs13 nt14 rs14 nt15 rs15 nt16 rs16 nt17 rs17 nt18 rs18 nt19 rs19 nt20 rs20 nt21 rs21 nt22 rs22 nt23 rs23 nt24 rs24 nt25 rs25 nt26 rs26 nt27 rs27 nt28 rs28 nt29 rs29 nt30 rs30 nt31 rs31 nt32 rs32 nt33 rs33 nt34 rs34 nt35 rs35 nt36 rs36 nt37 rs37 nt38 rs38 nt39 rs39 nt40 rs40 nt41 rs41 nt42 rs42 nt43 rs43 nt44 rs44 nt45 rs45 nt46 rs46 nt47 rs47 nt48 rs48 nt49 rs49 nt50 rs50 nt51 rs51 nt52 rs52 nt53 rs53 nt54 rs54 nt55 rs55 nt56 rs56 nt57 rs57 nt58 rs58 nt59 rs59 nt60 rs60 nt61 rs61 nt62 rs62 nt63 rs63 nt64 rs64 nt65 rs65 nt66 rs66 nt67 rs67 nt68 rs68 nt69 rs69 nt70 rs70 nt71 rs71 nt72 rs72 nt73 rs73 nt74 rs74 nt75 rs75 nt76 rs76 nt77 rs77 nt78 rs78 nt79 rs79 nt80 rs80 nt81 rs81 nt82 rs82 nt83 rs83 nt84 rs84 nt85 rs85 nt86 rs86 nt87 rs87 nt88 rs88 nt89 rs89 nt90 rs90 nt91 rs91 nt92 rs92 nt93 rs93 nt94 rs94 nt95 rs95 nt96 rs96 nt97 rs97 nt98 rs98 nt99 rs99 nt100 rs100 nt101 rs101 nt102 rs102 nt103 rs103 nt104 rs104 nt105 rs105 nt106 rs106 nt107 rs107 nt108 rs108 nt109 rs109 nt110 rs110 nt111 rs111 nt112 rs112 nt113 rs113 nt114 rs114 nt115 rs115 nt116 rs116 nt117 rs117 nt118 rs118 nt119 rs119 nt120 rs120 nt121 rs121 nt122 rs122 nt123 rs123 nt124 rs124 nt125 rs125 nt126 rs126 nt127 rs127 nt128 rs128 nt129 rs129 nt130 rs130 nt131 rs131 nt132 rs132 nt133 rs133 nt134 rs134 nt135 rs135 nt136 rs136 nt137 rs137 nt138 rs138 nt139 rs139 nt140 rs140 nt141 rs141 nt142 rs142 nt143 rs143 nt144 rs144 nt145 rs145 nt146 rs146 nt147 rs147 nt148 rs148 nt149 rs149 nt150 rs150 nt151 rs151 nt152 rs152 nt153 rs153 nt154 rs154 nt155 rs155 nt156 rs156 nt157 rs157 nt158 rs158 nt159 rs159 nt160 rs160 nt161 rs161 nt162 rs162 nt163 rs163 nt164 rs164 nt165 rs165 nt166 rs166 nt167 rs167 nt168 rs168 nt169 rs169 nt170 rs170 nt171 rs171 nt172 rs172 nt173 rs173 nt174 rs174 nt175 rs175 nt176 rs176 nt177 rs177 nt178 rs178 nt179 rs179 nt180 rs180 nt181 rs181 nt182 rs182 nt183 rs183 nt184 rs184 nt185 rs185 nt186 rs186 nt187 rs187 nt188 rs188 nt189 rs189 nt190 rs190 nt191 rs191 nt192 rs192 nt193 rs193 nt194 rs194 nt195 rs195 nt196 rs196 nt197 rs197 nt198 rs198 nt199 rs199 nt200 rs200 nt201 rs201 nt202 rs202 nt203 rs203 nt204 rs204 nt205 rs205 nt206 rs206 nt207 rs207 nt208 rs208 nt209 rs209 nt210 rs210 nt211 rs211 nt212 rs212 nt213 rs213 nt214 rs214 nt215 rs215 nt216 rs216 nt217 rs217 nt218 rs218 nt219 rs219 nt220 rs220 nt221 rs221 nt222 rs222 nt223 rs223 nt224 rs224 nt225 rs225 nt226 rs226 nt227 rs227 nt228 rs228
end Go.Ai
