/- The types' table of this seat's program, and what its functions give back. Written by mkseat.py. -/
import Derived.Test.YthaghkakjaengaaAiRead
import Derived.Test.YthaghkakjaengaaProg
import Derived.KernelRfl
namespace Go.Ai
set_option linter.unusedVariables false
set_option linter.unusedSimpArgs false
open Go.Proofs
set_option maxRecDepth 100000
def Tb : Tab := tabOf [
  (2, { d := TyD.int IntKind.i64, size := 1, bytes := 8, zero := [AC.c (C.v (Value.int IntKind.i64 0))] }),
  (3, { d := TyD.int IntKind.i64, size := 1, bytes := 8, zero := [AC.c (C.v (Value.int IntKind.i64 0))] }),
  (4, { d := TyD.bool, size := 1, bytes := 1, zero := [AC.c (C.v (Value.bool false))] }),
  (5, { d := TyD.int IntKind.u8, size := 1, bytes := 1, zero := [AC.c (C.v (Value.int IntKind.u8 0))] }),
  (9, { d := TyD.str, size := 1, bytes := 16, zero := [AC.c (C.v (Value.string ⟨⟨[]⟩⟩))] }),
  (12, { d := TyD.int IntKind.u64, size := 1, bytes := 8, zero := [AC.c (C.v (Value.int IntKind.u64 0))] }),
  (13, { d := TyD.struct [(0, 1), (1, 1)] none, size := 2, bytes := 24, zero := [AC.c (C.v (Value.string ⟨⟨[]⟩⟩)), AC.c (C.v (Value.int IntKind.u64 0))] }),
  (20, { d := TyD.iface, size := 1, bytes := 16, zero := [AC.c (C.v Value.nilIface)] }),
  (21, { d := TyD.int IntKind.i32, size := 1, bytes := 4, zero := [AC.c (C.v (Value.int IntKind.i32 0))] }),
  (24, { d := TyD.slice 3, size := 1, bytes := 24, zero := [AC.nil] }),
  (29, { d := TyD.slice 31, size := 1, bytes := 24, zero := [AC.nil] }),
  (30, { d := TyD.struct [(0, 1), (1, 1), (2, 1), (3, 1)] none, size := 4, bytes := 56, zero := [AC.c (C.v (Value.int IntKind.i64 0)), AC.c (C.v (Value.int IntKind.i64 0)), AC.c (C.v (Value.string ⟨⟨[]⟩⟩)), AC.nil] }),
  (31, { d := TyD.struct [(0, 1), (1, 1), (2, 1), (3, 1)] none, size := 4, bytes := 56, zero := [AC.c (C.v (Value.int IntKind.i64 0)), AC.c (C.v (Value.int IntKind.i64 0)), AC.c (C.v (Value.string ⟨⟨[]⟩⟩)), AC.nil] }),
  (32, { d := TyD.struct [(0, 1), (1, 4), (5, 1)] none, size := 6, bytes := 72, zero := [AC.c (C.v (Value.int IntKind.i64 0)), AC.c (C.v (Value.int IntKind.i64 0)), AC.c (C.v (Value.int IntKind.i64 0)), AC.c (C.v (Value.string ⟨⟨[]⟩⟩)), AC.nil, AC.c (C.v (Value.int IntKind.i64 0))] }),
  (33, { d := TyD.struct [(0, 1), (1, 4), (5, 1)] none, size := 6, bytes := 72, zero := [AC.c (C.v (Value.int IntKind.i64 0)), AC.c (C.v (Value.int IntKind.i64 0)), AC.c (C.v (Value.int IntKind.i64 0)), AC.c (C.v (Value.string ⟨⟨[]⟩⟩)), AC.nil, AC.c (C.v (Value.int IntKind.i64 0))] }),
  (36, { d := TyD.slice 38, size := 1, bytes := 24, zero := [AC.nil] }),
  (37, { d := TyD.struct [(0, 1), (1, 1), (2, 1), (3, 1)] none, size := 4, bytes := 56, zero := [AC.c (C.v (Value.int IntKind.i64 0)), AC.c (C.v (Value.int IntKind.i64 0)), AC.c (C.v (Value.string ⟨⟨[]⟩⟩)), AC.nil] }),
  (38, { d := TyD.struct [(0, 1), (1, 1), (2, 1), (3, 1)] none, size := 4, bytes := 56, zero := [AC.c (C.v (Value.int IntKind.i64 0)), AC.c (C.v (Value.int IntKind.i64 0)), AC.c (C.v (Value.string ⟨⟨[]⟩⟩)), AC.nil] }),
  (39, { d := TyD.struct [(0, 1), (1, 4), (5, 1)] none, size := 6, bytes := 72, zero := [AC.c (C.v (Value.int IntKind.i64 0)), AC.c (C.v (Value.int IntKind.i64 0)), AC.c (C.v (Value.int IntKind.i64 0)), AC.c (C.v (Value.string ⟨⟨[]⟩⟩)), AC.nil, AC.c (C.v (Value.int IntKind.i64 0))] }),
  (40, { d := TyD.struct [(0, 1), (1, 4), (5, 1)] none, size := 6, bytes := 72, zero := [AC.c (C.v (Value.int IntKind.i64 0)), AC.c (C.v (Value.int IntKind.i64 0)), AC.c (C.v (Value.int IntKind.i64 0)), AC.c (C.v (Value.string ⟨⟨[]⟩⟩)), AC.nil, AC.c (C.v (Value.int IntKind.i64 0))] }),
  (43, { d := TyD.slice 101, size := 1, bytes := 24, zero := [AC.nil] }),
  (44, { d := TyD.struct [(0, 4), (4, 1), (5, 1), (6, 1)] none, size := 7, bytes := 96, zero := [AC.c (C.v (Value.int IntKind.i64 0)), AC.c (C.v (Value.int IntKind.i64 0)), AC.c (C.v (Value.string ⟨⟨[]⟩⟩)), AC.nil, AC.c (C.v (Value.int IntKind.i64 0)), AC.nil, AC.c (C.v (Value.int IntKind.i64 0))] }),
  (45, { d := TyD.struct [(0, 4), (4, 1), (5, 1), (6, 1)] none, size := 7, bytes := 96, zero := [AC.c (C.v (Value.int IntKind.i64 0)), AC.c (C.v (Value.int IntKind.i64 0)), AC.c (C.v (Value.string ⟨⟨[]⟩⟩)), AC.nil, AC.c (C.v (Value.int IntKind.i64 0)), AC.nil, AC.c (C.v (Value.int IntKind.i64 0))] }),
  (48, { d := TyD.slice 81, size := 1, bytes := 24, zero := [AC.nil] }),
  (49, { d := TyD.struct [(0, 4), (4, 1), (5, 1), (6, 1)] none, size := 7, bytes := 96, zero := [AC.c (C.v (Value.int IntKind.i64 0)), AC.c (C.v (Value.int IntKind.i64 0)), AC.c (C.v (Value.string ⟨⟨[]⟩⟩)), AC.nil, AC.c (C.v (Value.int IntKind.i64 0)), AC.nil, AC.c (C.v (Value.int IntKind.i64 0))] }),
  (50, { d := TyD.struct [(0, 4), (4, 1), (5, 1), (6, 1)] none, size := 7, bytes := 96, zero := [AC.c (C.v (Value.int IntKind.i64 0)), AC.c (C.v (Value.int IntKind.i64 0)), AC.c (C.v (Value.string ⟨⟨[]⟩⟩)), AC.nil, AC.c (C.v (Value.int IntKind.i64 0)), AC.nil, AC.c (C.v (Value.int IntKind.i64 0))] }),
  (53, { d := TyD.slice 9, size := 1, bytes := 24, zero := [AC.nil] }),
  (54, { d := TyD.struct [(0, 1), (1, 4), (5, 1)] none, size := 6, bytes := 104, zero := [AC.nil, AC.c (C.v (Value.int IntKind.i64 0)), AC.c (C.v (Value.int IntKind.i64 0)), AC.c (C.v (Value.string ⟨⟨[]⟩⟩)), AC.nil, AC.nil] }),
  (55, { d := TyD.struct [(0, 1), (1, 4), (5, 1)] none, size := 6, bytes := 104, zero := [AC.nil, AC.c (C.v (Value.int IntKind.i64 0)), AC.c (C.v (Value.int IntKind.i64 0)), AC.c (C.v (Value.string ⟨⟨[]⟩⟩)), AC.nil, AC.nil] }),
  (58, { d := TyD.struct [(0, 1), (1, 4), (5, 1)] none, size := 6, bytes := 104, zero := [AC.nil, AC.c (C.v (Value.int IntKind.i64 0)), AC.c (C.v (Value.int IntKind.i64 0)), AC.c (C.v (Value.string ⟨⟨[]⟩⟩)), AC.nil, AC.nil] }),
  (59, { d := TyD.struct [(0, 1), (1, 4), (5, 1)] none, size := 6, bytes := 104, zero := [AC.nil, AC.c (C.v (Value.int IntKind.i64 0)), AC.c (C.v (Value.int IntKind.i64 0)), AC.c (C.v (Value.string ⟨⟨[]⟩⟩)), AC.nil, AC.nil] }),
  (70, { d := TyD.slice 95, size := 1, bytes := 24, zero := [AC.nil] }),
  (80, { d := TyD.struct [(0, 4), (4, 1)] none, size := 5, bytes := 64, zero := [AC.c (C.v (Value.int IntKind.i64 0)), AC.c (C.v (Value.int IntKind.i64 0)), AC.c (C.v (Value.string ⟨⟨[]⟩⟩)), AC.nil, AC.c (C.v (Value.int IntKind.i64 0))] }),
  (81, { d := TyD.struct [(0, 4), (4, 1)] none, size := 5, bytes := 64, zero := [AC.c (C.v (Value.int IntKind.i64 0)), AC.c (C.v (Value.int IntKind.i64 0)), AC.c (C.v (Value.string ⟨⟨[]⟩⟩)), AC.nil, AC.c (C.v (Value.int IntKind.i64 0))] }),
  (94, { d := TyD.struct [(0, 1), (1, 4)] none, size := 5, bytes := 72, zero := [AC.c (C.v (Value.string ⟨⟨[]⟩⟩)), AC.c (C.v (Value.int IntKind.i64 0)), AC.c (C.v (Value.int IntKind.i64 0)), AC.c (C.v (Value.string ⟨⟨[]⟩⟩)), AC.nil] }),
  (95, { d := TyD.struct [(0, 1), (1, 4)] none, size := 5, bytes := 72, zero := [AC.c (C.v (Value.string ⟨⟨[]⟩⟩)), AC.c (C.v (Value.int IntKind.i64 0)), AC.c (C.v (Value.int IntKind.i64 0)), AC.c (C.v (Value.string ⟨⟨[]⟩⟩)), AC.nil] }),
  (100, { d := TyD.struct [(0, 4), (4, 1)] none, size := 5, bytes := 64, zero := [AC.c (C.v (Value.int IntKind.i64 0)), AC.c (C.v (Value.int IntKind.i64 0)), AC.c (C.v (Value.string ⟨⟨[]⟩⟩)), AC.nil, AC.c (C.v (Value.int IntKind.i64 0))] }),
  (101, { d := TyD.struct [(0, 4), (4, 1)] none, size := 5, bytes := 64, zero := [AC.c (C.v (Value.int IntKind.i64 0)), AC.c (C.v (Value.int IntKind.i64 0)), AC.c (C.v (Value.string ⟨⟨[]⟩⟩)), AC.nil, AC.c (C.v (Value.int IntKind.i64 0))] }),
  (103, { d := TyD.slice 5, size := 1, bytes := 24, zero := [AC.nil] }),
  (111, { d := TyD.int IntKind.u32, size := 1, bytes := 4, zero := [AC.c (C.v (Value.int IntKind.u32 0))] }),
  (115, { d := TyD.ptr, size := 1, bytes := 8, zero := [AC.c (C.v (Value.pointer none))] })]
theorem tbOk : TabOk Try.prog Tb := tabOk_of _ _ ⟨by kernel_rfl, by kernel_rfl, by kernel_rfl, by kernel_rfl, by kernel_rfl, by kernel_rfl, by kernel_rfl, by kernel_rfl, by kernel_rfl, by kernel_rfl, by kernel_rfl, by kernel_rfl, by kernel_rfl, by kernel_rfl, by kernel_rfl, by kernel_rfl, by kernel_rfl, by kernel_rfl, by kernel_rfl, by kernel_rfl, by kernel_rfl, by kernel_rfl, by kernel_rfl, by kernel_rfl, by kernel_rfl, by kernel_rfl, by kernel_rfl, by kernel_rfl, by kernel_rfl, by kernel_rfl, by kernel_rfl, by kernel_rfl, by kernel_rfl, by kernel_rfl, by kernel_rfl, by kernel_rfl, by kernel_rfl, by kernel_rfl, by kernel_rfl, by kernel_rfl, by kernel_rfl, trivial⟩
theorem mixed : Try.prog.follows .mixedOrders = true := by kernel_rfl
theorem tb2 : Tb 2 = some { d := TyD.int IntKind.i64, size := 1, bytes := 8, zero := [AC.c (C.v (Value.int IntKind.i64 0))] } := rfl
theorem tb3 : Tb 3 = some { d := TyD.int IntKind.i64, size := 1, bytes := 8, zero := [AC.c (C.v (Value.int IntKind.i64 0))] } := rfl
theorem tb4 : Tb 4 = some { d := TyD.bool, size := 1, bytes := 1, zero := [AC.c (C.v (Value.bool false))] } := rfl
theorem tb5 : Tb 5 = some { d := TyD.int IntKind.u8, size := 1, bytes := 1, zero := [AC.c (C.v (Value.int IntKind.u8 0))] } := rfl
theorem tb9 : Tb 9 = some { d := TyD.str, size := 1, bytes := 16, zero := [AC.c (C.v (Value.string ⟨⟨[]⟩⟩))] } := rfl
theorem tb12 : Tb 12 = some { d := TyD.int IntKind.u64, size := 1, bytes := 8, zero := [AC.c (C.v (Value.int IntKind.u64 0))] } := rfl
theorem tb13 : Tb 13 = some { d := TyD.struct [(0, 1), (1, 1)] none, size := 2, bytes := 24, zero := [AC.c (C.v (Value.string ⟨⟨[]⟩⟩)), AC.c (C.v (Value.int IntKind.u64 0))] } := rfl
theorem tb20 : Tb 20 = some { d := TyD.iface, size := 1, bytes := 16, zero := [AC.c (C.v Value.nilIface)] } := rfl
theorem tb21 : Tb 21 = some { d := TyD.int IntKind.i32, size := 1, bytes := 4, zero := [AC.c (C.v (Value.int IntKind.i32 0))] } := rfl
theorem tb24 : Tb 24 = some { d := TyD.slice 3, size := 1, bytes := 24, zero := [AC.nil] } := rfl
theorem tb29 : Tb 29 = some { d := TyD.slice 31, size := 1, bytes := 24, zero := [AC.nil] } := rfl
theorem tb30 : Tb 30 = some { d := TyD.struct [(0, 1), (1, 1), (2, 1), (3, 1)] none, size := 4, bytes := 56, zero := [AC.c (C.v (Value.int IntKind.i64 0)), AC.c (C.v (Value.int IntKind.i64 0)), AC.c (C.v (Value.string ⟨⟨[]⟩⟩)), AC.nil] } := rfl
theorem tb31 : Tb 31 = some { d := TyD.struct [(0, 1), (1, 1), (2, 1), (3, 1)] none, size := 4, bytes := 56, zero := [AC.c (C.v (Value.int IntKind.i64 0)), AC.c (C.v (Value.int IntKind.i64 0)), AC.c (C.v (Value.string ⟨⟨[]⟩⟩)), AC.nil] } := rfl
theorem tb32 : Tb 32 = some { d := TyD.struct [(0, 1), (1, 4), (5, 1)] none, size := 6, bytes := 72, zero := [AC.c (C.v (Value.int IntKind.i64 0)), AC.c (C.v (Value.int IntKind.i64 0)), AC.c (C.v (Value.int IntKind.i64 0)), AC.c (C.v (Value.string ⟨⟨[]⟩⟩)), AC.nil, AC.c (C.v (Value.int IntKind.i64 0))] } := rfl
theorem tb33 : Tb 33 = some { d := TyD.struct [(0, 1), (1, 4), (5, 1)] none, size := 6, bytes := 72, zero := [AC.c (C.v (Value.int IntKind.i64 0)), AC.c (C.v (Value.int IntKind.i64 0)), AC.c (C.v (Value.int IntKind.i64 0)), AC.c (C.v (Value.string ⟨⟨[]⟩⟩)), AC.nil, AC.c (C.v (Value.int IntKind.i64 0))] } := rfl
theorem tb36 : Tb 36 = some { d := TyD.slice 38, size := 1, bytes := 24, zero := [AC.nil] } := rfl
theorem tb37 : Tb 37 = some { d := TyD.struct [(0, 1), (1, 1), (2, 1), (3, 1)] none, size := 4, bytes := 56, zero := [AC.c (C.v (Value.int IntKind.i64 0)), AC.c (C.v (Value.int IntKind.i64 0)), AC.c (C.v (Value.string ⟨⟨[]⟩⟩)), AC.nil] } := rfl
theorem tb38 : Tb 38 = some { d := TyD.struct [(0, 1), (1, 1), (2, 1), (3, 1)] none, size := 4, bytes := 56, zero := [AC.c (C.v (Value.int IntKind.i64 0)), AC.c (C.v (Value.int IntKind.i64 0)), AC.c (C.v (Value.string ⟨⟨[]⟩⟩)), AC.nil] } := rfl
theorem tb39 : Tb 39 = some { d := TyD.struct [(0, 1), (1, 4), (5, 1)] none, size := 6, bytes := 72, zero := [AC.c (C.v (Value.int IntKind.i64 0)), AC.c (C.v (Value.int IntKind.i64 0)), AC.c (C.v (Value.int IntKind.i64 0)), AC.c (C.v (Value.string ⟨⟨[]⟩⟩)), AC.nil, AC.c (C.v (Value.int IntKind.i64 0))] } := rfl
theorem tb40 : Tb 40 = some { d := TyD.struct [(0, 1), (1, 4), (5, 1)] none, size := 6, bytes := 72, zero := [AC.c (C.v (Value.int IntKind.i64 0)), AC.c (C.v (Value.int IntKind.i64 0)), AC.c (C.v (Value.int IntKind.i64 0)), AC.c (C.v (Value.string ⟨⟨[]⟩⟩)), AC.nil, AC.c (C.v (Value.int IntKind.i64 0))] } := rfl
theorem tb43 : Tb 43 = some { d := TyD.slice 101, size := 1, bytes := 24, zero := [AC.nil] } := rfl
theorem tb44 : Tb 44 = some { d := TyD.struct [(0, 4), (4, 1), (5, 1), (6, 1)] none, size := 7, bytes := 96, zero := [AC.c (C.v (Value.int IntKind.i64 0)), AC.c (C.v (Value.int IntKind.i64 0)), AC.c (C.v (Value.string ⟨⟨[]⟩⟩)), AC.nil, AC.c (C.v (Value.int IntKind.i64 0)), AC.nil, AC.c (C.v (Value.int IntKind.i64 0))] } := rfl
theorem tb45 : Tb 45 = some { d := TyD.struct [(0, 4), (4, 1), (5, 1), (6, 1)] none, size := 7, bytes := 96, zero := [AC.c (C.v (Value.int IntKind.i64 0)), AC.c (C.v (Value.int IntKind.i64 0)), AC.c (C.v (Value.string ⟨⟨[]⟩⟩)), AC.nil, AC.c (C.v (Value.int IntKind.i64 0)), AC.nil, AC.c (C.v (Value.int IntKind.i64 0))] } := rfl
theorem tb48 : Tb 48 = some { d := TyD.slice 81, size := 1, bytes := 24, zero := [AC.nil] } := rfl
theorem tb49 : Tb 49 = some { d := TyD.struct [(0, 4), (4, 1), (5, 1), (6, 1)] none, size := 7, bytes := 96, zero := [AC.c (C.v (Value.int IntKind.i64 0)), AC.c (C.v (Value.int IntKind.i64 0)), AC.c (C.v (Value.string ⟨⟨[]⟩⟩)), AC.nil, AC.c (C.v (Value.int IntKind.i64 0)), AC.nil, AC.c (C.v (Value.int IntKind.i64 0))] } := rfl
theorem tb50 : Tb 50 = some { d := TyD.struct [(0, 4), (4, 1), (5, 1), (6, 1)] none, size := 7, bytes := 96, zero := [AC.c (C.v (Value.int IntKind.i64 0)), AC.c (C.v (Value.int IntKind.i64 0)), AC.c (C.v (Value.string ⟨⟨[]⟩⟩)), AC.nil, AC.c (C.v (Value.int IntKind.i64 0)), AC.nil, AC.c (C.v (Value.int IntKind.i64 0))] } := rfl
theorem tb53 : Tb 53 = some { d := TyD.slice 9, size := 1, bytes := 24, zero := [AC.nil] } := rfl
theorem tb54 : Tb 54 = some { d := TyD.struct [(0, 1), (1, 4), (5, 1)] none, size := 6, bytes := 104, zero := [AC.nil, AC.c (C.v (Value.int IntKind.i64 0)), AC.c (C.v (Value.int IntKind.i64 0)), AC.c (C.v (Value.string ⟨⟨[]⟩⟩)), AC.nil, AC.nil] } := rfl
theorem tb55 : Tb 55 = some { d := TyD.struct [(0, 1), (1, 4), (5, 1)] none, size := 6, bytes := 104, zero := [AC.nil, AC.c (C.v (Value.int IntKind.i64 0)), AC.c (C.v (Value.int IntKind.i64 0)), AC.c (C.v (Value.string ⟨⟨[]⟩⟩)), AC.nil, AC.nil] } := rfl
theorem tb58 : Tb 58 = some { d := TyD.struct [(0, 1), (1, 4), (5, 1)] none, size := 6, bytes := 104, zero := [AC.nil, AC.c (C.v (Value.int IntKind.i64 0)), AC.c (C.v (Value.int IntKind.i64 0)), AC.c (C.v (Value.string ⟨⟨[]⟩⟩)), AC.nil, AC.nil] } := rfl
theorem tb59 : Tb 59 = some { d := TyD.struct [(0, 1), (1, 4), (5, 1)] none, size := 6, bytes := 104, zero := [AC.nil, AC.c (C.v (Value.int IntKind.i64 0)), AC.c (C.v (Value.int IntKind.i64 0)), AC.c (C.v (Value.string ⟨⟨[]⟩⟩)), AC.nil, AC.nil] } := rfl
theorem tb70 : Tb 70 = some { d := TyD.slice 95, size := 1, bytes := 24, zero := [AC.nil] } := rfl
theorem tb80 : Tb 80 = some { d := TyD.struct [(0, 4), (4, 1)] none, size := 5, bytes := 64, zero := [AC.c (C.v (Value.int IntKind.i64 0)), AC.c (C.v (Value.int IntKind.i64 0)), AC.c (C.v (Value.string ⟨⟨[]⟩⟩)), AC.nil, AC.c (C.v (Value.int IntKind.i64 0))] } := rfl
theorem tb81 : Tb 81 = some { d := TyD.struct [(0, 4), (4, 1)] none, size := 5, bytes := 64, zero := [AC.c (C.v (Value.int IntKind.i64 0)), AC.c (C.v (Value.int IntKind.i64 0)), AC.c (C.v (Value.string ⟨⟨[]⟩⟩)), AC.nil, AC.c (C.v (Value.int IntKind.i64 0))] } := rfl
theorem tb94 : Tb 94 = some { d := TyD.struct [(0, 1), (1, 4)] none, size := 5, bytes := 72, zero := [AC.c (C.v (Value.string ⟨⟨[]⟩⟩)), AC.c (C.v (Value.int IntKind.i64 0)), AC.c (C.v (Value.int IntKind.i64 0)), AC.c (C.v (Value.string ⟨⟨[]⟩⟩)), AC.nil] } := rfl
theorem tb95 : Tb 95 = some { d := TyD.struct [(0, 1), (1, 4)] none, size := 5, bytes := 72, zero := [AC.c (C.v (Value.string ⟨⟨[]⟩⟩)), AC.c (C.v (Value.int IntKind.i64 0)), AC.c (C.v (Value.int IntKind.i64 0)), AC.c (C.v (Value.string ⟨⟨[]⟩⟩)), AC.nil] } := rfl
theorem tb100 : Tb 100 = some { d := TyD.struct [(0, 4), (4, 1)] none, size := 5, bytes := 64, zero := [AC.c (C.v (Value.int IntKind.i64 0)), AC.c (C.v (Value.int IntKind.i64 0)), AC.c (C.v (Value.string ⟨⟨[]⟩⟩)), AC.nil, AC.c (C.v (Value.int IntKind.i64 0))] } := rfl
theorem tb101 : Tb 101 = some { d := TyD.struct [(0, 4), (4, 1)] none, size := 5, bytes := 64, zero := [AC.c (C.v (Value.int IntKind.i64 0)), AC.c (C.v (Value.int IntKind.i64 0)), AC.c (C.v (Value.string ⟨⟨[]⟩⟩)), AC.nil, AC.c (C.v (Value.int IntKind.i64 0))] } := rfl
theorem tb103 : Tb 103 = some { d := TyD.slice 5, size := 1, bytes := 24, zero := [AC.nil] } := rfl
theorem tb111 : Tb 111 = some { d := TyD.int IntKind.u32, size := 1, bytes := 4, zero := [AC.c (C.v (Value.int IntKind.u32 0))] } := rfl
theorem tb115 : Tb 115 = some { d := TyD.ptr, size := 1, bytes := 8, zero := [AC.c (C.v (Value.pointer none))] } := rfl
theorem nt3 : Try.f3.ntmps = 12 := rfl
theorem rs3 : Try.f3.results.toList = [ResultVar.tmp 2] := rfl
theorem nt4 : Try.f4.ntmps = 46 := rfl
theorem rs4 : Try.f4.results.toList = [ResultVar.tmp 4] := rfl
theorem nt5 : Try.f5.ntmps = 45 := rfl
theorem rs5 : Try.f5.results.toList = [ResultVar.tmp 4] := rfl
theorem nt6 : Try.f6.ntmps = 45 := rfl
theorem rs6 : Try.f6.results.toList = [ResultVar.tmp 4] := rfl
theorem nt7 : Try.f7.ntmps = 45 := rfl
theorem rs7 : Try.f7.results.toList = [ResultVar.tmp 4] := rfl
theorem nt8 : Try.f8.ntmps = 69 := rfl
theorem rs8 : Try.f8.results.toList = [ResultVar.tmp 2] := rfl
theorem nt9 : Try.f9.ntmps = 74 := rfl
theorem rs9 : Try.f9.results.toList = [ResultVar.tmp 4] := rfl
theorem nt10 : Try.f10.ntmps = 16 := rfl
theorem rs10 : Try.f10.results.toList = [ResultVar.tmp 2] := rfl
theorem nt11 : Try.f11.ntmps = 17 := rfl
theorem rs11 : Try.f11.results.toList = [ResultVar.tmp 2] := rfl
theorem nt12 : Try.f12.ntmps = 30 := rfl
theorem rs12 : Try.f12.results.toList = [ResultVar.tmp 4] := rfl
theorem nt13 : Try.f13.ntmps = 24 := rfl
theorem rs13 : Try.f13.results.toList = [ResultVar.tmp 4] := rfl
theorem nt14 : Try.f14.ntmps = 26 := rfl
theorem rs14 : Try.f14.results.toList = [ResultVar.tmp 4] := rfl
theorem nt15 : Try.f15.ntmps = 19 := rfl
theorem rs15 : Try.f15.results.toList = [ResultVar.tmp 4] := rfl
theorem nt16 : Try.f16.ntmps = 21 := rfl
theorem rs16 : Try.f16.results.toList = [ResultVar.tmp 4] := rfl
theorem nt17 : Try.f17.ntmps = 12 := rfl
theorem rs17 : Try.f17.results.toList = [ResultVar.tmp 4] := rfl
theorem nt18 : Try.f18.ntmps = 24 := rfl
theorem rs18 : Try.f18.results.toList = [ResultVar.tmp 4] := rfl
theorem nt19 : Try.f19.ntmps = 15 := rfl
theorem rs19 : Try.f19.results.toList = [ResultVar.cell 2 40] := rfl
theorem nt20 : Try.f20.ntmps = 24 := rfl
theorem rs20 : Try.f20.results.toList = [ResultVar.tmp 4] := rfl
theorem nt21 : Try.f21.ntmps = 21 := rfl
theorem rs21 : Try.f21.results.toList = [ResultVar.tmp 4] := rfl
theorem nt22 : Try.f22.ntmps = 18 := rfl
theorem rs22 : Try.f22.results.toList = [ResultVar.tmp 4] := rfl
theorem nt23 : Try.f23.ntmps = 71 := rfl
theorem rs23 : Try.f23.results.toList = [ResultVar.tmp 4] := rfl
theorem nt24 : Try.f24.ntmps = 19 := rfl
theorem rs24 : Try.f24.results.toList = [ResultVar.cell 2 50] := rfl
theorem nt25 : Try.f25.ntmps = 31 := rfl
theorem rs25 : Try.f25.results.toList = [ResultVar.tmp 4] := rfl
theorem nt26 : Try.f26.ntmps = 27 := rfl
theorem rs26 : Try.f26.results.toList = [ResultVar.tmp 4] := rfl
theorem nt27 : Try.f27.ntmps = 24 := rfl
theorem rs27 : Try.f27.results.toList = [ResultVar.tmp 4] := rfl
theorem nt28 : Try.f28.ntmps = 24 := rfl
theorem rs28 : Try.f28.results.toList = [ResultVar.tmp 4] := rfl
theorem nt29 : Try.f29.ntmps = 17 := rfl
theorem rs29 : Try.f29.results.toList = [ResultVar.cell 2 59] := rfl
theorem nt30 : Try.f30.ntmps = 24 := rfl
theorem rs30 : Try.f30.results.toList = [ResultVar.tmp 4] := rfl
theorem nt31 : Try.f31.ntmps = 23 := rfl
theorem rs31 : Try.f31.results.toList = [ResultVar.tmp 4] := rfl
theorem nt32 : Try.f32.ntmps = 19 := rfl
theorem rs32 : Try.f32.results.toList = [ResultVar.tmp 4] := rfl
theorem nt33 : Try.f33.ntmps = 6 := rfl
theorem rs33 : Try.f33.results.toList = [ResultVar.cell 2 50] := rfl
theorem nt34 : Try.f34.ntmps = 18 := rfl
theorem rs34 : Try.f34.results.toList = [ResultVar.cell 2 38] := rfl
theorem nt35 : Try.f35.ntmps = 6 := rfl
theorem rs35 : Try.f35.results.toList = [ResultVar.cell 2 50] := rfl
theorem nt36 : Try.f36.ntmps = 26 := rfl
theorem rs36 : Try.f36.results.toList = [ResultVar.tmp 4] := rfl
theorem nt37 : Try.f37.ntmps = 10 := rfl
theorem rs37 : Try.f37.results.toList = [ResultVar.tmp 4] := rfl
theorem nt38 : Try.f38.ntmps = 14 := rfl
theorem rs38 : Try.f38.results.toList = [ResultVar.tmp 4] := rfl
theorem nt39 : Try.f39.ntmps = 18 := rfl
theorem rs39 : Try.f39.results.toList = [ResultVar.tmp 4] := rfl
theorem nt40 : Try.f40.ntmps = 28 := rfl
theorem rs40 : Try.f40.results.toList = [ResultVar.tmp 4] := rfl
theorem nt41 : Try.f41.ntmps = 33 := rfl
theorem rs41 : Try.f41.results.toList = [ResultVar.tmp 4] := rfl
theorem nt42 : Try.f42.ntmps = 22 := rfl
theorem rs42 : Try.f42.results.toList = [ResultVar.tmp 2] := rfl
theorem nt43 : Try.f43.ntmps = 30 := rfl
theorem rs43 : Try.f43.results.toList = [ResultVar.tmp 4] := rfl
theorem nt44 : Try.f44.ntmps = 27 := rfl
theorem rs44 : Try.f44.results.toList = [ResultVar.tmp 4] := rfl
theorem nt45 : Try.f45.ntmps = 26 := rfl
theorem rs45 : Try.f45.results.toList = [ResultVar.tmp 4] := rfl
theorem nt46 : Try.f46.ntmps = 20 := rfl
theorem rs46 : Try.f46.results.toList = [ResultVar.tmp 4] := rfl
theorem nt47 : Try.f47.ntmps = 54 := rfl
theorem rs47 : Try.f47.results.toList = [ResultVar.tmp 4] := rfl
theorem nt48 : Try.f48.ntmps = 64 := rfl
theorem rs48 : Try.f48.results.toList = [ResultVar.tmp 4] := rfl
theorem nt49 : Try.f49.ntmps = 15 := rfl
theorem rs49 : Try.f49.results.toList = [ResultVar.tmp 6] := rfl
theorem nt50 : Try.f50.ntmps = 13 := rfl
theorem rs50 : Try.f50.results.toList = [ResultVar.tmp 4] := rfl
theorem nt51 : Try.f51.ntmps = 28 := rfl
theorem rs51 : Try.f51.results.toList = [] := rfl
theorem nt52 : Try.f52.ntmps = 53 := rfl
theorem rs52 : Try.f52.results.toList = [ResultVar.tmp 4] := rfl
theorem nt53 : Try.f53.ntmps = 31 := rfl
theorem rs53 : Try.f53.results.toList = [ResultVar.tmp 4] := rfl
theorem nt54 : Try.f54.ntmps = 27 := rfl
theorem rs54 : Try.f54.results.toList = [ResultVar.tmp 4] := rfl
theorem nt55 : Try.f55.ntmps = 23 := rfl
theorem rs55 : Try.f55.results.toList = [ResultVar.tmp 2] := rfl
theorem nt56 : Try.f56.ntmps = 32 := rfl
theorem rs56 : Try.f56.results.toList = [ResultVar.tmp 6] := rfl
theorem nt57 : Try.f57.ntmps = 17 := rfl
theorem rs57 : Try.f57.results.toList = [ResultVar.tmp 4] := rfl
theorem nt58 : Try.f58.ntmps = 27 := rfl
theorem rs58 : Try.f58.results.toList = [ResultVar.tmp 4] := rfl
theorem nt59 : Try.f59.ntmps = 12 := rfl
theorem rs59 : Try.f59.results.toList = [ResultVar.tmp 4] := rfl
theorem nt60 : Try.f60.ntmps = 26 := rfl
theorem rs60 : Try.f60.results.toList = [ResultVar.tmp 4] := rfl
theorem nt61 : Try.f61.ntmps = 26 := rfl
theorem rs61 : Try.f61.results.toList = [ResultVar.tmp 4] := rfl
theorem nt62 : Try.f62.ntmps = 22 := rfl
theorem rs62 : Try.f62.results.toList = [ResultVar.tmp 2] := rfl
theorem nt63 : Try.f63.ntmps = 26 := rfl
theorem rs63 : Try.f63.results.toList = [ResultVar.tmp 4] := rfl
theorem nt64 : Try.f64.ntmps = 26 := rfl
theorem rs64 : Try.f64.results.toList = [ResultVar.tmp 4] := rfl
theorem nt65 : Try.f65.ntmps = 27 := rfl
theorem rs65 : Try.f65.results.toList = [ResultVar.tmp 4] := rfl
theorem nt66 : Try.f66.ntmps = 25 := rfl
theorem rs66 : Try.f66.results.toList = [ResultVar.cell 2 38] := rfl
theorem nt67 : Try.f67.ntmps = 23 := rfl
theorem rs67 : Try.f67.results.toList = [ResultVar.tmp 2] := rfl
theorem nt68 : Try.f68.ntmps = 29 := rfl
theorem rs68 : Try.f68.results.toList = [ResultVar.cell 2 38] := rfl
theorem nt69 : Try.f69.ntmps = 27 := rfl
theorem rs69 : Try.f69.results.toList = [ResultVar.tmp 4] := rfl
theorem nt70 : Try.f70.ntmps = 42 := rfl
theorem rs70 : Try.f70.results.toList = [ResultVar.tmp 4] := rfl
theorem nt71 : Try.f71.ntmps = 53 := rfl
theorem rs71 : Try.f71.results.toList = [ResultVar.tmp 4] := rfl
theorem nt72 : Try.f72.ntmps = 12 := rfl
theorem rs72 : Try.f72.results.toList = [ResultVar.tmp 4] := rfl
theorem nt73 : Try.f73.ntmps = 63 := rfl
theorem rs73 : Try.f73.results.toList = [ResultVar.tmp 4] := rfl
theorem nt74 : Try.f74.ntmps = 5 := rfl
theorem rs74 : Try.f74.results.toList = [ResultVar.cell 2 38] := rfl
theorem nt75 : Try.f75.ntmps = 16 := rfl
theorem rs75 : Try.f75.results.toList = [ResultVar.tmp 4] := rfl
theorem nt76 : Try.f76.ntmps = 20 := rfl
theorem rs76 : Try.f76.results.toList = [ResultVar.tmp 2] := rfl
theorem nt77 : Try.f77.ntmps = 50 := rfl
theorem rs77 : Try.f77.results.toList = [ResultVar.tmp 4] := rfl
theorem nt78 : Try.f78.ntmps = 32 := rfl
theorem rs78 : Try.f78.results.toList = [ResultVar.tmp 6] := rfl
theorem nt79 : Try.f79.ntmps = 12 := rfl
theorem rs79 : Try.f79.results.toList = [ResultVar.tmp 4] := rfl
theorem nt80 : Try.f80.ntmps = 12 := rfl
theorem rs80 : Try.f80.results.toList = [ResultVar.cell 2 81] := rfl
theorem nt81 : Try.f81.ntmps = 16 := rfl
theorem rs81 : Try.f81.results.toList = [ResultVar.tmp 4] := rfl
attribute [go_sem] tb2 tb3 tb4 tb5 tb9 tb12 tb13 tb20 tb21 tb24 tb29 tb30 tb31 tb32 tb33 tb36 tb37 tb38 tb39 tb40 tb43 tb44 tb45 tb48 tb49 tb50 tb53 tb54 tb55 tb58 tb59 tb70 tb80 tb81 tb94 tb95 tb100 tb101 tb103 tb111 tb115 nt3 rs3 nt4 rs4 nt5 rs5 nt6 rs6 nt7 rs7 nt8 rs8 nt9 rs9 nt10 rs10 nt11 rs11 nt12 rs12 nt13 rs13 nt14 rs14 nt15 rs15 nt16 rs16 nt17 rs17 nt18 rs18 nt19 rs19 nt20 rs20 nt21 rs21 nt22 rs22 nt23 rs23 nt24 rs24 nt25 rs25 nt26 rs26 nt27 rs27 nt28 rs28 nt29 rs29 nt30 rs30 nt31 rs31 nt32 rs32 nt33 rs33 nt34 rs34 nt35 rs35 nt36 rs36 nt37 rs37 nt38 rs38 nt39 rs39 nt40 rs40 nt41 rs41 nt42 rs42 nt43 rs43 nt44 rs44 nt45 rs45 nt46 rs46 nt47 rs47 nt48 rs48 nt49 rs49 nt50 rs50 nt51 rs51 nt52 rs52 nt53 rs53 nt54 rs54 nt55 rs55 nt56 rs56 nt57 rs57 nt58 rs58 nt59 rs59 nt60 rs60 nt61 rs61 nt62 rs62 nt63 rs63 nt64 rs64 nt65 rs65 nt66 rs66 nt67 rs67 nt68 rs68 nt69 rs69 nt70 rs70 nt71 rs71 nt72 rs72 nt73 rs73 nt74 rs74 nt75 rs75 nt76 rs76 nt77 rs77 nt78 rs78 nt79 rs79 nt80 rs80 nt81 rs81
end Go.Ai
