/- The types' table of this seat's program, and what its functions give back. Written by mkseat.py. -/
import Derived.Test.YtkcfegkfbijedaaDoorAiRead
import Derived.Test.YtkcfegkfbijedaaDoorProg
import Derived.KernelRfl
namespace Go.Ai
set_option linter.unusedVariables false
set_option linter.unusedSimpArgs false
open Go.Proofs
set_option maxRecDepth 100000
def Tb : Tab := tabOf [
  (2, { d := TyD.int IntKind.i64, size := 1, bytes := 8, zero := [AC.c (C.v (Value.int IntKind.i64 0))] }),
  (3, { d := TyD.int IntKind.i64, size := 1, bytes := 8, zero := [AC.c (C.v (Value.int IntKind.i64 0))] }),
  (4, { d := TyD.bool, size := 1, bytes := 1, zero := [AC.c (C.v (Value.bool false))] }),
  (5, { d := TyD.int IntKind.u8, size := 1, bytes := 1, zero := [AC.c (C.v (Value.int IntKind.u8 0))] }),
  (9, { d := TyD.str, size := 1, bytes := 16, zero := [AC.c (C.v (Value.string ⟨⟨[]⟩⟩))] }),
  (12, { d := TyD.int IntKind.u64, size := 1, bytes := 8, zero := [AC.c (C.v (Value.int IntKind.u64 0))] }),
  (13, { d := TyD.struct [(0, 1), (1, 1)] none, size := 2, bytes := 24, zero := [AC.c (C.v (Value.string ⟨⟨[]⟩⟩)), AC.c (C.v (Value.int IntKind.u64 0))] }),
  (20, { d := TyD.iface, size := 1, bytes := 16, zero := [AC.c (C.v Value.nilIface)] }),
  (21, { d := TyD.int IntKind.i32, size := 1, bytes := 4, zero := [AC.c (C.v (Value.int IntKind.i32 0))] }),
  (22, { d := TyD.slice 24, size := 1, bytes := 24, zero := [AC.nil] }),
  (23, { d := TyD.struct [(0, 1), (1, 1), (2, 1), (3, 1)] none, size := 4, bytes := 56, zero := [AC.c (C.v (Value.int IntKind.i64 0)), AC.c (C.v (Value.int IntKind.i64 0)), AC.c (C.v (Value.string ⟨⟨[]⟩⟩)), AC.nil] }),
  (24, { d := TyD.struct [(0, 1), (1, 1), (2, 1), (3, 1)] none, size := 4, bytes := 56, zero := [AC.c (C.v (Value.int IntKind.i64 0)), AC.c (C.v (Value.int IntKind.i64 0)), AC.c (C.v (Value.string ⟨⟨[]⟩⟩)), AC.nil] }),
  (25, { d := TyD.slice 3, size := 1, bytes := 24, zero := [AC.nil] }),
  (28, { d := TyD.slice 30, size := 1, bytes := 24, zero := [AC.nil] }),
  (29, { d := TyD.struct [(0, 1), (1, 1), (2, 1), (3, 1)] none, size := 4, bytes := 56, zero := [AC.c (C.v (Value.int IntKind.i64 0)), AC.c (C.v (Value.int IntKind.i64 0)), AC.c (C.v (Value.string ⟨⟨[]⟩⟩)), AC.nil] }),
  (30, { d := TyD.struct [(0, 1), (1, 1), (2, 1), (3, 1)] none, size := 4, bytes := 56, zero := [AC.c (C.v (Value.int IntKind.i64 0)), AC.c (C.v (Value.int IntKind.i64 0)), AC.c (C.v (Value.string ⟨⟨[]⟩⟩)), AC.nil] }),
  (36, { d := TyD.slice 88, size := 1, bytes := 24, zero := [AC.nil] }),
  (37, { d := TyD.struct [(0, 1)] none, size := 1, bytes := 24, zero := [AC.nil] }),
  (38, { d := TyD.struct [(0, 1)] none, size := 1, bytes := 24, zero := [AC.nil] }),
  (41, { d := TyD.slice 71, size := 1, bytes := 24, zero := [AC.nil] }),
  (42, { d := TyD.struct [(0, 1)] none, size := 1, bytes := 24, zero := [AC.nil] }),
  (43, { d := TyD.struct [(0, 1)] none, size := 1, bytes := 24, zero := [AC.nil] }),
  (50, { d := TyD.slice 94, size := 1, bytes := 24, zero := [AC.nil] }),
  (51, { d := TyD.struct [(0, 1), (1, 4), (5, 4), (9, 1)] none, size := 10, bytes := 152, zero := [AC.c (C.v (Value.string ⟨⟨[]⟩⟩)), AC.c (C.v (Value.int IntKind.i64 0)), AC.c (C.v (Value.int IntKind.i64 0)), AC.c (C.v (Value.string ⟨⟨[]⟩⟩)), AC.nil, AC.c (C.v (Value.int IntKind.i64 0)), AC.c (C.v (Value.int IntKind.i64 0)), AC.c (C.v (Value.string ⟨⟨[]⟩⟩)), AC.nil, AC.nil] }),
  (52, { d := TyD.struct [(0, 1), (1, 4), (5, 4), (9, 1)] none, size := 10, bytes := 152, zero := [AC.c (C.v (Value.string ⟨⟨[]⟩⟩)), AC.c (C.v (Value.int IntKind.i64 0)), AC.c (C.v (Value.int IntKind.i64 0)), AC.c (C.v (Value.string ⟨⟨[]⟩⟩)), AC.nil, AC.c (C.v (Value.int IntKind.i64 0)), AC.c (C.v (Value.int IntKind.i64 0)), AC.c (C.v (Value.string ⟨⟨[]⟩⟩)), AC.nil, AC.nil] }),
  (55, { d := TyD.slice 81, size := 1, bytes := 24, zero := [AC.nil] }),
  (56, { d := TyD.struct [(0, 1), (1, 4), (5, 4), (9, 1)] none, size := 10, bytes := 152, zero := [AC.c (C.v (Value.string ⟨⟨[]⟩⟩)), AC.c (C.v (Value.int IntKind.i64 0)), AC.c (C.v (Value.int IntKind.i64 0)), AC.c (C.v (Value.string ⟨⟨[]⟩⟩)), AC.nil, AC.c (C.v (Value.int IntKind.i64 0)), AC.c (C.v (Value.int IntKind.i64 0)), AC.c (C.v (Value.string ⟨⟨[]⟩⟩)), AC.nil, AC.nil] }),
  (57, { d := TyD.struct [(0, 1), (1, 4), (5, 4), (9, 1)] none, size := 10, bytes := 152, zero := [AC.c (C.v (Value.string ⟨⟨[]⟩⟩)), AC.c (C.v (Value.int IntKind.i64 0)), AC.c (C.v (Value.int IntKind.i64 0)), AC.c (C.v (Value.string ⟨⟨[]⟩⟩)), AC.nil, AC.c (C.v (Value.int IntKind.i64 0)), AC.c (C.v (Value.int IntKind.i64 0)), AC.c (C.v (Value.string ⟨⟨[]⟩⟩)), AC.nil, AC.nil] }),
  (69, { d := TyD.slice 9, size := 1, bytes := 24, zero := [AC.nil] }),
  (70, { d := TyD.struct [(0, 1), (1, 1), (2, 1), (3, 1), (4, 1)] none, size := 5, bytes := 104, zero := [AC.nil, AC.nil, AC.nil, AC.c (C.v (Value.int IntKind.i64 0)), AC.nil] }),
  (71, { d := TyD.struct [(0, 1), (1, 1), (2, 1), (3, 1), (4, 1)] none, size := 5, bytes := 104, zero := [AC.nil, AC.nil, AC.nil, AC.c (C.v (Value.int IntKind.i64 0)), AC.nil] }),
  (80, { d := TyD.struct [(0, 1), (1, 4), (5, 4)] none, size := 9, bytes := 120, zero := [AC.c (C.v (Value.int IntKind.i64 0)), AC.c (C.v (Value.int IntKind.i64 0)), AC.c (C.v (Value.int IntKind.i64 0)), AC.c (C.v (Value.string ⟨⟨[]⟩⟩)), AC.nil, AC.c (C.v (Value.int IntKind.i64 0)), AC.c (C.v (Value.int IntKind.i64 0)), AC.c (C.v (Value.string ⟨⟨[]⟩⟩)), AC.nil] }),
  (81, { d := TyD.struct [(0, 1), (1, 4), (5, 4)] none, size := 9, bytes := 120, zero := [AC.c (C.v (Value.int IntKind.i64 0)), AC.c (C.v (Value.int IntKind.i64 0)), AC.c (C.v (Value.int IntKind.i64 0)), AC.c (C.v (Value.string ⟨⟨[]⟩⟩)), AC.nil, AC.c (C.v (Value.int IntKind.i64 0)), AC.c (C.v (Value.int IntKind.i64 0)), AC.c (C.v (Value.string ⟨⟨[]⟩⟩)), AC.nil] }),
  (86, { d := TyD.slice 5, size := 1, bytes := 24, zero := [AC.nil] }),
  (88, { d := TyD.struct [(0, 1), (1, 1), (2, 1), (3, 1), (4, 1)] none, size := 5, bytes := 104, zero := [AC.nil, AC.nil, AC.nil, AC.c (C.v (Value.int IntKind.i64 0)), AC.nil] }),
  (93, { d := TyD.struct [(0, 1), (1, 4), (5, 4)] none, size := 9, bytes := 120, zero := [AC.c (C.v (Value.int IntKind.i64 0)), AC.c (C.v (Value.int IntKind.i64 0)), AC.c (C.v (Value.int IntKind.i64 0)), AC.c (C.v (Value.string ⟨⟨[]⟩⟩)), AC.nil, AC.c (C.v (Value.int IntKind.i64 0)), AC.c (C.v (Value.int IntKind.i64 0)), AC.c (C.v (Value.string ⟨⟨[]⟩⟩)), AC.nil] }),
  (94, { d := TyD.struct [(0, 1), (1, 4), (5, 4)] none, size := 9, bytes := 120, zero := [AC.c (C.v (Value.int IntKind.i64 0)), AC.c (C.v (Value.int IntKind.i64 0)), AC.c (C.v (Value.int IntKind.i64 0)), AC.c (C.v (Value.string ⟨⟨[]⟩⟩)), AC.nil, AC.c (C.v (Value.int IntKind.i64 0)), AC.c (C.v (Value.int IntKind.i64 0)), AC.c (C.v (Value.string ⟨⟨[]⟩⟩)), AC.nil] }),
  (106, { d := TyD.int IntKind.u64, size := 1, bytes := 8, zero := [AC.c (C.v (Value.int IntKind.u64 0))] }),
  (115, { d := TyD.int IntKind.u32, size := 1, bytes := 4, zero := [AC.c (C.v (Value.int IntKind.u32 0))] }),
  (117, { d := TyD.int IntKind.u64, size := 1, bytes := 8, zero := [AC.c (C.v (Value.int IntKind.u64 0))] }),
  (121, { d := TyD.ptr, size := 1, bytes := 8, zero := [AC.c (C.v (Value.pointer none))] }),
  (122, { d := TyD.struct [(0, 1), (1, 1)] none, size := 2, bytes := 32, zero := [AC.c (C.v (Value.pointer none)), AC.nil] }),
  (123, { d := TyD.struct [(0, 1), (1, 1)] none, size := 2, bytes := 32, zero := [AC.c (C.v (Value.pointer none)), AC.nil] }),
  (125, { d := TyD.iface, size := 1, bytes := 16, zero := [AC.c (C.v Value.nilIface)] }),
  (126, { d := TyD.iface, size := 1, bytes := 16, zero := [AC.c (C.v Value.nilIface)] }),
  (131, { d := TyD.ptr, size := 1, bytes := 8, zero := [AC.c (C.v (Value.pointer none))] })]
theorem tbOk : TabOk Tryd.prog Tb := tabOk_of _ _ ⟨by kernel_rfl, by kernel_rfl, by kernel_rfl, by kernel_rfl, by kernel_rfl, by kernel_rfl, by kernel_rfl, by kernel_rfl, by kernel_rfl, by kernel_rfl, by kernel_rfl, by kernel_rfl, by kernel_rfl, by kernel_rfl, by kernel_rfl, by kernel_rfl, by kernel_rfl, by kernel_rfl, by kernel_rfl, by kernel_rfl, by kernel_rfl, by kernel_rfl, by kernel_rfl, by kernel_rfl, by kernel_rfl, by kernel_rfl, by kernel_rfl, by kernel_rfl, by kernel_rfl, by kernel_rfl, by kernel_rfl, by kernel_rfl, by kernel_rfl, by kernel_rfl, by kernel_rfl, by kernel_rfl, by kernel_rfl, by kernel_rfl, by kernel_rfl, by kernel_rfl, by kernel_rfl, by kernel_rfl, by kernel_rfl, by kernel_rfl, by kernel_rfl, by kernel_rfl, trivial⟩
theorem mixed : Tryd.prog.follows .mixedOrders = true := by kernel_rfl
theorem tb2 : Tb 2 = some { d := TyD.int IntKind.i64, size := 1, bytes := 8, zero := [AC.c (C.v (Value.int IntKind.i64 0))] } := rfl
theorem tb3 : Tb 3 = some { d := TyD.int IntKind.i64, size := 1, bytes := 8, zero := [AC.c (C.v (Value.int IntKind.i64 0))] } := rfl
theorem tb4 : Tb 4 = some { d := TyD.bool, size := 1, bytes := 1, zero := [AC.c (C.v (Value.bool false))] } := rfl
theorem tb5 : Tb 5 = some { d := TyD.int IntKind.u8, size := 1, bytes := 1, zero := [AC.c (C.v (Value.int IntKind.u8 0))] } := rfl
theorem tb9 : Tb 9 = some { d := TyD.str, size := 1, bytes := 16, zero := [AC.c (C.v (Value.string ⟨⟨[]⟩⟩))] } := rfl
theorem tb12 : Tb 12 = some { d := TyD.int IntKind.u64, size := 1, bytes := 8, zero := [AC.c (C.v (Value.int IntKind.u64 0))] } := rfl
theorem tb13 : Tb 13 = some { d := TyD.struct [(0, 1), (1, 1)] none, size := 2, bytes := 24, zero := [AC.c (C.v (Value.string ⟨⟨[]⟩⟩)), AC.c (C.v (Value.int IntKind.u64 0))] } := rfl
theorem tb20 : Tb 20 = some { d := TyD.iface, size := 1, bytes := 16, zero := [AC.c (C.v Value.nilIface)] } := rfl
theorem tb21 : Tb 21 = some { d := TyD.int IntKind.i32, size := 1, bytes := 4, zero := [AC.c (C.v (Value.int IntKind.i32 0))] } := rfl
theorem tb22 : Tb 22 = some { d := TyD.slice 24, size := 1, bytes := 24, zero := [AC.nil] } := rfl
theorem tb23 : Tb 23 = some { d := TyD.struct [(0, 1), (1, 1), (2, 1), (3, 1)] none, size := 4, bytes := 56, zero := [AC.c (C.v (Value.int IntKind.i64 0)), AC.c (C.v (Value.int IntKind.i64 0)), AC.c (C.v (Value.string ⟨⟨[]⟩⟩)), AC.nil] } := rfl
theorem tb24 : Tb 24 = some { d := TyD.struct [(0, 1), (1, 1), (2, 1), (3, 1)] none, size := 4, bytes := 56, zero := [AC.c (C.v (Value.int IntKind.i64 0)), AC.c (C.v (Value.int IntKind.i64 0)), AC.c (C.v (Value.string ⟨⟨[]⟩⟩)), AC.nil] } := rfl
theorem tb25 : Tb 25 = some { d := TyD.slice 3, size := 1, bytes := 24, zero := [AC.nil] } := rfl
theorem tb28 : Tb 28 = some { d := TyD.slice 30, size := 1, bytes := 24, zero := [AC.nil] } := rfl
theorem tb29 : Tb 29 = some { d := TyD.struct [(0, 1), (1, 1), (2, 1), (3, 1)] none, size := 4, bytes := 56, zero := [AC.c (C.v (Value.int IntKind.i64 0)), AC.c (C.v (Value.int IntKind.i64 0)), AC.c (C.v (Value.string ⟨⟨[]⟩⟩)), AC.nil] } := rfl
theorem tb30 : Tb 30 = some { d := TyD.struct [(0, 1), (1, 1), (2, 1), (3, 1)] none, size := 4, bytes := 56, zero := [AC.c (C.v (Value.int IntKind.i64 0)), AC.c (C.v (Value.int IntKind.i64 0)), AC.c (C.v (Value.string ⟨⟨[]⟩⟩)), AC.nil] } := rfl
theorem tb36 : Tb 36 = some { d := TyD.slice 88, size := 1, bytes := 24, zero := [AC.nil] } := rfl
theorem tb37 : Tb 37 = some { d := TyD.struct [(0, 1)] none, size := 1, bytes := 24, zero := [AC.nil] } := rfl
theorem tb38 : Tb 38 = some { d := TyD.struct [(0, 1)] none, size := 1, bytes := 24, zero := [AC.nil] } := rfl
theorem tb41 : Tb 41 = some { d := TyD.slice 71, size := 1, bytes := 24, zero := [AC.nil] } := rfl
theorem tb42 : Tb 42 = some { d := TyD.struct [(0, 1)] none, size := 1, bytes := 24, zero := [AC.nil] } := rfl
theorem tb43 : Tb 43 = some { d := TyD.struct [(0, 1)] none, size := 1, bytes := 24, zero := [AC.nil] } := rfl
theorem tb50 : Tb 50 = some { d := TyD.slice 94, size := 1, bytes := 24, zero := [AC.nil] } := rfl
theorem tb51 : Tb 51 = some { d := TyD.struct [(0, 1), (1, 4), (5, 4), (9, 1)] none, size := 10, bytes := 152, zero := [AC.c (C.v (Value.string ⟨⟨[]⟩⟩)), AC.c (C.v (Value.int IntKind.i64 0)), AC.c (C.v (Value.int IntKind.i64 0)), AC.c (C.v (Value.string ⟨⟨[]⟩⟩)), AC.nil, AC.c (C.v (Value.int IntKind.i64 0)), AC.c (C.v (Value.int IntKind.i64 0)), AC.c (C.v (Value.string ⟨⟨[]⟩⟩)), AC.nil, AC.nil] } := rfl
theorem tb52 : Tb 52 = some { d := TyD.struct [(0, 1), (1, 4), (5, 4), (9, 1)] none, size := 10, bytes := 152, zero := [AC.c (C.v (Value.string ⟨⟨[]⟩⟩)), AC.c (C.v (Value.int IntKind.i64 0)), AC.c (C.v (Value.int IntKind.i64 0)), AC.c (C.v (Value.string ⟨⟨[]⟩⟩)), AC.nil, AC.c (C.v (Value.int IntKind.i64 0)), AC.c (C.v (Value.int IntKind.i64 0)), AC.c (C.v (Value.string ⟨⟨[]⟩⟩)), AC.nil, AC.nil] } := rfl
theorem tb55 : Tb 55 = some { d := TyD.slice 81, size := 1, bytes := 24, zero := [AC.nil] } := rfl
theorem tb56 : Tb 56 = some { d := TyD.struct [(0, 1), (1, 4), (5, 4), (9, 1)] none, size := 10, bytes := 152, zero := [AC.c (C.v (Value.string ⟨⟨[]⟩⟩)), AC.c (C.v (Value.int IntKind.i64 0)), AC.c (C.v (Value.int IntKind.i64 0)), AC.c (C.v (Value.string ⟨⟨[]⟩⟩)), AC.nil, AC.c (C.v (Value.int IntKind.i64 0)), AC.c (C.v (Value.int IntKind.i64 0)), AC.c (C.v (Value.string ⟨⟨[]⟩⟩)), AC.nil, AC.nil] } := rfl
theorem tb57 : Tb 57 = some { d := TyD.struct [(0, 1), (1, 4), (5, 4), (9, 1)] none, size := 10, bytes := 152, zero := [AC.c (C.v (Value.string ⟨⟨[]⟩⟩)), AC.c (C.v (Value.int IntKind.i64 0)), AC.c (C.v (Value.int IntKind.i64 0)), AC.c (C.v (Value.string ⟨⟨[]⟩⟩)), AC.nil, AC.c (C.v (Value.int IntKind.i64 0)), AC.c (C.v (Value.int IntKind.i64 0)), AC.c (C.v (Value.string ⟨⟨[]⟩⟩)), AC.nil, AC.nil] } := rfl
theorem tb69 : Tb 69 = some { d := TyD.slice 9, size := 1, bytes := 24, zero := [AC.nil] } := rfl
theorem tb70 : Tb 70 = some { d := TyD.struct [(0, 1), (1, 1), (2, 1), (3, 1), (4, 1)] none, size := 5, bytes := 104, zero := [AC.nil, AC.nil, AC.nil, AC.c (C.v (Value.int IntKind.i64 0)), AC.nil] } := rfl
theorem tb71 : Tb 71 = some { d := TyD.struct [(0, 1), (1, 1), (2, 1), (3, 1), (4, 1)] none, size := 5, bytes := 104, zero := [AC.nil, AC.nil, AC.nil, AC.c (C.v (Value.int IntKind.i64 0)), AC.nil] } := rfl
theorem tb80 : Tb 80 = some { d := TyD.struct [(0, 1), (1, 4), (5, 4)] none, size := 9, bytes := 120, zero := [AC.c (C.v (Value.int IntKind.i64 0)), AC.c (C.v (Value.int IntKind.i64 0)), AC.c (C.v (Value.int IntKind.i64 0)), AC.c (C.v (Value.string ⟨⟨[]⟩⟩)), AC.nil, AC.c (C.v (Value.int IntKind.i64 0)), AC.c (C.v (Value.int IntKind.i64 0)), AC.c (C.v (Value.string ⟨⟨[]⟩⟩)), AC.nil] } := rfl
theorem tb81 : Tb 81 = some { d := TyD.struct [(0, 1), (1, 4), (5, 4)] none, size := 9, bytes := 120, zero := [AC.c (C.v (Value.int IntKind.i64 0)), AC.c (C.v (Value.int IntKind.i64 0)), AC.c (C.v (Value.int IntKind.i64 0)), AC.c (C.v (Value.string ⟨⟨[]⟩⟩)), AC.nil, AC.c (C.v (Value.int IntKind.i64 0)), AC.c (C.v (Value.int IntKind.i64 0)), AC.c (C.v (Value.string ⟨⟨[]⟩⟩)), AC.nil] } := rfl
theorem tb86 : Tb 86 = some { d := TyD.slice 5, size := 1, bytes := 24, zero := [AC.nil] } := rfl
theorem tb88 : Tb 88 = some { d := TyD.struct [(0, 1), (1, 1), (2, 1), (3, 1), (4, 1)] none, size := 5, bytes := 104, zero := [AC.nil, AC.nil, AC.nil, AC.c (C.v (Value.int IntKind.i64 0)), AC.nil] } := rfl
theorem tb93 : Tb 93 = some { d := TyD.struct [(0, 1), (1, 4), (5, 4)] none, size := 9, bytes := 120, zero := [AC.c (C.v (Value.int IntKind.i64 0)), AC.c (C.v (Value.int IntKind.i64 0)), AC.c (C.v (Value.int IntKind.i64 0)), AC.c (C.v (Value.string ⟨⟨[]⟩⟩)), AC.nil, AC.c (C.v (Value.int IntKind.i64 0)), AC.c (C.v (Value.int IntKind.i64 0)), AC.c (C.v (Value.string ⟨⟨[]⟩⟩)), AC.nil] } := rfl
theorem tb94 : Tb 94 = some { d := TyD.struct [(0, 1), (1, 4), (5, 4)] none, size := 9, bytes := 120, zero := [AC.c (C.v (Value.int IntKind.i64 0)), AC.c (C.v (Value.int IntKind.i64 0)), AC.c (C.v (Value.int IntKind.i64 0)), AC.c (C.v (Value.string ⟨⟨[]⟩⟩)), AC.nil, AC.c (C.v (Value.int IntKind.i64 0)), AC.c (C.v (Value.int IntKind.i64 0)), AC.c (C.v (Value.string ⟨⟨[]⟩⟩)), AC.nil] } := rfl
theorem tb106 : Tb 106 = some { d := TyD.int IntKind.u64, size := 1, bytes := 8, zero := [AC.c (C.v (Value.int IntKind.u64 0))] } := rfl
theorem tb115 : Tb 115 = some { d := TyD.int IntKind.u32, size := 1, bytes := 4, zero := [AC.c (C.v (Value.int IntKind.u32 0))] } := rfl
theorem tb117 : Tb 117 = some { d := TyD.int IntKind.u64, size := 1, bytes := 8, zero := [AC.c (C.v (Value.int IntKind.u64 0))] } := rfl
theorem tb121 : Tb 121 = some { d := TyD.ptr, size := 1, bytes := 8, zero := [AC.c (C.v (Value.pointer none))] } := rfl
theorem tb122 : Tb 122 = some { d := TyD.struct [(0, 1), (1, 1)] none, size := 2, bytes := 32, zero := [AC.c (C.v (Value.pointer none)), AC.nil] } := rfl
theorem tb123 : Tb 123 = some { d := TyD.struct [(0, 1), (1, 1)] none, size := 2, bytes := 32, zero := [AC.c (C.v (Value.pointer none)), AC.nil] } := rfl
theorem tb125 : Tb 125 = some { d := TyD.iface, size := 1, bytes := 16, zero := [AC.c (C.v Value.nilIface)] } := rfl
theorem tb126 : Tb 126 = some { d := TyD.iface, size := 1, bytes := 16, zero := [AC.c (C.v Value.nilIface)] } := rfl
theorem tb131 : Tb 131 = some { d := TyD.ptr, size := 1, bytes := 8, zero := [AC.c (C.v (Value.pointer none))] } := rfl
theorem nt3 : Tryd.f3.ntmps = 43 := rfl
theorem rs3 : Tryd.f3.results.toList = [ResultVar.tmp 4] := rfl
theorem nt4 : Tryd.f4.ntmps = 92 := rfl
theorem rs4 : Tryd.f4.results.toList = [ResultVar.tmp 4] := rfl
theorem nt5 : Tryd.f5.ntmps = 27 := rfl
theorem rs5 : Tryd.f5.results.toList = [ResultVar.tmp 2] := rfl
theorem nt6 : Tryd.f6.ntmps = 19 := rfl
theorem rs6 : Tryd.f6.results.toList = [ResultVar.tmp 4] := rfl
theorem nt7 : Tryd.f7.ntmps = 36 := rfl
theorem rs7 : Tryd.f7.results.toList = [ResultVar.tmp 4] := rfl
theorem nt8 : Tryd.f8.ntmps = 18 := rfl
theorem rs8 : Tryd.f8.results.toList = [ResultVar.cell 2 30] := rfl
theorem nt9 : Tryd.f9.ntmps = 22 := rfl
theorem rs9 : Tryd.f9.results.toList = [ResultVar.tmp 2] := rfl
theorem nt10 : Tryd.f10.ntmps = 36 := rfl
theorem rs10 : Tryd.f10.results.toList = [ResultVar.tmp 4] := rfl
theorem nt11 : Tryd.f11.ntmps = 26 := rfl
theorem rs11 : Tryd.f11.results.toList = [ResultVar.tmp 4] := rfl
theorem nt12 : Tryd.f12.ntmps = 26 := rfl
theorem rs12 : Tryd.f12.results.toList = [ResultVar.tmp 4] := rfl
theorem nt13 : Tryd.f13.ntmps = 12 := rfl
theorem rs13 : Tryd.f13.results.toList = [ResultVar.tmp 4] := rfl
theorem nt14 : Tryd.f14.ntmps = 59 := rfl
theorem rs14 : Tryd.f14.results.toList = [ResultVar.tmp 4] := rfl
theorem nt15 : Tryd.f15.ntmps = 9 := rfl
theorem rs15 : Tryd.f15.results.toList = [ResultVar.cell 2 43] := rfl
theorem nt16 : Tryd.f16.ntmps = 58 := rfl
theorem rs16 : Tryd.f16.results.toList = [ResultVar.tmp 4] := rfl
theorem nt17 : Tryd.f17.ntmps = 11 := rfl
theorem rs17 : Tryd.f17.results.toList = [ResultVar.tmp 4] := rfl
theorem nt18 : Tryd.f18.ntmps = 10 := rfl
theorem rs18 : Tryd.f18.results.toList = [ResultVar.tmp 4] := rfl
theorem nt19 : Tryd.f19.ntmps = 10 := rfl
theorem rs19 : Tryd.f19.results.toList = [ResultVar.tmp 4] := rfl
theorem nt20 : Tryd.f20.ntmps = 19 := rfl
theorem rs20 : Tryd.f20.results.toList = [ResultVar.tmp 4] := rfl
theorem nt21 : Tryd.f21.ntmps = 21 := rfl
theorem rs21 : Tryd.f21.results.toList = [ResultVar.tmp 4] := rfl
theorem nt22 : Tryd.f22.ntmps = 31 := rfl
theorem rs22 : Tryd.f22.results.toList = [ResultVar.tmp 4] := rfl
theorem nt23 : Tryd.f23.ntmps = 40 := rfl
theorem rs23 : Tryd.f23.results.toList = [ResultVar.tmp 2] := rfl
theorem nt24 : Tryd.f24.ntmps = 20 := rfl
theorem rs24 : Tryd.f24.results.toList = [ResultVar.cell 2 57] := rfl
theorem nt25 : Tryd.f25.ntmps = 15 := rfl
theorem rs25 : Tryd.f25.results.toList = [ResultVar.tmp 2] := rfl
theorem nt26 : Tryd.f26.ntmps = 28 := rfl
theorem rs26 : Tryd.f26.results.toList = [ResultVar.tmp 4] := rfl
theorem nt27 : Tryd.f27.ntmps = 27 := rfl
theorem rs27 : Tryd.f27.results.toList = [ResultVar.tmp 4] := rfl
theorem nt28 : Tryd.f28.ntmps = 34 := rfl
theorem rs28 : Tryd.f28.results.toList = [ResultVar.cell 4 30, ResultVar.tmp 5] := rfl
theorem nt29 : Tryd.f29.ntmps = 31 := rfl
theorem rs29 : Tryd.f29.results.toList = [ResultVar.tmp 2] := rfl
theorem nt30 : Tryd.f30.ntmps = 23 := rfl
theorem rs30 : Tryd.f30.results.toList = [ResultVar.tmp 2] := rfl
theorem nt31 : Tryd.f31.ntmps = 31 := rfl
theorem rs31 : Tryd.f31.results.toList = [ResultVar.cell 4 30, ResultVar.tmp 5] := rfl
theorem nt32 : Tryd.f32.ntmps = 5 := rfl
theorem rs32 : Tryd.f32.results.toList = [ResultVar.tmp 2] := rfl
theorem nt33 : Tryd.f33.ntmps = 27 := rfl
theorem rs33 : Tryd.f33.results.toList = [ResultVar.tmp 4] := rfl
theorem nt34 : Tryd.f34.ntmps = 27 := rfl
theorem rs34 : Tryd.f34.results.toList = [ResultVar.tmp 4] := rfl
theorem nt35 : Tryd.f35.ntmps = 15 := rfl
theorem rs35 : Tryd.f35.results.toList = [ResultVar.tmp 6] := rfl
theorem nt36 : Tryd.f36.ntmps = 19 := rfl
theorem rs36 : Tryd.f36.results.toList = [ResultVar.tmp 4] := rfl
theorem nt37 : Tryd.f37.ntmps = 23 := rfl
theorem rs37 : Tryd.f37.results.toList = [ResultVar.tmp 2] := rfl
theorem nt38 : Tryd.f38.ntmps = 8 := rfl
theorem rs38 : Tryd.f38.results.toList = [ResultVar.tmp 2] := rfl
theorem nt39 : Tryd.f39.ntmps = 8 := rfl
theorem rs39 : Tryd.f39.results.toList = [ResultVar.tmp 4] := rfl
theorem nt40 : Tryd.f40.ntmps = 27 := rfl
theorem rs40 : Tryd.f40.results.toList = [ResultVar.tmp 4] := rfl
theorem nt41 : Tryd.f41.ntmps = 48 := rfl
theorem rs41 : Tryd.f41.results.toList = [ResultVar.tmp 4] := rfl
theorem nt42 : Tryd.f42.ntmps = 42 := rfl
theorem rs42 : Tryd.f42.results.toList = [ResultVar.tmp 4] := rfl
theorem nt43 : Tryd.f43.ntmps = 27 := rfl
theorem rs43 : Tryd.f43.results.toList = [ResultVar.tmp 4] := rfl
theorem nt44 : Tryd.f44.ntmps = 8 := rfl
theorem rs44 : Tryd.f44.results.toList = [ResultVar.tmp 2] := rfl
theorem nt45 : Tryd.f45.ntmps = 30 := rfl
theorem rs45 : Tryd.f45.results.toList = [ResultVar.tmp 2] := rfl
theorem nt46 : Tryd.f46.ntmps = 23 := rfl
theorem rs46 : Tryd.f46.results.toList = [ResultVar.tmp 2] := rfl
theorem nt47 : Tryd.f47.ntmps = 35 := rfl
theorem rs47 : Tryd.f47.results.toList = [ResultVar.tmp 6] := rfl
theorem nt48 : Tryd.f48.ntmps = 27 := rfl
theorem rs48 : Tryd.f48.results.toList = [ResultVar.tmp 4] := rfl
theorem nt49 : Tryd.f49.ntmps = 25 := rfl
theorem rs49 : Tryd.f49.results.toList = [ResultVar.cell 2 30] := rfl
theorem nt50 : Tryd.f50.ntmps = 5 := rfl
theorem rs50 : Tryd.f50.results.toList = [ResultVar.tmp 2] := rfl
theorem nt51 : Tryd.f51.ntmps = 30 := rfl
theorem rs51 : Tryd.f51.results.toList = [ResultVar.tmp 4] := rfl
theorem nt52 : Tryd.f52.ntmps = 24 := rfl
theorem rs52 : Tryd.f52.results.toList = [ResultVar.cell 2 71] := rfl
theorem nt53 : Tryd.f53.ntmps = 19 := rfl
theorem rs53 : Tryd.f53.results.toList = [ResultVar.tmp 4] := rfl
theorem nt54 : Tryd.f54.ntmps = 34 := rfl
theorem rs54 : Tryd.f54.results.toList = [ResultVar.tmp 4] := rfl
theorem nt55 : Tryd.f55.ntmps = 20 := rfl
theorem rs55 : Tryd.f55.results.toList = [ResultVar.tmp 4] := rfl
theorem nt56 : Tryd.f56.ntmps = 20 := rfl
theorem rs56 : Tryd.f56.results.toList = [ResultVar.tmp 2] := rfl
theorem nt57 : Tryd.f57.ntmps = 18 := rfl
theorem rs57 : Tryd.f57.results.toList = [ResultVar.tmp 4] := rfl
theorem nt58 : Tryd.f58.ntmps = 15 := rfl
theorem rs58 : Tryd.f58.results.toList = [ResultVar.tmp 2] := rfl
theorem nt59 : Tryd.f59.ntmps = 40 := rfl
theorem rs59 : Tryd.f59.results.toList = [ResultVar.tmp 2] := rfl
theorem nt60 : Tryd.f60.ntmps = 10 := rfl
theorem rs60 : Tryd.f60.results.toList = [ResultVar.tmp 2] := rfl
theorem nt61 : Tryd.f61.ntmps = 16 := rfl
theorem rs61 : Tryd.f61.results.toList = [ResultVar.cell 2 81] := rfl
theorem nt62 : Tryd.f62.ntmps = 8 := rfl
theorem rs62 : Tryd.f62.results.toList = [ResultVar.tmp 2] := rfl
theorem nt63 : Tryd.f63.ntmps = 30 := rfl
theorem rs63 : Tryd.f63.results.toList = [ResultVar.tmp 2] := rfl
theorem nt64 : Tryd.f64.ntmps = 22 := rfl
theorem rs64 : Tryd.f64.results.toList = [ResultVar.tmp 4] := rfl
theorem nt65 : Tryd.f65.ntmps = 5 := rfl
theorem rs65 : Tryd.f65.results.toList = [ResultVar.tmp 2] := rfl
theorem nt66 : Tryd.f66.ntmps = 12 := rfl
theorem rs66 : Tryd.f66.results.toList = [ResultVar.tmp 4] := rfl
theorem nt67 : Tryd.f67.ntmps = 28 := rfl
theorem rs67 : Tryd.f67.results.toList = [ResultVar.tmp 4] := rfl
theorem nt68 : Tryd.f68.ntmps = 22 := rfl
theorem rs68 : Tryd.f68.results.toList = [ResultVar.tmp 2] := rfl
theorem nt69 : Tryd.f69.ntmps = 26 := rfl
theorem rs69 : Tryd.f69.results.toList = [ResultVar.tmp 4] := rfl
theorem nt70 : Tryd.f70.ntmps = 27 := rfl
theorem rs70 : Tryd.f70.results.toList = [ResultVar.tmp 4] := rfl
theorem nt71 : Tryd.f71.ntmps = 22 := rfl
theorem rs71 : Tryd.f71.results.toList = [ResultVar.tmp 2] := rfl
theorem nt72 : Tryd.f72.ntmps = 20 := rfl
theorem rs72 : Tryd.f72.results.toList = [ResultVar.tmp 2] := rfl
theorem nt73 : Tryd.f73.ntmps = 15 := rfl
theorem rs73 : Tryd.f73.results.toList = [ResultVar.tmp 2] := rfl
theorem nt74 : Tryd.f74.ntmps = 38 := rfl
theorem rs74 : Tryd.f74.results.toList = [ResultVar.tmp 2] := rfl
theorem nt75 : Tryd.f75.ntmps = 9 := rfl
theorem rs75 : Tryd.f75.results.toList = [ResultVar.tmp 2] := rfl
theorem nt76 : Tryd.f76.ntmps = 8 := rfl
theorem rs76 : Tryd.f76.results.toList = [ResultVar.tmp 2] := rfl
theorem nt77 : Tryd.f77.ntmps = 54 := rfl
theorem rs77 : Tryd.f77.results.toList = [ResultVar.tmp 4] := rfl
theorem nt78 : Tryd.f78.ntmps = 10 := rfl
theorem rs78 : Tryd.f78.results.toList = [ResultVar.tmp 4] := rfl
theorem nt79 : Tryd.f79.ntmps = 47 := rfl
theorem rs79 : Tryd.f79.results.toList = [ResultVar.tmp 2] := rfl
theorem nt80 : Tryd.f80.ntmps = 19 := rfl
theorem rs80 : Tryd.f80.results.toList = [ResultVar.tmp 2] := rfl
theorem nt81 : Tryd.f81.ntmps = 20 := rfl
theorem rs81 : Tryd.f81.results.toList = [ResultVar.tmp 2] := rfl
theorem nt82 : Tryd.f82.ntmps = 49 := rfl
theorem rs82 : Tryd.f82.results.toList = [ResultVar.tmp 2] := rfl
theorem nt83 : Tryd.f83.ntmps = 8 := rfl
theorem rs83 : Tryd.f83.results.toList = [ResultVar.tmp 4] := rfl
theorem nt84 : Tryd.f84.ntmps = 15 := rfl
theorem rs84 : Tryd.f84.results.toList = [ResultVar.tmp 2] := rfl
theorem nt85 : Tryd.f85.ntmps = 15 := rfl
theorem rs85 : Tryd.f85.results.toList = [ResultVar.tmp 2] := rfl
theorem nt86 : Tryd.f86.ntmps = 167 := rfl
theorem rs86 : Tryd.f86.results.toList = [] := rfl
theorem nt87 : Tryd.f87.ntmps = 102 := rfl
theorem rs87 : Tryd.f87.results.toList = [ResultVar.tmp 10, ResultVar.tmp 11] := rfl
theorem nt88 : Tryd.f88.ntmps = 19 := rfl
theorem rs88 : Tryd.f88.results.toList = [ResultVar.tmp 2] := rfl
theorem nt89 : Tryd.f89.ntmps = 14 := rfl
theorem rs89 : Tryd.f89.results.toList = [ResultVar.tmp 2] := rfl
theorem nt90 : Tryd.f90.ntmps = 5 := rfl
theorem rs90 : Tryd.f90.results.toList = [ResultVar.tmp 2] := rfl
theorem nt91 : Tryd.f91.ntmps = 27 := rfl
theorem rs91 : Tryd.f91.results.toList = [ResultVar.tmp 2] := rfl
theorem nt92 : Tryd.f92.ntmps = 5 := rfl
theorem rs92 : Tryd.f92.results.toList = [ResultVar.tmp 2] := rfl
theorem nt93 : Tryd.f93.ntmps = 75 := rfl
theorem rs93 : Tryd.f93.results.toList = [ResultVar.tmp 4] := rfl
theorem nt94 : Tryd.f94.ntmps = 6 := rfl
theorem rs94 : Tryd.f94.results.toList = [ResultVar.tmp 2] := rfl
theorem nt95 : Tryd.f95.ntmps = 25 := rfl
theorem rs95 : Tryd.f95.results.toList = [ResultVar.tmp 2] := rfl
theorem nt96 : Tryd.f96.ntmps = 4 := rfl
theorem rs96 : Tryd.f96.results.toList = [ResultVar.tmp 2] := rfl
theorem nt97 : Tryd.f97.ntmps = 8 := rfl
theorem rs97 : Tryd.f97.results.toList = [ResultVar.tmp 2] := rfl
theorem nt98 : Tryd.f98.ntmps = 8 := rfl
theorem rs98 : Tryd.f98.results.toList = [ResultVar.tmp 2] := rfl
theorem nt99 : Tryd.f99.ntmps = 25 := rfl
theorem rs99 : Tryd.f99.results.toList = [ResultVar.tmp 2] := rfl
theorem nt100 : Tryd.f100.ntmps = 9 := rfl
theorem rs100 : Tryd.f100.results.toList = [ResultVar.tmp 2] := rfl
theorem nt101 : Tryd.f101.ntmps = 56 := rfl
theorem rs101 : Tryd.f101.results.toList = [ResultVar.tmp 6] := rfl
theorem nt102 : Tryd.f102.ntmps = 25 := rfl
theorem rs102 : Tryd.f102.results.toList = [] := rfl
theorem nt103 : Tryd.f103.ntmps = 19 := rfl
theorem rs103 : Tryd.f103.results.toList = [ResultVar.tmp 4, ResultVar.tmp 5] := rfl
theorem nt104 : Tryd.f104.ntmps = 14 := rfl
theorem rs104 : Tryd.f104.results.toList = [ResultVar.tmp 2] := rfl
theorem nt105 : Tryd.f105.ntmps = 14 := rfl
theorem rs105 : Tryd.f105.results.toList = [ResultVar.tmp 2] := rfl
theorem nt106 : Tryd.f106.ntmps = 14 := rfl
theorem rs106 : Tryd.f106.results.toList = [ResultVar.tmp 2] := rfl
theorem nt107 : Tryd.f107.ntmps = 9 := rfl
theorem rs107 : Tryd.f107.results.toList = [ResultVar.tmp 2] := rfl
theorem nt108 : Tryd.f108.ntmps = 20 := rfl
theorem rs108 : Tryd.f108.results.toList = [] := rfl
theorem nt109 : Tryd.f109.ntmps = 30 := rfl
theorem rs109 : Tryd.f109.results.toList = [] := rfl
theorem nt110 : Tryd.f110.ntmps = 1 := rfl
theorem rs110 : Tryd.f110.results.toList = [] := rfl
theorem nt111 : Tryd.f111.ntmps = 1 := rfl
theorem rs111 : Tryd.f111.results.toList = [] := rfl
theorem nt127 : Tryd.f127.ntmps = 1 := rfl
theorem rs127 : Tryd.f127.results.toList = [] := rfl
theorem nt129 : Tryd.f129.ntmps = 0 := rfl
theorem rs129 : Tryd.f129.results.toList = [] := rfl
theorem nt130 : Tryd.f130.ntmps = 0 := rfl
theorem rs130 : Tryd.f130.results.toList = [] := rfl
theorem nt131 : Tryd.f131.ntmps = 0 := rfl
theorem rs131 : Tryd.f131.results.toList = [] := rfl
theorem nt132 : Tryd.f132.ntmps = 0 := rfl
theorem rs132 : Tryd.f132.results.toList = [] := rfl
theorem nt133 : Tryd.f133.ntmps = 0 := rfl
theorem rs133 : Tryd.f133.results.toList = [] := rfl
attribute [go_sem] tb2 tb3 tb4 tb5 tb9 tb12 tb13 tb20 tb21 tb22 tb23 tb24 tb25 tb28 tb29 tb30 tb36 tb37 tb38 tb41 tb42 tb43 tb50 tb51 tb52 tb55 tb56 tb57 tb69 tb70 tb71 tb80 tb81 tb86 tb88 tb93 tb94 tb106 tb115 tb117 tb121 tb122 tb123 tb125 tb126 tb131 nt3 rs3 nt4 rs4 nt5 rs5 nt6 rs6 nt7 rs7 nt8 rs8 nt9 rs9 nt10 rs10 nt11 rs11 nt12 rs12 nt13 rs13 nt14 rs14 nt15 rs15 nt16 rs16 nt17 rs17 nt18 rs18 nt19 rs19 nt20 rs20 nt21 rs21 nt22 rs22 nt23 rs23 nt24 rs24 nt25 rs25 nt26 rs26 nt27 rs27 nt28 rs28 nt29 rs29 nt30 rs30 nt31 rs31 nt32 rs32 nt33 rs33 nt34 rs34 nt35 rs35 nt36 rs36 nt37 rs37 nt38 rs38 nt39 rs39 nt40 rs40 nt41 rs41 nt42 rs42 nt43 rs43 nt44 rs44 nt45 rs45 nt46 rs46 nt47 rs47 nt48 rs48 nt49 rs49 nt50 rs50 nt51 rs51 nt52 rs52 nt53 rs53 nt54 rs54 nt55 rs55 nt56 rs56 nt57 rs57 nt58 rs58 nt59 rs59 nt60 rs60 nt61 rs61 nt62 rs62 nt63 rs63 nt64 rs64 nt65 rs65 nt66 rs66 nt67 rs67 nt68 rs68 nt69 rs69 nt70 rs70 nt71 rs71 nt72 rs72 nt73 rs73 nt74 rs74 nt75 rs75 nt76 rs76 nt77 rs77 nt78 rs78 nt79 rs79 nt80 rs80 nt81 rs81 nt82 rs82 nt83 rs83 nt84 rs84 nt85 rs85 nt86 rs86 nt87 rs87 nt88 rs88 nt89 rs89 nt90 rs90 nt91 rs91 nt92 rs92 nt93 rs93 nt94 rs94 nt95 rs95 nt96 rs96 nt97 rs97 nt98 rs98 nt99 rs99 nt100 rs100 nt101 rs101 nt102 rs102 nt103 rs103 nt104 rs104 nt105 rs105 nt106 rs106 nt107 rs107 nt108 rs108 nt109 rs109 nt110 rs110 nt111 rs111 nt127 rs127 nt129 rs129 nt130 rs130 nt131 rs131 nt132 rs132 nt133 rs133
end Go.Ai
