/- The types' table of this seat's program, and what its functions give back. Written by mkseat.py. -/
import Derived.Test.YtofbieojmaobfaaAiRead
import Derived.Test.YtofbieojmaobfaaProg
import Derived.KernelRfl
namespace Go.Ai
set_option linter.unusedVariables false
set_option linter.unusedSimpArgs false
open Go.Proofs
set_option maxRecDepth 100000
def Tb : Tab := tabOf [
  (2, { d := TyD.int IntKind.i64, size := 1, bytes := 8, zero := [AC.c (C.v (Value.int IntKind.i64 0))] }),
  (3, { d := TyD.int IntKind.i64, size := 1, bytes := 8, zero := [AC.c (C.v (Value.int IntKind.i64 0))] }),
  (4, { d := TyD.bool, size := 1, bytes := 1, zero := [AC.c (C.v (Value.bool false))] }),
  (5, { d := TyD.int IntKind.u8, size := 1, bytes := 1, zero := [AC.c (C.v (Value.int IntKind.u8 0))] }),
  (9, { d := TyD.str, size := 1, bytes := 16, zero := [AC.c (C.v (Value.string ⟨⟨[]⟩⟩))] }),
  (12, { d := TyD.int IntKind.u64, size := 1, bytes := 8, zero := [AC.c (C.v (Value.int IntKind.u64 0))] }),
  (13, { d := TyD.struct [(0, 1), (1, 1)] none, size := 2, bytes := 24, zero := [AC.c (C.v (Value.string ⟨⟨[]⟩⟩)), AC.c (C.v (Value.int IntKind.u64 0))] }),
  (20, { d := TyD.iface, size := 1, bytes := 16, zero := [AC.c (C.v Value.nilIface)] }),
  (21, { d := TyD.int IntKind.i32, size := 1, bytes := 4, zero := [AC.c (C.v (Value.int IntKind.i32 0))] }),
  (22, { d := TyD.slice 9, size := 1, bytes := 24, zero := [AC.nil] }),
  (23, { d := TyD.slice 123, size := 1, bytes := 24, zero := [AC.nil] }),
  (24, { d := TyD.struct [(0, 1), (1, 1)] none, size := 2, bytes := 48, zero := [AC.nil, AC.nil] }),
  (25, { d := TyD.struct [(0, 1), (1, 1)] none, size := 2, bytes := 48, zero := [AC.nil, AC.nil] }),
  (26, { d := TyD.slice 91, size := 1, bytes := 24, zero := [AC.nil] }),
  (27, { d := TyD.slice 94, size := 1, bytes := 24, zero := [AC.nil] }),
  (28, { d := TyD.struct [(0, 2), (2, 1), (3, 1)] none, size := 4, bytes := 96, zero := [AC.nil, AC.nil, AC.nil, AC.nil] }),
  (29, { d := TyD.struct [(0, 2), (2, 1), (3, 1)] none, size := 4, bytes := 96, zero := [AC.nil, AC.nil, AC.nil, AC.nil] }),
  (30, { d := TyD.slice 32, size := 1, bytes := 24, zero := [AC.nil] }),
  (31, { d := TyD.struct [(0, 1), (1, 1), (2, 1), (3, 1)] none, size := 4, bytes := 56, zero := [AC.c (C.v (Value.int IntKind.i64 0)), AC.c (C.v (Value.int IntKind.i64 0)), AC.c (C.v (Value.string ⟨⟨[]⟩⟩)), AC.nil] }),
  (32, { d := TyD.struct [(0, 1), (1, 1), (2, 1), (3, 1)] none, size := 4, bytes := 56, zero := [AC.c (C.v (Value.int IntKind.i64 0)), AC.c (C.v (Value.int IntKind.i64 0)), AC.c (C.v (Value.string ⟨⟨[]⟩⟩)), AC.nil] }),
  (33, { d := TyD.slice 98, size := 1, bytes := 24, zero := [AC.nil] }),
  (34, { d := TyD.struct [(0, 4), (4, 1), (5, 1), (6, 1)] none, size := 7, bytes := 96, zero := [AC.c (C.v (Value.int IntKind.i64 0)), AC.c (C.v (Value.int IntKind.i64 0)), AC.c (C.v (Value.string ⟨⟨[]⟩⟩)), AC.nil, AC.c (C.v (Value.int IntKind.i64 0)), AC.nil, AC.c (C.v (Value.int IntKind.i64 0))] }),
  (35, { d := TyD.struct [(0, 4), (4, 1), (5, 1), (6, 1)] none, size := 7, bytes := 96, zero := [AC.c (C.v (Value.int IntKind.i64 0)), AC.c (C.v (Value.int IntKind.i64 0)), AC.c (C.v (Value.string ⟨⟨[]⟩⟩)), AC.nil, AC.c (C.v (Value.int IntKind.i64 0)), AC.nil, AC.c (C.v (Value.int IntKind.i64 0))] }),
  (38, { d := TyD.slice 40, size := 1, bytes := 24, zero := [AC.nil] }),
  (39, { d := TyD.struct [(0, 1), (1, 1), (2, 1), (3, 1)] none, size := 4, bytes := 56, zero := [AC.c (C.v (Value.int IntKind.i64 0)), AC.c (C.v (Value.int IntKind.i64 0)), AC.c (C.v (Value.string ⟨⟨[]⟩⟩)), AC.nil] }),
  (40, { d := TyD.struct [(0, 1), (1, 1), (2, 1), (3, 1)] none, size := 4, bytes := 56, zero := [AC.c (C.v (Value.int IntKind.i64 0)), AC.c (C.v (Value.int IntKind.i64 0)), AC.c (C.v (Value.string ⟨⟨[]⟩⟩)), AC.nil] }),
  (43, { d := TyD.slice 125, size := 1, bytes := 24, zero := [AC.nil] }),
  (44, { d := TyD.struct [(0, 1), (1, 1)] none, size := 2, bytes := 48, zero := [AC.nil, AC.nil] }),
  (45, { d := TyD.struct [(0, 1), (1, 1)] none, size := 2, bytes := 48, zero := [AC.nil, AC.nil] }),
  (46, { d := TyD.slice 106, size := 1, bytes := 24, zero := [AC.nil] }),
  (47, { d := TyD.slice 108, size := 1, bytes := 24, zero := [AC.nil] }),
  (48, { d := TyD.struct [(0, 2), (2, 1), (3, 1)] none, size := 4, bytes := 96, zero := [AC.nil, AC.nil, AC.nil, AC.nil] }),
  (49, { d := TyD.struct [(0, 2), (2, 1), (3, 1)] none, size := 4, bytes := 96, zero := [AC.nil, AC.nil, AC.nil, AC.nil] }),
  (51, { d := TyD.slice 70, size := 1, bytes := 24, zero := [AC.nil] }),
  (52, { d := TyD.struct [(0, 4), (4, 1), (5, 1), (6, 1)] none, size := 7, bytes := 96, zero := [AC.c (C.v (Value.int IntKind.i64 0)), AC.c (C.v (Value.int IntKind.i64 0)), AC.c (C.v (Value.string ⟨⟨[]⟩⟩)), AC.nil, AC.c (C.v (Value.int IntKind.i64 0)), AC.nil, AC.c (C.v (Value.int IntKind.i64 0))] }),
  (53, { d := TyD.struct [(0, 4), (4, 1), (5, 1), (6, 1)] none, size := 7, bytes := 96, zero := [AC.c (C.v (Value.int IntKind.i64 0)), AC.c (C.v (Value.int IntKind.i64 0)), AC.c (C.v (Value.string ⟨⟨[]⟩⟩)), AC.nil, AC.c (C.v (Value.int IntKind.i64 0)), AC.nil, AC.c (C.v (Value.int IntKind.i64 0))] }),
  (69, { d := TyD.struct [(0, 4), (4, 1)] none, size := 5, bytes := 64, zero := [AC.c (C.v (Value.int IntKind.i64 0)), AC.c (C.v (Value.int IntKind.i64 0)), AC.c (C.v (Value.string ⟨⟨[]⟩⟩)), AC.nil, AC.c (C.v (Value.int IntKind.i64 0))] }),
  (70, { d := TyD.struct [(0, 4), (4, 1)] none, size := 5, bytes := 64, zero := [AC.c (C.v (Value.int IntKind.i64 0)), AC.c (C.v (Value.int IntKind.i64 0)), AC.c (C.v (Value.string ⟨⟨[]⟩⟩)), AC.nil, AC.c (C.v (Value.int IntKind.i64 0))] }),
  (89, { d := TyD.slice 137, size := 1, bytes := 24, zero := [AC.nil] }),
  (90, { d := TyD.struct [(0, 1), (1, 4), (5, 4), (9, 1)] none, size := 10, bytes := 152, zero := [AC.c (C.v (Value.string ⟨⟨[]⟩⟩)), AC.c (C.v (Value.int IntKind.i64 0)), AC.c (C.v (Value.int IntKind.i64 0)), AC.c (C.v (Value.string ⟨⟨[]⟩⟩)), AC.nil, AC.c (C.v (Value.int IntKind.i64 0)), AC.c (C.v (Value.int IntKind.i64 0)), AC.c (C.v (Value.string ⟨⟨[]⟩⟩)), AC.nil, AC.nil] }),
  (91, { d := TyD.struct [(0, 1), (1, 4), (5, 4), (9, 1)] none, size := 10, bytes := 152, zero := [AC.c (C.v (Value.string ⟨⟨[]⟩⟩)), AC.c (C.v (Value.int IntKind.i64 0)), AC.c (C.v (Value.int IntKind.i64 0)), AC.c (C.v (Value.string ⟨⟨[]⟩⟩)), AC.nil, AC.c (C.v (Value.int IntKind.i64 0)), AC.c (C.v (Value.int IntKind.i64 0)), AC.c (C.v (Value.string ⟨⟨[]⟩⟩)), AC.nil, AC.nil] }),
  (93, { d := TyD.struct [(0, 1), (1, 1)] (some [(0, CK.str), (1, CK.int IntKind.i64)]), size := 2, bytes := 24, zero := [AC.c (C.v (Value.string ⟨⟨[]⟩⟩)), AC.c (C.v (Value.int IntKind.i64 0))] }),
  (94, { d := TyD.struct [(0, 1), (1, 1)] (some [(0, CK.str), (1, CK.int IntKind.i64)]), size := 2, bytes := 24, zero := [AC.c (C.v (Value.string ⟨⟨[]⟩⟩)), AC.c (C.v (Value.int IntKind.i64 0))] }),
  (97, { d := TyD.struct [(0, 4), (4, 1)] none, size := 5, bytes := 64, zero := [AC.c (C.v (Value.int IntKind.i64 0)), AC.c (C.v (Value.int IntKind.i64 0)), AC.c (C.v (Value.string ⟨⟨[]⟩⟩)), AC.nil, AC.c (C.v (Value.int IntKind.i64 0))] }),
  (98, { d := TyD.struct [(0, 4), (4, 1)] none, size := 5, bytes := 64, zero := [AC.c (C.v (Value.int IntKind.i64 0)), AC.c (C.v (Value.int IntKind.i64 0)), AC.c (C.v (Value.string ⟨⟨[]⟩⟩)), AC.nil, AC.c (C.v (Value.int IntKind.i64 0))] }),
  (99, { d := TyD.slice 3, size := 1, bytes := 24, zero := [AC.nil] }),
  (104, { d := TyD.slice 134, size := 1, bytes := 24, zero := [AC.nil] }),
  (105, { d := TyD.struct [(0, 1), (1, 4), (5, 4), (9, 1)] none, size := 10, bytes := 152, zero := [AC.c (C.v (Value.string ⟨⟨[]⟩⟩)), AC.c (C.v (Value.int IntKind.i64 0)), AC.c (C.v (Value.int IntKind.i64 0)), AC.c (C.v (Value.string ⟨⟨[]⟩⟩)), AC.nil, AC.c (C.v (Value.int IntKind.i64 0)), AC.c (C.v (Value.int IntKind.i64 0)), AC.c (C.v (Value.string ⟨⟨[]⟩⟩)), AC.nil, AC.nil] }),
  (106, { d := TyD.struct [(0, 1), (1, 4), (5, 4), (9, 1)] none, size := 10, bytes := 152, zero := [AC.c (C.v (Value.string ⟨⟨[]⟩⟩)), AC.c (C.v (Value.int IntKind.i64 0)), AC.c (C.v (Value.int IntKind.i64 0)), AC.c (C.v (Value.string ⟨⟨[]⟩⟩)), AC.nil, AC.c (C.v (Value.int IntKind.i64 0)), AC.c (C.v (Value.int IntKind.i64 0)), AC.c (C.v (Value.string ⟨⟨[]⟩⟩)), AC.nil, AC.nil] }),
  (108, { d := TyD.struct [(0, 1), (1, 1)] (some [(0, CK.str), (1, CK.int IntKind.i64)]), size := 2, bytes := 24, zero := [AC.c (C.v (Value.string ⟨⟨[]⟩⟩)), AC.c (C.v (Value.int IntKind.i64 0))] }),
  (122, { d := TyD.struct [(0, 1), (1, 1), (2, 1)] none, size := 3, bytes := 56, zero := [AC.c (C.v (Value.string ⟨⟨[]⟩⟩)), AC.nil, AC.c (C.v (Value.string ⟨⟨[]⟩⟩))] }),
  (123, { d := TyD.struct [(0, 1), (1, 1), (2, 1)] none, size := 3, bytes := 56, zero := [AC.c (C.v (Value.string ⟨⟨[]⟩⟩)), AC.nil, AC.c (C.v (Value.string ⟨⟨[]⟩⟩))] }),
  (125, { d := TyD.struct [(0, 1), (1, 1), (2, 1)] none, size := 3, bytes := 56, zero := [AC.c (C.v (Value.string ⟨⟨[]⟩⟩)), AC.nil, AC.c (C.v (Value.string ⟨⟨[]⟩⟩))] }),
  (132, { d := TyD.slice 5, size := 1, bytes := 24, zero := [AC.nil] }),
  (133, { d := TyD.struct [(0, 1), (1, 4), (5, 4)] none, size := 9, bytes := 120, zero := [AC.c (C.v (Value.int IntKind.i64 0)), AC.c (C.v (Value.int IntKind.i64 0)), AC.c (C.v (Value.int IntKind.i64 0)), AC.c (C.v (Value.string ⟨⟨[]⟩⟩)), AC.nil, AC.c (C.v (Value.int IntKind.i64 0)), AC.c (C.v (Value.int IntKind.i64 0)), AC.c (C.v (Value.string ⟨⟨[]⟩⟩)), AC.nil] }),
  (134, { d := TyD.struct [(0, 1), (1, 4), (5, 4)] none, size := 9, bytes := 120, zero := [AC.c (C.v (Value.int IntKind.i64 0)), AC.c (C.v (Value.int IntKind.i64 0)), AC.c (C.v (Value.int IntKind.i64 0)), AC.c (C.v (Value.string ⟨⟨[]⟩⟩)), AC.nil, AC.c (C.v (Value.int IntKind.i64 0)), AC.c (C.v (Value.int IntKind.i64 0)), AC.c (C.v (Value.string ⟨⟨[]⟩⟩)), AC.nil] }),
  (136, { d := TyD.struct [(0, 1), (1, 4), (5, 4)] none, size := 9, bytes := 120, zero := [AC.c (C.v (Value.int IntKind.i64 0)), AC.c (C.v (Value.int IntKind.i64 0)), AC.c (C.v (Value.int IntKind.i64 0)), AC.c (C.v (Value.string ⟨⟨[]⟩⟩)), AC.nil, AC.c (C.v (Value.int IntKind.i64 0)), AC.c (C.v (Value.int IntKind.i64 0)), AC.c (C.v (Value.string ⟨⟨[]⟩⟩)), AC.nil] }),
  (137, { d := TyD.struct [(0, 1), (1, 4), (5, 4)] none, size := 9, bytes := 120, zero := [AC.c (C.v (Value.int IntKind.i64 0)), AC.c (C.v (Value.int IntKind.i64 0)), AC.c (C.v (Value.int IntKind.i64 0)), AC.c (C.v (Value.string ⟨⟨[]⟩⟩)), AC.nil, AC.c (C.v (Value.int IntKind.i64 0)), AC.c (C.v (Value.int IntKind.i64 0)), AC.c (C.v (Value.string ⟨⟨[]⟩⟩)), AC.nil] }),
  (148, { d := TyD.int IntKind.u32, size := 1, bytes := 4, zero := [AC.c (C.v (Value.int IntKind.u32 0))] }),
  (152, { d := TyD.ptr, size := 1, bytes := 8, zero := [AC.c (C.v (Value.pointer none))] })]
theorem tbOk : TabOk Try.prog Tb := tabOk_of _ _ ⟨by kernel_rfl, by kernel_rfl, by kernel_rfl, by kernel_rfl, by kernel_rfl, by kernel_rfl, by kernel_rfl, by kernel_rfl, by kernel_rfl, by kernel_rfl, by kernel_rfl, by kernel_rfl, by kernel_rfl, by kernel_rfl, by kernel_rfl, by kernel_rfl, by kernel_rfl, by kernel_rfl, by kernel_rfl, by kernel_rfl, by kernel_rfl, by kernel_rfl, by kernel_rfl, by kernel_rfl, by kernel_rfl, by kernel_rfl, by kernel_rfl, by kernel_rfl, by kernel_rfl, by kernel_rfl, by kernel_rfl, by kernel_rfl, by kernel_rfl, by kernel_rfl, by kernel_rfl, by kernel_rfl, by kernel_rfl, by kernel_rfl, by kernel_rfl, by kernel_rfl, by kernel_rfl, by kernel_rfl, by kernel_rfl, by kernel_rfl, by kernel_rfl, by kernel_rfl, by kernel_rfl, by kernel_rfl, by kernel_rfl, by kernel_rfl, by kernel_rfl, by kernel_rfl, by kernel_rfl, by kernel_rfl, by kernel_rfl, by kernel_rfl, by kernel_rfl, by kernel_rfl, by kernel_rfl, by kernel_rfl, trivial⟩
theorem mixed : Try.prog.follows .mixedOrders = true := by kernel_rfl
theorem tb2 : Tb 2 = some { d := TyD.int IntKind.i64, size := 1, bytes := 8, zero := [AC.c (C.v (Value.int IntKind.i64 0))] } := rfl
theorem tb3 : Tb 3 = some { d := TyD.int IntKind.i64, size := 1, bytes := 8, zero := [AC.c (C.v (Value.int IntKind.i64 0))] } := rfl
theorem tb4 : Tb 4 = some { d := TyD.bool, size := 1, bytes := 1, zero := [AC.c (C.v (Value.bool false))] } := rfl
theorem tb5 : Tb 5 = some { d := TyD.int IntKind.u8, size := 1, bytes := 1, zero := [AC.c (C.v (Value.int IntKind.u8 0))] } := rfl
theorem tb9 : Tb 9 = some { d := TyD.str, size := 1, bytes := 16, zero := [AC.c (C.v (Value.string ⟨⟨[]⟩⟩))] } := rfl
theorem tb12 : Tb 12 = some { d := TyD.int IntKind.u64, size := 1, bytes := 8, zero := [AC.c (C.v (Value.int IntKind.u64 0))] } := rfl
theorem tb13 : Tb 13 = some { d := TyD.struct [(0, 1), (1, 1)] none, size := 2, bytes := 24, zero := [AC.c (C.v (Value.string ⟨⟨[]⟩⟩)), AC.c (C.v (Value.int IntKind.u64 0))] } := rfl
theorem tb20 : Tb 20 = some { d := TyD.iface, size := 1, bytes := 16, zero := [AC.c (C.v Value.nilIface)] } := rfl
theorem tb21 : Tb 21 = some { d := TyD.int IntKind.i32, size := 1, bytes := 4, zero := [AC.c (C.v (Value.int IntKind.i32 0))] } := rfl
theorem tb22 : Tb 22 = some { d := TyD.slice 9, size := 1, bytes := 24, zero := [AC.nil] } := rfl
theorem tb23 : Tb 23 = some { d := TyD.slice 123, size := 1, bytes := 24, zero := [AC.nil] } := rfl
theorem tb24 : Tb 24 = some { d := TyD.struct [(0, 1), (1, 1)] none, size := 2, bytes := 48, zero := [AC.nil, AC.nil] } := rfl
theorem tb25 : Tb 25 = some { d := TyD.struct [(0, 1), (1, 1)] none, size := 2, bytes := 48, zero := [AC.nil, AC.nil] } := rfl
theorem tb26 : Tb 26 = some { d := TyD.slice 91, size := 1, bytes := 24, zero := [AC.nil] } := rfl
theorem tb27 : Tb 27 = some { d := TyD.slice 94, size := 1, bytes := 24, zero := [AC.nil] } := rfl
theorem tb28 : Tb 28 = some { d := TyD.struct [(0, 2), (2, 1), (3, 1)] none, size := 4, bytes := 96, zero := [AC.nil, AC.nil, AC.nil, AC.nil] } := rfl
theorem tb29 : Tb 29 = some { d := TyD.struct [(0, 2), (2, 1), (3, 1)] none, size := 4, bytes := 96, zero := [AC.nil, AC.nil, AC.nil, AC.nil] } := rfl
theorem tb30 : Tb 30 = some { d := TyD.slice 32, size := 1, bytes := 24, zero := [AC.nil] } := rfl
theorem tb31 : Tb 31 = some { d := TyD.struct [(0, 1), (1, 1), (2, 1), (3, 1)] none, size := 4, bytes := 56, zero := [AC.c (C.v (Value.int IntKind.i64 0)), AC.c (C.v (Value.int IntKind.i64 0)), AC.c (C.v (Value.string ⟨⟨[]⟩⟩)), AC.nil] } := rfl
theorem tb32 : Tb 32 = some { d := TyD.struct [(0, 1), (1, 1), (2, 1), (3, 1)] none, size := 4, bytes := 56, zero := [AC.c (C.v (Value.int IntKind.i64 0)), AC.c (C.v (Value.int IntKind.i64 0)), AC.c (C.v (Value.string ⟨⟨[]⟩⟩)), AC.nil] } := rfl
theorem tb33 : Tb 33 = some { d := TyD.slice 98, size := 1, bytes := 24, zero := [AC.nil] } := rfl
theorem tb34 : Tb 34 = some { d := TyD.struct [(0, 4), (4, 1), (5, 1), (6, 1)] none, size := 7, bytes := 96, zero := [AC.c (C.v (Value.int IntKind.i64 0)), AC.c (C.v (Value.int IntKind.i64 0)), AC.c (C.v (Value.string ⟨⟨[]⟩⟩)), AC.nil, AC.c (C.v (Value.int IntKind.i64 0)), AC.nil, AC.c (C.v (Value.int IntKind.i64 0))] } := rfl
theorem tb35 : Tb 35 = some { d := TyD.struct [(0, 4), (4, 1), (5, 1), (6, 1)] none, size := 7, bytes := 96, zero := [AC.c (C.v (Value.int IntKind.i64 0)), AC.c (C.v (Value.int IntKind.i64 0)), AC.c (C.v (Value.string ⟨⟨[]⟩⟩)), AC.nil, AC.c (C.v (Value.int IntKind.i64 0)), AC.nil, AC.c (C.v (Value.int IntKind.i64 0))] } := rfl
theorem tb38 : Tb 38 = some { d := TyD.slice 40, size := 1, bytes := 24, zero := [AC.nil] } := rfl
theorem tb39 : Tb 39 = some { d := TyD.struct [(0, 1), (1, 1), (2, 1), (3, 1)] none, size := 4, bytes := 56, zero := [AC.c (C.v (Value.int IntKind.i64 0)), AC.c (C.v (Value.int IntKind.i64 0)), AC.c (C.v (Value.string ⟨⟨[]⟩⟩)), AC.nil] } := rfl
theorem tb40 : Tb 40 = some { d := TyD.struct [(0, 1), (1, 1), (2, 1), (3, 1)] none, size := 4, bytes := 56, zero := [AC.c (C.v (Value.int IntKind.i64 0)), AC.c (C.v (Value.int IntKind.i64 0)), AC.c (C.v (Value.string ⟨⟨[]⟩⟩)), AC.nil] } := rfl
theorem tb43 : Tb 43 = some { d := TyD.slice 125, size := 1, bytes := 24, zero := [AC.nil] } := rfl
theorem tb44 : Tb 44 = some { d := TyD.struct [(0, 1), (1, 1)] none, size := 2, bytes := 48, zero := [AC.nil, AC.nil] } := rfl
theorem tb45 : Tb 45 = some { d := TyD.struct [(0, 1), (1, 1)] none, size := 2, bytes := 48, zero := [AC.nil, AC.nil] } := rfl
theorem tb46 : Tb 46 = some { d := TyD.slice 106, size := 1, bytes := 24, zero := [AC.nil] } := rfl
theorem tb47 : Tb 47 = some { d := TyD.slice 108, size := 1, bytes := 24, zero := [AC.nil] } := rfl
theorem tb48 : Tb 48 = some { d := TyD.struct [(0, 2), (2, 1), (3, 1)] none, size := 4, bytes := 96, zero := [AC.nil, AC.nil, AC.nil, AC.nil] } := rfl
theorem tb49 : Tb 49 = some { d := TyD.struct [(0, 2), (2, 1), (3, 1)] none, size := 4, bytes := 96, zero := [AC.nil, AC.nil, AC.nil, AC.nil] } := rfl
theorem tb51 : Tb 51 = some { d := TyD.slice 70, size := 1, bytes := 24, zero := [AC.nil] } := rfl
theorem tb52 : Tb 52 = some { d := TyD.struct [(0, 4), (4, 1), (5, 1), (6, 1)] none, size := 7, bytes := 96, zero := [AC.c (C.v (Value.int IntKind.i64 0)), AC.c (C.v (Value.int IntKind.i64 0)), AC.c (C.v (Value.string ⟨⟨[]⟩⟩)), AC.nil, AC.c (C.v (Value.int IntKind.i64 0)), AC.nil, AC.c (C.v (Value.int IntKind.i64 0))] } := rfl
theorem tb53 : Tb 53 = some { d := TyD.struct [(0, 4), (4, 1), (5, 1), (6, 1)] none, size := 7, bytes := 96, zero := [AC.c (C.v (Value.int IntKind.i64 0)), AC.c (C.v (Value.int IntKind.i64 0)), AC.c (C.v (Value.string ⟨⟨[]⟩⟩)), AC.nil, AC.c (C.v (Value.int IntKind.i64 0)), AC.nil, AC.c (C.v (Value.int IntKind.i64 0))] } := rfl
theorem tb69 : Tb 69 = some { d := TyD.struct [(0, 4), (4, 1)] none, size := 5, bytes := 64, zero := [AC.c (C.v (Value.int IntKind.i64 0)), AC.c (C.v (Value.int IntKind.i64 0)), AC.c (C.v (Value.string ⟨⟨[]⟩⟩)), AC.nil, AC.c (C.v (Value.int IntKind.i64 0))] } := rfl
theorem tb70 : Tb 70 = some { d := TyD.struct [(0, 4), (4, 1)] none, size := 5, bytes := 64, zero := [AC.c (C.v (Value.int IntKind.i64 0)), AC.c (C.v (Value.int IntKind.i64 0)), AC.c (C.v (Value.string ⟨⟨[]⟩⟩)), AC.nil, AC.c (C.v (Value.int IntKind.i64 0))] } := rfl
theorem tb89 : Tb 89 = some { d := TyD.slice 137, size := 1, bytes := 24, zero := [AC.nil] } := rfl
theorem tb90 : Tb 90 = some { d := TyD.struct [(0, 1), (1, 4), (5, 4), (9, 1)] none, size := 10, bytes := 152, zero := [AC.c (C.v (Value.string ⟨⟨[]⟩⟩)), AC.c (C.v (Value.int IntKind.i64 0)), AC.c (C.v (Value.int IntKind.i64 0)), AC.c (C.v (Value.string ⟨⟨[]⟩⟩)), AC.nil, AC.c (C.v (Value.int IntKind.i64 0)), AC.c (C.v (Value.int IntKind.i64 0)), AC.c (C.v (Value.string ⟨⟨[]⟩⟩)), AC.nil, AC.nil] } := rfl
theorem tb91 : Tb 91 = some { d := TyD.struct [(0, 1), (1, 4), (5, 4), (9, 1)] none, size := 10, bytes := 152, zero := [AC.c (C.v (Value.string ⟨⟨[]⟩⟩)), AC.c (C.v (Value.int IntKind.i64 0)), AC.c (C.v (Value.int IntKind.i64 0)), AC.c (C.v (Value.string ⟨⟨[]⟩⟩)), AC.nil, AC.c (C.v (Value.int IntKind.i64 0)), AC.c (C.v (Value.int IntKind.i64 0)), AC.c (C.v (Value.string ⟨⟨[]⟩⟩)), AC.nil, AC.nil] } := rfl
theorem tb93 : Tb 93 = some { d := TyD.struct [(0, 1), (1, 1)] (some [(0, CK.str), (1, CK.int IntKind.i64)]), size := 2, bytes := 24, zero := [AC.c (C.v (Value.string ⟨⟨[]⟩⟩)), AC.c (C.v (Value.int IntKind.i64 0))] } := rfl
theorem tb94 : Tb 94 = some { d := TyD.struct [(0, 1), (1, 1)] (some [(0, CK.str), (1, CK.int IntKind.i64)]), size := 2, bytes := 24, zero := [AC.c (C.v (Value.string ⟨⟨[]⟩⟩)), AC.c (C.v (Value.int IntKind.i64 0))] } := rfl
theorem tb97 : Tb 97 = some { d := TyD.struct [(0, 4), (4, 1)] none, size := 5, bytes := 64, zero := [AC.c (C.v (Value.int IntKind.i64 0)), AC.c (C.v (Value.int IntKind.i64 0)), AC.c (C.v (Value.string ⟨⟨[]⟩⟩)), AC.nil, AC.c (C.v (Value.int IntKind.i64 0))] } := rfl
theorem tb98 : Tb 98 = some { d := TyD.struct [(0, 4), (4, 1)] none, size := 5, bytes := 64, zero := [AC.c (C.v (Value.int IntKind.i64 0)), AC.c (C.v (Value.int IntKind.i64 0)), AC.c (C.v (Value.string ⟨⟨[]⟩⟩)), AC.nil, AC.c (C.v (Value.int IntKind.i64 0))] } := rfl
theorem tb99 : Tb 99 = some { d := TyD.slice 3, size := 1, bytes := 24, zero := [AC.nil] } := rfl
theorem tb104 : Tb 104 = some { d := TyD.slice 134, size := 1, bytes := 24, zero := [AC.nil] } := rfl
theorem tb105 : Tb 105 = some { d := TyD.struct [(0, 1), (1, 4), (5, 4), (9, 1)] none, size := 10, bytes := 152, zero := [AC.c (C.v (Value.string ⟨⟨[]⟩⟩)), AC.c (C.v (Value.int IntKind.i64 0)), AC.c (C.v (Value.int IntKind.i64 0)), AC.c (C.v (Value.string ⟨⟨[]⟩⟩)), AC.nil, AC.c (C.v (Value.int IntKind.i64 0)), AC.c (C.v (Value.int IntKind.i64 0)), AC.c (C.v (Value.string ⟨⟨[]⟩⟩)), AC.nil, AC.nil] } := rfl
theorem tb106 : Tb 106 = some { d := TyD.struct [(0, 1), (1, 4), (5, 4), (9, 1)] none, size := 10, bytes := 152, zero := [AC.c (C.v (Value.string ⟨⟨[]⟩⟩)), AC.c (C.v (Value.int IntKind.i64 0)), AC.c (C.v (Value.int IntKind.i64 0)), AC.c (C.v (Value.string ⟨⟨[]⟩⟩)), AC.nil, AC.c (C.v (Value.int IntKind.i64 0)), AC.c (C.v (Value.int IntKind.i64 0)), AC.c (C.v (Value.string ⟨⟨[]⟩⟩)), AC.nil, AC.nil] } := rfl
theorem tb108 : Tb 108 = some { d := TyD.struct [(0, 1), (1, 1)] (some [(0, CK.str), (1, CK.int IntKind.i64)]), size := 2, bytes := 24, zero := [AC.c (C.v (Value.string ⟨⟨[]⟩⟩)), AC.c (C.v (Value.int IntKind.i64 0))] } := rfl
theorem tb122 : Tb 122 = some { d := TyD.struct [(0, 1), (1, 1), (2, 1)] none, size := 3, bytes := 56, zero := [AC.c (C.v (Value.string ⟨⟨[]⟩⟩)), AC.nil, AC.c (C.v (Value.string ⟨⟨[]⟩⟩))] } := rfl
theorem tb123 : Tb 123 = some { d := TyD.struct [(0, 1), (1, 1), (2, 1)] none, size := 3, bytes := 56, zero := [AC.c (C.v (Value.string ⟨⟨[]⟩⟩)), AC.nil, AC.c (C.v (Value.string ⟨⟨[]⟩⟩))] } := rfl
theorem tb125 : Tb 125 = some { d := TyD.struct [(0, 1), (1, 1), (2, 1)] none, size := 3, bytes := 56, zero := [AC.c (C.v (Value.string ⟨⟨[]⟩⟩)), AC.nil, AC.c (C.v (Value.string ⟨⟨[]⟩⟩))] } := rfl
theorem tb132 : Tb 132 = some { d := TyD.slice 5, size := 1, bytes := 24, zero := [AC.nil] } := rfl
theorem tb133 : Tb 133 = some { d := TyD.struct [(0, 1), (1, 4), (5, 4)] none, size := 9, bytes := 120, zero := [AC.c (C.v (Value.int IntKind.i64 0)), AC.c (C.v (Value.int IntKind.i64 0)), AC.c (C.v (Value.int IntKind.i64 0)), AC.c (C.v (Value.string ⟨⟨[]⟩⟩)), AC.nil, AC.c (C.v (Value.int IntKind.i64 0)), AC.c (C.v (Value.int IntKind.i64 0)), AC.c (C.v (Value.string ⟨⟨[]⟩⟩)), AC.nil] } := rfl
theorem tb134 : Tb 134 = some { d := TyD.struct [(0, 1), (1, 4), (5, 4)] none, size := 9, bytes := 120, zero := [AC.c (C.v (Value.int IntKind.i64 0)), AC.c (C.v (Value.int IntKind.i64 0)), AC.c (C.v (Value.int IntKind.i64 0)), AC.c (C.v (Value.string ⟨⟨[]⟩⟩)), AC.nil, AC.c (C.v (Value.int IntKind.i64 0)), AC.c (C.v (Value.int IntKind.i64 0)), AC.c (C.v (Value.string ⟨⟨[]⟩⟩)), AC.nil] } := rfl
theorem tb136 : Tb 136 = some { d := TyD.struct [(0, 1), (1, 4), (5, 4)] none, size := 9, bytes := 120, zero := [AC.c (C.v (Value.int IntKind.i64 0)), AC.c (C.v (Value.int IntKind.i64 0)), AC.c (C.v (Value.int IntKind.i64 0)), AC.c (C.v (Value.string ⟨⟨[]⟩⟩)), AC.nil, AC.c (C.v (Value.int IntKind.i64 0)), AC.c (C.v (Value.int IntKind.i64 0)), AC.c (C.v (Value.string ⟨⟨[]⟩⟩)), AC.nil] } := rfl
theorem tb137 : Tb 137 = some { d := TyD.struct [(0, 1), (1, 4), (5, 4)] none, size := 9, bytes := 120, zero := [AC.c (C.v (Value.int IntKind.i64 0)), AC.c (C.v (Value.int IntKind.i64 0)), AC.c (C.v (Value.int IntKind.i64 0)), AC.c (C.v (Value.string ⟨⟨[]⟩⟩)), AC.nil, AC.c (C.v (Value.int IntKind.i64 0)), AC.c (C.v (Value.int IntKind.i64 0)), AC.c (C.v (Value.string ⟨⟨[]⟩⟩)), AC.nil] } := rfl
theorem tb148 : Tb 148 = some { d := TyD.int IntKind.u32, size := 1, bytes := 4, zero := [AC.c (C.v (Value.int IntKind.u32 0))] } := rfl
theorem tb152 : Tb 152 = some { d := TyD.ptr, size := 1, bytes := 8, zero := [AC.c (C.v (Value.pointer none))] } := rfl
theorem nt3 : Try.f3.ntmps = 119 := rfl
theorem rs3 : Try.f3.results.toList = [ResultVar.tmp 4] := rfl
theorem nt4 : Try.f4.ntmps = 24 := rfl
theorem rs4 : Try.f4.results.toList = [ResultVar.tmp 4] := rfl
theorem nt5 : Try.f5.ntmps = 18 := rfl
theorem rs5 : Try.f5.results.toList = [ResultVar.tmp 4] := rfl
theorem nt6 : Try.f6.ntmps = 45 := rfl
theorem rs6 : Try.f6.results.toList = [ResultVar.cell 4 40, ResultVar.tmp 5] := rfl
theorem nt7 : Try.f7.ntmps = 17 := rfl
theorem rs7 : Try.f7.results.toList = [ResultVar.cell 2 49] := rfl
theorem nt8 : Try.f8.ntmps = 19 := rfl
theorem rs8 : Try.f8.results.toList = [ResultVar.cell 2 53] := rfl
theorem nt9 : Try.f9.ntmps = 17 := rfl
theorem rs9 : Try.f9.results.toList = [ResultVar.cell 4 40, ResultVar.tmp 5] := rfl
theorem nt10 : Try.f10.ntmps = 26 := rfl
theorem rs10 : Try.f10.results.toList = [ResultVar.tmp 4] := rfl
theorem nt11 : Try.f11.ntmps = 23 := rfl
theorem rs11 : Try.f11.results.toList = [ResultVar.tmp 4] := rfl
theorem nt12 : Try.f12.ntmps = 27 := rfl
theorem rs12 : Try.f12.results.toList = [ResultVar.tmp 4] := rfl
theorem nt13 : Try.f13.ntmps = 18 := rfl
theorem rs13 : Try.f13.results.toList = [ResultVar.tmp 4] := rfl
theorem nt14 : Try.f14.ntmps = 14 := rfl
theorem rs14 : Try.f14.results.toList = [ResultVar.tmp 4] := rfl
theorem nt15 : Try.f15.ntmps = 10 := rfl
theorem rs15 : Try.f15.results.toList = [ResultVar.tmp 4] := rfl
theorem nt16 : Try.f16.ntmps = 12 := rfl
theorem rs16 : Try.f16.results.toList = [ResultVar.tmp 4] := rfl
theorem nt17 : Try.f17.ntmps = 18 := rfl
theorem rs17 : Try.f17.results.toList = [ResultVar.tmp 4] := rfl
theorem nt18 : Try.f18.ntmps = 27 := rfl
theorem rs18 : Try.f18.results.toList = [ResultVar.tmp 4] := rfl
theorem nt19 : Try.f19.ntmps = 27 := rfl
theorem rs19 : Try.f19.results.toList = [ResultVar.tmp 4] := rfl
theorem nt20 : Try.f20.ntmps = 19 := rfl
theorem rs20 : Try.f20.results.toList = [ResultVar.tmp 4] := rfl
theorem nt21 : Try.f21.ntmps = 27 := rfl
theorem rs21 : Try.f21.results.toList = [ResultVar.tmp 4] := rfl
theorem nt22 : Try.f22.ntmps = 25 := rfl
theorem rs22 : Try.f22.results.toList = [ResultVar.cell 2 40] := rfl
theorem nt23 : Try.f23.ntmps = 43 := rfl
theorem rs23 : Try.f23.results.toList = [ResultVar.tmp 4] := rfl
theorem nt24 : Try.f24.ntmps = 13 := rfl
theorem rs24 : Try.f24.results.toList = [ResultVar.cell 2 45] := rfl
theorem nt25 : Try.f25.ntmps = 23 := rfl
theorem rs25 : Try.f25.results.toList = [ResultVar.tmp 2] := rfl
theorem nt26 : Try.f26.ntmps = 23 := rfl
theorem rs26 : Try.f26.results.toList = [ResultVar.tmp 2] := rfl
theorem nt27 : Try.f27.ntmps = 18 := rfl
theorem rs27 : Try.f27.results.toList = [ResultVar.cell 2 40] := rfl
theorem nt28 : Try.f28.ntmps = 23 := rfl
theorem rs28 : Try.f28.results.toList = [ResultVar.tmp 2] := rfl
theorem nt29 : Try.f29.ntmps = 36 := rfl
theorem rs29 : Try.f29.results.toList = [ResultVar.cell 4 40, ResultVar.tmp 5] := rfl
theorem nt30 : Try.f30.ntmps = 29 := rfl
theorem rs30 : Try.f30.results.toList = [ResultVar.cell 2 40] := rfl
theorem nt31 : Try.f31.ntmps = 27 := rfl
theorem rs31 : Try.f31.results.toList = [ResultVar.tmp 4] := rfl
theorem nt32 : Try.f32.ntmps = 17 := rfl
theorem rs32 : Try.f32.results.toList = [ResultVar.tmp 4] := rfl
theorem nt33 : Try.f33.ntmps = 27 := rfl
theorem rs33 : Try.f33.results.toList = [ResultVar.tmp 4] := rfl
theorem nt34 : Try.f34.ntmps = 27 := rfl
theorem rs34 : Try.f34.results.toList = [ResultVar.tmp 4] := rfl
theorem nt35 : Try.f35.ntmps = 27 := rfl
theorem rs35 : Try.f35.results.toList = [ResultVar.tmp 4] := rfl
theorem nt36 : Try.f36.ntmps = 14 := rfl
theorem rs36 : Try.f36.results.toList = [ResultVar.tmp 4] := rfl
theorem nt37 : Try.f37.ntmps = 94 := rfl
theorem rs37 : Try.f37.results.toList = [ResultVar.tmp 4] := rfl
theorem nt38 : Try.f38.ntmps = 28 := rfl
theorem rs38 : Try.f38.results.toList = [ResultVar.tmp 4] := rfl
theorem nt39 : Try.f39.ntmps = 53 := rfl
theorem rs39 : Try.f39.results.toList = [ResultVar.tmp 4] := rfl
theorem nt40 : Try.f40.ntmps = 42 := rfl
theorem rs40 : Try.f40.results.toList = [ResultVar.tmp 4] := rfl
theorem nt41 : Try.f41.ntmps = 50 := rfl
theorem rs41 : Try.f41.results.toList = [ResultVar.tmp 4] := rfl
theorem nt42 : Try.f42.ntmps = 28 := rfl
theorem rs42 : Try.f42.results.toList = [ResultVar.tmp 4] := rfl
theorem nt43 : Try.f43.ntmps = 27 := rfl
theorem rs43 : Try.f43.results.toList = [ResultVar.tmp 4] := rfl
theorem nt44 : Try.f44.ntmps = 31 := rfl
theorem rs44 : Try.f44.results.toList = [ResultVar.tmp 4] := rfl
theorem nt45 : Try.f45.ntmps = 13 := rfl
theorem rs45 : Try.f45.results.toList = [ResultVar.tmp 4] := rfl
theorem nt46 : Try.f46.ntmps = 27 := rfl
theorem rs46 : Try.f46.results.toList = [ResultVar.tmp 4] := rfl
theorem nt47 : Try.f47.ntmps = 12 := rfl
theorem rs47 : Try.f47.results.toList = [ResultVar.tmp 4] := rfl
theorem nt48 : Try.f48.ntmps = 33 := rfl
theorem rs48 : Try.f48.results.toList = [ResultVar.tmp 4] := rfl
theorem nt49 : Try.f49.ntmps = 15 := rfl
theorem rs49 : Try.f49.results.toList = [ResultVar.tmp 6] := rfl
theorem nt50 : Try.f50.ntmps = 22 := rfl
theorem rs50 : Try.f50.results.toList = [ResultVar.tmp 2] := rfl
theorem nt51 : Try.f51.ntmps = 23 := rfl
theorem rs51 : Try.f51.results.toList = [ResultVar.tmp 2] := rfl
theorem nt52 : Try.f52.ntmps = 20 := rfl
theorem rs52 : Try.f52.results.toList = [ResultVar.cell 2 106] := rfl
theorem nt53 : Try.f53.ntmps = 11 := rfl
theorem rs53 : Try.f53.results.toList = [ResultVar.cell 2 108] := rfl
theorem nt54 : Try.f54.ntmps = 23 := rfl
theorem rs54 : Try.f54.results.toList = [ResultVar.tmp 2] := rfl
theorem nt55 : Try.f55.ntmps = 12 := rfl
theorem rs55 : Try.f55.results.toList = [ResultVar.cell 2 70] := rfl
theorem nt56 : Try.f56.ntmps = 53 := rfl
theorem rs56 : Try.f56.results.toList = [ResultVar.cell 6 40, ResultVar.tmp 7] := rfl
theorem nt57 : Try.f57.ntmps = 26 := rfl
theorem rs57 : Try.f57.results.toList = [ResultVar.tmp 4] := rfl
theorem nt58 : Try.f58.ntmps = 27 := rfl
theorem rs58 : Try.f58.results.toList = [ResultVar.tmp 4] := rfl
theorem nt59 : Try.f59.ntmps = 28 := rfl
theorem rs59 : Try.f59.results.toList = [ResultVar.tmp 4] := rfl
theorem nt60 : Try.f60.ntmps = 15 := rfl
theorem rs60 : Try.f60.results.toList = [ResultVar.tmp 4] := rfl
theorem nt61 : Try.f61.ntmps = 16 := rfl
theorem rs61 : Try.f61.results.toList = [ResultVar.tmp 4] := rfl
theorem nt62 : Try.f62.ntmps = 20 := rfl
theorem rs62 : Try.f62.results.toList = [ResultVar.tmp 4] := rfl
theorem nt63 : Try.f63.ntmps = 36 := rfl
theorem rs63 : Try.f63.results.toList = [ResultVar.tmp 4] := rfl
theorem nt64 : Try.f64.ntmps = 20 := rfl
theorem rs64 : Try.f64.results.toList = [ResultVar.tmp 2] := rfl
theorem nt65 : Try.f65.ntmps = 86 := rfl
theorem rs65 : Try.f65.results.toList = [ResultVar.tmp 4] := rfl
theorem nt66 : Try.f66.ntmps = 26 := rfl
theorem rs66 : Try.f66.results.toList = [ResultVar.tmp 4] := rfl
theorem nt67 : Try.f67.ntmps = 27 := rfl
theorem rs67 : Try.f67.results.toList = [ResultVar.tmp 4] := rfl
theorem nt68 : Try.f68.ntmps = 15 := rfl
theorem rs68 : Try.f68.results.toList = [ResultVar.cell 2 125] := rfl
theorem nt69 : Try.f69.ntmps = 23 := rfl
theorem rs69 : Try.f69.results.toList = [ResultVar.tmp 2] := rfl
theorem nt70 : Try.f70.ntmps = 12 := rfl
theorem rs70 : Try.f70.results.toList = [ResultVar.tmp 4] := rfl
theorem nt71 : Try.f71.ntmps = 17 := rfl
theorem rs71 : Try.f71.results.toList = [ResultVar.cell 6 40] := rfl
theorem nt72 : Try.f72.ntmps = 21 := rfl
theorem rs72 : Try.f72.results.toList = [ResultVar.tmp 4] := rfl
theorem nt73 : Try.f73.ntmps = 27 := rfl
theorem rs73 : Try.f73.results.toList = [ResultVar.tmp 4] := rfl
theorem nt74 : Try.f74.ntmps = 18 := rfl
theorem rs74 : Try.f74.results.toList = [ResultVar.tmp 4] := rfl
theorem nt75 : Try.f75.ntmps = 16 := rfl
theorem rs75 : Try.f75.results.toList = [ResultVar.cell 2 134] := rfl
theorem nt76 : Try.f76.ntmps = 26 := rfl
theorem rs76 : Try.f76.results.toList = [ResultVar.tmp 4] := rfl
theorem nt77 : Try.f77.ntmps = 8 := rfl
theorem rs77 : Try.f77.results.toList = [ResultVar.tmp 2] := rfl
theorem nt78 : Try.f78.ntmps = 22 := rfl
theorem rs78 : Try.f78.results.toList = [ResultVar.tmp 4] := rfl
attribute [go_sem] tb2 tb3 tb4 tb5 tb9 tb12 tb13 tb20 tb21 tb22 tb23 tb24 tb25 tb26 tb27 tb28 tb29 tb30 tb31 tb32 tb33 tb34 tb35 tb38 tb39 tb40 tb43 tb44 tb45 tb46 tb47 tb48 tb49 tb51 tb52 tb53 tb69 tb70 tb89 tb90 tb91 tb93 tb94 tb97 tb98 tb99 tb104 tb105 tb106 tb108 tb122 tb123 tb125 tb132 tb133 tb134 tb136 tb137 tb148 tb152 nt3 rs3 nt4 rs4 nt5 rs5 nt6 rs6 nt7 rs7 nt8 rs8 nt9 rs9 nt10 rs10 nt11 rs11 nt12 rs12 nt13 rs13 nt14 rs14 nt15 rs15 nt16 rs16 nt17 rs17 nt18 rs18 nt19 rs19 nt20 rs20 nt21 rs21 nt22 rs22 nt23 rs23 nt24 rs24 nt25 rs25 nt26 rs26 nt27 rs27 nt28 rs28 nt29 rs29 nt30 rs30 nt31 rs31 nt32 rs32 nt33 rs33 nt34 rs34 nt35 rs35 nt36 rs36 nt37 rs37 nt38 rs38 nt39 rs39 nt40 rs40 nt41 rs41 nt42 rs42 nt43 rs43 nt44 rs44 nt45 rs45 nt46 rs46 nt47 rs47 nt48 rs48 nt49 rs49 nt50 rs50 nt51 rs51 nt52 rs52 nt53 rs53 nt54 rs54 nt55 rs55 nt56 rs56 nt57 rs57 nt58 rs58 nt59 rs59 nt60 rs60 nt61 rs61 nt62 rs62 nt63 rs63 nt64 rs64 nt65 rs65 nt66 rs66 nt67 rs67 nt68 rs68 nt69 rs69 nt70 rs70 nt71 rs71 nt72 rs72 nt73 rs73 nt74 rs74 nt75 rs75 nt76 rs76 nt77 rs77 nt78 rs78
end Go.Ai
