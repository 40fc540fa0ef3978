/- The types' table of this seat's program, and what its functions give back. Written by mkseat.py. -/
import Derived.Test.YtdjhdjffbmgmnaaAiRead
import Derived.Test.YtdjhdjffbmgmnaaProg
import Derived.KernelRfl
namespace Go.Ai
set_option linter.unusedVariables false
set_option linter.unusedSimpArgs false
open Go.Proofs
set_option maxRecDepth 100000
def Tb : Tab := tabOf [
  (2, { d := TyD.int IntKind.i64, size := 1, bytes := 8, zero := [AC.c (C.v (Value.int IntKind.i64 0))] }),
  (3, { d := TyD.int IntKind.i64, size := 1, bytes := 8, zero := [AC.c (C.v (Value.int IntKind.i64 0))] }),
  (4, { d := TyD.bool, size := 1, bytes := 1, zero := [AC.c (C.v (Value.bool false))] }),
  (5, { d := TyD.int IntKind.u8, size := 1, bytes := 1, zero := [AC.c (C.v (Value.int IntKind.u8 0))] }),
  (9, { d := TyD.str, size := 1, bytes := 16, zero := [AC.c (C.v (Value.string ⟨⟨[]⟩⟩))] }),
  (12, { d := TyD.int IntKind.u64, size := 1, bytes := 8, zero := [AC.c (C.v (Value.int IntKind.u64 0))] }),
  (13, { d := TyD.struct [(0, 1), (1, 1)] none, size := 2, bytes := 24, zero := [AC.c (C.v (Value.string ⟨⟨[]⟩⟩)), AC.c (C.v (Value.int IntKind.u64 0))] }),
  (20, { d := TyD.iface, size := 1, bytes := 16, zero := [AC.c (C.v Value.nilIface)] }),
  (21, { d := TyD.int IntKind.i32, size := 1, bytes := 4, zero := [AC.c (C.v (Value.int IntKind.i32 0))] }),
  (22, { d := TyD.slice 9, size := 1, bytes := 24, zero := [AC.nil] }),
  (23, { d := TyD.slice 124, size := 1, bytes := 24, zero := [AC.nil] }),
  (24, { d := TyD.struct [(0, 1), (1, 1)] none, size := 2, bytes := 48, zero := [AC.nil, AC.nil] }),
  (25, { d := TyD.struct [(0, 1), (1, 1)] none, size := 2, bytes := 48, zero := [AC.nil, AC.nil] }),
  (26, { d := TyD.slice 28, size := 1, bytes := 24, zero := [AC.nil] }),
  (27, { d := TyD.struct [(0, 1), (1, 1), (2, 1), (3, 1)] none, size := 4, bytes := 56, zero := [AC.c (C.v (Value.int IntKind.i64 0)), AC.c (C.v (Value.int IntKind.i64 0)), AC.c (C.v (Value.string ⟨⟨[]⟩⟩)), AC.nil] }),
  (28, { d := TyD.struct [(0, 1), (1, 1), (2, 1), (3, 1)] none, size := 4, bytes := 56, zero := [AC.c (C.v (Value.int IntKind.i64 0)), AC.c (C.v (Value.int IntKind.i64 0)), AC.c (C.v (Value.string ⟨⟨[]⟩⟩)), AC.nil] }),
  (29, { d := TyD.slice 128, size := 1, bytes := 24, zero := [AC.nil] }),
  (30, { d := TyD.struct [(0, 1), (1, 4), (5, 4), (9, 1)] none, size := 10, bytes := 152, zero := [AC.c (C.v (Value.string ⟨⟨[]⟩⟩)), AC.c (C.v (Value.int IntKind.i64 0)), AC.c (C.v (Value.int IntKind.i64 0)), AC.c (C.v (Value.string ⟨⟨[]⟩⟩)), AC.nil, AC.c (C.v (Value.int IntKind.i64 0)), AC.c (C.v (Value.int IntKind.i64 0)), AC.c (C.v (Value.string ⟨⟨[]⟩⟩)), AC.nil, AC.nil] }),
  (31, { d := TyD.struct [(0, 1), (1, 4), (5, 4), (9, 1)] none, size := 10, bytes := 152, zero := [AC.c (C.v (Value.string ⟨⟨[]⟩⟩)), AC.c (C.v (Value.int IntKind.i64 0)), AC.c (C.v (Value.int IntKind.i64 0)), AC.c (C.v (Value.string ⟨⟨[]⟩⟩)), AC.nil, AC.c (C.v (Value.int IntKind.i64 0)), AC.c (C.v (Value.int IntKind.i64 0)), AC.c (C.v (Value.string ⟨⟨[]⟩⟩)), AC.nil, AC.nil] }),
  (35, { d := TyD.slice 83, size := 1, bytes := 24, zero := [AC.nil] }),
  (36, { d := TyD.struct [(0, 1), (1, 1)] none, size := 2, bytes := 48, zero := [AC.nil, AC.nil] }),
  (37, { d := TyD.struct [(0, 1), (1, 1)] none, size := 2, bytes := 48, zero := [AC.nil, AC.nil] }),
  (39, { d := TyD.slice 41, size := 1, bytes := 24, zero := [AC.nil] }),
  (40, { d := TyD.struct [(0, 1), (1, 1), (2, 1), (3, 1)] none, size := 4, bytes := 56, zero := [AC.c (C.v (Value.int IntKind.i64 0)), AC.c (C.v (Value.int IntKind.i64 0)), AC.c (C.v (Value.string ⟨⟨[]⟩⟩)), AC.nil] }),
  (41, { d := TyD.struct [(0, 1), (1, 1), (2, 1), (3, 1)] none, size := 4, bytes := 56, zero := [AC.c (C.v (Value.int IntKind.i64 0)), AC.c (C.v (Value.int IntKind.i64 0)), AC.c (C.v (Value.string ⟨⟨[]⟩⟩)), AC.nil] }),
  (42, { d := TyD.slice 94, size := 1, bytes := 24, zero := [AC.nil] }),
  (43, { d := TyD.struct [(0, 1), (1, 4), (5, 4), (9, 1)] none, size := 10, bytes := 152, zero := [AC.c (C.v (Value.string ⟨⟨[]⟩⟩)), AC.c (C.v (Value.int IntKind.i64 0)), AC.c (C.v (Value.int IntKind.i64 0)), AC.c (C.v (Value.string ⟨⟨[]⟩⟩)), AC.nil, AC.c (C.v (Value.int IntKind.i64 0)), AC.c (C.v (Value.int IntKind.i64 0)), AC.c (C.v (Value.string ⟨⟨[]⟩⟩)), AC.nil, AC.nil] }),
  (44, { d := TyD.struct [(0, 1), (1, 4), (5, 4), (9, 1)] none, size := 10, bytes := 152, zero := [AC.c (C.v (Value.string ⟨⟨[]⟩⟩)), AC.c (C.v (Value.int IntKind.i64 0)), AC.c (C.v (Value.int IntKind.i64 0)), AC.c (C.v (Value.string ⟨⟨[]⟩⟩)), AC.nil, AC.c (C.v (Value.int IntKind.i64 0)), AC.c (C.v (Value.int IntKind.i64 0)), AC.c (C.v (Value.string ⟨⟨[]⟩⟩)), AC.nil, AC.nil] }),
  (49, { d := TyD.slice 31, size := 1, bytes := 24, zero := [AC.nil] }),
  (50, { d := TyD.slice 148, size := 1, bytes := 24, zero := [AC.nil] }),
  (51, { d := TyD.struct [(0, 2), (2, 1), (3, 1)] none, size := 4, bytes := 96, zero := [AC.nil, AC.nil, AC.nil, AC.nil] }),
  (52, { d := TyD.struct [(0, 2), (2, 1), (3, 1)] none, size := 4, bytes := 96, zero := [AC.nil, AC.nil, AC.nil, AC.nil] }),
  (53, { d := TyD.slice 151, size := 1, bytes := 24, zero := [AC.nil] }),
  (54, { d := TyD.struct [(0, 4), (4, 1), (5, 1), (6, 1)] none, size := 7, bytes := 96, zero := [AC.c (C.v (Value.int IntKind.i64 0)), AC.c (C.v (Value.int IntKind.i64 0)), AC.c (C.v (Value.string ⟨⟨[]⟩⟩)), AC.nil, AC.c (C.v (Value.int IntKind.i64 0)), AC.nil, AC.c (C.v (Value.int IntKind.i64 0))] }),
  (55, { d := TyD.struct [(0, 4), (4, 1), (5, 1), (6, 1)] none, size := 7, bytes := 96, zero := [AC.c (C.v (Value.int IntKind.i64 0)), AC.c (C.v (Value.int IntKind.i64 0)), AC.c (C.v (Value.string ⟨⟨[]⟩⟩)), AC.nil, AC.c (C.v (Value.int IntKind.i64 0)), AC.nil, AC.c (C.v (Value.int IntKind.i64 0))] }),
  (60, { d := TyD.slice 44, size := 1, bytes := 24, zero := [AC.nil] }),
  (61, { d := TyD.slice 155, size := 1, bytes := 24, zero := [AC.nil] }),
  (62, { d := TyD.struct [(0, 2), (2, 1), (3, 1)] none, size := 4, bytes := 96, zero := [AC.nil, AC.nil, AC.nil, AC.nil] }),
  (63, { d := TyD.struct [(0, 2), (2, 1), (3, 1)] none, size := 4, bytes := 96, zero := [AC.nil, AC.nil, AC.nil, AC.nil] }),
  (65, { d := TyD.slice 110, size := 1, bytes := 24, zero := [AC.nil] }),
  (66, { d := TyD.struct [(0, 4), (4, 1), (5, 1), (6, 1)] none, size := 7, bytes := 96, zero := [AC.c (C.v (Value.int IntKind.i64 0)), AC.c (C.v (Value.int IntKind.i64 0)), AC.c (C.v (Value.string ⟨⟨[]⟩⟩)), AC.nil, AC.c (C.v (Value.int IntKind.i64 0)), AC.nil, AC.c (C.v (Value.int IntKind.i64 0))] }),
  (67, { d := TyD.struct [(0, 4), (4, 1), (5, 1), (6, 1)] none, size := 7, bytes := 96, zero := [AC.c (C.v (Value.int IntKind.i64 0)), AC.c (C.v (Value.int IntKind.i64 0)), AC.c (C.v (Value.string ⟨⟨[]⟩⟩)), AC.nil, AC.c (C.v (Value.int IntKind.i64 0)), AC.nil, AC.c (C.v (Value.int IntKind.i64 0))] }),
  (82, { d := TyD.struct [(0, 1), (1, 1), (2, 1)] none, size := 3, bytes := 56, zero := [AC.c (C.v (Value.string ⟨⟨[]⟩⟩)), AC.nil, AC.c (C.v (Value.string ⟨⟨[]⟩⟩))] }),
  (83, { d := TyD.struct [(0, 1), (1, 1), (2, 1)] none, size := 3, bytes := 56, zero := [AC.c (C.v (Value.string ⟨⟨[]⟩⟩)), AC.nil, AC.c (C.v (Value.string ⟨⟨[]⟩⟩))] }),
  (86, { d := TyD.slice 142, size := 1, bytes := 24, zero := [AC.nil] }),
  (93, { d := TyD.struct [(0, 1), (1, 4), (5, 4)] none, size := 9, bytes := 120, zero := [AC.c (C.v (Value.int IntKind.i64 0)), AC.c (C.v (Value.int IntKind.i64 0)), AC.c (C.v (Value.int IntKind.i64 0)), AC.c (C.v (Value.string ⟨⟨[]⟩⟩)), AC.nil, AC.c (C.v (Value.int IntKind.i64 0)), AC.c (C.v (Value.int IntKind.i64 0)), AC.c (C.v (Value.string ⟨⟨[]⟩⟩)), AC.nil] }),
  (94, { d := TyD.struct [(0, 1), (1, 4), (5, 4)] none, size := 9, bytes := 120, zero := [AC.c (C.v (Value.int IntKind.i64 0)), AC.c (C.v (Value.int IntKind.i64 0)), AC.c (C.v (Value.int IntKind.i64 0)), AC.c (C.v (Value.string ⟨⟨[]⟩⟩)), AC.nil, AC.c (C.v (Value.int IntKind.i64 0)), AC.c (C.v (Value.int IntKind.i64 0)), AC.c (C.v (Value.string ⟨⟨[]⟩⟩)), AC.nil] }),
  (109, { d := TyD.struct [(0, 4), (4, 1)] none, size := 5, bytes := 64, zero := [AC.c (C.v (Value.int IntKind.i64 0)), AC.c (C.v (Value.int IntKind.i64 0)), AC.c (C.v (Value.string ⟨⟨[]⟩⟩)), AC.nil, AC.c (C.v (Value.int IntKind.i64 0))] }),
  (110, { d := TyD.struct [(0, 4), (4, 1)] none, size := 5, bytes := 64, zero := [AC.c (C.v (Value.int IntKind.i64 0)), AC.c (C.v (Value.int IntKind.i64 0)), AC.c (C.v (Value.string ⟨⟨[]⟩⟩)), AC.nil, AC.c (C.v (Value.int IntKind.i64 0))] }),
  (124, { d := TyD.struct [(0, 1), (1, 1), (2, 1)] none, size := 3, bytes := 56, zero := [AC.c (C.v (Value.string ⟨⟨[]⟩⟩)), AC.nil, AC.c (C.v (Value.string ⟨⟨[]⟩⟩))] }),
  (127, { d := TyD.struct [(0, 1), (1, 4), (5, 4)] none, size := 9, bytes := 120, zero := [AC.c (C.v (Value.int IntKind.i64 0)), AC.c (C.v (Value.int IntKind.i64 0)), AC.c (C.v (Value.int IntKind.i64 0)), AC.c (C.v (Value.string ⟨⟨[]⟩⟩)), AC.nil, AC.c (C.v (Value.int IntKind.i64 0)), AC.c (C.v (Value.int IntKind.i64 0)), AC.c (C.v (Value.string ⟨⟨[]⟩⟩)), AC.nil] }),
  (128, { d := TyD.struct [(0, 1), (1, 4), (5, 4)] none, size := 9, bytes := 120, zero := [AC.c (C.v (Value.int IntKind.i64 0)), AC.c (C.v (Value.int IntKind.i64 0)), AC.c (C.v (Value.int IntKind.i64 0)), AC.c (C.v (Value.string ⟨⟨[]⟩⟩)), AC.nil, AC.c (C.v (Value.int IntKind.i64 0)), AC.c (C.v (Value.int IntKind.i64 0)), AC.c (C.v (Value.string ⟨⟨[]⟩⟩)), AC.nil] }),
  (141, { d := TyD.struct [(0, 1), (1, 1)] (some [(0, CK.str), (1, CK.str)]), size := 2, bytes := 32, zero := [AC.c (C.v (Value.string ⟨⟨[]⟩⟩)), AC.c (C.v (Value.string ⟨⟨[]⟩⟩))] }),
  (142, { d := TyD.struct [(0, 1), (1, 1)] (some [(0, CK.str), (1, CK.str)]), size := 2, bytes := 32, zero := [AC.c (C.v (Value.string ⟨⟨[]⟩⟩)), AC.c (C.v (Value.string ⟨⟨[]⟩⟩))] }),
  (147, { d := TyD.struct [(0, 1), (1, 1)] (some [(0, CK.str), (1, CK.int IntKind.i64)]), size := 2, bytes := 24, zero := [AC.c (C.v (Value.string ⟨⟨[]⟩⟩)), AC.c (C.v (Value.int IntKind.i64 0))] }),
  (148, { d := TyD.struct [(0, 1), (1, 1)] (some [(0, CK.str), (1, CK.int IntKind.i64)]), size := 2, bytes := 24, zero := [AC.c (C.v (Value.string ⟨⟨[]⟩⟩)), AC.c (C.v (Value.int IntKind.i64 0))] }),
  (150, { d := TyD.struct [(0, 4), (4, 1)] none, size := 5, bytes := 64, zero := [AC.c (C.v (Value.int IntKind.i64 0)), AC.c (C.v (Value.int IntKind.i64 0)), AC.c (C.v (Value.string ⟨⟨[]⟩⟩)), AC.nil, AC.c (C.v (Value.int IntKind.i64 0))] }),
  (151, { d := TyD.struct [(0, 4), (4, 1)] none, size := 5, bytes := 64, zero := [AC.c (C.v (Value.int IntKind.i64 0)), AC.c (C.v (Value.int IntKind.i64 0)), AC.c (C.v (Value.string ⟨⟨[]⟩⟩)), AC.nil, AC.c (C.v (Value.int IntKind.i64 0))] }),
  (152, { d := TyD.slice 3, size := 1, bytes := 24, zero := [AC.nil] }),
  (155, { d := TyD.struct [(0, 1), (1, 1)] (some [(0, CK.str), (1, CK.int IntKind.i64)]), size := 2, bytes := 24, zero := [AC.c (C.v (Value.string ⟨⟨[]⟩⟩)), AC.c (C.v (Value.int IntKind.i64 0))] }),
  (167, { d := TyD.slice 5, size := 1, bytes := 24, zero := [AC.nil] }),
  (176, { d := TyD.int IntKind.u32, size := 1, bytes := 4, zero := [AC.c (C.v (Value.int IntKind.u32 0))] }),
  (180, { d := TyD.ptr, size := 1, bytes := 8, zero := [AC.c (C.v (Value.pointer none))] })]
theorem tbOk : TabOk Try.prog Tb := tabOk_of _ _ ⟨by kernel_rfl, by kernel_rfl, by kernel_rfl, by kernel_rfl, by kernel_rfl, by kernel_rfl, by kernel_rfl, by kernel_rfl, by kernel_rfl, by kernel_rfl, by kernel_rfl, by kernel_rfl, by kernel_rfl, by kernel_rfl, by kernel_rfl, by kernel_rfl, by kernel_rfl, by kernel_rfl, by kernel_rfl, by kernel_rfl, by kernel_rfl, by kernel_rfl, by kernel_rfl, by kernel_rfl, by kernel_rfl, by kernel_rfl, by kernel_rfl, by kernel_rfl, by kernel_rfl, by kernel_rfl, by kernel_rfl, by kernel_rfl, by kernel_rfl, by kernel_rfl, by kernel_rfl, by kernel_rfl, by kernel_rfl, by kernel_rfl, by kernel_rfl, by kernel_rfl, by kernel_rfl, by kernel_rfl, by kernel_rfl, by kernel_rfl, by kernel_rfl, by kernel_rfl, by kernel_rfl, by kernel_rfl, by kernel_rfl, by kernel_rfl, by kernel_rfl, by kernel_rfl, by kernel_rfl, by kernel_rfl, by kernel_rfl, by kernel_rfl, by kernel_rfl, by kernel_rfl, by kernel_rfl, by kernel_rfl, by kernel_rfl, by kernel_rfl, by kernel_rfl, trivial⟩
theorem mixed : Try.prog.follows .mixedOrders = true := by kernel_rfl
theorem tb2 : Tb 2 = some { d := TyD.int IntKind.i64, size := 1, bytes := 8, zero := [AC.c (C.v (Value.int IntKind.i64 0))] } := rfl
theorem tb3 : Tb 3 = some { d := TyD.int IntKind.i64, size := 1, bytes := 8, zero := [AC.c (C.v (Value.int IntKind.i64 0))] } := rfl
theorem tb4 : Tb 4 = some { d := TyD.bool, size := 1, bytes := 1, zero := [AC.c (C.v (Value.bool false))] } := rfl
theorem tb5 : Tb 5 = some { d := TyD.int IntKind.u8, size := 1, bytes := 1, zero := [AC.c (C.v (Value.int IntKind.u8 0))] } := rfl
theorem tb9 : Tb 9 = some { d := TyD.str, size := 1, bytes := 16, zero := [AC.c (C.v (Value.string ⟨⟨[]⟩⟩))] } := rfl
theorem tb12 : Tb 12 = some { d := TyD.int IntKind.u64, size := 1, bytes := 8, zero := [AC.c (C.v (Value.int IntKind.u64 0))] } := rfl
theorem tb13 : Tb 13 = some { d := TyD.struct [(0, 1), (1, 1)] none, size := 2, bytes := 24, zero := [AC.c (C.v (Value.string ⟨⟨[]⟩⟩)), AC.c (C.v (Value.int IntKind.u64 0))] } := rfl
theorem tb20 : Tb 20 = some { d := TyD.iface, size := 1, bytes := 16, zero := [AC.c (C.v Value.nilIface)] } := rfl
theorem tb21 : Tb 21 = some { d := TyD.int IntKind.i32, size := 1, bytes := 4, zero := [AC.c (C.v (Value.int IntKind.i32 0))] } := rfl
theorem tb22 : Tb 22 = some { d := TyD.slice 9, size := 1, bytes := 24, zero := [AC.nil] } := rfl
theorem tb23 : Tb 23 = some { d := TyD.slice 124, size := 1, bytes := 24, zero := [AC.nil] } := rfl
theorem tb24 : Tb 24 = some { d := TyD.struct [(0, 1), (1, 1)] none, size := 2, bytes := 48, zero := [AC.nil, AC.nil] } := rfl
theorem tb25 : Tb 25 = some { d := TyD.struct [(0, 1), (1, 1)] none, size := 2, bytes := 48, zero := [AC.nil, AC.nil] } := rfl
theorem tb26 : Tb 26 = some { d := TyD.slice 28, size := 1, bytes := 24, zero := [AC.nil] } := rfl
theorem tb27 : Tb 27 = some { d := TyD.struct [(0, 1), (1, 1), (2, 1), (3, 1)] none, size := 4, bytes := 56, zero := [AC.c (C.v (Value.int IntKind.i64 0)), AC.c (C.v (Value.int IntKind.i64 0)), AC.c (C.v (Value.string ⟨⟨[]⟩⟩)), AC.nil] } := rfl
theorem tb28 : Tb 28 = some { d := TyD.struct [(0, 1), (1, 1), (2, 1), (3, 1)] none, size := 4, bytes := 56, zero := [AC.c (C.v (Value.int IntKind.i64 0)), AC.c (C.v (Value.int IntKind.i64 0)), AC.c (C.v (Value.string ⟨⟨[]⟩⟩)), AC.nil] } := rfl
theorem tb29 : Tb 29 = some { d := TyD.slice 128, size := 1, bytes := 24, zero := [AC.nil] } := rfl
theorem tb30 : Tb 30 = some { d := TyD.struct [(0, 1), (1, 4), (5, 4), (9, 1)] none, size := 10, bytes := 152, zero := [AC.c (C.v (Value.string ⟨⟨[]⟩⟩)), AC.c (C.v (Value.int IntKind.i64 0)), AC.c (C.v (Value.int IntKind.i64 0)), AC.c (C.v (Value.string ⟨⟨[]⟩⟩)), AC.nil, AC.c (C.v (Value.int IntKind.i64 0)), AC.c (C.v (Value.int IntKind.i64 0)), AC.c (C.v (Value.string ⟨⟨[]⟩⟩)), AC.nil, AC.nil] } := rfl
theorem tb31 : Tb 31 = some { d := TyD.struct [(0, 1), (1, 4), (5, 4), (9, 1)] none, size := 10, bytes := 152, zero := [AC.c (C.v (Value.string ⟨⟨[]⟩⟩)), AC.c (C.v (Value.int IntKind.i64 0)), AC.c (C.v (Value.int IntKind.i64 0)), AC.c (C.v (Value.string ⟨⟨[]⟩⟩)), AC.nil, AC.c (C.v (Value.int IntKind.i64 0)), AC.c (C.v (Value.int IntKind.i64 0)), AC.c (C.v (Value.string ⟨⟨[]⟩⟩)), AC.nil, AC.nil] } := rfl
theorem tb35 : Tb 35 = some { d := TyD.slice 83, size := 1, bytes := 24, zero := [AC.nil] } := rfl
theorem tb36 : Tb 36 = some { d := TyD.struct [(0, 1), (1, 1)] none, size := 2, bytes := 48, zero := [AC.nil, AC.nil] } := rfl
theorem tb37 : Tb 37 = some { d := TyD.struct [(0, 1), (1, 1)] none, size := 2, bytes := 48, zero := [AC.nil, AC.nil] } := rfl
theorem tb39 : Tb 39 = some { d := TyD.slice 41, size := 1, bytes := 24, zero := [AC.nil] } := rfl
theorem tb40 : Tb 40 = some { d := TyD.struct [(0, 1), (1, 1), (2, 1), (3, 1)] none, size := 4, bytes := 56, zero := [AC.c (C.v (Value.int IntKind.i64 0)), AC.c (C.v (Value.int IntKind.i64 0)), AC.c (C.v (Value.string ⟨⟨[]⟩⟩)), AC.nil] } := rfl
theorem tb41 : Tb 41 = some { d := TyD.struct [(0, 1), (1, 1), (2, 1), (3, 1)] none, size := 4, bytes := 56, zero := [AC.c (C.v (Value.int IntKind.i64 0)), AC.c (C.v (Value.int IntKind.i64 0)), AC.c (C.v (Value.string ⟨⟨[]⟩⟩)), AC.nil] } := rfl
theorem tb42 : Tb 42 = some { d := TyD.slice 94, size := 1, bytes := 24, zero := [AC.nil] } := rfl
theorem tb43 : Tb 43 = some { d := TyD.struct [(0, 1), (1, 4), (5, 4), (9, 1)] none, size := 10, bytes := 152, zero := [AC.c (C.v (Value.string ⟨⟨[]⟩⟩)), AC.c (C.v (Value.int IntKind.i64 0)), AC.c (C.v (Value.int IntKind.i64 0)), AC.c (C.v (Value.string ⟨⟨[]⟩⟩)), AC.nil, AC.c (C.v (Value.int IntKind.i64 0)), AC.c (C.v (Value.int IntKind.i64 0)), AC.c (C.v (Value.string ⟨⟨[]⟩⟩)), AC.nil, AC.nil] } := rfl
theorem tb44 : Tb 44 = some { d := TyD.struct [(0, 1), (1, 4), (5, 4), (9, 1)] none, size := 10, bytes := 152, zero := [AC.c (C.v (Value.string ⟨⟨[]⟩⟩)), AC.c (C.v (Value.int IntKind.i64 0)), AC.c (C.v (Value.int IntKind.i64 0)), AC.c (C.v (Value.string ⟨⟨[]⟩⟩)), AC.nil, AC.c (C.v (Value.int IntKind.i64 0)), AC.c (C.v (Value.int IntKind.i64 0)), AC.c (C.v (Value.string ⟨⟨[]⟩⟩)), AC.nil, AC.nil] } := rfl
theorem tb49 : Tb 49 = some { d := TyD.slice 31, size := 1, bytes := 24, zero := [AC.nil] } := rfl
theorem tb50 : Tb 50 = some { d := TyD.slice 148, size := 1, bytes := 24, zero := [AC.nil] } := rfl
theorem tb51 : Tb 51 = some { d := TyD.struct [(0, 2), (2, 1), (3, 1)] none, size := 4, bytes := 96, zero := [AC.nil, AC.nil, AC.nil, AC.nil] } := rfl
theorem tb52 : Tb 52 = some { d := TyD.struct [(0, 2), (2, 1), (3, 1)] none, size := 4, bytes := 96, zero := [AC.nil, AC.nil, AC.nil, AC.nil] } := rfl
theorem tb53 : Tb 53 = some { d := TyD.slice 151, size := 1, bytes := 24, zero := [AC.nil] } := rfl
theorem tb54 : Tb 54 = some { d := TyD.struct [(0, 4), (4, 1), (5, 1), (6, 1)] none, size := 7, bytes := 96, zero := [AC.c (C.v (Value.int IntKind.i64 0)), AC.c (C.v (Value.int IntKind.i64 0)), AC.c (C.v (Value.string ⟨⟨[]⟩⟩)), AC.nil, AC.c (C.v (Value.int IntKind.i64 0)), AC.nil, AC.c (C.v (Value.int IntKind.i64 0))] } := rfl
theorem tb55 : Tb 55 = some { d := TyD.struct [(0, 4), (4, 1), (5, 1), (6, 1)] none, size := 7, bytes := 96, zero := [AC.c (C.v (Value.int IntKind.i64 0)), AC.c (C.v (Value.int IntKind.i64 0)), AC.c (C.v (Value.string ⟨⟨[]⟩⟩)), AC.nil, AC.c (C.v (Value.int IntKind.i64 0)), AC.nil, AC.c (C.v (Value.int IntKind.i64 0))] } := rfl
theorem tb60 : Tb 60 = some { d := TyD.slice 44, size := 1, bytes := 24, zero := [AC.nil] } := rfl
theorem tb61 : Tb 61 = some { d := TyD.slice 155, size := 1, bytes := 24, zero := [AC.nil] } := rfl
theorem tb62 : Tb 62 = some { d := TyD.struct [(0, 2), (2, 1), (3, 1)] none, size := 4, bytes := 96, zero := [AC.nil, AC.nil, AC.nil, AC.nil] } := rfl
theorem tb63 : Tb 63 = some { d := TyD.struct [(0, 2), (2, 1), (3, 1)] none, size := 4, bytes := 96, zero := [AC.nil, AC.nil, AC.nil, AC.nil] } := rfl
theorem tb65 : Tb 65 = some { d := TyD.slice 110, size := 1, bytes := 24, zero := [AC.nil] } := rfl
theorem tb66 : Tb 66 = some { d := TyD.struct [(0, 4), (4, 1), (5, 1), (6, 1)] none, size := 7, bytes := 96, zero := [AC.c (C.v (Value.int IntKind.i64 0)), AC.c (C.v (Value.int IntKind.i64 0)), AC.c (C.v (Value.string ⟨⟨[]⟩⟩)), AC.nil, AC.c (C.v (Value.int IntKind.i64 0)), AC.nil, AC.c (C.v (Value.int IntKind.i64 0))] } := rfl
theorem tb67 : Tb 67 = some { d := TyD.struct [(0, 4), (4, 1), (5, 1), (6, 1)] none, size := 7, bytes := 96, zero := [AC.c (C.v (Value.int IntKind.i64 0)), AC.c (C.v (Value.int IntKind.i64 0)), AC.c (C.v (Value.string ⟨⟨[]⟩⟩)), AC.nil, AC.c (C.v (Value.int IntKind.i64 0)), AC.nil, AC.c (C.v (Value.int IntKind.i64 0))] } := rfl
theorem tb82 : Tb 82 = some { d := TyD.struct [(0, 1), (1, 1), (2, 1)] none, size := 3, bytes := 56, zero := [AC.c (C.v (Value.string ⟨⟨[]⟩⟩)), AC.nil, AC.c (C.v (Value.string ⟨⟨[]⟩⟩))] } := rfl
theorem tb83 : Tb 83 = some { d := TyD.struct [(0, 1), (1, 1), (2, 1)] none, size := 3, bytes := 56, zero := [AC.c (C.v (Value.string ⟨⟨[]⟩⟩)), AC.nil, AC.c (C.v (Value.string ⟨⟨[]⟩⟩))] } := rfl
theorem tb86 : Tb 86 = some { d := TyD.slice 142, size := 1, bytes := 24, zero := [AC.nil] } := rfl
theorem tb93 : Tb 93 = some { d := TyD.struct [(0, 1), (1, 4), (5, 4)] none, size := 9, bytes := 120, zero := [AC.c (C.v (Value.int IntKind.i64 0)), AC.c (C.v (Value.int IntKind.i64 0)), AC.c (C.v (Value.int IntKind.i64 0)), AC.c (C.v (Value.string ⟨⟨[]⟩⟩)), AC.nil, AC.c (C.v (Value.int IntKind.i64 0)), AC.c (C.v (Value.int IntKind.i64 0)), AC.c (C.v (Value.string ⟨⟨[]⟩⟩)), AC.nil] } := rfl
theorem tb94 : Tb 94 = some { d := TyD.struct [(0, 1), (1, 4), (5, 4)] none, size := 9, bytes := 120, zero := [AC.c (C.v (Value.int IntKind.i64 0)), AC.c (C.v (Value.int IntKind.i64 0)), AC.c (C.v (Value.int IntKind.i64 0)), AC.c (C.v (Value.string ⟨⟨[]⟩⟩)), AC.nil, AC.c (C.v (Value.int IntKind.i64 0)), AC.c (C.v (Value.int IntKind.i64 0)), AC.c (C.v (Value.string ⟨⟨[]⟩⟩)), AC.nil] } := rfl
theorem tb109 : Tb 109 = some { d := TyD.struct [(0, 4), (4, 1)] none, size := 5, bytes := 64, zero := [AC.c (C.v (Value.int IntKind.i64 0)), AC.c (C.v (Value.int IntKind.i64 0)), AC.c (C.v (Value.string ⟨⟨[]⟩⟩)), AC.nil, AC.c (C.v (Value.int IntKind.i64 0))] } := rfl
theorem tb110 : Tb 110 = some { d := TyD.struct [(0, 4), (4, 1)] none, size := 5, bytes := 64, zero := [AC.c (C.v (Value.int IntKind.i64 0)), AC.c (C.v (Value.int IntKind.i64 0)), AC.c (C.v (Value.string ⟨⟨[]⟩⟩)), AC.nil, AC.c (C.v (Value.int IntKind.i64 0))] } := rfl
theorem tb124 : Tb 124 = some { d := TyD.struct [(0, 1), (1, 1), (2, 1)] none, size := 3, bytes := 56, zero := [AC.c (C.v (Value.string ⟨⟨[]⟩⟩)), AC.nil, AC.c (C.v (Value.string ⟨⟨[]⟩⟩))] } := rfl
theorem tb127 : Tb 127 = some { d := TyD.struct [(0, 1), (1, 4), (5, 4)] none, size := 9, bytes := 120, zero := [AC.c (C.v (Value.int IntKind.i64 0)), AC.c (C.v (Value.int IntKind.i64 0)), AC.c (C.v (Value.int IntKind.i64 0)), AC.c (C.v (Value.string ⟨⟨[]⟩⟩)), AC.nil, AC.c (C.v (Value.int IntKind.i64 0)), AC.c (C.v (Value.int IntKind.i64 0)), AC.c (C.v (Value.string ⟨⟨[]⟩⟩)), AC.nil] } := rfl
theorem tb128 : Tb 128 = some { d := TyD.struct [(0, 1), (1, 4), (5, 4)] none, size := 9, bytes := 120, zero := [AC.c (C.v (Value.int IntKind.i64 0)), AC.c (C.v (Value.int IntKind.i64 0)), AC.c (C.v (Value.int IntKind.i64 0)), AC.c (C.v (Value.string ⟨⟨[]⟩⟩)), AC.nil, AC.c (C.v (Value.int IntKind.i64 0)), AC.c (C.v (Value.int IntKind.i64 0)), AC.c (C.v (Value.string ⟨⟨[]⟩⟩)), AC.nil] } := rfl
theorem tb141 : Tb 141 = some { d := TyD.struct [(0, 1), (1, 1)] (some [(0, CK.str), (1, CK.str)]), size := 2, bytes := 32, zero := [AC.c (C.v (Value.string ⟨⟨[]⟩⟩)), AC.c (C.v (Value.string ⟨⟨[]⟩⟩))] } := rfl
theorem tb142 : Tb 142 = some { d := TyD.struct [(0, 1), (1, 1)] (some [(0, CK.str), (1, CK.str)]), size := 2, bytes := 32, zero := [AC.c (C.v (Value.string ⟨⟨[]⟩⟩)), AC.c (C.v (Value.string ⟨⟨[]⟩⟩))] } := rfl
theorem tb147 : Tb 147 = some { d := TyD.struct [(0, 1), (1, 1)] (some [(0, CK.str), (1, CK.int IntKind.i64)]), size := 2, bytes := 24, zero := [AC.c (C.v (Value.string ⟨⟨[]⟩⟩)), AC.c (C.v (Value.int IntKind.i64 0))] } := rfl
theorem tb148 : Tb 148 = some { d := TyD.struct [(0, 1), (1, 1)] (some [(0, CK.str), (1, CK.int IntKind.i64)]), size := 2, bytes := 24, zero := [AC.c (C.v (Value.string ⟨⟨[]⟩⟩)), AC.c (C.v (Value.int IntKind.i64 0))] } := rfl
theorem tb150 : Tb 150 = some { d := TyD.struct [(0, 4), (4, 1)] none, size := 5, bytes := 64, zero := [AC.c (C.v (Value.int IntKind.i64 0)), AC.c (C.v (Value.int IntKind.i64 0)), AC.c (C.v (Value.string ⟨⟨[]⟩⟩)), AC.nil, AC.c (C.v (Value.int IntKind.i64 0))] } := rfl
theorem tb151 : Tb 151 = some { d := TyD.struct [(0, 4), (4, 1)] none, size := 5, bytes := 64, zero := [AC.c (C.v (Value.int IntKind.i64 0)), AC.c (C.v (Value.int IntKind.i64 0)), AC.c (C.v (Value.string ⟨⟨[]⟩⟩)), AC.nil, AC.c (C.v (Value.int IntKind.i64 0))] } := rfl
theorem tb152 : Tb 152 = some { d := TyD.slice 3, size := 1, bytes := 24, zero := [AC.nil] } := rfl
theorem tb155 : Tb 155 = some { d := TyD.struct [(0, 1), (1, 1)] (some [(0, CK.str), (1, CK.int IntKind.i64)]), size := 2, bytes := 24, zero := [AC.c (C.v (Value.string ⟨⟨[]⟩⟩)), AC.c (C.v (Value.int IntKind.i64 0))] } := rfl
theorem tb167 : Tb 167 = some { d := TyD.slice 5, size := 1, bytes := 24, zero := [AC.nil] } := rfl
theorem tb176 : Tb 176 = some { d := TyD.int IntKind.u32, size := 1, bytes := 4, zero := [AC.c (C.v (Value.int IntKind.u32 0))] } := rfl
theorem tb180 : Tb 180 = some { d := TyD.ptr, size := 1, bytes := 8, zero := [AC.c (C.v (Value.pointer none))] } := rfl
theorem nt3 : Try.f3.ntmps = 45 := rfl
theorem rs3 : Try.f3.results.toList = [ResultVar.tmp 4] := rfl
theorem nt4 : Try.f4.ntmps = 119 := rfl
theorem rs4 : Try.f4.results.toList = [ResultVar.tmp 4] := rfl
theorem nt5 : Try.f5.ntmps = 18 := rfl
theorem rs5 : Try.f5.results.toList = [ResultVar.tmp 4] := rfl
theorem nt6 : Try.f6.ntmps = 31 := rfl
theorem rs6 : Try.f6.results.toList = [ResultVar.tmp 4] := rfl
theorem nt7 : Try.f7.ntmps = 99 := rfl
theorem rs7 : Try.f7.results.toList = [ResultVar.tmp 4] := rfl
theorem nt8 : Try.f8.ntmps = 13 := rfl
theorem rs8 : Try.f8.results.toList = [ResultVar.cell 2 37] := rfl
theorem nt9 : Try.f9.ntmps = 20 := rfl
theorem rs9 : Try.f9.results.toList = [ResultVar.cell 2 44] := rfl
theorem nt10 : Try.f10.ntmps = 84 := rfl
theorem rs10 : Try.f10.results.toList = [ResultVar.tmp 4] := rfl
theorem nt11 : Try.f11.ntmps = 17 := rfl
theorem rs11 : Try.f11.results.toList = [ResultVar.tmp 4] := rfl
theorem nt12 : Try.f12.ntmps = 28 := rfl
theorem rs12 : Try.f12.results.toList = [ResultVar.tmp 4] := rfl
theorem nt13 : Try.f13.ntmps = 24 := rfl
theorem rs13 : Try.f13.results.toList = [ResultVar.tmp 4] := rfl
theorem nt14 : Try.f14.ntmps = 18 := rfl
theorem rs14 : Try.f14.results.toList = [ResultVar.tmp 4] := rfl
theorem nt15 : Try.f15.ntmps = 45 := rfl
theorem rs15 : Try.f15.results.toList = [ResultVar.cell 4 41, ResultVar.tmp 5] := rfl
theorem nt16 : Try.f16.ntmps = 17 := rfl
theorem rs16 : Try.f16.results.toList = [ResultVar.cell 2 63] := rfl
theorem nt17 : Try.f17.ntmps = 19 := rfl
theorem rs17 : Try.f17.results.toList = [ResultVar.cell 2 67] := rfl
theorem nt18 : Try.f18.ntmps = 17 := rfl
theorem rs18 : Try.f18.results.toList = [ResultVar.cell 4 41, ResultVar.tmp 5] := rfl
theorem nt19 : Try.f19.ntmps = 26 := rfl
theorem rs19 : Try.f19.results.toList = [ResultVar.tmp 4] := rfl
theorem nt20 : Try.f20.ntmps = 23 := rfl
theorem rs20 : Try.f20.results.toList = [ResultVar.tmp 4] := rfl
theorem nt21 : Try.f21.ntmps = 27 := rfl
theorem rs21 : Try.f21.results.toList = [ResultVar.tmp 4] := rfl
theorem nt22 : Try.f22.ntmps = 18 := rfl
theorem rs22 : Try.f22.results.toList = [ResultVar.tmp 4] := rfl
theorem nt23 : Try.f23.ntmps = 14 := rfl
theorem rs23 : Try.f23.results.toList = [ResultVar.tmp 4] := rfl
theorem nt24 : Try.f24.ntmps = 10 := rfl
theorem rs24 : Try.f24.results.toList = [ResultVar.tmp 4] := rfl
theorem nt25 : Try.f25.ntmps = 12 := rfl
theorem rs25 : Try.f25.results.toList = [ResultVar.tmp 4] := rfl
theorem nt26 : Try.f26.ntmps = 28 := rfl
theorem rs26 : Try.f26.results.toList = [ResultVar.tmp 4] := rfl
theorem nt27 : Try.f27.ntmps = 27 := rfl
theorem rs27 : Try.f27.results.toList = [ResultVar.tmp 4] := rfl
theorem nt28 : Try.f28.ntmps = 19 := rfl
theorem rs28 : Try.f28.results.toList = [ResultVar.tmp 4] := rfl
theorem nt29 : Try.f29.ntmps = 27 := rfl
theorem rs29 : Try.f29.results.toList = [ResultVar.tmp 4] := rfl
theorem nt30 : Try.f30.ntmps = 14 := rfl
theorem rs30 : Try.f30.results.toList = [ResultVar.tmp 2] := rfl
theorem nt31 : Try.f31.ntmps = 15 := rfl
theorem rs31 : Try.f31.results.toList = [ResultVar.tmp 2] := rfl
theorem nt32 : Try.f32.ntmps = 25 := rfl
theorem rs32 : Try.f32.results.toList = [ResultVar.tmp 2] := rfl
theorem nt33 : Try.f33.ntmps = 40 := rfl
theorem rs33 : Try.f33.results.toList = [ResultVar.cell 4 83, ResultVar.tmp 5] := rfl
theorem nt34 : Try.f34.ntmps = 34 := rfl
theorem rs34 : Try.f34.results.toList = [ResultVar.tmp 6, ResultVar.tmp 7] := rfl
theorem nt35 : Try.f35.ntmps = 71 := rfl
theorem rs35 : Try.f35.results.toList = [ResultVar.tmp 6] := rfl
theorem nt36 : Try.f36.ntmps = 29 := rfl
theorem rs36 : Try.f36.results.toList = [ResultVar.tmp 4] := rfl
theorem nt37 : Try.f37.ntmps = 7 := rfl
theorem rs37 : Try.f37.results.toList = [ResultVar.tmp 2] := rfl
theorem nt38 : Try.f38.ntmps = 49 := rfl
theorem rs38 : Try.f38.results.toList = [ResultVar.tmp 6] := rfl
theorem nt39 : Try.f39.ntmps = 22 := rfl
theorem rs39 : Try.f39.results.toList = [ResultVar.tmp 2] := rfl
theorem nt40 : Try.f40.ntmps = 23 := rfl
theorem rs40 : Try.f40.results.toList = [ResultVar.tmp 2] := rfl
theorem nt41 : Try.f41.ntmps = 18 := rfl
theorem rs41 : Try.f41.results.toList = [ResultVar.cell 2 41] := rfl
theorem nt42 : Try.f42.ntmps = 23 := rfl
theorem rs42 : Try.f42.results.toList = [ResultVar.tmp 2] := rfl
theorem nt43 : Try.f43.ntmps = 5 := rfl
theorem rs43 : Try.f43.results.toList = [ResultVar.tmp 2] := rfl
theorem nt44 : Try.f44.ntmps = 15 := rfl
theorem rs44 : Try.f44.results.toList = [ResultVar.tmp 2] := rfl
theorem nt45 : Try.f45.ntmps = 24 := rfl
theorem rs45 : Try.f45.results.toList = [ResultVar.tmp 2] := rfl
theorem nt46 : Try.f46.ntmps = 28 := rfl
theorem rs46 : Try.f46.results.toList = [ResultVar.cell 4 83, ResultVar.tmp 5] := rfl
theorem nt47 : Try.f47.ntmps = 32 := rfl
theorem rs47 : Try.f47.results.toList = [ResultVar.tmp 6, ResultVar.tmp 7] := rfl
theorem nt48 : Try.f48.ntmps = 27 := rfl
theorem rs48 : Try.f48.results.toList = [ResultVar.tmp 2] := rfl
theorem nt49 : Try.f49.ntmps = 80 := rfl
theorem rs49 : Try.f49.results.toList = [ResultVar.tmp 6] := rfl
theorem nt50 : Try.f50.ntmps = 11 := rfl
theorem rs50 : Try.f50.results.toList = [ResultVar.tmp 4] := rfl
theorem nt51 : Try.f51.ntmps = 79 := rfl
theorem rs51 : Try.f51.results.toList = [ResultVar.tmp 8] := rfl
theorem nt52 : Try.f52.ntmps = 26 := rfl
theorem rs52 : Try.f52.results.toList = [ResultVar.tmp 4] := rfl
theorem nt53 : Try.f53.ntmps = 27 := rfl
theorem rs53 : Try.f53.results.toList = [ResultVar.tmp 4] := rfl
theorem nt54 : Try.f54.ntmps = 27 := rfl
theorem rs54 : Try.f54.results.toList = [ResultVar.tmp 4] := rfl
theorem nt55 : Try.f55.ntmps = 27 := rfl
theorem rs55 : Try.f55.results.toList = [ResultVar.tmp 4] := rfl
theorem nt56 : Try.f56.ntmps = 27 := rfl
theorem rs56 : Try.f56.results.toList = [ResultVar.tmp 4] := rfl
theorem nt57 : Try.f57.ntmps = 27 := rfl
theorem rs57 : Try.f57.results.toList = [ResultVar.tmp 4] := rfl
theorem nt58 : Try.f58.ntmps = 25 := rfl
theorem rs58 : Try.f58.results.toList = [ResultVar.cell 2 41] := rfl
theorem nt59 : Try.f59.ntmps = 43 := rfl
theorem rs59 : Try.f59.results.toList = [ResultVar.tmp 4] := rfl
theorem nt60 : Try.f60.ntmps = 23 := rfl
theorem rs60 : Try.f60.results.toList = [ResultVar.tmp 2] := rfl
theorem nt61 : Try.f61.ntmps = 23 := rfl
theorem rs61 : Try.f61.results.toList = [ResultVar.tmp 2] := rfl
theorem nt62 : Try.f62.ntmps = 23 := rfl
theorem rs62 : Try.f62.results.toList = [ResultVar.tmp 2] := rfl
theorem nt63 : Try.f63.ntmps = 36 := rfl
theorem rs63 : Try.f63.results.toList = [ResultVar.cell 4 41, ResultVar.tmp 5] := rfl
theorem nt64 : Try.f64.ntmps = 29 := rfl
theorem rs64 : Try.f64.results.toList = [ResultVar.cell 2 41] := rfl
theorem nt65 : Try.f65.ntmps = 27 := rfl
theorem rs65 : Try.f65.results.toList = [ResultVar.tmp 4] := rfl
theorem nt66 : Try.f66.ntmps = 27 := rfl
theorem rs66 : Try.f66.results.toList = [ResultVar.tmp 4] := rfl
theorem nt67 : Try.f67.ntmps = 27 := rfl
theorem rs67 : Try.f67.results.toList = [ResultVar.tmp 4] := rfl
theorem nt68 : Try.f68.ntmps = 27 := rfl
theorem rs68 : Try.f68.results.toList = [ResultVar.tmp 4] := rfl
theorem nt69 : Try.f69.ntmps = 14 := rfl
theorem rs69 : Try.f69.results.toList = [ResultVar.tmp 4] := rfl
theorem nt70 : Try.f70.ntmps = 94 := rfl
theorem rs70 : Try.f70.results.toList = [ResultVar.tmp 4] := rfl
theorem nt71 : Try.f71.ntmps = 28 := rfl
theorem rs71 : Try.f71.results.toList = [ResultVar.tmp 4] := rfl
theorem nt72 : Try.f72.ntmps = 53 := rfl
theorem rs72 : Try.f72.results.toList = [ResultVar.tmp 4] := rfl
theorem nt73 : Try.f73.ntmps = 42 := rfl
theorem rs73 : Try.f73.results.toList = [ResultVar.tmp 4] := rfl
theorem nt74 : Try.f74.ntmps = 50 := rfl
theorem rs74 : Try.f74.results.toList = [ResultVar.tmp 4] := rfl
theorem nt75 : Try.f75.ntmps = 26 := rfl
theorem rs75 : Try.f75.results.toList = [ResultVar.tmp 4] := rfl
theorem nt76 : Try.f76.ntmps = 27 := rfl
theorem rs76 : Try.f76.results.toList = [ResultVar.tmp 4] := rfl
theorem nt77 : Try.f77.ntmps = 18 := rfl
theorem rs77 : Try.f77.results.toList = [ResultVar.tmp 4] := rfl
theorem nt78 : Try.f78.ntmps = 9 := rfl
theorem rs78 : Try.f78.results.toList = [ResultVar.tmp 2] := rfl
theorem nt79 : Try.f79.ntmps = 25 := rfl
theorem rs79 : Try.f79.results.toList = [ResultVar.tmp 2] := rfl
theorem nt80 : Try.f80.ntmps = 27 := rfl
theorem rs80 : Try.f80.results.toList = [ResultVar.tmp 4] := rfl
theorem nt81 : Try.f81.ntmps = 22 := rfl
theorem rs81 : Try.f81.results.toList = [ResultVar.tmp 2] := rfl
theorem nt82 : Try.f82.ntmps = 20 := rfl
theorem rs82 : Try.f82.results.toList = [ResultVar.tmp 2] := rfl
theorem nt83 : Try.f83.ntmps = 13 := rfl
theorem rs83 : Try.f83.results.toList = [ResultVar.tmp 2] := rfl
theorem nt84 : Try.f84.ntmps = 93 := rfl
theorem rs84 : Try.f84.results.toList = [ResultVar.tmp 8, ResultVar.tmp 9] := rfl
theorem nt85 : Try.f85.ntmps = 24 := rfl
theorem rs85 : Try.f85.results.toList = [ResultVar.tmp 4] := rfl
theorem nt86 : Try.f86.ntmps = 19 := rfl
theorem rs86 : Try.f86.results.toList = [ResultVar.tmp 4] := rfl
theorem nt87 : Try.f87.ntmps = 64 := rfl
theorem rs87 : Try.f87.results.toList = [ResultVar.tmp 2] := rfl
theorem nt88 : Try.f88.ntmps = 29 := rfl
theorem rs88 : Try.f88.results.toList = [ResultVar.tmp 4] := rfl
theorem nt89 : Try.f89.ntmps = 10 := rfl
theorem rs89 : Try.f89.results.toList = [ResultVar.tmp 2] := rfl
theorem nt90 : Try.f90.ntmps = 15 := rfl
theorem rs90 : Try.f90.results.toList = [ResultVar.cell 2 83] := rfl
theorem nt91 : Try.f91.ntmps = 23 := rfl
theorem rs91 : Try.f91.results.toList = [ResultVar.tmp 2] := rfl
theorem nt92 : Try.f92.ntmps = 16 := rfl
theorem rs92 : Try.f92.results.toList = [ResultVar.cell 2 94] := rfl
theorem nt93 : Try.f93.ntmps = 56 := rfl
theorem rs93 : Try.f93.results.toList = [ResultVar.tmp 6] := rfl
theorem nt94 : Try.f94.ntmps = 19 := rfl
theorem rs94 : Try.f94.results.toList = [ResultVar.tmp 2] := rfl
theorem nt95 : Try.f95.ntmps = 20 := rfl
theorem rs95 : Try.f95.results.toList = [ResultVar.tmp 2] := rfl
theorem nt96 : Try.f96.ntmps = 49 := rfl
theorem rs96 : Try.f96.results.toList = [ResultVar.tmp 2] := rfl
theorem nt97 : Try.f97.ntmps = 13 := rfl
theorem rs97 : Try.f97.results.toList = [ResultVar.tmp 2] := rfl
theorem nt98 : Try.f98.ntmps = 11 := rfl
theorem rs98 : Try.f98.results.toList = [ResultVar.cell 2 83] := rfl
theorem nt99 : Try.f99.ntmps = 84 := rfl
theorem rs99 : Try.f99.results.toList = [ResultVar.tmp 8, ResultVar.tmp 9] := rfl
theorem nt100 : Try.f100.ntmps = 24 := rfl
theorem rs100 : Try.f100.results.toList = [ResultVar.tmp 4] := rfl
theorem nt101 : Try.f101.ntmps = 9 := rfl
theorem rs101 : Try.f101.results.toList = [ResultVar.tmp 2] := rfl
theorem nt102 : Try.f102.ntmps = 21 := rfl
theorem rs102 : Try.f102.results.toList = [ResultVar.tmp 4] := rfl
theorem nt103 : Try.f103.ntmps = 22 := rfl
theorem rs103 : Try.f103.results.toList = [ResultVar.tmp 4] := rfl
theorem nt104 : Try.f104.ntmps = 13 := rfl
theorem rs104 : Try.f104.results.toList = [ResultVar.tmp 4] := rfl
theorem nt105 : Try.f105.ntmps = 12 := rfl
theorem rs105 : Try.f105.results.toList = [ResultVar.tmp 4] := rfl
theorem nt106 : Try.f106.ntmps = 33 := rfl
theorem rs106 : Try.f106.results.toList = [ResultVar.tmp 4] := rfl
theorem nt107 : Try.f107.ntmps = 15 := rfl
theorem rs107 : Try.f107.results.toList = [ResultVar.tmp 6] := rfl
theorem nt108 : Try.f108.ntmps = 11 := rfl
theorem rs108 : Try.f108.results.toList = [ResultVar.cell 2 155] := rfl
theorem nt109 : Try.f109.ntmps = 12 := rfl
theorem rs109 : Try.f109.results.toList = [ResultVar.cell 2 110] := rfl
theorem nt110 : Try.f110.ntmps = 53 := rfl
theorem rs110 : Try.f110.results.toList = [ResultVar.cell 6 41, ResultVar.tmp 7] := rfl
theorem nt111 : Try.f111.ntmps = 15 := rfl
theorem rs111 : Try.f111.results.toList = [ResultVar.tmp 4] := rfl
theorem nt112 : Try.f112.ntmps = 16 := rfl
theorem rs112 : Try.f112.results.toList = [ResultVar.tmp 4] := rfl
theorem nt113 : Try.f113.ntmps = 20 := rfl
theorem rs113 : Try.f113.results.toList = [ResultVar.tmp 4] := rfl
theorem nt114 : Try.f114.ntmps = 36 := rfl
theorem rs114 : Try.f114.results.toList = [ResultVar.tmp 4] := rfl
theorem nt115 : Try.f115.ntmps = 20 := rfl
theorem rs115 : Try.f115.results.toList = [ResultVar.tmp 2] := rfl
theorem nt116 : Try.f116.ntmps = 86 := rfl
theorem rs116 : Try.f116.results.toList = [ResultVar.tmp 4] := rfl
theorem nt117 : Try.f117.ntmps = 9 := rfl
theorem rs117 : Try.f117.results.toList = [ResultVar.tmp 2] := rfl
theorem nt118 : Try.f118.ntmps = 10 := rfl
theorem rs118 : Try.f118.results.toList = [ResultVar.tmp 4] := rfl
theorem nt119 : Try.f119.ntmps = 47 := rfl
theorem rs119 : Try.f119.results.toList = [ResultVar.tmp 2] := rfl
theorem nt120 : Try.f120.ntmps = 5 := rfl
theorem rs120 : Try.f120.results.toList = [ResultVar.tmp 2] := rfl
theorem nt121 : Try.f121.ntmps = 27 := rfl
theorem rs121 : Try.f121.results.toList = [ResultVar.tmp 2] := rfl
theorem nt122 : Try.f122.ntmps = 8 := rfl
theorem rs122 : Try.f122.results.toList = [ResultVar.tmp 2] := rfl
theorem nt123 : Try.f123.ntmps = 9 := rfl
theorem rs123 : Try.f123.results.toList = [ResultVar.tmp 4] := rfl
theorem nt124 : Try.f124.ntmps = 12 := rfl
theorem rs124 : Try.f124.results.toList = [ResultVar.tmp 4] := rfl
theorem nt125 : Try.f125.ntmps = 17 := rfl
theorem rs125 : Try.f125.results.toList = [ResultVar.cell 6 41] := rfl
theorem nt126 : Try.f126.ntmps = 19 := rfl
theorem rs126 : Try.f126.results.toList = [ResultVar.tmp 2] := rfl
theorem nt127 : Try.f127.ntmps = 19 := rfl
theorem rs127 : Try.f127.results.toList = [ResultVar.tmp 4] := rfl
theorem nt128 : Try.f128.ntmps = 26 := rfl
theorem rs128 : Try.f128.results.toList = [ResultVar.tmp 4] := rfl
theorem nt129 : Try.f129.ntmps = 8 := rfl
theorem rs129 : Try.f129.results.toList = [ResultVar.tmp 2] := rfl
attribute [go_sem] tb2 tb3 tb4 tb5 tb9 tb12 tb13 tb20 tb21 tb22 tb23 tb24 tb25 tb26 tb27 tb28 tb29 tb30 tb31 tb35 tb36 tb37 tb39 tb40 tb41 tb42 tb43 tb44 tb49 tb50 tb51 tb52 tb53 tb54 tb55 tb60 tb61 tb62 tb63 tb65 tb66 tb67 tb82 tb83 tb86 tb93 tb94 tb109 tb110 tb124 tb127 tb128 tb141 tb142 tb147 tb148 tb150 tb151 tb152 tb155 tb167 tb176 tb180 nt3 rs3 nt4 rs4 nt5 rs5 nt6 rs6 nt7 rs7 nt8 rs8 nt9 rs9 nt10 rs10 nt11 rs11 nt12 rs12 nt13 rs13 nt14 rs14 nt15 rs15 nt16 rs16 nt17 rs17 nt18 rs18 nt19 rs19 nt20 rs20 nt21 rs21 nt22 rs22 nt23 rs23 nt24 rs24 nt25 rs25 nt26 rs26 nt27 rs27 nt28 rs28 nt29 rs29 nt30 rs30 nt31 rs31 nt32 rs32 nt33 rs33 nt34 rs34 nt35 rs35 nt36 rs36 nt37 rs37 nt38 rs38 nt39 rs39 nt40 rs40 nt41 rs41 nt42 rs42 nt43 rs43 nt44 rs44 nt45 rs45 nt46 rs46 nt47 rs47 nt48 rs48 nt49 rs49 nt50 rs50 nt51 rs51 nt52 rs52 nt53 rs53 nt54 rs54 nt55 rs55 nt56 rs56 nt57 rs57 nt58 rs58 nt59 rs59 nt60 rs60 nt61 rs61 nt62 rs62 nt63 rs63 nt64 rs64 nt65 rs65 nt66 rs66 nt67 rs67 nt68 rs68 nt69 rs69 nt70 rs70 nt71 rs71 nt72 rs72 nt73 rs73 nt74 rs74 nt75 rs75 nt76 rs76 nt77 rs77 nt78 rs78 nt79 rs79 nt80 rs80 nt81 rs81 nt82 rs82 nt83 rs83 nt84 rs84 nt85 rs85 nt86 rs86 nt87 rs87 nt88 rs88 nt89 rs89 nt90 rs90 nt91 rs91 nt92 rs92 nt93 rs93 nt94 rs94 nt95 rs95 nt96 rs96 nt97 rs97 nt98 rs98 nt99 rs99 nt100 rs100 nt101 rs101 nt102 rs102 nt103 rs103 nt104 rs104 nt105 rs105 nt106 rs106 nt107 rs107 nt108 rs108 nt109 rs109 nt110 rs110 nt111 rs111 nt112 rs112 nt113 rs113 nt114 rs114 nt115 rs115 nt116 rs116 nt117 rs117 nt118 rs118 nt119 rs119 nt120 rs120 nt121 rs121 nt122 rs122 nt123 rs123 nt124 rs124 nt125 rs125 nt126 rs126 nt127 rs127 nt128 rs128 nt129 rs129
end Go.Ai
