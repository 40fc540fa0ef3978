/- The types' table of this seat's program, and what its functions give back. Written by mkseat.py. -/
import Derived.Test.YtkcfegkfbijedaaAiRead
import Derived.Test.YtkcfegkfbijedaaProg
import Derived.KernelRfl
namespace Go.Ai
set_option linter.unusedVariables false
set_option linter.unusedSimpArgs false
open Go.Proofs
set_option maxRecDepth 100000
def Tb : Tab := tabOf [
  (2, { d := TyD.int IntKind.i64, size := 1, bytes := 8, zero := [AC.c (C.v (Value.int IntKind.i64 0))] }),
  (3, { d := TyD.int IntKind.i64, size := 1, bytes := 8, zero := [AC.c (C.v (Value.int IntKind.i64 0))] }),
  (4, { d := TyD.bool, size := 1, bytes := 1, zero := [AC.c (C.v (Value.bool false))] }),
  (5, { d := TyD.int IntKind.u8, size := 1, bytes := 1, zero := [AC.c (C.v (Value.int IntKind.u8 0))] }),
  (9, { d := TyD.str, size := 1, bytes := 16, zero := [AC.c (C.v (Value.string ⟨⟨[]⟩⟩))] }),
  (12, { d := TyD.int IntKind.u64, size := 1, bytes := 8, zero := [AC.c (C.v (Value.int IntKind.u64 0))] }),
  (13, { d := TyD.struct [(0, 1), (1, 1)] none, size := 2, bytes := 24, zero := [AC.c (C.v (Value.string ⟨⟨[]⟩⟩)), AC.c (C.v (Value.int IntKind.u64 0))] }),
  (20, { d := TyD.iface, size := 1, bytes := 16, zero := [AC.c (C.v Value.nilIface)] }),
  (21, { d := TyD.int IntKind.i32, size := 1, bytes := 4, zero := [AC.c (C.v (Value.int IntKind.i32 0))] }),
  (22, { d := TyD.slice 62, size := 1, bytes := 24, zero := [AC.nil] }),
  (23, { d := TyD.slice 66, size := 1, bytes := 24, zero := [AC.nil] }),
  (24, { d := TyD.struct [(0, 1), (1, 1), (2, 1)] none, size := 3, bytes := 56, zero := [AC.nil, AC.nil, AC.c (C.v (Value.bool false))] }),
  (25, { d := TyD.struct [(0, 1), (1, 1), (2, 1)] none, size := 3, bytes := 56, zero := [AC.nil, AC.nil, AC.c (C.v (Value.bool false))] }),
  (27, { d := TyD.slice 45, size := 1, bytes := 24, zero := [AC.nil] }),
  (30, { d := TyD.slice 68, size := 1, bytes := 24, zero := [AC.nil] }),
  (31, { d := TyD.slice 47, size := 1, bytes := 24, zero := [AC.nil] }),
  (32, { d := TyD.struct [(0, 1), (1, 1), (2, 1)] none, size := 3, bytes := 56, zero := [AC.nil, AC.nil, AC.c (C.v (Value.bool false))] }),
  (33, { d := TyD.struct [(0, 1), (1, 1), (2, 1)] none, size := 3, bytes := 56, zero := [AC.nil, AC.nil, AC.c (C.v (Value.bool false))] }),
  (43, { d := TyD.slice 3, size := 1, bytes := 24, zero := [AC.nil] }),
  (44, { d := TyD.struct [(0, 1), (1, 1)] none, size := 2, bytes := 32, zero := [AC.c (C.v (Value.int IntKind.i64 0)), AC.nil] }),
  (45, { d := TyD.struct [(0, 1), (1, 1)] none, size := 2, bytes := 32, zero := [AC.c (C.v (Value.int IntKind.i64 0)), AC.nil] }),
  (46, { d := TyD.struct [(0, 1), (1, 1), (2, 2)] none, size := 4, bytes := 48, zero := [AC.c (C.v (Value.int IntKind.i64 0)), AC.c (C.v (Value.int IntKind.i64 0)), AC.c (C.v (Value.int IntKind.i64 0)), AC.nil] }),
  (47, { d := TyD.struct [(0, 1), (1, 1), (2, 2)] none, size := 4, bytes := 48, zero := [AC.c (C.v (Value.int IntKind.i64 0)), AC.c (C.v (Value.int IntKind.i64 0)), AC.c (C.v (Value.int IntKind.i64 0)), AC.nil] }),
  (61, { d := TyD.struct [(0, 1), (1, 1), (2, 1), (3, 1)] none, size := 4, bytes := 56, zero := [AC.c (C.v (Value.int IntKind.i64 0)), AC.c (C.v (Value.int IntKind.i64 0)), AC.c (C.v (Value.string ⟨⟨[]⟩⟩)), AC.nil] }),
  (62, { d := TyD.struct [(0, 1), (1, 1), (2, 1), (3, 1)] none, size := 4, bytes := 56, zero := [AC.c (C.v (Value.int IntKind.i64 0)), AC.c (C.v (Value.int IntKind.i64 0)), AC.c (C.v (Value.string ⟨⟨[]⟩⟩)), AC.nil] }),
  (64, { d := TyD.struct [(0, 1), (1, 1)] none, size := 2, bytes := 32, zero := [AC.c (C.v (Value.int IntKind.i64 0)), AC.nil] }),
  (65, { d := TyD.struct [(0, 1), (1, 1), (2, 2)] none, size := 4, bytes := 48, zero := [AC.c (C.v (Value.int IntKind.i64 0)), AC.c (C.v (Value.int IntKind.i64 0)), AC.c (C.v (Value.int IntKind.i64 0)), AC.nil] }),
  (66, { d := TyD.struct [(0, 1), (1, 1), (2, 2)] none, size := 4, bytes := 48, zero := [AC.c (C.v (Value.int IntKind.i64 0)), AC.c (C.v (Value.int IntKind.i64 0)), AC.c (C.v (Value.int IntKind.i64 0)), AC.nil] }),
  (67, { d := TyD.struct [(0, 1), (1, 1), (2, 1), (3, 1)] none, size := 4, bytes := 56, zero := [AC.c (C.v (Value.int IntKind.i64 0)), AC.c (C.v (Value.int IntKind.i64 0)), AC.c (C.v (Value.string ⟨⟨[]⟩⟩)), AC.nil] }),
  (68, { d := TyD.struct [(0, 1), (1, 1), (2, 1), (3, 1)] none, size := 4, bytes := 56, zero := [AC.c (C.v (Value.int IntKind.i64 0)), AC.c (C.v (Value.int IntKind.i64 0)), AC.c (C.v (Value.string ⟨⟨[]⟩⟩)), AC.nil] }),
  (78, { d := TyD.slice 5, size := 1, bytes := 24, zero := [AC.nil] }),
  (86, { d := TyD.int IntKind.u32, size := 1, bytes := 4, zero := [AC.c (C.v (Value.int IntKind.u32 0))] }),
  (90, { d := TyD.ptr, size := 1, bytes := 8, zero := [AC.c (C.v (Value.pointer none))] })]
theorem tbOk : TabOk Try.prog Tb := tabOk_of _ _ ⟨by kernel_rfl, by kernel_rfl, by kernel_rfl, by kernel_rfl, by kernel_rfl, by kernel_rfl, by kernel_rfl, by kernel_rfl, by kernel_rfl, by kernel_rfl, by kernel_rfl, by kernel_rfl, by kernel_rfl, by kernel_rfl, by kernel_rfl, by kernel_rfl, by kernel_rfl, by kernel_rfl, by kernel_rfl, by kernel_rfl, by kernel_rfl, by kernel_rfl, by kernel_rfl, by kernel_rfl, by kernel_rfl, by kernel_rfl, by kernel_rfl, by kernel_rfl, by kernel_rfl, by kernel_rfl, by kernel_rfl, by kernel_rfl, by kernel_rfl, trivial⟩
theorem mixed : Try.prog.follows .mixedOrders = true := by kernel_rfl
theorem tb2 : Tb 2 = some { d := TyD.int IntKind.i64, size := 1, bytes := 8, zero := [AC.c (C.v (Value.int IntKind.i64 0))] } := rfl
theorem tb3 : Tb 3 = some { d := TyD.int IntKind.i64, size := 1, bytes := 8, zero := [AC.c (C.v (Value.int IntKind.i64 0))] } := rfl
theorem tb4 : Tb 4 = some { d := TyD.bool, size := 1, bytes := 1, zero := [AC.c (C.v (Value.bool false))] } := rfl
theorem tb5 : Tb 5 = some { d := TyD.int IntKind.u8, size := 1, bytes := 1, zero := [AC.c (C.v (Value.int IntKind.u8 0))] } := rfl
theorem tb9 : Tb 9 = some { d := TyD.str, size := 1, bytes := 16, zero := [AC.c (C.v (Value.string ⟨⟨[]⟩⟩))] } := rfl
theorem tb12 : Tb 12 = some { d := TyD.int IntKind.u64, size := 1, bytes := 8, zero := [AC.c (C.v (Value.int IntKind.u64 0))] } := rfl
theorem tb13 : Tb 13 = some { d := TyD.struct [(0, 1), (1, 1)] none, size := 2, bytes := 24, zero := [AC.c (C.v (Value.string ⟨⟨[]⟩⟩)), AC.c (C.v (Value.int IntKind.u64 0))] } := rfl
theorem tb20 : Tb 20 = some { d := TyD.iface, size := 1, bytes := 16, zero := [AC.c (C.v Value.nilIface)] } := rfl
theorem tb21 : Tb 21 = some { d := TyD.int IntKind.i32, size := 1, bytes := 4, zero := [AC.c (C.v (Value.int IntKind.i32 0))] } := rfl
theorem tb22 : Tb 22 = some { d := TyD.slice 62, size := 1, bytes := 24, zero := [AC.nil] } := rfl
theorem tb23 : Tb 23 = some { d := TyD.slice 66, size := 1, bytes := 24, zero := [AC.nil] } := rfl
theorem tb24 : Tb 24 = some { d := TyD.struct [(0, 1), (1, 1), (2, 1)] none, size := 3, bytes := 56, zero := [AC.nil, AC.nil, AC.c (C.v (Value.bool false))] } := rfl
theorem tb25 : Tb 25 = some { d := TyD.struct [(0, 1), (1, 1), (2, 1)] none, size := 3, bytes := 56, zero := [AC.nil, AC.nil, AC.c (C.v (Value.bool false))] } := rfl
theorem tb27 : Tb 27 = some { d := TyD.slice 45, size := 1, bytes := 24, zero := [AC.nil] } := rfl
theorem tb30 : Tb 30 = some { d := TyD.slice 68, size := 1, bytes := 24, zero := [AC.nil] } := rfl
theorem tb31 : Tb 31 = some { d := TyD.slice 47, size := 1, bytes := 24, zero := [AC.nil] } := rfl
theorem tb32 : Tb 32 = some { d := TyD.struct [(0, 1), (1, 1), (2, 1)] none, size := 3, bytes := 56, zero := [AC.nil, AC.nil, AC.c (C.v (Value.bool false))] } := rfl
theorem tb33 : Tb 33 = some { d := TyD.struct [(0, 1), (1, 1), (2, 1)] none, size := 3, bytes := 56, zero := [AC.nil, AC.nil, AC.c (C.v (Value.bool false))] } := rfl
theorem tb43 : Tb 43 = some { d := TyD.slice 3, size := 1, bytes := 24, zero := [AC.nil] } := rfl
theorem tb44 : Tb 44 = some { d := TyD.struct [(0, 1), (1, 1)] none, size := 2, bytes := 32, zero := [AC.c (C.v (Value.int IntKind.i64 0)), AC.nil] } := rfl
theorem tb45 : Tb 45 = some { d := TyD.struct [(0, 1), (1, 1)] none, size := 2, bytes := 32, zero := [AC.c (C.v (Value.int IntKind.i64 0)), AC.nil] } := rfl
theorem tb46 : Tb 46 = some { d := TyD.struct [(0, 1), (1, 1), (2, 2)] none, size := 4, bytes := 48, zero := [AC.c (C.v (Value.int IntKind.i64 0)), AC.c (C.v (Value.int IntKind.i64 0)), AC.c (C.v (Value.int IntKind.i64 0)), AC.nil] } := rfl
theorem tb47 : Tb 47 = some { d := TyD.struct [(0, 1), (1, 1), (2, 2)] none, size := 4, bytes := 48, zero := [AC.c (C.v (Value.int IntKind.i64 0)), AC.c (C.v (Value.int IntKind.i64 0)), AC.c (C.v (Value.int IntKind.i64 0)), AC.nil] } := rfl
theorem tb61 : Tb 61 = some { d := TyD.struct [(0, 1), (1, 1), (2, 1), (3, 1)] none, size := 4, bytes := 56, zero := [AC.c (C.v (Value.int IntKind.i64 0)), AC.c (C.v (Value.int IntKind.i64 0)), AC.c (C.v (Value.string ⟨⟨[]⟩⟩)), AC.nil] } := rfl
theorem tb62 : Tb 62 = some { d := TyD.struct [(0, 1), (1, 1), (2, 1), (3, 1)] none, size := 4, bytes := 56, zero := [AC.c (C.v (Value.int IntKind.i64 0)), AC.c (C.v (Value.int IntKind.i64 0)), AC.c (C.v (Value.string ⟨⟨[]⟩⟩)), AC.nil] } := rfl
theorem tb64 : Tb 64 = some { d := TyD.struct [(0, 1), (1, 1)] none, size := 2, bytes := 32, zero := [AC.c (C.v (Value.int IntKind.i64 0)), AC.nil] } := rfl
theorem tb65 : Tb 65 = some { d := TyD.struct [(0, 1), (1, 1), (2, 2)] none, size := 4, bytes := 48, zero := [AC.c (C.v (Value.int IntKind.i64 0)), AC.c (C.v (Value.int IntKind.i64 0)), AC.c (C.v (Value.int IntKind.i64 0)), AC.nil] } := rfl
theorem tb66 : Tb 66 = some { d := TyD.struct [(0, 1), (1, 1), (2, 2)] none, size := 4, bytes := 48, zero := [AC.c (C.v (Value.int IntKind.i64 0)), AC.c (C.v (Value.int IntKind.i64 0)), AC.c (C.v (Value.int IntKind.i64 0)), AC.nil] } := rfl
theorem tb67 : Tb 67 = some { d := TyD.struct [(0, 1), (1, 1), (2, 1), (3, 1)] none, size := 4, bytes := 56, zero := [AC.c (C.v (Value.int IntKind.i64 0)), AC.c (C.v (Value.int IntKind.i64 0)), AC.c (C.v (Value.string ⟨⟨[]⟩⟩)), AC.nil] } := rfl
theorem tb68 : Tb 68 = some { d := TyD.struct [(0, 1), (1, 1), (2, 1), (3, 1)] none, size := 4, bytes := 56, zero := [AC.c (C.v (Value.int IntKind.i64 0)), AC.c (C.v (Value.int IntKind.i64 0)), AC.c (C.v (Value.string ⟨⟨[]⟩⟩)), AC.nil] } := rfl
theorem tb78 : Tb 78 = some { d := TyD.slice 5, size := 1, bytes := 24, zero := [AC.nil] } := rfl
theorem tb86 : Tb 86 = some { d := TyD.int IntKind.u32, size := 1, bytes := 4, zero := [AC.c (C.v (Value.int IntKind.u32 0))] } := rfl
theorem tb90 : Tb 90 = some { d := TyD.ptr, size := 1, bytes := 8, zero := [AC.c (C.v (Value.pointer none))] } := rfl
theorem nt3 : Try.f3.ntmps = 101 := rfl
theorem rs3 : Try.f3.results.toList = [ResultVar.tmp 4] := rfl
theorem nt4 : Try.f4.ntmps = 18 := rfl
theorem rs4 : Try.f4.results.toList = [ResultVar.tmp 4] := rfl
theorem nt5 : Try.f5.ntmps = 75 := rfl
theorem rs5 : Try.f5.results.toList = [ResultVar.tmp 4, ResultVar.tmp 5] := rfl
theorem nt6 : Try.f6.ntmps = 16 := rfl
theorem rs6 : Try.f6.results.toList = [ResultVar.cell 2 33] := rfl
theorem nt7 : Try.f7.ntmps = 63 := rfl
theorem rs7 : Try.f7.results.toList = [ResultVar.tmp 4, ResultVar.tmp 5] := rfl
theorem nt8 : Try.f8.ntmps = 27 := rfl
theorem rs8 : Try.f8.results.toList = [ResultVar.tmp 4] := rfl
theorem nt9 : Try.f9.ntmps = 22 := rfl
theorem rs9 : Try.f9.results.toList = [ResultVar.tmp 4] := rfl
theorem nt10 : Try.f10.ntmps = 14 := rfl
theorem rs10 : Try.f10.results.toList = [ResultVar.tmp 4] := rfl
theorem nt11 : Try.f11.ntmps = 27 := rfl
theorem rs11 : Try.f11.results.toList = [ResultVar.tmp 4] := rfl
theorem nt12 : Try.f12.ntmps = 31 := rfl
theorem rs12 : Try.f12.results.toList = [ResultVar.tmp 4] := rfl
theorem nt13 : Try.f13.ntmps = 27 := rfl
theorem rs13 : Try.f13.results.toList = [ResultVar.tmp 4] := rfl
theorem nt14 : Try.f14.ntmps = 27 := rfl
theorem rs14 : Try.f14.results.toList = [ResultVar.tmp 4] := rfl
theorem nt15 : Try.f15.ntmps = 15 := rfl
theorem rs15 : Try.f15.results.toList = [ResultVar.tmp 6] := rfl
theorem nt16 : Try.f16.ntmps = 23 := rfl
theorem rs16 : Try.f16.results.toList = [ResultVar.tmp 2] := rfl
theorem nt17 : Try.f17.ntmps = 23 := rfl
theorem rs17 : Try.f17.results.toList = [ResultVar.tmp 2] := rfl
theorem nt18 : Try.f18.ntmps = 19 := rfl
theorem rs18 : Try.f18.results.toList = [ResultVar.tmp 4] := rfl
theorem nt19 : Try.f19.ntmps = 8 := rfl
theorem rs19 : Try.f19.results.toList = [ResultVar.tmp 3] := rfl
theorem nt20 : Try.f20.ntmps = 28 := rfl
theorem rs20 : Try.f20.results.toList = [] := rfl
theorem nt21 : Try.f21.ntmps = 23 := rfl
theorem rs21 : Try.f21.results.toList = [ResultVar.tmp 2] := rfl
theorem nt22 : Try.f22.ntmps = 16 := rfl
theorem rs22 : Try.f22.results.toList = [ResultVar.tmp 4] := rfl
theorem nt23 : Try.f23.ntmps = 27 := rfl
theorem rs23 : Try.f23.results.toList = [ResultVar.tmp 4] := rfl
theorem nt24 : Try.f24.ntmps = 27 := rfl
theorem rs24 : Try.f24.results.toList = [ResultVar.tmp 4] := rfl
theorem nt25 : Try.f25.ntmps = 42 := rfl
theorem rs25 : Try.f25.results.toList = [ResultVar.tmp 4] := rfl
theorem nt26 : Try.f26.ntmps = 43 := rfl
theorem rs26 : Try.f26.results.toList = [ResultVar.tmp 4] := rfl
theorem nt27 : Try.f27.ntmps = 19 := rfl
theorem rs27 : Try.f27.results.toList = [ResultVar.tmp 4] := rfl
theorem nt28 : Try.f28.ntmps = 21 := rfl
theorem rs28 : Try.f28.results.toList = [ResultVar.tmp 4] := rfl
theorem nt29 : Try.f29.ntmps = 19 := rfl
theorem rs29 : Try.f29.results.toList = [ResultVar.tmp 4] := rfl
theorem nt30 : Try.f30.ntmps = 12 := rfl
theorem rs30 : Try.f30.results.toList = [ResultVar.tmp 4] := rfl
theorem nt31 : Try.f31.ntmps = 18 := rfl
theorem rs31 : Try.f31.results.toList = [ResultVar.cell 2 68] := rfl
theorem nt32 : Try.f32.ntmps = 15 := rfl
theorem rs32 : Try.f32.results.toList = [ResultVar.cell 2 47] := rfl
theorem nt33 : Try.f33.ntmps = 8 := rfl
theorem rs33 : Try.f33.results.toList = [ResultVar.tmp 2] := rfl
theorem nt34 : Try.f34.ntmps = 26 := rfl
theorem rs34 : Try.f34.results.toList = [ResultVar.tmp 4] := rfl
theorem nt35 : Try.f35.ntmps = 26 := rfl
theorem rs35 : Try.f35.results.toList = [ResultVar.tmp 4] := rfl
theorem nt36 : Try.f36.ntmps = 21 := rfl
theorem rs36 : Try.f36.results.toList = [ResultVar.tmp 4] := rfl
theorem nt37 : Try.f37.ntmps = 20 := rfl
theorem rs37 : Try.f37.results.toList = [ResultVar.tmp 2] := rfl
theorem nt38 : Try.f38.ntmps = 12 := rfl
theorem rs38 : Try.f38.results.toList = [ResultVar.tmp 4] := rfl
theorem nt39 : Try.f39.ntmps = 12 := rfl
theorem rs39 : Try.f39.results.toList = [ResultVar.cell 2 45] := rfl
theorem nt40 : Try.f40.ntmps = 12 := rfl
theorem rs40 : Try.f40.results.toList = [ResultVar.tmp 4] := rfl
theorem nt41 : Try.f41.ntmps = 22 := rfl
theorem rs41 : Try.f41.results.toList = [ResultVar.tmp 2] := rfl
attribute [go_sem] tb2 tb3 tb4 tb5 tb9 tb12 tb13 tb20 tb21 tb22 tb23 tb24 tb25 tb27 tb30 tb31 tb32 tb33 tb43 tb44 tb45 tb46 tb47 tb61 tb62 tb64 tb65 tb66 tb67 tb68 tb78 tb86 tb90 nt3 rs3 nt4 rs4 nt5 rs5 nt6 rs6 nt7 rs7 nt8 rs8 nt9 rs9 nt10 rs10 nt11 rs11 nt12 rs12 nt13 rs13 nt14 rs14 nt15 rs15 nt16 rs16 nt17 rs17 nt18 rs18 nt19 rs19 nt20 rs20 nt21 rs21 nt22 rs22 nt23 rs23 nt24 rs24 nt25 rs25 nt26 rs26 nt27 rs27 nt28 rs28 nt29 rs29 nt30 rs30 nt31 rs31 nt32 rs32 nt33 rs33 nt34 rs34 nt35 rs35 nt36 rs36 nt37 rs37 nt38 rs38 nt39 rs39 nt40 rs40 nt41 rs41
end Go.Ai
