/- The laws. -/
import Derived.Test.YthaghkakjaengaaAiC3
namespace Go.Ai
set_option linter.unusedVariables false
set_option linter.unusedSimpArgs false
open Go.Proofs Go.RowKit Go.ChangeShapes
set_option maxRecDepth 100000

theorem lawEqualSymbolic_sat (x y : GSymbolic) (hx : x.wf) (hy : y.wf) : Sat Try.prog 7 [aggV x.enc, aggV y.enc] (boolV true) := by
  refine sat_of_code tbOk mixed Try.func7 rfl rfl rfl (by decide +kernel) (by decide +kernel) (Nat.le_of_ble_eq_true rfl) ?_
  simp -implicitDefEqProofs (disch := omega) only [go_sem, ↓reduceIte, reduceCtorEq, Nat.reduceEqDiff, Nat.reduceLT, Nat.reduceLeDiff, Nat.reduceAdd, Nat.reduceSub, Nat.reduceMul, IntWalk.i64_in, AV.one.injEq, AC.c.injEq, C.v.injEq, Value.int.injEq, Value.bool.injEq, beq_self_eq_true, bne_self_eq_false]
  refine CallK.mk (szSymbolic_sat x hx 1048576 (by omega) (by omega)) ?_
  simp -implicitDefEqProofs (disch := omega) only [go_sem, ↓reduceIte, reduceCtorEq, Nat.reduceEqDiff, Nat.reduceLT, Nat.reduceLeDiff, Nat.reduceAdd, Nat.reduceSub, Nat.reduceMul, IntWalk.i64_in, AV.one.injEq, AC.c.injEq, C.v.injEq, Value.int.injEq, Value.bool.injEq, beq_self_eq_true, bne_self_eq_false]
  intro h
  have hs : x.size < 1048577 := by grind [szR]
  refine CallK.mk (szSymbolic_sat y hy _ (by grind [szR]) (by grind [szR])) ?_
  simp -implicitDefEqProofs (disch := omega) only [go_sem, ↓reduceIte, reduceCtorEq, Nat.reduceEqDiff, Nat.reduceLT, Nat.reduceLeDiff, Nat.reduceAdd, Nat.reduceSub, Nat.reduceMul, IntWalk.i64_in, AV.one.injEq, AC.c.injEq, C.v.injEq, Value.int.injEq, Value.bool.injEq, beq_self_eq_true, bne_self_eq_false]
  intro h2
  have hs2 : y.size < 1048577 := by grind [szR]
  refine CallK.mk (toSymbolic_sat x hs) ?_
  simp -implicitDefEqProofs (disch := omega) only [go_sem, ↓reduceIte, reduceCtorEq, Nat.reduceEqDiff, Nat.reduceLT, Nat.reduceLeDiff, Nat.reduceAdd, Nat.reduceSub, Nat.reduceMul, IntWalk.i64_in, AV.one.injEq, AC.c.injEq, C.v.injEq, Value.int.injEq, Value.bool.injEq, beq_self_eq_true, bne_self_eq_false, GSymbolic.eqb_refl]
  refine CallK.mk (toSymbolic_sat y hs2) ?_
  simp -implicitDefEqProofs (disch := omega) only [go_sem, ↓reduceIte, reduceCtorEq, Nat.reduceEqDiff, Nat.reduceLT, Nat.reduceLeDiff, Nat.reduceAdd, Nat.reduceSub, Nat.reduceMul, IntWalk.i64_in, AV.one.injEq, AC.c.injEq, C.v.injEq, Value.int.injEq, Value.bool.injEq, beq_self_eq_true, bne_self_eq_false, GSymbolic.eqb_refl]
  refine CallK.mk (specEqualSymbolic_sat x hx y) ?_
  simp -implicitDefEqProofs (disch := omega) only [go_sem, ↓reduceIte, reduceCtorEq, Nat.reduceEqDiff, Nat.reduceLT, Nat.reduceLeDiff, Nat.reduceAdd, Nat.reduceSub, Nat.reduceMul, IntWalk.i64_in, AV.one.injEq, AC.c.injEq, C.v.injEq, Value.int.injEq, Value.bool.injEq, beq_self_eq_true, bne_self_eq_false, GSymbolic.eqb_refl]
  refine CallK.mk (toSymbolic_sat x hs) ?_
  simp -implicitDefEqProofs (disch := omega) only [go_sem, ↓reduceIte, reduceCtorEq, Nat.reduceEqDiff, Nat.reduceLT, Nat.reduceLeDiff, Nat.reduceAdd, Nat.reduceSub, Nat.reduceMul, IntWalk.i64_in, AV.one.injEq, AC.c.injEq, C.v.injEq, Value.int.injEq, Value.bool.injEq, beq_self_eq_true, bne_self_eq_false, GSymbolic.eqb_refl]
  refine CallK.mk (toSymbolic_sat y hs2) ?_
  simp -implicitDefEqProofs (disch := omega) only [go_sem, ↓reduceIte, reduceCtorEq, Nat.reduceEqDiff, Nat.reduceLT, Nat.reduceLeDiff, Nat.reduceAdd, Nat.reduceSub, Nat.reduceMul, IntWalk.i64_in, AV.one.injEq, AC.c.injEq, C.v.injEq, Value.int.injEq, Value.bool.injEq, beq_self_eq_true, bne_self_eq_false, GSymbolic.eqb_refl]
  refine CallK.mk (implEqualSymbolic_sat x hx y) ?_
  simp -implicitDefEqProofs (disch := omega) only [go_sem, ↓reduceIte, reduceCtorEq, Nat.reduceEqDiff, Nat.reduceLT, Nat.reduceLeDiff, Nat.reduceAdd, Nat.reduceSub, Nat.reduceMul, IntWalk.i64_in, AV.one.injEq, AC.c.injEq, C.v.injEq, Value.int.injEq, Value.bool.injEq, beq_self_eq_true, bne_self_eq_false, GSymbolic.eqb_refl]
  refine CallK.mk (toSymbolic_sat x hs) ?_
  simp -implicitDefEqProofs (disch := omega) only [go_sem, ↓reduceIte, reduceCtorEq, Nat.reduceEqDiff, Nat.reduceLT, Nat.reduceLeDiff, Nat.reduceAdd, Nat.reduceSub, Nat.reduceMul, IntWalk.i64_in, AV.one.injEq, AC.c.injEq, C.v.injEq, Value.int.injEq, Value.bool.injEq, beq_self_eq_true, bne_self_eq_false, GSymbolic.eqb_refl]
  refine CallK.mk (eqSymbolic_sat x hx x) ?_
  simp -implicitDefEqProofs (disch := omega) only [go_sem, ↓reduceIte, reduceCtorEq, Nat.reduceEqDiff, Nat.reduceLT, Nat.reduceLeDiff, Nat.reduceAdd, Nat.reduceSub, Nat.reduceMul, IntWalk.i64_in, AV.one.injEq, AC.c.injEq, C.v.injEq, Value.int.injEq, Value.bool.injEq, beq_self_eq_true, bne_self_eq_false, GSymbolic.eqb_refl]
  refine CallK.mk (toSymbolic_sat y hs2) ?_
  simp -implicitDefEqProofs (disch := omega) only [go_sem, ↓reduceIte, reduceCtorEq, Nat.reduceEqDiff, Nat.reduceLT, Nat.reduceLeDiff, Nat.reduceAdd, Nat.reduceSub, Nat.reduceMul, IntWalk.i64_in, AV.one.injEq, AC.c.injEq, C.v.injEq, Value.int.injEq, Value.bool.injEq, beq_self_eq_true, bne_self_eq_false, GSymbolic.eqb_refl]
  refine CallK.mk (eqSymbolic_sat y hy y) ?_
  simp -implicitDefEqProofs (disch := omega) only [go_sem, ↓reduceIte, reduceCtorEq, Nat.reduceEqDiff, Nat.reduceLT, Nat.reduceLeDiff, Nat.reduceAdd, Nat.reduceSub, Nat.reduceMul, IntWalk.i64_in, AV.one.injEq, AC.c.injEq, C.v.injEq, Value.int.injEq, Value.bool.injEq, beq_self_eq_true, bne_self_eq_false, GSymbolic.eqb_refl]
end Go.Ai
