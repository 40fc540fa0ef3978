/- Linear terms: IndexOf, AllDistinct, IsLinear; the law. -/
import Derived.Test.YtlaflibbnliefaaGreatAiT0
import Derived.Test.YtlaflibbnliefaaGreatAiT1
import Derived.Test.YtlaflibbnliefaaGreatAiM3
namespace Go.Ai
set_option linter.unusedVariables false
set_option linter.unusedSimpArgs false
open Go.Proofs Go.RowKit
set_option maxRecDepth 100000

theorem specIsLinear_sat (t : Tm) (h : t.size < 80000000) : Sat Tryz.prog 69 [tmV t] (boolV (distS t.vars)) := by
  have hv := vars_len t
  have hs := l3Vars_sat t [] (by simpa using (by omega : t.size < 90000000))
  rw [List.nil_append] at hs
  have hd := specAllDistinct_sat t.vars (by omega)
  generalize distS t.vars = r at hd ⊢
  generalize t.vars = vs at hv hs hd
  obtain ⟨k, n, s, ts⟩ := t
  refine sat_of_code tbOk mixed Tryz.func69 rfl rfl rfl (by decide +kernel) (by decide +kernel) (Nat.le_of_ble_eq_true rfl) ?_
  simp -implicitDefEqProofs (disch := omega) only [go_sem, ↓reduceIte, reduceCtorEq, Nat.reduceEqDiff, Nat.reduceLT, Nat.reduceLeDiff, Nat.reduceAdd, Nat.reduceSub, Nat.reduceMul, IntWalk.i64_in, AV.one.injEq, AC.c.injEq, C.v.injEq, Value.int.injEq, Value.bool.injEq, beq_self_eq_true, bne_self_eq_false, Tm.enc]
  refine CallK.acc 1 hs ⟨by simp [go_sem], rfl, rfl, rfl⟩ rfl ?_
  simp -implicitDefEqProofs (disch := omega) only [go_sem, ↓reduceIte, reduceCtorEq, Nat.reduceEqDiff, Nat.reduceLT, Nat.reduceLeDiff, Nat.reduceAdd, Nat.reduceSub, Nat.reduceMul, IntWalk.i64_in, AV.one.injEq, AC.c.injEq, C.v.injEq, Value.int.injEq, Value.bool.injEq, beq_self_eq_true, bne_self_eq_false, List.getElem?_cons_succ, List.getElem?_cons_zero, sR_toC]
  refine CallK.mk hd ?_
  simp -implicitDefEqProofs (disch := omega) only [go_sem, ↓reduceIte, reduceCtorEq, Nat.reduceEqDiff, Nat.reduceLT, Nat.reduceLeDiff, Nat.reduceAdd, Nat.reduceSub, Nat.reduceMul, IntWalk.i64_in, AV.one.injEq, AC.c.injEq, C.v.injEq, Value.int.injEq, Value.bool.injEq, beq_self_eq_true, bne_self_eq_false]
theorem implIsLinear_sat (t : Tm) (h : t.size < 80000000) : Sat Tryz.prog 68 [tmV t] (boolV (distS t.vars)) := by
  have hv := vars_len t
  have hs := namesIn_sat t h
  have hd := implAllDistinct_sat t.vars (by omega)
  rw [sortedLen_eq] at hd
  change Sat Tryz.prog 90 [slV (t.vars.map encS)] (boolV (distS t.vars)) at hd
  generalize distS t.vars = r at hd ⊢
  generalize t.vars = vs at hv hs hd
  obtain ⟨k, n, s, ts⟩ := t
  refine sat_of_code tbOk mixed Tryz.func68 rfl rfl rfl (by decide +kernel) (by decide +kernel) (Nat.le_of_ble_eq_true rfl) ?_
  simp -implicitDefEqProofs (disch := omega) only [go_sem, ↓reduceIte, reduceCtorEq, Nat.reduceEqDiff, Nat.reduceLT, Nat.reduceLeDiff, Nat.reduceAdd, Nat.reduceSub, Nat.reduceMul, IntWalk.i64_in, AV.one.injEq, AC.c.injEq, C.v.injEq, Value.int.injEq, Value.bool.injEq, beq_self_eq_true, bne_self_eq_false, Tm.enc]
  refine CallK.mk hs ?_
  simp -implicitDefEqProofs (disch := omega) only [go_sem, ↓reduceIte, reduceCtorEq, Nat.reduceEqDiff, Nat.reduceLT, Nat.reduceLeDiff, Nat.reduceAdd, Nat.reduceSub, Nat.reduceMul, IntWalk.i64_in, AV.one.injEq, AC.c.injEq, C.v.injEq, Value.int.injEq, Value.bool.injEq, beq_self_eq_true, bne_self_eq_false]
  refine CallK.mk hd ?_
  simp -implicitDefEqProofs (disch := omega) only [go_sem, ↓reduceIte, reduceCtorEq, Nat.reduceEqDiff, Nat.reduceLT, Nat.reduceLeDiff, Nat.reduceAdd, Nat.reduceSub, Nat.reduceMul, IntWalk.i64_in, AV.one.injEq, AC.c.injEq, C.v.injEq, Value.int.injEq, Value.bool.injEq, beq_self_eq_true, bne_self_eq_false]
end Go.Ai
