/- The law on AllCases. Written by mk17.py. -/
import Derived.Test.YtdjleacnjijbjaaAiN1
import Derived.Test.YtdjleacnjijbjaaAiH2
namespace Go.Ai
set_option linter.unusedVariables false
set_option linter.unusedSimpArgs false
open Go.Proofs Go.RowKit
set_option maxRecDepth 100000

theorem lawAllCases_sat (vars : List ByteArray) (gs : List GGuard) (hw_vars : (wfL wfS) vars) (hw_gs : (wfL GGuard.wf) gs) : Sat Try.prog 8 [slV (vars.map encS), slV (gs.map GGuard.enc)] (boolV true) := by
  refine sat_of_code tbOk mixed Try.func8 rfl rfl rfl (by decide +kernel) (by decide +kernel) (Nat.le_of_ble_eq_true rfl) ?_
  simp -implicitDefEqProofs (disch := omega) only [go_sem, ↓reduceIte, reduceCtorEq, Nat.reduceEqDiff, Nat.reduceLT, Nat.reduceLeDiff, Nat.reduceAdd, Nat.reduceSub, Nat.reduceMul, IntWalk.i64_in, AV.one.injEq, AC.c.injEq, C.v.injEq, Value.int.injEq, Value.bool.injEq, beq_self_eq_true, bne_self_eq_false]
  refine CallK.mk (szStringS_sat vars hw_vars 1048576 (by grind [szR]) (by grind [szR])) ?_
  simp -implicitDefEqProofs (disch := omega) only [go_sem, ↓reduceIte, reduceCtorEq, Nat.reduceEqDiff, Nat.reduceLT, Nat.reduceLeDiff, Nat.reduceAdd, Nat.reduceSub, Nat.reduceMul, IntWalk.i64_in, AV.one.injEq, AC.c.injEq, C.v.injEq, Value.int.injEq, Value.bool.injEq, beq_self_eq_true, bne_self_eq_false]
  intro hz_vars
  have hs_vars : (szL szS) vars < 1048577 := by grind [szR]
  refine CallK.mk (szGuardS_sat gs hw_gs _ (by grind [szR]) (by grind [szR])) ?_
  simp -implicitDefEqProofs (disch := omega) only [go_sem, ↓reduceIte, reduceCtorEq, Nat.reduceEqDiff, Nat.reduceLT, Nat.reduceLeDiff, Nat.reduceAdd, Nat.reduceSub, Nat.reduceMul, IntWalk.i64_in, AV.one.injEq, AC.c.injEq, C.v.injEq, Value.int.injEq, Value.bool.injEq, beq_self_eq_true, bne_self_eq_false]
  intro hz_gs
  have hs_gs : (szL GGuard.size) gs < 1048577 := by grind [szR]
  have hsum : szL szS vars + szL GGuard.size gs < 1048577 := by grind [szR]
  have hvl : vars.length < 1048577 := by have := len_szL szS vars; omega
  have hgl : gs.length < 1048577 := by have := len_szL GGuard.size gs; omega
  have hgs : ∀ g, g ∈ gs → g.size < 9000000 ∧ g.wf := fun g hg => ⟨by have := szL_mem GGuard.size gs g hg; omega, hw_gs.2 g hg⟩
  obtain ⟨R0, hRe⟩ : ∃ R, R = allCases vars gs := ⟨_, rfl⟩
  have hcb := ccN_b vars.length
  have hR := casesTo_len vars gs (ccN vars.length).toNat
  have hRw0 : wfL wfI R0 := by
    refine ⟨by rw [hRe]; simp only [maxLen, allCases]; omega, fun n hn => ?_⟩
    rw [hRe] at hn
    have := casesTo_mem vars gs _ n hn
    exact wfI_of n (by omega) (by omega)
  have hRs0 : szL szI R0 ≤ 1500000 := by rw [szL_int, hRe]; simp only [allCases]; omega
  have hsp := specAllCases_sat vars (by omega) gs (by omega) hgs
  have him := implAllCases_sat vars (by omega) gs (by omega) hgs
  rw [← hRe] at hsp him
  refine CallK.mk (toStringS_sat vars hs_vars) ?_
  simp -implicitDefEqProofs (disch := omega) only [go_sem, ↓reduceIte, reduceCtorEq, Nat.reduceEqDiff, Nat.reduceLT, Nat.reduceLeDiff, Nat.reduceAdd, Nat.reduceSub, Nat.reduceMul, IntWalk.i64_in, AV.one.injEq, AC.c.injEq, C.v.injEq, Value.int.injEq, Value.bool.injEq, beq_self_eq_true, bne_self_eq_false, and_self]
  refine CallK.mk (toGuardS_sat gs hs_gs) ?_
  simp -implicitDefEqProofs (disch := omega) only [go_sem, ↓reduceIte, reduceCtorEq, Nat.reduceEqDiff, Nat.reduceLT, Nat.reduceLeDiff, Nat.reduceAdd, Nat.reduceSub, Nat.reduceMul, IntWalk.i64_in, AV.one.injEq, AC.c.injEq, C.v.injEq, Value.int.injEq, Value.bool.injEq, beq_self_eq_true, bne_self_eq_false, and_self]
  refine CallK.mk (hsp) ?_
  simp -implicitDefEqProofs (disch := omega) only [go_sem, ↓reduceIte, reduceCtorEq, Nat.reduceEqDiff, Nat.reduceLT, Nat.reduceLeDiff, Nat.reduceAdd, Nat.reduceSub, Nat.reduceMul, IntWalk.i64_in, AV.one.injEq, AC.c.injEq, C.v.injEq, Value.int.injEq, Value.bool.injEq, beq_self_eq_true, bne_self_eq_false, and_self]
  have toX_vars := toStringS_sat vars hs_vars
  have toF_vars := toStringSF_sat vars hs_vars
  have eqX_vars := eqStringS_sat vars hw_vars vars
  have reX_vars := (eqL_refl eqS_refl) vars
  have hq_vars : cntRows (vars.map encS) ≤ 64 * (szL szS) vars := by
    have h2 := cntRows_le (vars.map encS) (narRows_map encS (fun y => ⟨by simp [encS], narE_S y⟩) vars)
    rwa [cszRows_map encS szS cszE_S] at h2
  have toX_gs := toGuardS_sat gs hs_gs
  have toF_gs := toGuardSF_sat gs hs_gs
  have eqX_gs := eqGuardS_sat gs hw_gs gs
  have reX_gs := (eqL_refl GGuard.eqb_refl) gs
  have hq_gs : cntRows (gs.map GGuard.enc) ≤ 64 * (szL GGuard.size) gs := by
    have h2 := cntRows_le (gs.map GGuard.enc) (narRows_map GGuard.enc (fun y => ⟨by rw [GGuard.enc_len]; omega, GGuard.nar y⟩) gs)
    rwa [cszRows_map GGuard.enc GGuard.size GGuard.csz] at h2
  have implF := him
  have eqR_0 := eqIntS_sat R0 hRw0 R0
  have reR_0 := (eqL_refl eqI_refl) R0
  have hqR_0 : cntRows (R0.map encI) ≤ 64 * (szL szI) R0 := by
    have h2 := cntRows_le (R0.map encI) (narRows_map encI (fun y => ⟨by simp [encI], narE_I y⟩) R0)
    rwa [cszRows_map encI szI cszE_I] at h2
  have hc_vars_vars := mkRows_cnt (vars.map encS) 1
  have hc_gs_gs := mkRows_cnt (gs.map GGuard.enc) (mkRows (vars.map encS) 1).2
  have hcR_0_R0 := mkRows_cnt (R0.map encI) 1
  refine CallK.own toF_vars rfl ?_
  simp -implicitDefEqProofs (disch := omega) only [go_sem, ↓reduceIte, reduceCtorEq, Nat.reduceEqDiff, Nat.reduceLT, Nat.reduceLeDiff, Nat.reduceAdd, Nat.reduceSub, Nat.reduceMul, IntWalk.i64_in, AV.one.injEq, AC.c.injEq, C.v.injEq, Value.int.injEq, Value.bool.injEq, beq_self_eq_true, bne_self_eq_false, List.cons_append, List.nil_append, List.append_nil, Tm.args]
  refine CallK.own toF_gs rfl ?_
  simp -implicitDefEqProofs (disch := omega) only [go_sem, ↓reduceIte, reduceCtorEq, Nat.reduceEqDiff, Nat.reduceLT, Nat.reduceLeDiff, Nat.reduceAdd, Nat.reduceSub, Nat.reduceMul, IntWalk.i64_in, AV.one.injEq, AC.c.injEq, C.v.injEq, Value.int.injEq, Value.bool.injEq, beq_self_eq_true, bne_self_eq_false, List.cons_append, List.nil_append, List.append_nil, Tm.args]
  refine CallK.own implF rfl ?_
  simp -implicitDefEqProofs (disch := omega) only [go_sem, ↓reduceIte, reduceCtorEq, Nat.reduceEqDiff, Nat.reduceLT, Nat.reduceLeDiff, Nat.reduceAdd, Nat.reduceSub, Nat.reduceMul, IntWalk.i64_in, AV.one.injEq, AC.c.injEq, C.v.injEq, Value.int.injEq, Value.bool.injEq, beq_self_eq_true, bne_self_eq_false, List.cons_append, List.nil_append, List.append_nil, Tm.args]
  refine CallK.bor eqR_0 rfl ?_
  simp -implicitDefEqProofs (disch := omega) only [go_sem, ↓reduceIte, reduceCtorEq, Nat.reduceEqDiff, Nat.reduceLT, Nat.reduceLeDiff, Nat.reduceAdd, Nat.reduceSub, Nat.reduceMul, IntWalk.i64_in, AV.one.injEq, AC.c.injEq, C.v.injEq, Value.int.injEq, Value.bool.injEq, beq_self_eq_true, bne_self_eq_false, List.cons_append, List.nil_append, List.append_nil, Tm.args, reR_0]
  refine CallK.mk toX_vars ?_
  simp -implicitDefEqProofs (disch := omega) only [go_sem, ↓reduceIte, reduceCtorEq, Nat.reduceEqDiff, Nat.reduceLT, Nat.reduceLeDiff, Nat.reduceAdd, Nat.reduceSub, Nat.reduceMul, IntWalk.i64_in, AV.one.injEq, AC.c.injEq, C.v.injEq, Value.int.injEq, Value.bool.injEq, beq_self_eq_true, bne_self_eq_false, List.cons_append, List.nil_append, List.append_nil, Tm.args]
  refine CallK.bor eqX_vars rfl ?_
  simp -implicitDefEqProofs (disch := omega) only [go_sem, ↓reduceIte, reduceCtorEq, Nat.reduceEqDiff, Nat.reduceLT, Nat.reduceLeDiff, Nat.reduceAdd, Nat.reduceSub, Nat.reduceMul, IntWalk.i64_in, AV.one.injEq, AC.c.injEq, C.v.injEq, Value.int.injEq, Value.bool.injEq, beq_self_eq_true, bne_self_eq_false, List.cons_append, List.nil_append, List.append_nil, Tm.args, reX_vars]
  refine CallK.mk toX_gs ?_
  simp -implicitDefEqProofs (disch := omega) only [go_sem, ↓reduceIte, reduceCtorEq, Nat.reduceEqDiff, Nat.reduceLT, Nat.reduceLeDiff, Nat.reduceAdd, Nat.reduceSub, Nat.reduceMul, IntWalk.i64_in, AV.one.injEq, AC.c.injEq, C.v.injEq, Value.int.injEq, Value.bool.injEq, beq_self_eq_true, bne_self_eq_false, List.cons_append, List.nil_append, List.append_nil, Tm.args]
  refine CallK.bor eqX_gs rfl ?_
  simp -implicitDefEqProofs (disch := omega) only [go_sem, ↓reduceIte, reduceCtorEq, Nat.reduceEqDiff, Nat.reduceLT, Nat.reduceLeDiff, Nat.reduceAdd, Nat.reduceSub, Nat.reduceMul, IntWalk.i64_in, AV.one.injEq, AC.c.injEq, C.v.injEq, Value.int.injEq, Value.bool.injEq, beq_self_eq_true, bne_self_eq_false, List.cons_append, List.nil_append, List.append_nil, Tm.args, reX_gs]
  refine CallK.mut (markStringS_sat vars hw_vars 1 (by omega) (by omega)) ?_
  simp -implicitDefEqProofs (disch := omega) only [go_sem, ↓reduceIte, reduceCtorEq, Nat.reduceEqDiff, Nat.reduceLT, Nat.reduceLeDiff, Nat.reduceAdd, Nat.reduceSub, Nat.reduceMul, IntWalk.i64_in, AV.one.injEq, AC.c.injEq, C.v.injEq, Value.int.injEq, Value.bool.injEq, beq_self_eq_true, bne_self_eq_false, List.cons_append, List.nil_append, List.append_nil, Tm.args]
  refine CallK.mut (markGuardS_sat gs hw_gs (mkRows (vars.map encS) 1).2 (by omega) (by omega)) ?_
  simp -implicitDefEqProofs (disch := omega) only [go_sem, ↓reduceIte, reduceCtorEq, Nat.reduceEqDiff, Nat.reduceLT, Nat.reduceLeDiff, Nat.reduceAdd, Nat.reduceSub, Nat.reduceMul, IntWalk.i64_in, AV.one.injEq, AC.c.injEq, C.v.injEq, Value.int.injEq, Value.bool.injEq, beq_self_eq_true, bne_self_eq_false, List.cons_append, List.nil_append, List.append_nil, Tm.args]
  refine ⟨fun _ => ?_, fun h => by omega⟩
  refine CallK.bor eqR_0 rfl ?_
  simp -implicitDefEqProofs (disch := omega) only [go_sem, ↓reduceIte, reduceCtorEq, Nat.reduceEqDiff, Nat.reduceLT, Nat.reduceLeDiff, Nat.reduceAdd, Nat.reduceSub, Nat.reduceMul, IntWalk.i64_in, AV.one.injEq, AC.c.injEq, C.v.injEq, Value.int.injEq, Value.bool.injEq, beq_self_eq_true, bne_self_eq_false, List.cons_append, List.nil_append, List.append_nil, Tm.args, reR_0]
  refine CallK.mut (markIntS_sat R0 hRw0 1 (by omega) (by omega)) ?_
  simp -implicitDefEqProofs (disch := omega) only [go_sem, ↓reduceIte, reduceCtorEq, Nat.reduceEqDiff, Nat.reduceLT, Nat.reduceLeDiff, Nat.reduceAdd, Nat.reduceSub, Nat.reduceMul, IntWalk.i64_in, AV.one.injEq, AC.c.injEq, C.v.injEq, Value.int.injEq, Value.bool.injEq, beq_self_eq_true, bne_self_eq_false, List.cons_append, List.nil_append, List.append_nil, Tm.args]
  refine CallK.bor (heldIntS_sat R0 hRw0 1 (by omega) (by omega)) rfl ?_
  simp -implicitDefEqProofs (disch := omega) only [go_sem, ↓reduceIte, reduceCtorEq, Nat.reduceEqDiff, Nat.reduceLT, Nat.reduceLeDiff, Nat.reduceAdd, Nat.reduceSub, Nat.reduceMul, IntWalk.i64_in, AV.one.injEq, AC.c.injEq, C.v.injEq, Value.int.injEq, Value.bool.injEq, beq_self_eq_true, bne_self_eq_false, List.cons_append, List.nil_append, List.append_nil, Tm.args]
  refine ⟨fun h => by omega, fun _ => ?_⟩
  refine CallK.mk toX_vars ?_
  simp -implicitDefEqProofs (disch := omega) only [go_sem, ↓reduceIte, reduceCtorEq, Nat.reduceEqDiff, Nat.reduceLT, Nat.reduceLeDiff, Nat.reduceAdd, Nat.reduceSub, Nat.reduceMul, IntWalk.i64_in, AV.one.injEq, AC.c.injEq, C.v.injEq, Value.int.injEq, Value.bool.injEq, beq_self_eq_true, bne_self_eq_false, List.cons_append, List.nil_append, List.append_nil, Tm.args]
  refine CallK.mk toX_gs ?_
  simp -implicitDefEqProofs (disch := omega) only [go_sem, ↓reduceIte, reduceCtorEq, Nat.reduceEqDiff, Nat.reduceLT, Nat.reduceLeDiff, Nat.reduceAdd, Nat.reduceSub, Nat.reduceMul, IntWalk.i64_in, AV.one.injEq, AC.c.injEq, C.v.injEq, Value.int.injEq, Value.bool.injEq, beq_self_eq_true, bne_self_eq_false, List.cons_append, List.nil_append, List.append_nil, Tm.args]
  refine CallK.mk implF.sat ?_
  simp -implicitDefEqProofs (disch := omega) only [go_sem, ↓reduceIte, reduceCtorEq, Nat.reduceEqDiff, Nat.reduceLT, Nat.reduceLeDiff, Nat.reduceAdd, Nat.reduceSub, Nat.reduceMul, IntWalk.i64_in, AV.one.injEq, AC.c.injEq, C.v.injEq, Value.int.injEq, Value.bool.injEq, beq_self_eq_true, bne_self_eq_false, List.cons_append, List.nil_append, List.append_nil, Tm.args]
  refine CallK.bor eqR_0 rfl ?_
  simp -implicitDefEqProofs (disch := omega) only [go_sem, ↓reduceIte, reduceCtorEq, Nat.reduceEqDiff, Nat.reduceLT, Nat.reduceLeDiff, Nat.reduceAdd, Nat.reduceSub, Nat.reduceMul, IntWalk.i64_in, AV.one.injEq, AC.c.injEq, C.v.injEq, Value.int.injEq, Value.bool.injEq, beq_self_eq_true, bne_self_eq_false, List.cons_append, List.nil_append, List.append_nil, Tm.args, reR_0]
  refine CallK.bor (heldIntS_sat R0 hRw0 1 (by omega) (by omega)) rfl ?_
  simp -implicitDefEqProofs (disch := omega) only [go_sem, ↓reduceIte, reduceCtorEq, Nat.reduceEqDiff, Nat.reduceLT, Nat.reduceLeDiff, Nat.reduceAdd, Nat.reduceSub, Nat.reduceMul, IntWalk.i64_in, AV.one.injEq, AC.c.injEq, C.v.injEq, Value.int.injEq, Value.bool.injEq, beq_self_eq_true, bne_self_eq_false, List.cons_append, List.nil_append, List.append_nil, Tm.args]
  first | (intro h; omega) | exact ⟨fun h => by omega, fun _ => trivial⟩
end Go.Ai
