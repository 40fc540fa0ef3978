/- The law on FireRule. Written by mk25.py. -/
import Derived.Test.YtkaplmbflkoliaaGreatAiP12
import Derived.Test.YtkaplmbflkoliaaGreatAiN1
import Derived.Test.YtkaplmbflkoliaaGreatAiI5
namespace Go.Ai
set_option linter.unusedVariables false
set_option linter.unusedSimpArgs false
open Go.Proofs Go.RowKit
set_option maxRecDepth 100000

theorem lawFireRule_sat (d : GDefinition) (k : Int) (t : Tm) (hw_d : GDefinition.wf d) (hw_k : wfI k) (hw_t : Tm.wf t) : Sat Tryz.prog 3 [aggV d.enc, intV k, tmV t] (boolV true) := by
  refine sat_of_code tbOk mixed Tryz.func3 rfl rfl rfl (by decide +kernel) (by decide +kernel) (Nat.le_of_ble_eq_true rfl) ?_
  simp -implicitDefEqProofs (disch := omega) only [go_sem, ↓reduceIte, reduceCtorEq, Nat.reduceEqDiff, Nat.reduceLT, Nat.reduceLeDiff, Nat.reduceAdd, Nat.reduceSub, Nat.reduceMul, IntWalk.i64_in, AV.one.injEq, AC.c.injEq, C.v.injEq, Value.int.injEq, Value.bool.injEq, beq_self_eq_true, bne_self_eq_false]
  refine CallK.mk (szDefinition_sat d hw_d 1048576 (by grind [szR]) (by grind [szR])) ?_
  simp -implicitDefEqProofs (disch := omega) only [go_sem, ↓reduceIte, reduceCtorEq, Nat.reduceEqDiff, Nat.reduceLT, Nat.reduceLeDiff, Nat.reduceAdd, Nat.reduceSub, Nat.reduceMul, IntWalk.i64_in, AV.one.injEq, AC.c.injEq, C.v.injEq, Value.int.injEq, Value.bool.injEq, beq_self_eq_true, bne_self_eq_false]
  intro hz_d
  have hs_d : d.size < 1048577 := by grind [szR]
  refine CallK.mk (szTerm_sat t hw_t _ (by grind [szR]) (by grind [szR])) ?_
  simp -implicitDefEqProofs (disch := omega) only [go_sem, ↓reduceIte, reduceCtorEq, Nat.reduceEqDiff, Nat.reduceLT, Nat.reduceLeDiff, Nat.reduceAdd, Nat.reduceSub, Nat.reduceMul, IntWalk.i64_in, AV.one.injEq, AC.c.injEq, C.v.injEq, Value.int.injEq, Value.bool.injEq, beq_self_eq_true, bne_self_eq_false]
  intro hz_t
  have hs_t : t.size < 1048577 := by grind [szR]
  have hsum : d.size + t.size < 1048577 := by grind [szR]
  have hok := fireB_ok d hw_d k t hw_t
  obtain ⟨R0, hRe⟩ : ∃ R, R = (fireB d k t).getD zeroT := ⟨_, rfl⟩
  obtain ⟨b0, hbe⟩ : ∃ b, b = (fireB d k t).isSome := ⟨_, rfl⟩
  have hR : R0.size ≤ 40000 ∧ R0.wf := by
    cases hq : fireB d k t with
    | none => rw [hq] at hRe; rw [hRe]; exact ⟨by simp [zeroT, Tm.size, Tm.sizes], zeroT_wf⟩
    | some u => rw [hq] at hRe; rw [hRe]; exact hok u hq
  have hRw0 := hR.2
  have hRs0 : R0.size ≤ 1500000 := by omega
  have hsp := specFireRule_sat d hw_d hs_d k t hw_t (by omega)
  have him := implFireRuleF_sat d hw_d hs_d k t hw_t (by omega)
  rw [← hRe, ← hbe] at hsp him
  clear hok hRe hbe hR
  refine CallK.mk (toDefinition_sat d hs_d) ?_
  simp -implicitDefEqProofs (disch := omega) only [go_sem, ↓reduceIte, reduceCtorEq, Nat.reduceEqDiff, Nat.reduceLT, Nat.reduceLeDiff, Nat.reduceAdd, Nat.reduceSub, Nat.reduceMul, IntWalk.i64_in, AV.one.injEq, AC.c.injEq, C.v.injEq, Value.int.injEq, Value.bool.injEq, beq_self_eq_true, bne_self_eq_false, and_self]
  refine CallK.mk (toTerm_sat t hs_t) ?_
  simp -implicitDefEqProofs (disch := omega) only [go_sem, ↓reduceIte, reduceCtorEq, Nat.reduceEqDiff, Nat.reduceLT, Nat.reduceLeDiff, Nat.reduceAdd, Nat.reduceSub, Nat.reduceMul, IntWalk.i64_in, AV.one.injEq, AC.c.injEq, C.v.injEq, Value.int.injEq, Value.bool.injEq, beq_self_eq_true, bne_self_eq_false, and_self]
  refine CallK.mk (hsp) ?_
  simp -implicitDefEqProofs (disch := omega) only [go_sem, ↓reduceIte, reduceCtorEq, Nat.reduceEqDiff, Nat.reduceLT, Nat.reduceLeDiff, Nat.reduceAdd, Nat.reduceSub, Nat.reduceMul, IntWalk.i64_in, AV.one.injEq, AC.c.injEq, C.v.injEq, Value.int.injEq, Value.bool.injEq, beq_self_eq_true, bne_self_eq_false, and_self]
  have toX_d := toDefinition_sat d hs_d
  have toF_d := toDefinitionF_sat d hs_d
  have eqX_d := eqDefinition_sat d hw_d d
  have reX_d := GDefinition.eqb_refl d
  have hq_d : cntTop d.enc ≤ 64 * d.size + 64 := by
    have h1 := cntTop_le d.enc
    have h2 := cntCells_le d.enc (GDefinition.nar d)
    rw [GDefinition.csz] at h2
    have h3 := GDefinition.enc_len d
    omega
  have toX_t := toTerm_sat t hs_t
  have toF_t := toTermF_sat t hs_t
  have eqX_t := eqTerm_sat t hw_t t
  have reX_t := Tm.eqb_refl t
  have hq_t : cntTop t.enc ≤ 64 * t.size + 64 := by
    have h1 := cntTop_le t.enc
    have h2 := cntCells_le t.enc (Tm.nar t)
    rw [Tm.csz] at h2
    have h3 := enc_len t
    omega
  have implF := him
  have eqR_0 := eqTerm_sat R0 hRw0 R0
  have reR_0 := Tm.eqb_refl R0
  have hqR_0 : cntTop R0.enc ≤ 64 * R0.size + 64 := by
    have h1 := cntTop_le R0.enc
    have h2 := cntCells_le R0.enc (Tm.nar R0)
    rw [Tm.csz] at h2
    have h3 := enc_len R0
    omega
  obtain ⟨⟨dsiso, dsiop⟩, dru, dst⟩ := d
  simp only [GDefinition.enc, GSignature.enc, Tm.enc, encB, encI, encL, encS, List.cons_append, List.nil_append, List.append_nil, Tm.args, cntTop] at hq_d
  obtain ⟨tk, tn, ts, tt⟩ := t
  simp only [GDefinition.enc, GSignature.enc, Tm.enc, encB, encI, encL, encS, List.cons_append, List.nil_append, List.append_nil, Tm.args, cntTop] at hq_t
  obtain ⟨R0k, R0n, R0s, R0t⟩ := R0
  simp only [GDefinition.enc, GSignature.enc, Tm.enc, encB, encI, encL, encS, List.cons_append, List.nil_append, List.append_nil, Tm.args, cntTop] at hqR_0
  have hc_d_dsiso := mkRows_cnt (dsiso.map encS) 1
  have hc_d_dsiop := mkRows_cnt (dsiop.map GOp.enc) (mkRows (dsiso.map encS) 1).2
  have hc_d_dru := mkRows_cnt (dru.map GRule.enc) (mkRows (dsiop.map GOp.enc) (mkRows (dsiso.map encS) 1).2).2
  have hc_d_dst := mkRows_cnt (dst.map GStrict.enc) (mkRows (dru.map GRule.enc) (mkRows (dsiop.map GOp.enc) (mkRows (dsiso.map encS) 1).2).2).2
  have hc_t_t := mkRows_cnt (Tm.encs tt) (mkRows (dst.map GStrict.enc) (mkRows (dru.map GRule.enc) (mkRows (dsiop.map GOp.enc) (mkRows (dsiso.map encS) 1).2).2).2).2
  have hcR_0_R0 := mkRows_cnt (Tm.encs R0t) 1
  refine CallK.own toF_d rfl ?_
  simp -implicitDefEqProofs (disch := omega) only [go_sem, ↓reduceIte, reduceCtorEq, Nat.reduceEqDiff, Nat.reduceLT, Nat.reduceLeDiff, Nat.reduceAdd, Nat.reduceSub, Nat.reduceMul, IntWalk.i64_in, AV.one.injEq, AC.c.injEq, C.v.injEq, Value.int.injEq, Value.bool.injEq, beq_self_eq_true, bne_self_eq_false, GDefinition.enc, GSignature.enc, Tm.enc, encB, encI, encL, encS, List.cons_append, List.nil_append, List.append_nil, Tm.args]
  refine CallK.own toF_t rfl ?_
  simp -implicitDefEqProofs (disch := omega) only [go_sem, ↓reduceIte, reduceCtorEq, Nat.reduceEqDiff, Nat.reduceLT, Nat.reduceLeDiff, Nat.reduceAdd, Nat.reduceSub, Nat.reduceMul, IntWalk.i64_in, AV.one.injEq, AC.c.injEq, C.v.injEq, Value.int.injEq, Value.bool.injEq, beq_self_eq_true, bne_self_eq_false, GDefinition.enc, GSignature.enc, Tm.enc, encB, encI, encL, encS, List.cons_append, List.nil_append, List.append_nil, Tm.args]
  refine CallK.own implF rfl ?_
  simp -implicitDefEqProofs (disch := omega) only [go_sem, ↓reduceIte, reduceCtorEq, Nat.reduceEqDiff, Nat.reduceLT, Nat.reduceLeDiff, Nat.reduceAdd, Nat.reduceSub, Nat.reduceMul, IntWalk.i64_in, AV.one.injEq, AC.c.injEq, C.v.injEq, Value.int.injEq, Value.bool.injEq, beq_self_eq_true, bne_self_eq_false, GDefinition.enc, GSignature.enc, Tm.enc, encB, encI, encL, encS, List.cons_append, List.nil_append, List.append_nil, Tm.args]
  refine CallK.bor eqR_0 rfl ?_
  simp -implicitDefEqProofs (disch := omega) only [go_sem, ↓reduceIte, reduceCtorEq, Nat.reduceEqDiff, Nat.reduceLT, Nat.reduceLeDiff, Nat.reduceAdd, Nat.reduceSub, Nat.reduceMul, IntWalk.i64_in, AV.one.injEq, AC.c.injEq, C.v.injEq, Value.int.injEq, Value.bool.injEq, beq_self_eq_true, bne_self_eq_false, GDefinition.enc, GSignature.enc, Tm.enc, encB, encI, encL, encS, List.cons_append, List.nil_append, List.append_nil, Tm.args, reR_0]
  refine CallK.mk toX_d ?_
  simp -implicitDefEqProofs (disch := omega) only [go_sem, ↓reduceIte, reduceCtorEq, Nat.reduceEqDiff, Nat.reduceLT, Nat.reduceLeDiff, Nat.reduceAdd, Nat.reduceSub, Nat.reduceMul, IntWalk.i64_in, AV.one.injEq, AC.c.injEq, C.v.injEq, Value.int.injEq, Value.bool.injEq, beq_self_eq_true, bne_self_eq_false, GDefinition.enc, GSignature.enc, Tm.enc, encB, encI, encL, encS, List.cons_append, List.nil_append, List.append_nil, Tm.args]
  refine CallK.bor eqX_d rfl ?_
  simp -implicitDefEqProofs (disch := omega) only [go_sem, ↓reduceIte, reduceCtorEq, Nat.reduceEqDiff, Nat.reduceLT, Nat.reduceLeDiff, Nat.reduceAdd, Nat.reduceSub, Nat.reduceMul, IntWalk.i64_in, AV.one.injEq, AC.c.injEq, C.v.injEq, Value.int.injEq, Value.bool.injEq, beq_self_eq_true, bne_self_eq_false, GDefinition.enc, GSignature.enc, Tm.enc, encB, encI, encL, encS, List.cons_append, List.nil_append, List.append_nil, Tm.args, reX_d]
  refine CallK.mk toX_t ?_
  simp -implicitDefEqProofs (disch := omega) only [go_sem, ↓reduceIte, reduceCtorEq, Nat.reduceEqDiff, Nat.reduceLT, Nat.reduceLeDiff, Nat.reduceAdd, Nat.reduceSub, Nat.reduceMul, IntWalk.i64_in, AV.one.injEq, AC.c.injEq, C.v.injEq, Value.int.injEq, Value.bool.injEq, beq_self_eq_true, bne_self_eq_false, GDefinition.enc, GSignature.enc, Tm.enc, encB, encI, encL, encS, List.cons_append, List.nil_append, List.append_nil, Tm.args]
  refine CallK.bor eqX_t rfl ?_
  simp -implicitDefEqProofs (disch := omega) only [go_sem, ↓reduceIte, reduceCtorEq, Nat.reduceEqDiff, Nat.reduceLT, Nat.reduceLeDiff, Nat.reduceAdd, Nat.reduceSub, Nat.reduceMul, IntWalk.i64_in, AV.one.injEq, AC.c.injEq, C.v.injEq, Value.int.injEq, Value.bool.injEq, beq_self_eq_true, bne_self_eq_false, GDefinition.enc, GSignature.enc, Tm.enc, encB, encI, encL, encS, List.cons_append, List.nil_append, List.append_nil, Tm.args, reX_t]
  refine CallK.mut (markDefinition_sat dsiso dsiop dru dst hw_d 1 (by omega) (by omega)) ?_
  simp -implicitDefEqProofs (disch := omega) only [go_sem, ↓reduceIte, reduceCtorEq, Nat.reduceEqDiff, Nat.reduceLT, Nat.reduceLeDiff, Nat.reduceAdd, Nat.reduceSub, Nat.reduceMul, IntWalk.i64_in, AV.one.injEq, AC.c.injEq, C.v.injEq, Value.int.injEq, Value.bool.injEq, beq_self_eq_true, bne_self_eq_false, GDefinition.enc, GSignature.enc, Tm.enc, encB, encI, encL, encS, List.cons_append, List.nil_append, List.append_nil, Tm.args]
  refine CallK.mut (markTerm_sat tk tn ts tt hw_t (mkRows (dst.map GStrict.enc) (mkRows (dru.map GRule.enc) (mkRows (dsiop.map GOp.enc) (mkRows (dsiso.map encS) 1).2).2).2).2 (by omega) (by omega)) ?_
  simp -implicitDefEqProofs (disch := omega) only [go_sem, ↓reduceIte, reduceCtorEq, Nat.reduceEqDiff, Nat.reduceLT, Nat.reduceLeDiff, Nat.reduceAdd, Nat.reduceSub, Nat.reduceMul, IntWalk.i64_in, AV.one.injEq, AC.c.injEq, C.v.injEq, Value.int.injEq, Value.bool.injEq, beq_self_eq_true, bne_self_eq_false, GDefinition.enc, GSignature.enc, Tm.enc, encB, encI, encL, encS, List.cons_append, List.nil_append, List.append_nil, Tm.args]
  refine ⟨fun _ => ?_, fun h => by omega⟩
  refine CallK.bor eqR_0 rfl ?_
  simp -implicitDefEqProofs (disch := omega) only [go_sem, ↓reduceIte, reduceCtorEq, Nat.reduceEqDiff, Nat.reduceLT, Nat.reduceLeDiff, Nat.reduceAdd, Nat.reduceSub, Nat.reduceMul, IntWalk.i64_in, AV.one.injEq, AC.c.injEq, C.v.injEq, Value.int.injEq, Value.bool.injEq, beq_self_eq_true, bne_self_eq_false, GDefinition.enc, GSignature.enc, Tm.enc, encB, encI, encL, encS, List.cons_append, List.nil_append, List.append_nil, Tm.args, reR_0]
  refine CallK.mut (markTerm_sat R0k R0n R0s R0t hRw0 1 (by omega) (by omega)) ?_
  simp -implicitDefEqProofs (disch := omega) only [go_sem, ↓reduceIte, reduceCtorEq, Nat.reduceEqDiff, Nat.reduceLT, Nat.reduceLeDiff, Nat.reduceAdd, Nat.reduceSub, Nat.reduceMul, IntWalk.i64_in, AV.one.injEq, AC.c.injEq, C.v.injEq, Value.int.injEq, Value.bool.injEq, beq_self_eq_true, bne_self_eq_false, GDefinition.enc, GSignature.enc, Tm.enc, encB, encI, encL, encS, List.cons_append, List.nil_append, List.append_nil, Tm.args]
  refine CallK.bor (heldTerm_sat R0k R0n R0s R0t hRw0 1 (by omega) (by omega)) rfl ?_
  simp -implicitDefEqProofs (disch := omega) only [go_sem, ↓reduceIte, reduceCtorEq, Nat.reduceEqDiff, Nat.reduceLT, Nat.reduceLeDiff, Nat.reduceAdd, Nat.reduceSub, Nat.reduceMul, IntWalk.i64_in, AV.one.injEq, AC.c.injEq, C.v.injEq, Value.int.injEq, Value.bool.injEq, beq_self_eq_true, bne_self_eq_false, GDefinition.enc, GSignature.enc, Tm.enc, encB, encI, encL, encS, List.cons_append, List.nil_append, List.append_nil, Tm.args]
  refine ⟨fun h => by omega, fun _ => ?_⟩
  refine CallK.mk toX_d ?_
  simp -implicitDefEqProofs (disch := omega) only [go_sem, ↓reduceIte, reduceCtorEq, Nat.reduceEqDiff, Nat.reduceLT, Nat.reduceLeDiff, Nat.reduceAdd, Nat.reduceSub, Nat.reduceMul, IntWalk.i64_in, AV.one.injEq, AC.c.injEq, C.v.injEq, Value.int.injEq, Value.bool.injEq, beq_self_eq_true, bne_self_eq_false, GDefinition.enc, GSignature.enc, Tm.enc, encB, encI, encL, encS, List.cons_append, List.nil_append, List.append_nil, Tm.args]
  refine CallK.mk toX_t ?_
  simp -implicitDefEqProofs (disch := omega) only [go_sem, ↓reduceIte, reduceCtorEq, Nat.reduceEqDiff, Nat.reduceLT, Nat.reduceLeDiff, Nat.reduceAdd, Nat.reduceSub, Nat.reduceMul, IntWalk.i64_in, AV.one.injEq, AC.c.injEq, C.v.injEq, Value.int.injEq, Value.bool.injEq, beq_self_eq_true, bne_self_eq_false, GDefinition.enc, GSignature.enc, Tm.enc, encB, encI, encL, encS, List.cons_append, List.nil_append, List.append_nil, Tm.args]
  refine CallK.mk implF.sat ?_
  simp -implicitDefEqProofs (disch := omega) only [go_sem, ↓reduceIte, reduceCtorEq, Nat.reduceEqDiff, Nat.reduceLT, Nat.reduceLeDiff, Nat.reduceAdd, Nat.reduceSub, Nat.reduceMul, IntWalk.i64_in, AV.one.injEq, AC.c.injEq, C.v.injEq, Value.int.injEq, Value.bool.injEq, beq_self_eq_true, bne_self_eq_false, GDefinition.enc, GSignature.enc, Tm.enc, encB, encI, encL, encS, List.cons_append, List.nil_append, List.append_nil, Tm.args]
  refine CallK.bor eqR_0 rfl ?_
  simp -implicitDefEqProofs (disch := omega) only [go_sem, ↓reduceIte, reduceCtorEq, Nat.reduceEqDiff, Nat.reduceLT, Nat.reduceLeDiff, Nat.reduceAdd, Nat.reduceSub, Nat.reduceMul, IntWalk.i64_in, AV.one.injEq, AC.c.injEq, C.v.injEq, Value.int.injEq, Value.bool.injEq, beq_self_eq_true, bne_self_eq_false, GDefinition.enc, GSignature.enc, Tm.enc, encB, encI, encL, encS, List.cons_append, List.nil_append, List.append_nil, Tm.args, reR_0]
  refine CallK.bor (heldTerm_sat R0k R0n R0s R0t hRw0 1 (by omega) (by omega)) rfl ?_
  simp -implicitDefEqProofs (disch := omega) only [go_sem, ↓reduceIte, reduceCtorEq, Nat.reduceEqDiff, Nat.reduceLT, Nat.reduceLeDiff, Nat.reduceAdd, Nat.reduceSub, Nat.reduceMul, IntWalk.i64_in, AV.one.injEq, AC.c.injEq, C.v.injEq, Value.int.injEq, Value.bool.injEq, beq_self_eq_true, bne_self_eq_false, GDefinition.enc, GSignature.enc, Tm.enc, encB, encI, encL, encS, List.cons_append, List.nil_append, List.append_nil, Tm.args]
  first | (intro h; omega) | exact ⟨fun h => by omega, fun _ => trivial⟩
end Go.Ai
