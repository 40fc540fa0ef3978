/- The law on MachineTerm. Written by mk28.py. -/
import Derived.Test.YtofbieojmaobfaaAiZ3
import Derived.Test.YtofbieojmaobfaaAiZ2
import Derived.Test.YtofbieojmaobfaaAiN1
import Derived.Test.YtofbieojmaobfaaAiI5
namespace Go.Ai
set_option linter.unusedVariables false
set_option linter.unusedSimpArgs false
open Go.Proofs Go.RowKit
set_option maxRecDepth 100000

theorem lawMachineTerm_sat (d : GDefinition) (m : GMachine) (hw_d : GDefinition.wf d) (hw_m : GMachine.wf m) : Sat Try.prog 3 [aggV d.enc, aggV m.enc] (boolV true) := by
  refine sat_of_code tbOk mixed Try.func3 rfl rfl rfl (by decide +kernel) (by decide +kernel) (Nat.le_of_ble_eq_true rfl) ?_
  simp -implicitDefEqProofs (disch := omega) only [go_sem, ↓reduceIte, reduceCtorEq, Nat.reduceEqDiff, Nat.reduceLT, Nat.reduceLeDiff, Nat.reduceAdd, Nat.reduceSub, Nat.reduceMul]
  refine CallK.mk (szDefinition_sat d hw_d 1048576 (by grind [szR]) (by grind [szR])) ?_
  simp -implicitDefEqProofs (disch := omega) only [go_sem, ↓reduceIte, reduceCtorEq, Nat.reduceEqDiff, Nat.reduceLT, Nat.reduceLeDiff, Nat.reduceAdd, Nat.reduceSub, Nat.reduceMul]
  intro hz_d
  have hs_d : d.size < 1048577 := by grind [szR]
  refine CallK.mk (szMachine_sat m hw_m _ (by grind [szR]) (by grind [szR])) ?_
  simp -implicitDefEqProofs (disch := omega) only [go_sem, ↓reduceIte, reduceCtorEq, Nat.reduceEqDiff, Nat.reduceLT, Nat.reduceLeDiff, Nat.reduceAdd, Nat.reduceSub, Nat.reduceMul]
  intro hz_m
  have hs_m : m.size < 1048577 := by grind [szR]
  have hsum : d.size + m.size < 1048577 := by grind [szR]
  obtain ⟨R0, hRe⟩ : ∃ R, R = (machB d m).getD zeroT := ⟨_, rfl⟩
  obtain ⟨b0, hbe⟩ : ∃ b, b = (machB d m).isSome := ⟨_, rfl⟩
  have hR := machB_ok d m hw_m
  rw [← hRe] at hR
  have hRw0 := hR.2
  have hRs0 : R0.size ≤ 1500000 := by omega
  have hsl : d.st.length < 1048577 := by have := len_szL GStrict.size d.st; simp only [GDefinition.size] at hs_d; omega
  have hsp := specMachineTerm_sat d hsl m hs_m
  have him := implMachineTermF_sat d hsl m hw_m hs_m
  rw [← hRe, ← hbe] at hsp him
  clear hRe hbe hR
  refine CallK.mk (toDefinition_sat d hs_d) ?_
  simp -implicitDefEqProofs (disch := omega) only [go_sem, ↓reduceIte, reduceCtorEq, Nat.reduceEqDiff, Nat.reduceLT, Nat.reduceLeDiff, Nat.reduceAdd, Nat.reduceSub, Nat.reduceMul, and_self]
  refine CallK.mk (toMachine_sat m hs_m) ?_
  simp -implicitDefEqProofs (disch := omega) only [go_sem, ↓reduceIte, reduceCtorEq, Nat.reduceEqDiff, Nat.reduceLT, Nat.reduceLeDiff, Nat.reduceAdd, Nat.reduceSub, Nat.reduceMul, and_self]
  refine CallK.mk (hsp) ?_
  simp -implicitDefEqProofs (disch := omega) only [go_sem, ↓reduceIte, reduceCtorEq, Nat.reduceEqDiff, Nat.reduceLT, Nat.reduceLeDiff, Nat.reduceAdd, Nat.reduceSub, Nat.reduceMul, and_self]
  have toX_d := toDefinition_sat d hs_d
  have toF_d := toDefinitionF_sat d hs_d
  have eqX_d := eqDefinition_sat d hw_d d
  have reX_d := GDefinition.eqb_refl d
  have hq_d : cntTop d.enc ≤ 64 * d.size + 64 := by
    have h1 := cntTop_le d.enc
    have h2 := cntCells_le d.enc (GDefinition.nar d)
    rw [GDefinition.csz] at h2
    have h3 := GDefinition.enc_len d
    omega
  have toX_m := toMachine_sat m hs_m
  have toF_m := toMachineF_sat m hs_m
  have eqX_m := eqMachine_sat m hw_m m
  have reX_m := GMachine.eqb_refl m
  have hq_m : cntTop m.enc ≤ 64 * m.size + 64 := by
    have h1 := cntTop_le m.enc
    have h2 := cntCells_le m.enc (GMachine.nar m)
    rw [GMachine.csz] at h2
    have h3 := GMachine.enc_len m
    omega
  have implF := him
  have eqR_0 := eqTerm_sat R0 hRw0 R0
  have reR_0 := Tm.eqb_refl R0
  have hqR_0 : cntTop R0.enc ≤ 64 * R0.size + 64 := by
    have h1 := cntTop_le R0.enc
    have h2 := cntCells_le R0.enc (Tm.nar R0)
    rw [Tm.csz] at h2
    have h3 := enc_len R0
    omega
  obtain ⟨⟨dsiso, dsiop⟩, dru, dst⟩ := d
  simp only [GDefinition.enc, GMachine.enc, GSignature.enc, Tm.enc, encB, encI, encL, encS, List.cons_append, List.nil_append, List.append_nil, Tm.args, cntTop] at hq_d
  obtain ⟨⟨mfok, mfon, mfos, mfot⟩, mnx, mst, mrw⟩ := m
  simp only [GDefinition.enc, GMachine.enc, GSignature.enc, Tm.enc, encB, encI, encL, encS, List.cons_append, List.nil_append, List.append_nil, Tm.args, cntTop] at hq_m
  obtain ⟨R0k, R0n, R0s, R0t⟩ := R0
  simp only [GDefinition.enc, GMachine.enc, GSignature.enc, Tm.enc, encB, encI, encL, encS, List.cons_append, List.nil_append, List.append_nil, Tm.args, cntTop] at hqR_0
  have hc_d_dsiso := mkRows_cnt (dsiso.map encS) 1
  have hc_d_dsiop := mkRows_cnt (dsiop.map GOp.enc) (mkRows (dsiso.map encS) 1).2
  have hc_d_dru := mkRows_cnt (dru.map GRule.enc) (mkRows (dsiop.map GOp.enc) (mkRows (dsiso.map encS) 1).2).2
  have hc_d_dst := mkRows_cnt (dst.map GStrict.enc) (mkRows (dru.map GRule.enc) (mkRows (dsiop.map GOp.enc) (mkRows (dsiso.map encS) 1).2).2).2
  have hc_m_mfo := mkRows_cnt (Tm.encs mfot) (mkRows (dst.map GStrict.enc) (mkRows (dru.map GRule.enc) (mkRows (dsiop.map GOp.enc) (mkRows (dsiso.map encS) 1).2).2).2).2
  have hc_m_mst := mkRows_cnt (mst.map GFrame.enc) (mkRows (Tm.encs mfot) (mkRows (dst.map GStrict.enc) (mkRows (dru.map GRule.enc) (mkRows (dsiop.map GOp.enc) (mkRows (dsiso.map encS) 1).2).2).2).2).2
  have hcR_0_R0 := mkRows_cnt (Tm.encs R0t) 1
  refine CallK.own toF_d rfl ?_
  simp -implicitDefEqProofs (disch := omega) only [go_sem, ↓reduceIte, reduceCtorEq, Nat.reduceEqDiff, Nat.reduceLT, Nat.reduceLeDiff, Nat.reduceAdd, Nat.reduceSub, Nat.reduceMul, GDefinition.enc, GMachine.enc, GSignature.enc, Tm.enc, encB, encI, encL, encS, List.cons_append, List.nil_append, List.append_nil, Tm.args]
  refine CallK.own toF_m rfl ?_
  simp -implicitDefEqProofs (disch := omega) only [go_sem, ↓reduceIte, reduceCtorEq, Nat.reduceEqDiff, Nat.reduceLT, Nat.reduceLeDiff, Nat.reduceAdd, Nat.reduceSub, Nat.reduceMul, GDefinition.enc, GMachine.enc, GSignature.enc, Tm.enc, encB, encI, encL, encS, List.cons_append, List.nil_append, List.append_nil, Tm.args]
  refine CallK.own implF rfl ?_
  simp -implicitDefEqProofs (disch := omega) only [go_sem, ↓reduceIte, reduceCtorEq, Nat.reduceEqDiff, Nat.reduceLT, Nat.reduceLeDiff, Nat.reduceAdd, Nat.reduceSub, Nat.reduceMul, GDefinition.enc, GMachine.enc, GSignature.enc, Tm.enc, encB, encI, encL, encS, List.cons_append, List.nil_append, List.append_nil, Tm.args]
  refine CallK.bor eqR_0 rfl ?_
  simp -implicitDefEqProofs (disch := omega) only [go_sem, ↓reduceIte, reduceCtorEq, Nat.reduceEqDiff, Nat.reduceLT, Nat.reduceLeDiff, Nat.reduceAdd, Nat.reduceSub, Nat.reduceMul, GDefinition.enc, GMachine.enc, GSignature.enc, Tm.enc, encB, encI, encL, encS, List.cons_append, List.nil_append, List.append_nil, Tm.args, reR_0]
  refine CallK.mk toX_d ?_
  simp -implicitDefEqProofs (disch := omega) only [go_sem, ↓reduceIte, reduceCtorEq, Nat.reduceEqDiff, Nat.reduceLT, Nat.reduceLeDiff, Nat.reduceAdd, Nat.reduceSub, Nat.reduceMul, GDefinition.enc, GMachine.enc, GSignature.enc, Tm.enc, encB, encI, encL, encS, List.cons_append, List.nil_append, List.append_nil, Tm.args]
  refine CallK.bor eqX_d rfl ?_
  simp -implicitDefEqProofs (disch := omega) only [go_sem, ↓reduceIte, reduceCtorEq, Nat.reduceEqDiff, Nat.reduceLT, Nat.reduceLeDiff, Nat.reduceAdd, Nat.reduceSub, Nat.reduceMul, GDefinition.enc, GMachine.enc, GSignature.enc, Tm.enc, encB, encI, encL, encS, List.cons_append, List.nil_append, List.append_nil, Tm.args, reX_d]
  refine CallK.mk toX_m ?_
  simp -implicitDefEqProofs (disch := omega) only [go_sem, ↓reduceIte, reduceCtorEq, Nat.reduceEqDiff, Nat.reduceLT, Nat.reduceLeDiff, Nat.reduceAdd, Nat.reduceSub, Nat.reduceMul, GDefinition.enc, GMachine.enc, GSignature.enc, Tm.enc, encB, encI, encL, encS, List.cons_append, List.nil_append, List.append_nil, Tm.args]
  refine CallK.bor eqX_m rfl ?_
  simp -implicitDefEqProofs (disch := omega) only [go_sem, ↓reduceIte, reduceCtorEq, Nat.reduceEqDiff, Nat.reduceLT, Nat.reduceLeDiff, Nat.reduceAdd, Nat.reduceSub, Nat.reduceMul, GDefinition.enc, GMachine.enc, GSignature.enc, Tm.enc, encB, encI, encL, encS, List.cons_append, List.nil_append, List.append_nil, Tm.args, reX_m]
  refine CallK.mut (markDefinition_sat dsiso dsiop dru dst hw_d 1 (by omega) (by omega)) ?_
  simp -implicitDefEqProofs (disch := omega) only [go_sem, ↓reduceIte, reduceCtorEq, Nat.reduceEqDiff, Nat.reduceLT, Nat.reduceLeDiff, Nat.reduceAdd, Nat.reduceSub, Nat.reduceMul, GDefinition.enc, GMachine.enc, GSignature.enc, Tm.enc, encB, encI, encL, encS, List.cons_append, List.nil_append, List.append_nil, Tm.args]
  refine CallK.mut (markMachine_sat mfok mfon mfos mfot mnx mst mrw hw_m (mkRows (dst.map GStrict.enc) (mkRows (dru.map GRule.enc) (mkRows (dsiop.map GOp.enc) (mkRows (dsiso.map encS) 1).2).2).2).2 (by omega) (by omega)) ?_
  simp -implicitDefEqProofs (disch := omega) only [go_sem, ↓reduceIte, reduceCtorEq, Nat.reduceEqDiff, Nat.reduceLT, Nat.reduceLeDiff, Nat.reduceAdd, Nat.reduceSub, Nat.reduceMul, GDefinition.enc, GMachine.enc, GSignature.enc, Tm.enc, encB, encI, encL, encS, List.cons_append, List.nil_append, List.append_nil, Tm.args]
  refine ⟨fun _ => ?_, fun h => by omega⟩
  refine CallK.bor eqR_0 rfl ?_
  simp -implicitDefEqProofs (disch := omega) only [go_sem, ↓reduceIte, reduceCtorEq, Nat.reduceEqDiff, Nat.reduceLT, Nat.reduceLeDiff, Nat.reduceAdd, Nat.reduceSub, Nat.reduceMul, GDefinition.enc, GMachine.enc, GSignature.enc, Tm.enc, encB, encI, encL, encS, List.cons_append, List.nil_append, List.append_nil, Tm.args, reR_0]
  refine CallK.mut (markTerm_sat R0k R0n R0s R0t hRw0 1 (by omega) (by omega)) ?_
  simp -implicitDefEqProofs (disch := omega) only [go_sem, ↓reduceIte, reduceCtorEq, Nat.reduceEqDiff, Nat.reduceLT, Nat.reduceLeDiff, Nat.reduceAdd, Nat.reduceSub, Nat.reduceMul, GDefinition.enc, GMachine.enc, GSignature.enc, Tm.enc, encB, encI, encL, encS, List.cons_append, List.nil_append, List.append_nil, Tm.args]
  refine CallK.bor (heldTerm_sat R0k R0n R0s R0t hRw0 1 (by omega) (by omega)) rfl ?_
  simp -implicitDefEqProofs (disch := omega) only [go_sem, ↓reduceIte, reduceCtorEq, Nat.reduceEqDiff, Nat.reduceLT, Nat.reduceLeDiff, Nat.reduceAdd, Nat.reduceSub, Nat.reduceMul, GDefinition.enc, GMachine.enc, GSignature.enc, Tm.enc, encB, encI, encL, encS, List.cons_append, List.nil_append, List.append_nil, Tm.args]
  refine ⟨fun h => by omega, fun _ => ?_⟩
  refine CallK.mk toX_d ?_
  simp -implicitDefEqProofs (disch := omega) only [go_sem, ↓reduceIte, reduceCtorEq, Nat.reduceEqDiff, Nat.reduceLT, Nat.reduceLeDiff, Nat.reduceAdd, Nat.reduceSub, Nat.reduceMul, GDefinition.enc, GMachine.enc, GSignature.enc, Tm.enc, encB, encI, encL, encS, List.cons_append, List.nil_append, List.append_nil, Tm.args]
  refine CallK.mk toX_m ?_
  simp -implicitDefEqProofs (disch := omega) only [go_sem, ↓reduceIte, reduceCtorEq, Nat.reduceEqDiff, Nat.reduceLT, Nat.reduceLeDiff, Nat.reduceAdd, Nat.reduceSub, Nat.reduceMul, GDefinition.enc, GMachine.enc, GSignature.enc, Tm.enc, encB, encI, encL, encS, List.cons_append, List.nil_append, List.append_nil, Tm.args]
  refine CallK.mk implF.sat ?_
  simp -implicitDefEqProofs (disch := omega) only [go_sem, ↓reduceIte, reduceCtorEq, Nat.reduceEqDiff, Nat.reduceLT, Nat.reduceLeDiff, Nat.reduceAdd, Nat.reduceSub, Nat.reduceMul, GDefinition.enc, GMachine.enc, GSignature.enc, Tm.enc, encB, encI, encL, encS, List.cons_append, List.nil_append, List.append_nil, Tm.args]
  refine CallK.bor eqR_0 rfl ?_
  simp -implicitDefEqProofs (disch := omega) only [go_sem, ↓reduceIte, reduceCtorEq, Nat.reduceEqDiff, Nat.reduceLT, Nat.reduceLeDiff, Nat.reduceAdd, Nat.reduceSub, Nat.reduceMul, GDefinition.enc, GMachine.enc, GSignature.enc, Tm.enc, encB, encI, encL, encS, List.cons_append, List.nil_append, List.append_nil, Tm.args, reR_0]
  refine CallK.bor (heldTerm_sat R0k R0n R0s R0t hRw0 1 (by omega) (by omega)) rfl ?_
  simp -implicitDefEqProofs (disch := omega) only [go_sem, ↓reduceIte, reduceCtorEq, Nat.reduceEqDiff, Nat.reduceLT, Nat.reduceLeDiff, Nat.reduceAdd, Nat.reduceSub, Nat.reduceMul, GDefinition.enc, GMachine.enc, GSignature.enc, Tm.enc, encB, encI, encL, encS, List.cons_append, List.nil_append, List.append_nil, Tm.args]
  first | (intro h; omega) | exact ⟨fun h => by omega, fun _ => trivial⟩
end Go.Ai
