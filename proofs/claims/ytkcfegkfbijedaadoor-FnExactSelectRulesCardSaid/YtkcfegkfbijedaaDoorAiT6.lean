/- The law on SelectRules. Written by mk33.py. -/
import Derived.Test.YtkcfegkfbijedaaDoorAiT5
import Derived.Test.YtkcfegkfbijedaaDoorAiTR2
namespace Go.Ai
set_option linter.unusedVariables false
set_option linter.unusedSimpArgs false
open Go.Proofs Go.RowKit
set_option maxRecDepth 100000

theorem lawSelectRules_sat (x : GTree) (t : Tm) (hw_x : GTree.wf x) (hw_t : Tm.wf t) : Sat Tryd.prog 4 [aggV x.enc, tmV t] (boolV true) := by
  refine sat_of_code tbOk mixed Tryd.func4 rfl rfl rfl (by decide +kernel) (by decide +kernel) (Nat.le_of_ble_eq_true rfl) ?_
  simp -implicitDefEqProofs (disch := omega) only [go_sem]
  refine CallK.mk (szTree_sat x hw_x 1048576 (by grind [szR]) (by grind [szR])) ?_
  simp -implicitDefEqProofs (disch := omega) only [go_sem]
  intro hz_x
  have hs_x : x.size < 1048577 := by grind [szR]
  refine CallK.mk (szTerm_sat t hw_t _ (by grind [szR]) (by grind [szR])) ?_
  simp -implicitDefEqProofs (disch := omega) only [go_sem]
  intro hz_t
  have hs_t : t.size < 1048577 := by grind [szR]
  have hsum : x.size + t.size < 1048577 := by grind [szR]
  have hsp := specSelect_sat x hs_x t hw_t hs_t
  have him := implSelect_sat x hs_x t hw_t hs_t
  have hok := selF_ok x.no (fun y hy => (hw_x.2 y hy).2.2.2.2) t x.no.length 0
  have hsm := ru_sum x.no
  obtain ⟨R0, hRe⟩ : ∃ R, R = selF x.no t x.no.length 0 := ⟨_, rfl⟩
  rw [← hRe] at hok hsp him
  have hRw0 := hok.1
  have hRs0 : szL szI R0 ≤ 1500000 := by rw [szL_int]; simp only [GTree.size] at hs_x; omega
  refine CallK.mk (toTree_sat x hs_x) ?_
  simp -implicitDefEqProofs (disch := omega) only [go_sem, and_self]
  refine CallK.mk (toTerm_sat t hs_t) ?_
  simp -implicitDefEqProofs (disch := omega) only [go_sem, and_self]
  refine CallK.mk (hsp) ?_
  simp -implicitDefEqProofs (disch := omega) only [go_sem, and_self]
  have toX_x := toTree_sat x hs_x
  have toF_x := toTreeF_sat x hs_x
  have eqX_x := eqTree_sat x hw_x x
  have reX_x := GTree.eqb_refl x
  have hq_x : cntTop x.enc ≤ 64 * x.size + 64 := by
    have h1 := cntTop_le x.enc
    have h2 := cntCells_le x.enc (GTree.nar x)
    rw [GTree.csz] at h2
    have h3 := GTree.enc_len x
    omega
  have toX_t := toTerm_sat t hs_t
  have toF_t := toTermF_sat t hs_t
  have eqX_t := eqTerm_sat t hw_t t
  have reX_t := Tm.eqb_refl t
  have hq_t : cntTop t.enc ≤ 64 * t.size + 64 := by
    have h1 := cntTop_le t.enc
    have h2 := cntCells_le t.enc (Tm.nar t)
    rw [Tm.csz] at h2
    have h3 := enc_len t
    omega
  have implF := him
  have eqR_0 := eqIntS_sat R0 hRw0 R0
  have reR_0 := (eqL_refl eqI_refl) R0
  have hqR_0 : cntRows (R0.map encI) ≤ 64 * (szL szI) R0 := by
    have h2 := cntRows_le (R0.map encI) (narRows_map encI (fun y => ⟨by simp [encI], narE_I y⟩) R0)
    rwa [cszRows_map encI szI cszE_I] at h2
  obtain ⟨xno⟩ := x
  simp only [GTree.enc, Tm.enc, encB, encI, encL, encS, List.cons_append, List.nil_append, List.append_nil, Tm.args, cntTop] at hq_x
  obtain ⟨tk, tn, ts, tt⟩ := t
  simp only [GTree.enc, Tm.enc, encB, encI, encL, encS, List.cons_append, List.nil_append, List.append_nil, Tm.args, cntTop] at hq_t
  have hc_x_xno := mkRows_cnt (xno.map GTreeNode.enc) 1
  have hc_t_t := mkRows_cnt (Tm.encs tt) (mkRows (xno.map GTreeNode.enc) 1).2
  have hcR_0_R0 := mkRows_cnt (R0.map encI) 1
  refine CallK.own toF_x rfl ?_
  simp -implicitDefEqProofs (disch := omega) only [go_sem, GTree.enc, Tm.enc, encB, encI, encL, encS, List.cons_append, List.nil_append, List.append_nil, Tm.args]
  refine CallK.own toF_t rfl ?_
  simp -implicitDefEqProofs (disch := omega) only [go_sem, GTree.enc, Tm.enc, encB, encI, encL, encS, List.cons_append, List.nil_append, List.append_nil, Tm.args]
  refine CallK.own implF rfl ?_
  simp -implicitDefEqProofs (disch := omega) only [go_sem, GTree.enc, Tm.enc, encB, encI, encL, encS, List.cons_append, List.nil_append, List.append_nil, Tm.args]
  refine CallK.bor eqR_0 rfl ?_
  simp -implicitDefEqProofs (disch := omega) only [go_sem, GTree.enc, Tm.enc, encB, encI, encL, encS, List.cons_append, List.nil_append, List.append_nil, Tm.args, reR_0]
  refine CallK.mk toX_x ?_
  simp -implicitDefEqProofs (disch := omega) only [go_sem, GTree.enc, Tm.enc, encB, encI, encL, encS, List.cons_append, List.nil_append, List.append_nil, Tm.args]
  refine CallK.bor eqX_x rfl ?_
  simp -implicitDefEqProofs (disch := omega) only [go_sem, GTree.enc, Tm.enc, encB, encI, encL, encS, List.cons_append, List.nil_append, List.append_nil, Tm.args, reX_x]
  refine CallK.mk toX_t ?_
  simp -implicitDefEqProofs (disch := omega) only [go_sem, GTree.enc, Tm.enc, encB, encI, encL, encS, List.cons_append, List.nil_append, List.append_nil, Tm.args]
  refine CallK.bor eqX_t rfl ?_
  simp -implicitDefEqProofs (disch := omega) only [go_sem, GTree.enc, Tm.enc, encB, encI, encL, encS, List.cons_append, List.nil_append, List.append_nil, Tm.args, reX_t]
  refine CallK.mut (markTree_sat xno hw_x 1 (by omega) (by omega)) ?_
  simp -implicitDefEqProofs (disch := omega) only [go_sem, GTree.enc, Tm.enc, encB, encI, encL, encS, List.cons_append, List.nil_append, List.append_nil, Tm.args]
  refine CallK.mut (markTerm_sat tk tn ts tt hw_t (mkRows (xno.map GTreeNode.enc) 1).2 (by omega) (by omega)) ?_
  simp -implicitDefEqProofs (disch := omega) only [go_sem, GTree.enc, Tm.enc, encB, encI, encL, encS, List.cons_append, List.nil_append, List.append_nil, Tm.args]
  refine ⟨fun _ => ?_, fun h => by omega⟩
  refine CallK.bor eqR_0 rfl ?_
  simp -implicitDefEqProofs (disch := omega) only [go_sem, GTree.enc, Tm.enc, encB, encI, encL, encS, List.cons_append, List.nil_append, List.append_nil, Tm.args, reR_0]
  refine CallK.mut (markIntS_sat R0 hRw0 1 (by omega) (by omega)) ?_
  simp -implicitDefEqProofs (disch := omega) only [go_sem, GTree.enc, Tm.enc, encB, encI, encL, encS, List.cons_append, List.nil_append, List.append_nil, Tm.args]
  refine CallK.bor (heldIntS_sat R0 hRw0 1 (by omega) (by omega)) rfl ?_
  simp -implicitDefEqProofs (disch := omega) only [go_sem, GTree.enc, Tm.enc, encB, encI, encL, encS, List.cons_append, List.nil_append, List.append_nil, Tm.args]
  refine ⟨fun h => by omega, fun _ => ?_⟩
  refine CallK.mk toX_x ?_
  simp -implicitDefEqProofs (disch := omega) only [go_sem, GTree.enc, Tm.enc, encB, encI, encL, encS, List.cons_append, List.nil_append, List.append_nil, Tm.args]
  refine CallK.mk toX_t ?_
  simp -implicitDefEqProofs (disch := omega) only [go_sem, GTree.enc, Tm.enc, encB, encI, encL, encS, List.cons_append, List.nil_append, List.append_nil, Tm.args]
  refine CallK.mk implF.sat ?_
  simp -implicitDefEqProofs (disch := omega) only [go_sem, GTree.enc, Tm.enc, encB, encI, encL, encS, List.cons_append, List.nil_append, List.append_nil, Tm.args]
  refine CallK.bor eqR_0 rfl ?_
  simp -implicitDefEqProofs (disch := omega) only [go_sem, GTree.enc, Tm.enc, encB, encI, encL, encS, List.cons_append, List.nil_append, List.append_nil, Tm.args, reR_0]
  refine CallK.bor (heldIntS_sat R0 hRw0 1 (by omega) (by omega)) rfl ?_
  simp -implicitDefEqProofs (disch := omega) only [go_sem, GTree.enc, Tm.enc, encB, encI, encL, encS, List.cons_append, List.nil_append, List.append_nil, Tm.args]
  first | (intro h; omega) | exact ⟨fun h => by omega, fun _ => trivial⟩
end Go.Ai
