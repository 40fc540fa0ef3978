/- The law on TreeRule. Written by mk36.py. -/
import Derived.Test.YtkcfegkfbijedaaGreatDoorAiTL1
import Derived.Test.YtkcfegkfbijedaaGreatDoorAiTR1
import Derived.Test.YtkcfegkfbijedaaGreatDoorAiN1
namespace Go.Ai
set_option linter.unusedVariables false
set_option linter.unusedSimpArgs false
open Go.Proofs Go.RowKit
set_option maxRecDepth 100000

theorem lawTreeRule_sat (d : GDefinition) (x : GTree) (t : Tm) (hw_d : GDefinition.wf d) (hw_x : GTree.wf x) (hw_t : Tm.wf t) : Sat Tryz.prog 3 [aggV d.enc, aggV x.enc, tmV t] (boolV true) := by
  refine sat_of_code tbOk mixed Tryz.func3 rfl rfl rfl (by decide +kernel) (by decide +kernel) (Nat.le_of_ble_eq_true rfl) ?_
  simp -implicitDefEqProofs (disch := omega) only [go_sem]
  refine CallK.mk (szDefinition_sat d hw_d 1048576 (by grind [szR]) (by grind [szR])) ?_
  simp -implicitDefEqProofs (disch := omega) only [go_sem]
  intro hz_d
  have hs_d : d.size < 1048577 := by grind [szR]
  refine CallK.mk (szTree_sat x hw_x _ (by grind [szR]) (by grind [szR])) ?_
  simp -implicitDefEqProofs (disch := omega) only [go_sem]
  intro hz_x
  have hs_x : x.size < 1048577 := by grind [szR]
  refine CallK.mk (szTerm_sat t hw_t _ (by grind [szR]) (by grind [szR])) ?_
  simp -implicitDefEqProofs (disch := omega) only [go_sem]
  intro hz_t
  have hs_t : t.size < 1048577 := by grind [szR]
  have hok := selF_ok x.no (fun y hy => (hw_x.2 y hy).2.2.2.2) t x.no.length 0
  have hsm := ru_sum x.no
  have hxl : (selF x.no t x.no.length 0).length < 1000000000 := by simp only [GTree.size] at hs_x; omega
  have hsp := specTreeRule_sat d hw_d hs_d x hs_x t hw_t hs_t hxl
  have him := implTreeRule_sat d hw_d hs_d x hs_x t hw_t hs_t hxl
  clear hok hsm hxl
  generalize treeRuleB d x t = r at hsp him
  refine CallK.mk (toDefinition_sat d hs_d) ?_
  simp -implicitDefEqProofs (disch := omega) only [go_sem]
  refine CallK.mk (toTree_sat x hs_x) ?_
  simp -implicitDefEqProofs (disch := omega) only [go_sem]
  refine CallK.mk (toTerm_sat t hs_t) ?_
  simp -implicitDefEqProofs (disch := omega) only [go_sem]
  refine CallK.mk hsp ?_
  simp -implicitDefEqProofs (disch := omega) only [go_sem]
  refine CallK.mk (toDefinition_sat d hs_d) ?_
  simp -implicitDefEqProofs (disch := omega) only [go_sem]
  refine CallK.mk (toTree_sat x hs_x) ?_
  simp -implicitDefEqProofs (disch := omega) only [go_sem]
  refine CallK.mk (toTerm_sat t hs_t) ?_
  simp -implicitDefEqProofs (disch := omega) only [go_sem]
  refine CallK.mk him ?_
  simp -implicitDefEqProofs (disch := omega) only [go_sem]
  refine CallK.mk (toDefinition_sat d hs_d) ?_
  simp -implicitDefEqProofs (disch := omega) only [go_sem]
  refine CallK.mk (eqDefinition_sat d hw_d d) ?_
  simp -implicitDefEqProofs (disch := omega) only [go_sem, GDefinition.eqb_refl]
  refine CallK.mk (toTree_sat x hs_x) ?_
  simp -implicitDefEqProofs (disch := omega) only [go_sem]
  refine CallK.mk (eqTree_sat x hw_x x) ?_
  simp -implicitDefEqProofs (disch := omega) only [go_sem, GTree.eqb_refl]
  refine CallK.mk (toTerm_sat t hs_t) ?_
  simp -implicitDefEqProofs (disch := omega) only [go_sem]
  refine CallK.mk (eqTerm_sat t hw_t t) ?_
  simp -implicitDefEqProofs (disch := omega) only [go_sem, Tm.eqb_refl]
end Go.Ai
