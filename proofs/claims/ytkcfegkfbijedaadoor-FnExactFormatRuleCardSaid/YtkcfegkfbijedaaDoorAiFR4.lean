/- The law on FormatRule. Written by mk38.py. -/
import Derived.Test.YtkcfegkfbijedaaDoorAiFR3
import Derived.Test.YtkcfegkfbijedaaDoorAiN1
namespace Go.Ai
set_option linter.unusedVariables false
set_option linter.unusedSimpArgs false
open Go.Proofs Go.RowKit
set_option maxRecDepth 100000

theorem lawFormatRule_sat (x : GRule) (hw_x : GRule.wf x) : Sat Tryd.prog 5 [aggV x.enc] (boolV true) := by
  refine sat_of_code tbOk mixed Tryd.func5 rfl rfl rfl (by decide +kernel) (by decide +kernel) (Nat.le_of_ble_eq_true rfl) ?_
  simp -implicitDefEqProofs (disch := omega) only [go_sem]
  refine CallK.mk (szRule_sat x hw_x 1048576 (by grind [szR]) (by grind [szR])) ?_
  simp -implicitDefEqProofs (disch := omega) only [go_sem]
  intro hz_x
  have hs_x : x.size < 1048577 := by grind [szR]
  have hsp := specFormatRule_sat x hs_x
  have him := implFormatRule_sat x hs_x
  generalize textR x = r at hsp him
  refine CallK.mk (toRule_sat x hs_x) ?_
  simp -implicitDefEqProofs (disch := omega) only [go_sem]
  refine CallK.mk hsp ?_
  simp -implicitDefEqProofs (disch := omega) only [go_sem]
  refine CallK.mk (toRule_sat x hs_x) ?_
  simp -implicitDefEqProofs (disch := omega) only [go_sem]
  refine CallK.mk him ?_
  simp -implicitDefEqProofs (disch := omega) only [go_sem]
  refine CallK.mk (toRule_sat x hs_x) ?_
  simp -implicitDefEqProofs (disch := omega) only [go_sem]
  refine CallK.mk (eqRule_sat x hw_x x) ?_
  simp -implicitDefEqProofs (disch := omega) only [go_sem, GRule.eqb_refl]
end Go.Ai
