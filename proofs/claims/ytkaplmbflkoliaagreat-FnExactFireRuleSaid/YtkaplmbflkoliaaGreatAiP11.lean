/- FireRule on both sides (not built yet: r5.Z has the functions). -/
import Derived.Test.YtkaplmbflkoliaaGreatAiP10
namespace Go.Ai
set_option linter.unusedVariables false
set_option linter.unusedSimpArgs false
open Go.Proofs
set_option maxRecDepth 100000

def fireB (d : GDefinition) (i : Int) (t : Tm) : Option Tm :=
  if cfgB d t && decide (0 ≤ i) && decide (i < (d.ru.length : Int)) then (fireI (d.ru.getD i.toNat ⟨sE, zeroT, zeroT, []⟩) t).map fun bs => ((d.ru.getD i.toNat ⟨sE, zeroT, zeroT, []⟩).ri.sub bs).red else none
theorem fireT_map (x : GRule) (t : Tm) : fireT x t = ((fireI x t).map fun bs => (x.ri.sub bs).red).getD zeroT := by
  unfold fireT
  cases fireI x t <;> rfl
/-- The right side is the same by what is restricted. -/
theorem ri_same (sg : GSignature) (r : GRule) (t : Tm) (h : ruleB sg r = true) (bs : List GBind) (hm : r.le.mat t [] = some bs) : r.ri.sub (subOf r bs) = r.ri.sub bs := by
  simp only [ruleB, Bool.and_eq_true] at h
  have hv := List.all_eq_true.1 h.1.2
  refine sub_congr _ _ _ (fun v hv' => bnd_restr bs v _ ((sortN_mem _ v).2 ((sortN_mem _ v).2 ((hasS_mem _ v).1 (hv v hv')))))
end Go.Ai
