/- FireRule. -/
import Derived.Test.YtmddjojbaompiaaGreatAiP5
set_option linter.unusedVariables false
set_option linter.unusedSimpArgs false
namespace Go.Ai
open Go.Proofs
set_option maxRecDepth 100000
end Go.Ai
/- FireRule on both sides (not built yet: r5.Z has the functions). -/
namespace Go.Ai
open Go.Proofs
set_option maxRecDepth 100000
def fireB (d : GDefinition) (i : Int) (t : Tm) : Option Tm :=
 if cfgB d t && decide (0 ≤ i) && decide (i < (d.ru.length : Int)) then (fireI (d.ru.getD i.toNat ⟨sE, zeroT, zeroT, []⟩) t).map fun bs => ((d.ru.getD i.toNat ⟨sE, zeroT, zeroT, []⟩).ri.sub bs).red else none
end Go.Ai
/- FireRule on both sides: the calls. -/
namespace Go.Ai
open Go.Proofs
set_option maxRecDepth 100000
end Go.Ai
