/- Guards: what holds. -/
import Derived.Test.YtgdmjekkdcjipaaGreatAiW1
import Derived.Test.YtgdmjekkdcjipaaGreatAiI5
import Derived.Test.YtgdmjekkdcjipaaGreatAiD1
set_option linter.unusedVariables false
set_option linter.unusedSimpArgs false
namespace Go.Ai
open Go.Proofs
set_option maxRecDepth 100000
def Tm.num : Tm → Int
 | .mk _ n _ _ => n
def jK1 (g : GGuard) : Bool :=
 (g.le.vars.length == 0) && (g.ri.vars.length == 0) && (if g.kd == 1 then g.le.red.eqb g.ri.red else if g.kd == 2 then !(g.le.red.eqb g.ri.red) else if g.kd == 3 then jL1 g.le.red && jL1 g.ri.red && decide (g.le.red.num < g.ri.red.num) else false)
def GGuard.sub (bs : List GBind) (g : GGuard) : GGuard := ⟨g.kd, g.le.sub bs, g.ri.sub bs⟩
end Go.Ai
