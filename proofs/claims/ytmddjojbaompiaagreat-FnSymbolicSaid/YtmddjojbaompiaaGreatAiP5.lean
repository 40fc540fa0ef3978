/- What fires, in the reference. -/
import Derived.Test.YtmddjojbaompiaaGreatAiQ3
set_option linter.unusedVariables false
set_option linter.unusedSimpArgs false
namespace Go.Ai
open Go.Proofs
set_option maxRecDepth 100000
end Go.Ai
/- What fires, in the program. -/
namespace Go.Ai
open Go.Proofs
set_option maxRecDepth 100000
def fireT (x : GRule) (t : Tm) : Tm := match fireI x t with
 | some bs => (x.ri.sub bs).red
 | none => zeroT
def rootB (d : GDefinition) (t : Tm) : Int := if cfgB d t then rootI (fun x => (fireI x t).isSome) d.ru 0 else -1
end Go.Ai
