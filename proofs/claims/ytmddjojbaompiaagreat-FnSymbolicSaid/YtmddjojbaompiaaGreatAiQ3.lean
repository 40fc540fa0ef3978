/- What fires: the two sides agree. -/
import Derived.Test.YtmddjojbaompiaaGreatAiP3
import Derived.Test.YtmddjojbaompiaaGreatAiQ2
import Derived.Test.YtmddjojbaompiaaGreatAiH2
import Derived.Test.YtmddjojbaompiaaGreatAiU11
set_option linter.unusedVariables false
set_option linter.unusedSimpArgs false
namespace Go.Ai
open Go.Proofs
set_option maxRecDepth 100000
def restr (bs : List GBind) (ns : List ByteArray) : List GBind := ns.filterMap fun v => (bnd bs v).map fun t => ⟨v, t⟩
def tmOk (t : Tm) : Prop := t.size < 540 ∧ t.cnt ≤ 60 ∧ t.wf
def ruleOk (r : GRule) : Prop := tmOk r.le ∧ tmOk r.ri ∧ r.gu.length ≤ 2 ∧ ∀ g, g ∈ r.gu → tmOk g.le ∧ tmOk g.ri
def subOf (r : GRule) (bs : List GBind) : List GBind := restr bs (sortN (sortN r.le.vars))
def fireS (r : GRule) (t : Tm) : List GBind × Bool :=
 match r.le.mat t [] with
 | none => ([], false)
 | some bs => (subOf r bs, r.gu.all fun g => holdsG (g.sub (subOf r bs)))
def fireI (r : GRule) (t : Tm) : Option (List GBind) :=
 match r.le.mat t [] with
 | none => none
 | some bs => if r.gu.all fun g => holdsG (g.sub bs) then some bs else none
def rootI (p : GRule → Bool) : List GRule → Int → Int
 | [], _ => -1
 | r :: rs, k => if p r then k else rootI p rs (k + 1)
end Go.Ai
