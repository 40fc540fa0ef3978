/- Subterms at positions, in the reference and in the program; a subterm is put in. -/
import Derived.Test.YtmddjojbaompiaaGreatAiG1
import Derived.Test.YtmddjojbaompiaaGreatAiI3
import Derived.Test.YtmddjojbaompiaaGreatAiP8
import Derived.Test.YtmddjojbaompiaaGreatAiP12
set_option linter.unusedVariables false
set_option linter.unusedSimpArgs false
namespace Go.Ai
open Go.Proofs
set_option maxRecDepth 100000
def atp : List Int → Tm → Option Tm
 | [], t => some t
 | i :: p, .mk _ _ _ ts => if decide (0 ≤ i) && decide (i < (ts.length : Int)) then atp p (ts.getD i.toNat zeroT) else none
def putp : List Int → Tm → Tm → Tm
 | [], _, u => u
 | i :: p, .mk k n s ts, u => .mk k n s (ts.set i.toNat (putp p (ts.getD i.toNat zeroT) u))
abbrev putSat (f : FuncId) (t : Tm) (p : List Int) (v : Tm) : Prop := Sat Tryz.prog f [tmV t, slV (p.map encI), tmV v] (tmV (putp p t v))
end Go.Ai
/- A step: the redex, what is put in, on both sides. -/
namespace Go.Ai
open Go.Proofs
set_option maxRecDepth 100000
def redOk (d : GDefinition) (t : Tm) (q : Int × List Int) : Prop := q.2.length < 1000 ∧ ∃ (j : Nat) (hj : j < d.ru.length) (u : Tm), q.1 = (j : Int) ∧ atp q.2 t = some u ∧ tmOk u ∧ (fireI d.ru[j] u).isSome = true
def doB (d : GDefinition) (t : Tm) (q : Int × List Int) : Tm := putp q.2 t (fireT (d.ru.getD q.1.toNat ⟨sE, zeroT, zeroT, []⟩) ((atp q.2 t).getD zeroT))
def stepB (d : GDefinition) (t : Tm) : Option Tm := match nextB d t with
 | none => none
 | some q => if (doB d t q).valid then some (doB d t q) else none
end Go.Ai
