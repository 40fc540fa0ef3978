/- RulesFor and StrictArgs: owned results, and the laws. -/
import Derived.Test.YtmddjojbaompiaaGreatAiN1
import Derived.Test.YtmddjojbaompiaaGreatAiE3
set_option linter.unusedVariables false
set_option linter.unusedSimpArgs false
namespace Go.Ai
open Go.Proofs
set_option maxRecDepth 100000
def Tm.kd : Tm → Int
 | .mk k _ _ _ => k
def Tm.nm : Tm → ByteArray
 | .mk _ _ s _ => s
def isFor (op : ByteArray) (r : GRule) : Bool := r.le.kd == 2 && r.le.nm.toList == op.toList
def rfor (op : ByteArray) : List GRule → Nat → List Int
 | [], _ => []
 | r :: rs, i => if isFor op r = true then (i : Int) :: rfor op rs (i + 1) else rfor op rs (i + 1)
theorem rowsI_isO (xs : List Int) : ∀ r, r ∈ rowsOf encI xs → ∀ x, x ∈ r → isO x = true := by
 intro r hr x hx
 obtain ⟨y, _, rfl⟩ := List.mem_map.1 hr
 simp [encI] at hx
 subst hx; rfl
end Go.Ai
