/- EqualDefinition. -/
import Derived.Test.YtmddjojbaompiaaGreatAiD1
import Derived.Test.YtmddjojbaompiaaGreatAiN1
import Derived.Test.YtmddjojbaompiaaGreatAiG1
set_option linter.unusedVariables false
set_option linter.unusedSimpArgs false
namespace Go.Ai
open Go.Proofs
set_option maxRecDepth 100000
end Go.Ai
/- Strict positions. -/
namespace Go.Ai
open Go.Proofs
set_option maxRecDepth 100000
def strictOf (st : List GStrict) (op : ByteArray) : List Int := (st.filter (fun s => s.op.toList == op.toList)).map (·.ar)
end Go.Ai
/- RulesFor and StrictArgs: owned results, and the laws. -/
namespace Go.Ai
open Go.Proofs
set_option maxRecDepth 100000
def Tm.kd : Tm → Int
 | .mk k _ _ _ => k
def Tm.nm : Tm → ByteArray
 | .mk _ _ s _ => s
def isFor (op : ByteArray) (r : GRule) : Bool := r.le.kd == 2 && r.le.nm.toList == op.toList
def rfor (op : ByteArray) : List GRule → Nat → List Int
 | [], _ => []
 | r :: rs, i => if isFor op r = true then (i : Int) :: rfor op rs (i + 1) else rfor op rs (i + 1)
end Go.Ai
/- Strict positions: searches, copies, subterms. -/
namespace Go.Ai
open Go.Proofs
set_option maxRecDepth 100000
def hasI (xs : List Int) (n : Int) : Bool := xs.any (· == n)
def idxI (n : Int) : List Int → Int → Int
 | [], _ => -1
 | x :: xs, k => if n = x then k else idxI n xs (k + 1)
def termAt : Tm → List Int → Option Tm
 | t, [] => some t
 | t, n :: p => if h : 0 ≤ n ∧ n.toNat < t.args.length then termAt (t.args[n.toNat]'h.2) p else none
def noTm : Tm := .mk 0 0 ⟨⟨[]⟩⟩ []
end Go.Ai
/- Strict positions: spec, impl, the law. -/
namespace Go.Ai
open Go.Proofs
set_option maxRecDepth 100000
def isSP (st : List GStrict) : Tm → List Int → Bool
 | _, [] => true
 | t, x :: p => if h : 0 ≤ x ∧ x.toNat < t.args.length then (match t with | .mk k _ s _ => k == 2 && hasI (strictOf st s) x) && isSP st (t.args[x.toNat]'h.2) p else false
end Go.Ai
