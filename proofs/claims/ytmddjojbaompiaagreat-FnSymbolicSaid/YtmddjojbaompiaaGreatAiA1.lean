/- All places where something fires: what they are, and that they are few. -/
import Derived.Test.YtmddjojbaompiaaGreatAiP8
set_option linter.unusedVariables false
set_option linter.unusedSimpArgs false
namespace Go.Ai
open Go.Proofs
set_option maxRecDepth 100000
def gather (rs : List (List (Int × List Int))) : List Int → List (Int × List Int)
 | [] => []
 | x :: xs => (rs.getD x.toNat []).map (fun q => (q.1, x :: q.2)) ++ gather rs xs
mutual
def Tm.all (st : List GStrict) (ro : Tm → List Int) : Tm → List (Int × List Int)
 | .mk k n s ts => (ro (.mk k n s ts)).map (fun x => (x, [])) ++ gather (Tm.alls st ro ts) (if k = 2 then strictOf st s else [])
def Tm.alls (st : List GStrict) (ro : Tm → List Int) : List Tm → List (List (Int × List Int))
 | [] => []
 | a :: ts => a.all st ro :: Tm.alls st ro ts
end
def firesF (p : GRule → Bool) : List GRule → Int → List Int
 | [], _ => []
 | r :: rs, k => (if p r then [k] else []) ++ firesF p rs (k + 1)
def ndS (st : List GStrict) : Prop := ∀ s, (strictOf st s).Nodup
def firesI (d : GDefinition) (t : Tm) : List Int := firesF (fun x => (fireI x t).isSome) d.ru 0
def encP (path : List Int) (q : Int × List Int) : List C := [.v (.int .i64 q.1), .sl ((path ++ q.2).map encI)]
end Go.Ai
