/- The next place where something fires. -/
import Derived.Test.YtmddjojbaompiaaGreatAiP5
import Derived.Test.YtmddjojbaompiaaGreatAiF1
import Derived.Test.YtmddjojbaompiaaGreatAiG1
import Derived.Test.YtmddjojbaompiaaGreatAiDynE
set_option linter.unusedVariables false
set_option linter.unusedSimpArgs false
namespace Go.Ai
open Go.Proofs
set_option maxRecDepth 100000
mutual
def rng (st : List GStrict) : Tm → Prop
 | .mk k _ s ts => (k = 2 → ∀ x, x ∈ strictOf st s → 0 ≤ x ∧ x.toNat < ts.length) ∧ rngs st ts
def rngs (st : List GStrict) : List Tm → Prop
 | [] => True
 | a :: ts => rng st a ∧ rngs st ts
end
def firstR (rs : List (Option (Int × List Int))) : List Int → Option (Int × List Int)
 | [] => none
 | x :: xs => match rs.getD x.toNat none with
  | some q => some (q.1, x :: q.2)
  | none => firstR rs xs
mutual
def Tm.nxt (st : List GStrict) (root : Tm → Int) : Tm → Option (Int × List Int)
 | .mk k n s ts => match firstR (Tm.nxts st root ts) (if k = 2 then strictOf st s else []) with
  | some q => some q
  | none => if root (.mk k n s ts) < 0 then none else some (root (.mk k n s ts), [])
def Tm.nxts (st : List GStrict) (root : Tm → Int) : List Tm → List (Option (Int × List Int))
 | [] => []
 | a :: ts => a.nxt st root :: Tm.nxts st root ts
end
def rdx (path : List Int) : Option (Int × List Int) → List C
 | some q => [.v (.int .i64 q.1), .sl ((path ++ q.2).map encI)]
 | none => [.v (.int .i64 0), .sl []]
end Go.Ai
/- The next redex, in the program. -/
namespace Go.Ai
open Go.Proofs
set_option maxRecDepth 100000
def rootF (d : GDefinition) (t : Tm) : Int := rootI (fun x => (fireI x t).isSome) d.ru 0
def endR (ro : Int) : Option (Int × List Int) → Option (Int × List Int)
 | some q => some q
 | none => if ro < 0 then none else some (ro, [])
abbrev nextSat (f : FuncId) (d : GDefinition) (t : Tm) : Prop := ∀ path : List Int, path.length + t.size < 1000000 → Sat Tryz.prog f [aggV d.enc, tmV t, slV (path.map encI)] (.tup [aggV (rdx path (t.nxt d.st (rootF d))), boolV (t.nxt d.st (rootF d)).isSome])
end Go.Ai
/- The next redex, in the reference. -/
namespace Go.Ai
open Go.Proofs
set_option maxRecDepth 100000
abbrev nextSatS (d : GDefinition) (t : Tm) : Prop := Sat Tryz.prog 124 [aggV d.enc, tmV t] (.tup [aggV (rdx [] (t.nxt d.st (rootF d))), boolV (t.nxt d.st (rootF d)).isSome])
def nextB (d : GDefinition) (t : Tm) : Option (Int × List Int) := if cfgB d t then t.nxt d.st (rootF d) else none
end Go.Ai
