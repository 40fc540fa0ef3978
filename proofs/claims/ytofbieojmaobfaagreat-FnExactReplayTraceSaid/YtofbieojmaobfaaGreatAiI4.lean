/- CaseSubst. Written by mk14.py. -/
import Derived.Test.YtofbieojmaobfaaGreatAiI3
set_option linter.unusedVariables false
set_option linter.unusedSimpArgs false
namespace Go.Ai
open Go.Proofs
set_option maxRecDepth 100000
def mkB (p : ByteArray × Int) : GBind := ⟨p.1, wordT p.2⟩
def casePairs (vars : List ByteArray) (c : Int) : List (ByteArray × Int) := vars.zip (valsOf vars.length c)
def caseSubst (vars : List ByteArray) (c : Int) : List GBind := (casePairs vars c).map mkB
def bR (zs : List (ByteArray × Int)) : List (List AC) := zs.map fun p => [sC p.1, iC 3, iC p.2, sC ByteArray.empty, .nil]
end Go.Ai
