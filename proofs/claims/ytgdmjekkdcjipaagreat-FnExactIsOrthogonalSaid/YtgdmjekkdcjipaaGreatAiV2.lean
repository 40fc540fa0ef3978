/- slices.Reverse on ints. -/
import Derived.Test.YtgdmjekkdcjipaaGreatAiRow2
import Derived.Test.YtgdmjekkdcjipaaGreatAiM3
import Derived.Test.YtgdmjekkdcjipaaGreatAiG1
set_option linter.unusedVariables false
set_option linter.unusedSimpArgs false
namespace Go.Ai
open Go.Proofs
set_option maxRecDepth 100000
def cI (xs : List Int) : List (List AC) := xs.map fun x => [iC x]
def rvI (xs : List Int) (i : Nat) : List Int := (List.range xs.length).map fun j => if j < i ∨ xs.length ≤ j + i then xs.getD (xs.length - 1 - j) 0 else xs.getD j 0
def p4 : Nat → Int
 | 0 => 1
 | i + 1 => p4 i * 4
def ccN (n : Nat) : Int := if n ≤ 3 then p4 n else 0
def cq (c : Int) : Nat → Int
 | 0 => c
 | i + 1 => cq c i / 4
def dgI (c : Int) : Nat → List Int
 | 0 => []
 | i + 1 => dgI c i ++ [cq c i % 4]
def xQ1 (n : Nat) (c : Int) : List Int := if 0 ≤ c ∧ c < ccN n then (dgI c n).reverse else []
def spI (n : Nat) (c : Int) (i : Nat) : List Int := List.replicate (n - i) 0 ++ (dgI c i).reverse
def xS1 (n : Int) : Tm := .mk 3 n ByteArray.empty []
end Go.Ai
