/- CaseSubst. Written by mk14.py. -/
import Derived.Test.YtofbieojmaobfaaGreatAiI3
namespace Go.Ai
set_option linter.unusedVariables false
set_option linter.unusedSimpArgs false
open Go.Proofs
set_option maxRecDepth 100000

def mkB (p : ByteArray × Int) : GBind := ⟨p.1, wordT p.2⟩
def casePairs (vars : List ByteArray) (c : Int) : List (ByteArray × Int) := vars.zip (valsOf vars.length c)
def caseSubst (vars : List ByteArray) (c : Int) : List GBind := (casePairs vars c).map mkB
theorem dgI_b (c : Int) : ∀ i n, n ∈ dgI c i → 0 ≤ n ∧ n < 4
  | 0, n, h => by simp [dgI] at h
  | i + 1, n, h => by
    simp only [dgI, List.mem_append, List.mem_singleton] at h
    rcases h with h | rfl
    · exact dgI_b c i n h
    · omega
theorem valsOf_b (k : Nat) (c : Int) : ∀ n, n ∈ valsOf k c → 0 ≤ n ∧ n < 4 := by
  intro n hn
  unfold valsOf at hn
  split at hn
  · exact dgI_b c k n (List.mem_reverse.1 hn)
  · simp at hn
def bR (zs : List (ByteArray × Int)) : List (List AC) := zs.map fun p => [sC p.1, iC 3, iC p.2, sC ByteArray.empty, .nil]
end Go.Ai
