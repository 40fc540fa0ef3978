/- Variables of a term: spec.l3Vars, IsGround. -/
import Derived.Test.YtkcfegkfbijedaaDoorAiRow2
import Derived.Test.YtkcfegkfbijedaaDoorAiM3
import Derived.Test.YtkcfegkfbijedaaDoorAiC1
namespace Go.Ai
set_option linter.unusedVariables false
set_option linter.unusedSimpArgs false
open Go.Proofs
set_option maxRecDepth 100000

abbrev sR (xs : List ByteArray) : List (List AC) := rowsOf encS xs
theorem sR_len (xs : List ByteArray) : (sR xs).length = xs.length := rowsOf_len
theorem sR_cl (xs : List ByteArray) : clR (sR xs) := rowsOf_cl
theorem sR_noD (xs : List ByteArray) : noD (sR xs) = true := rowsOf_noD
theorem sR_toC (xs : List ByteArray) : ((sR xs).map fun r => r.map toC) = xs.map encS := rowsOf_toC
theorem sR_app (xs ys : List ByteArray) : sR xs ++ sR ys = sR (xs ++ ys) := rowsOf_app ys
theorem sR_one (x : ByteArray) : sR [x] = [[sC x]] := rfl

mutual
def Tm.vars : Tm → List ByteArray
  | .mk k n s ts => (if k == 1 then [s] else []) ++ Tm.varss ts
def Tm.varss : List Tm → List ByteArray
  | [] => []
  | a :: ts => a.vars ++ Tm.varss ts
end
theorem varss_snoc : ∀ (ts : List Tm) (a : Tm), Tm.varss (ts ++ [a]) = Tm.varss ts ++ a.vars
  | [], a => by simp [Tm.varss]
  | b :: ts, a => by simp only [List.cons_append, Tm.varss, varss_snoc ts a, List.append_assoc]
mutual
theorem vars_len : ∀ (t : Tm), t.vars.length ≤ 1 + t.size
  | .mk k n s ts => by
    have := varss_len ts
    simp only [Tm.vars, List.length_append, Tm.size]
    split <;> simp <;> omega
theorem varss_len : ∀ (ts : List Tm), (Tm.varss ts).length ≤ Tm.sizes ts
  | [] => by simp [Tm.varss]
  | a :: ts => by
    have h1 := vars_len a
    have h2 := varss_len ts
    simp only [Tm.varss, List.length_append, Tm.sizes]; omega
end
theorem sizes_take_succ (ts : List Tm) (i : Nat) (h : i < ts.length) : Tm.sizes (ts.take i) + 1 + ts[i].size ≤ Tm.sizes ts := by
  have h1 := sizes_drop ts i h
  have : ∀ (a b : List Tm), Tm.sizes (a ++ b) = Tm.sizes a + Tm.sizes b := by
    intro a b
    induction a with
    | nil => simp [Tm.sizes]
    | cons x a ih => simp only [List.cons_append, Tm.sizes, ih]; omega
  have h2 := this (ts.take i) (ts.drop i)
  rw [List.take_append_drop] at h2
  omega
end Go.Ai
