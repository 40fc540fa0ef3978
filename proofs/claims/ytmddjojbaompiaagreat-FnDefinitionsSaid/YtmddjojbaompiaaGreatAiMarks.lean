/- Rows that are overwritten one element after the other. -/
import Derived.Test.YtmddjojbaompiaaGreatAiRow2
import Derived.Test.YtmddjojbaompiaaGreatAiKinds
set_option linter.unusedVariables false
set_option linter.unusedSimpArgs false
namespace Go.Ai
open Go.RowKit
def turnR (f : List (List AC)) (g : List (List AC)) (i : Nat) : List (List AC) := f.take i ++ g.drop i
section
variable {f g : List (List AC)} {i : Nat}
def turnS (f : List (List AC)) (g : List (List AC)) (i : Nat) (r : List AC) : List (List AC) := (turnR f g i).set i r
end
section
variable {n : Nat} {L : List (Nat × AV)} {B : List (Nat × LB)} {G : List AV} {l : Nat} {e : TypeId} {sz : Nat} {f g : List (List AC)} {i c T : Nat} {r : List AC} {x : C}
end
def dC : C → AC
 | .v x => .c (.v x)
 | .sl r => .d (.sl r)
section
variable {α : Type} (ec : α → List C)
def drowsOf (xs : List α) : List (List AC) := xs.map fun a => (ec a).map dC
end
section
variable {n : Nat} {L : List (Nat × AV)} {B : List (Nat × LB)} {G : List AV} {l : Nat} {e : TypeId} {sz : Nat} {f g : List (List AC)} {fz : Bool} {i c T j : Nat} {r : List AC} {x : C} {xs : List (Option C)}
end
theorem wfI_of (n : Int) (h : -4611686018427387904 ≤ n) (h' : n ≤ 4611686018427387904) : wfI n := by
 have h1 : IntKind.i64.min = -9223372036854775808 := rfl
 have h2 : IntKind.i64.max = 9223372036854775807 := rfl
 simp only [wfI, Lit.wf, h1, h2, Bool.and_eq_true, decide_eq_true_eq]
 omega
end Go.Ai
