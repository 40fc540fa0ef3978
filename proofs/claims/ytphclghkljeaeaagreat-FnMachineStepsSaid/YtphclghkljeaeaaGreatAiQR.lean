/- How a code's bytes are read. -/
import Derived.Test.YtphclghkljeaeaaGreatAiDw3
import Derived.Test.YtphclghkljeaeaaGreatAiRows
import Derived.ReadAgain
set_option linter.unusedVariables false
set_option linter.unusedSimpArgs false
namespace Go.Ai
open Go.Proofs Go.RowKit Go.ChangeShapes
set_option maxRecDepth 100000
theorem rL1 : Kids Tryz.prog (· < Tryz.prog.types.size) := kids_rows (by kernel_rfl) (by kernel_rfl)
theorem rG1 : ∀ t e, t < Tryz.prog.types.size → Tryz.prog.underlying t = some (.slice e) → 0 < Tryz.prog.cellsOf e := slices_full_of Tryz.prog (by kernel_rfl)
def wfU (n : Int) : Prop := (Lit.int .u8 n).wf = true
section
variable {H : Type} {enc : TypeId × Value → H} {w : World}
theorem ry1 {t : TypeId} (ht : Tryz.prog.underlying t = some (.int .u8)) (fuel : Nat) (cs : List Value) (x : DataW H × List MemPlace) (h : dX0 enc Tryz.prog w fuel t cs = some x) : ∃ n, wfU n ∧ (mC0 n).length = 1 ∧ RdL w (mC0 n) cs := by
 obtain ⟨n, h1, h2⟩ := fB1 ht h; exact ⟨n, h1, rfl, h2⟩
theorem kp1 {n : Int} (h : wfU n) : 0 ≤ n ∧ n ≤ 255 := by
 have e0 : IntKind.u8.min = 0 := by decide
 have e1 : IntKind.u8.max = 255 := by decide
 simp only [wfU, Lit.wf, Bool.and_eq_true, decide_eq_true_eq, e0, e1] at h
 omega
end
end Go.Ai
