/- The two CountCases agree at every int: inside 0 to 3 by running both, outside both return 0. No condition. -/
import Derived.Test.YthaghkakjaengaaPFnExactCountCasesx1
namespace Go.Proofs.Ythaghkakjaengaa.Pure
open Go.RowKit Go.Proofs.Ythaghkakjaengaa.PFnExactCountCases Go.Proofs.YthaghkakjaengaaW.PrintWords Go.Proofs.YthaghkakjaengaaW.PrintLast

theorem FnExactCountCases : laws_FnExactCountCases.Pure := by
  intro a _
  refine ⟨10, ?_⟩
  by_cases h : 0 ≤ a ∧ a ≤ 3
  · have h4 : a = 0 ∨ a = 1 ∨ a = 2 ∨ a = 3 := by omega
    rcases h4 with rfl | rfl | rfl | rfl <;> decide +kernel
  · have h1 : spec_CountCases.f 10 a = some 0 := by
      unfold spec_CountCases.f spec_l1In.f
      by_cases h0 : a ≥ 0
      · have : ¬ a ≤ 3 := by omega
        simp [h0, this]
      · simp [h0]
    have h2 : impl_CountCases.f 10 a = some 0 := by
      unfold impl_CountCases.f
      by_cases h0 : a < 0
      · simp [h0, impl_CountCases.j0]
      · have : a > 3 := by omega
        simp [h0, this, impl_CountCases.j0]
    unfold laws_FnExactCountCases.f
    simp [h1, h2]

end Go.Proofs.Ythaghkakjaengaa.Pure
