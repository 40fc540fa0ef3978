/- Copies of terms: impl.copyTerm gives an owned copy. -/
import Derived.Test.YtkcfegkfbijedaaAiM3
import Derived.Test.YtkcfegkfbijedaaAiC1
import Derived.Test.YtkcfegkfbijedaaAiKinds
namespace Go.Ai
set_option linter.unusedVariables false
set_option linter.unusedSimpArgs false
open Go.Proofs
set_option maxRecDepth 100000

end Go.Ai
/- spec.l1In, spec.l3Copy. -/
namespace Go.Ai
set_option linter.unusedVariables false
set_option linter.unusedSimpArgs false
open Go.Proofs
set_option maxRecDepth 100000

theorem l1In_sat (a b c : Int) : Sat Try.prog 15 [intV a, intV b, intV c] (boolV (decide (b ≤ a) && decide (a ≤ c))) := by
  obtain ⟨r, hr⟩ : ∃ r, r = (decide (b ≤ a) && decide (a ≤ c)) := ⟨_, rfl⟩
  rw [← hr]
  refine sat_of_code tbOk mixed Try.func15 rfl rfl rfl (by decide +kernel) (by decide +kernel) (Nat.le_of_ble_eq_true rfl) ?_
  simp -implicitDefEqProofs (disch := omega) only [go_sem]
  grind

end Go.Ai
/- slices.Clone: a row of one's own. -/
namespace Go.Ai
set_option linter.unusedVariables false
set_option linter.unusedSimpArgs false
open Go.Proofs
set_option maxRecDepth 100000

theorem cloneInt_sat (xs : List Int) (hl : xs.length < 100000000) : SatO Try.prog 33 [slV (xs.map encI)] 3 1 (rowsOf encI xs) (.one (.own 0 xs.length)) := by
  cases xs with
  | nil =>
    refine satO_sl0 ?_ ?_
    all_goals
      refine satO_of_code [.one (.own 0 0)] rfl (by simp) tbOk mixed Try.func33 rfl rfl rfl (by decide +kernel) (by decide +kernel) (Nat.le_of_ble_eq_true rfl) (by decide) rowsOf_cl rowsOf_noD rfl ?_
      simp -implicitDefEqProofs (disch := omega) only [go_sem]
      rfl
  | cons x xs =>
    simp only [List.length_cons] at hl
    have hr := rowsOf_l (ec := encI) (xs := x :: xs) (fun _ => rfl)
    refine satO_of_code [.one (.own 0 (x :: xs).length)] rfl (by simp) tbOk mixed Try.func33 rfl rfl rfl (by decide +kernel) (by decide +kernel) (Nat.le_of_ble_eq_true rfl) (by decide) rowsOf_cl rowsOf_noD rfl ?_
    simp -implicitDefEqProofs (disch := omega) only [go_sem]
    exact ⟨⟨hr, by omega, by omega⟩, fun _ => rfl⟩
theorem cloneIntD_sat (xs : List Int) (hl : xs.length < 100000000) : Sat Try.prog 33 [slV (xs.map encI)] (slV (xs.map encI)) :=
  (cloneInt_sat xs hl).sat (by simp [fullV, fullC, rowsOf_len]) rowsOf_unN rfl
end Go.Ai
