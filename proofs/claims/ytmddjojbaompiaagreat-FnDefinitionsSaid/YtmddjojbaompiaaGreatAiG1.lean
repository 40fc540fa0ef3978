/- spec.l1In, spec.l3Copy. -/
import Derived.Test.YtmddjojbaompiaaGreatAiC1
import Derived.Test.YtmddjojbaompiaaGreatAiM3
import Derived.Test.YtmddjojbaompiaaGreatAiKinds
set_option linter.unusedVariables false
set_option linter.unusedSimpArgs false
namespace Go.Ai
open Go.Proofs
set_option maxRecDepth 100000
theorem l1In_sat (a b c : Int) : Sat Tryz.prog 98 [intV a, intV b, intV c] (boolV (decide (b ≤ a) && decide (a ≤ c))) := by
 obtain ⟨r, hr⟩ : ∃ r, r = (decide (b ≤ a) && decide (a ≤ c)) := ⟨_, rfl⟩
 rw [← hr]
 refine sat_of_code tbOk mixed Tryz.func98 rfl rfl rfl (by decide +kernel) (by decide +kernel) (Nat.le_of_ble_eq_true rfl) ?_
 simp -implicitDefEqProofs (disch := omega) only [go_sem]
 grind
end Go.Ai
/- Copies of terms: impl.copyTerm gives an owned copy. -/
namespace Go.Ai
open Go.Proofs
set_option maxRecDepth 100000
end Go.Ai
/- slices.Clone: a row of one's own. -/
namespace Go.Ai
open Go.Proofs
set_option maxRecDepth 100000
theorem cloneString_sat (xs : List ByteArray) (hl : xs.length < 100000000) : SatO Tryz.prog 129 [slV (xs.map encS)] 9 1 (rowsOf encS xs) (.one (.own 0 xs.length)) := by
 cases xs with
 | nil =>
  refine satO_sl0 ?_ ?_
  all_goals
   refine satO_of_code [.one (.own 0 0)] rfl (by simp) tbOk mixed Tryz.func129 rfl rfl rfl (by decide +kernel) (by decide +kernel) (Nat.le_of_ble_eq_true rfl) (by decide) rowsOf_cl rowsOf_noD rfl ?_
   simp -implicitDefEqProofs (disch := omega) only [go_sem]
   rfl
 | cons x xs =>
  simp only [List.length_cons] at hl
  have hr := rowsOf_l (ec := encS) (xs := x :: xs) (fun _ => rfl)
  refine satO_of_code [.one (.own 0 (x :: xs).length)] rfl (by simp) tbOk mixed Tryz.func129 rfl rfl rfl (by decide +kernel) (by decide +kernel) (Nat.le_of_ble_eq_true rfl) (by decide) rowsOf_cl rowsOf_noD rfl ?_
  simp -implicitDefEqProofs (disch := omega) only [go_sem]
  exact ⟨⟨hr, by omega, by omega⟩, fun _ => rfl⟩
theorem cloneStringD_sat (xs : List ByteArray) (hl : xs.length < 100000000) : Sat Tryz.prog 129 [slV (xs.map encS)] (slV (xs.map encS)) :=
 (cloneString_sat xs hl).sat (by simp [fullV, fullC, rowsOf_len]) rowsOf_unN rfl
end Go.Ai
