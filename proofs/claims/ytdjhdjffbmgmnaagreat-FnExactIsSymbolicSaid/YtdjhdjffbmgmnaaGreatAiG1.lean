/- Copies of terms: impl.copyTerm gives an owned copy. -/
import Derived.Test.YtdjhdjffbmgmnaaGreatAiM3
import Derived.Test.YtdjhdjffbmgmnaaGreatAiC1
import Derived.Test.YtdjhdjffbmgmnaaGreatAiKinds
namespace Go.Ai
set_option linter.unusedVariables false
set_option linter.unusedSimpArgs false
open Go.Proofs
set_option maxRecDepth 100000

end Go.Ai
/- spec.l1In, spec.l3Copy. -/
namespace Go.Ai
set_option linter.unusedVariables false
set_option linter.unusedSimpArgs false
open Go.Proofs
set_option maxRecDepth 100000

theorem l1In_sat (a b c : Int) : Sat Tryz.prog 95 [intV a, intV b, intV c] (boolV (decide (b ≤ a) && decide (a ≤ c))) := by
  obtain ⟨r, hr⟩ : ∃ r, r = (decide (b ≤ a) && decide (a ≤ c)) := ⟨_, rfl⟩
  rw [← hr]
  refine sat_of_code tbOk mixed Tryz.func95 rfl rfl rfl (by decide +kernel) (by decide +kernel) (Nat.le_of_ble_eq_true rfl) ?_
  simp -implicitDefEqProofs (disch := omega) only [go_sem, ↓reduceIte, reduceCtorEq, Nat.reduceEqDiff, Nat.reduceLT, Nat.reduceLeDiff, Nat.reduceAdd, Nat.reduceSub, Nat.reduceMul, IntWalk.i64_in, AV.one.injEq, AC.c.injEq, C.v.injEq, Value.int.injEq, Value.bool.injEq, beq_self_eq_true, bne_self_eq_false]
  grind

end Go.Ai
/- slices.Clone: a row of one's own. -/
namespace Go.Ai
set_option linter.unusedVariables false
set_option linter.unusedSimpArgs false
open Go.Proofs
set_option maxRecDepth 100000

theorem cloneString_sat (xs : List ByteArray) (hl : xs.length < 100000000) : SatO Tryz.prog 107 [slV (xs.map encS)] 9 1 (rowsOf encS xs) (.one (.own 0 xs.length)) := by
  cases xs with
  | nil =>
    refine satO_sl0 ?_ ?_
    all_goals
      refine satO_of_code [.one (.own 0 0)] rfl (by simp) tbOk mixed Tryz.func107 rfl rfl rfl (by decide +kernel) (by decide +kernel) (Nat.le_of_ble_eq_true rfl) (by decide) rowsOf_cl rowsOf_noD rfl ?_
      simp -implicitDefEqProofs (disch := omega) only [go_sem, ↓reduceIte, reduceCtorEq, Nat.reduceEqDiff, Nat.reduceLT, Nat.reduceLeDiff, Nat.reduceAdd, Nat.reduceSub, Nat.reduceMul, IntWalk.i64_in, AV.one.injEq, AC.c.injEq, C.v.injEq, Value.int.injEq, Value.bool.injEq, beq_self_eq_true, bne_self_eq_false]
      rfl
  | cons x xs =>
    simp only [List.length_cons] at hl
    have hr := rowsOf_l (ec := encS) (xs := x :: xs) (fun _ => rfl)
    refine satO_of_code [.one (.own 0 (x :: xs).length)] rfl (by simp) tbOk mixed Tryz.func107 rfl rfl rfl (by decide +kernel) (by decide +kernel) (Nat.le_of_ble_eq_true rfl) (by decide) rowsOf_cl rowsOf_noD rfl ?_
    simp -implicitDefEqProofs (disch := omega) only [go_sem, ↓reduceIte, reduceCtorEq, Nat.reduceEqDiff, Nat.reduceLT, Nat.reduceLeDiff, Nat.reduceAdd, Nat.reduceSub, Nat.reduceMul, IntWalk.i64_in, AV.one.injEq, AC.c.injEq, C.v.injEq, Value.int.injEq, Value.bool.injEq, beq_self_eq_true, bne_self_eq_false]
    exact ⟨⟨hr, by omega, by omega⟩, fun _ => rfl⟩
theorem cloneStringD_sat (xs : List ByteArray) (hl : xs.length < 100000000) : Sat Tryz.prog 107 [slV (xs.map encS)] (slV (xs.map encS)) :=
  (cloneString_sat xs hl).sat (by simp [fullV, fullC, rowsOf_len]) rowsOf_unN rfl
end Go.Ai
