/- Copies of terms: impl.copyTerm gives an owned copy. -/
import Derived.Test.YtkcfegkfbijedaaDoorAiM3
import Derived.Test.YtkcfegkfbijedaaDoorAiC1
namespace Go.Ai
set_option linter.unusedVariables false
set_option linter.unusedSimpArgs false
open Go.Proofs
set_option maxRecDepth 100000

end Go.Ai
/- spec.l1In, spec.l3Copy. -/
namespace Go.Ai
set_option linter.unusedVariables false
set_option linter.unusedSimpArgs false
open Go.Proofs
set_option maxRecDepth 100000

theorem l1In_sat (a b c : Int) : Sat Tryd.prog 35 [intV a, intV b, intV c] (boolV (decide (b ≤ a) && decide (a ≤ c))) := by
  obtain ⟨r, hr⟩ : ∃ r, r = (decide (b ≤ a) && decide (a ≤ c)) := ⟨_, rfl⟩
  rw [← hr]
  refine sat_of_code tbOk mixed Tryd.func35 rfl rfl rfl (by decide +kernel) (by decide +kernel) (Nat.le_of_ble_eq_true rfl) ?_
  simp -implicitDefEqProofs (disch := omega) only [go_sem]
  grind

theorem l3Copy_1 (k n : Int) (s : ByteArray) (ts : List Tm) (hl : ts.length < 1048577) (ih : ∀ t, t ∈ ts → Sat Tryd.prog 49 [tmV t] (tmV t)) : Sat Tryd.prog 49 [tmV (.mk k n s ts)] (tmV (.mk k n s ts)) := by
  refine sat_of_code tbOk mixed Tryd.func49 rfl rfl rfl (by decide +kernel) (by decide +kernel) (Nat.le_of_ble_eq_true rfl) ?_
  simp -implicitDefEqProofs (disch := omega) only [go_sem, Tm.enc]
  refine loopA_rule (ι := Nat) (fun i => mk 25 [(1, .one (.ptr 1 0)), (2, .one (.ptr 2 0)), (3, .one (.own 5 (ts.take i).length)), (4, intV i)] [(1, .var [iC k, iC n, sC s, tC ts]), (2, .var zT), (5, .arr 30 4 (rowsOf Tm.enc (ts.take i)) false)])
    (fun i => i ≤ ts.length) (fun i => ts.length - i) 0 (Nat.zero_le _) ?_ tbOk mixed (by decide +kernel) ?_
  · exact le_mk (by simp [go_sem]) (by simp [go_sem, rowsOf])
  · intro i hi
    have hln : (ts.take i).length ≤ ts.length := by rw [List.length_take]; omega
    rcases Nat.lt_or_ge i ts.length with hlt | hge
    · have hg := encs_getD ts i hlt
      have ht : ts.take (i + 1) = ts.take i ++ [ts[i]] := by rw [List.take_add_one, List.getElem?_eq_getElem hlt]; rfl
      simp -implicitDefEqProofs (disch := omega) only [go_sem, hg, hlt]
      refine CallK.mk (ih _ (List.getElem_mem hlt)) ?_
      simp -implicitDefEqProofs (disch := omega) only [go_sem]
      refine ⟨⟨by simp [enc_len], by omega, by omega⟩, fun _ => ⟨i + 1, hlt, by omega, ?_⟩⟩
      rw [ht]
      generalize ts.take i = acc
      generalize ts[i] = a
      exact le_mk (by simp [go_sem]) (by simp [go_sem, zT]; exact rowsOf_snoc a)
    · have : i = ts.length := by omega
      subst this
      simp -implicitDefEqProofs (disch := omega) only [go_sem, Nat.lt_irrefl, List.take_length]
      rw [← encs_map]; rfl
theorem l3Copy_sat : ∀ (t : Tm), t.size < 1048577 → Sat Tryd.prog 49 [tmV t] (tmV t) := by
  refine Tm.ind (fun k n s ts ih h => l3Copy_1 k n s ts ?_ (fun t ht => ih t ht ?_))
  · have := len_sizes ts; simp only [Tm.size] at h; omega
  · have := size_mem ts t ht; simp only [Tm.size] at h; omega

end Go.Ai
