/- The two ValuesOf agree at every two ints: the 85 cases by running both, outside both return no words. No condition. -/
import Derived.Test.YthaghkakjaengaaPFnExactValuesOfx2
namespace Go.Proofs.Ythaghkakjaengaa.Pure
open Go.RowKit Go.Proofs.Ythaghkakjaengaa.PFnExactValuesOf Go.Proofs.YthaghkakjaengaaW.PrintWords Go.Proofs.YthaghkakjaengaaW.PrintLast

theorem all_cases : ∀ n : Fin 4, ∀ c : Fin 64, (c.val : Int) < 4 ^ n.val → laws_FnExactValuesOf.f 20 (n.val : Int) (c.val : Int) = some true := by decide +kernel

theorem counts (n : Int) (h0 : 0 ≤ n) (h3 : n ≤ 3) : spec_CountCases.f 20 n = some ((4 : Int) ^ n.toNat) ∧ impl_CountCases.f 20 n = some ((4 : Int) ^ n.toNat) ∧ (4 : Int) ^ n.toNat ≤ 64 ∧ 1 ≤ (4 : Int) ^ n.toNat := by
  have h4 : n = 0 ∨ n = 1 ∨ n = 2 ∨ n = 3 := by omega
  rcases h4 with rfl | rfl | rfl | rfl <;> decide +kernel

theorem counts_out (n : Int) (h : ¬ (0 ≤ n ∧ n ≤ 3)) : spec_CountCases.f 20 n = some 0 ∧ impl_CountCases.f 20 n = some 0 := by
  constructor
  · unfold spec_CountCases.f spec_l1In.f
    by_cases h0 : n ≥ 0
    · have : ¬ n ≤ 3 := by omega
      simp [h0, this]
    · simp [h0]
  · unfold impl_CountCases.f
    by_cases h0 : n < 0
    · simp [h0, impl_CountCases.j0]
    · have : n > 3 := by omega
      simp [h0, this, impl_CountCases.j0]

theorem none_there (n c m : Int) (hm : 0 ≤ m ∧ m ≤ 64) (h1 : spec_CountCases.f 20 n = some m) (h2 : impl_CountCases.f 20 n = some m) (hc : c < 0 ∨ m ≤ c) : laws_FnExactValuesOf.f 20 n c = some true := by
  have hw : wrap64 (m - 1) = m - 1 := by unfold wrap64; omega
  have e1 : spec_ValuesOf.f 20 n c = some [] := by
    unfold spec_ValuesOf.f
    rw [h1]; simp only [Option.bind_some, hw]
    have : spec_l1In.f c 0 (m - 1) = some false := by
      unfold spec_l1In.f
      by_cases h0 : c ≥ 0
      · have : ¬ c ≤ m - 1 := by omega
        simp [h0, this]
      · simp [h0]
    rw [this]; simp
  have e2 : impl_ValuesOf.f 20 n c = some [] := by
    unfold impl_ValuesOf.f impl_isCase.f
    by_cases h0 : c ≥ 0
    · have : ¬ c < m := by omega
      rw [if_pos h0, h2]; simp [this]
    · rw [if_neg h0]; simp
  unfold laws_FnExactValuesOf.f
  rw [e1, e2]
  decide +kernel

theorem FnExactValuesOf : laws_FnExactValuesOf.Pure := by
  intro n c _ _
  refine ⟨20, ?_⟩
  by_cases h : 0 ≤ n ∧ n ≤ 3
  · obtain ⟨h1, h2, h3, h4⟩ := counts n h.1 h.2
    by_cases hc : 0 ≤ c ∧ c < (4 : Int) ^ n.toNat
    · have := all_cases ⟨n.toNat, by omega⟩ ⟨c.toNat, by omega⟩ (by simp only; rw [Int.toNat_of_nonneg hc.1]; exact hc.2)
      simpa only [Int.toNat_of_nonneg hc.1, Int.toNat_of_nonneg h.1] using this
    · exact none_there n c _ ⟨by omega, h3⟩ h1 h2 (by omega)
  · obtain ⟨h1, h2⟩ := counts_out n h
    exact none_there n c 0 (by omega) h1 h2 (by omega)

end Go.Proofs.Ythaghkakjaengaa.Pure
