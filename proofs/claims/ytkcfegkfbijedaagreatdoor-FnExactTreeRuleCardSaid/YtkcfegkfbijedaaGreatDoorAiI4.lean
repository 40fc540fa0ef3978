/- CaseSubst. Written by mk14.py. -/
import Derived.Test.YtkcfegkfbijedaaGreatDoorAiI3
namespace Go.Ai
set_option linter.unusedVariables false
set_option linter.unusedSimpArgs false
open Go.Proofs
set_option maxRecDepth 100000

def mkB (p : ByteArray × Int) : GBind := ⟨p.1, wordT p.2⟩
def casePairs (vars : List ByteArray) (c : Int) : List (ByteArray × Int) := vars.zip (valsOf vars.length c)
def caseSubst (vars : List ByteArray) (c : Int) : List GBind := (casePairs vars c).map mkB
theorem casePairs_len (vars : List ByteArray) (c : Int) : (casePairs vars c).length = (valsOf vars.length c).length := by
  have := valsOf_len vars.length c
  simp only [casePairs, List.length_zip]; omega
theorem caseSubst_len (vars : List ByteArray) (c : Int) : (caseSubst vars c).length ≤ 3 := by
  have := valsOf_len vars.length c
  simp only [caseSubst, List.length_map, casePairs_len]; omega
theorem dgI_b (c : Int) : ∀ i n, n ∈ dgI c i → 0 ≤ n ∧ n < 4
  | 0, n, h => by simp [dgI] at h
  | i + 1, n, h => by
    simp only [dgI, List.mem_append, List.mem_singleton] at h
    rcases h with h | rfl
    · exact dgI_b c i n h
    · omega
theorem valsOf_b (k : Nat) (c : Int) : ∀ n, n ∈ valsOf k c → 0 ≤ n ∧ n < 4 := by
  intro n hn
  unfold valsOf at hn
  split at hn
  · exact dgI_b c k n (List.mem_reverse.1 hn)
  · simp at hn
theorem caseSubst_wf (vars : List ByteArray) (c : Int) (hw : ∀ v, v ∈ vars → wfS v) : wfL GBind.wf (caseSubst vars c) := by
  refine ⟨by have := caseSubst_len vars c; simp only [maxLen]; omega, fun b hb => ?_⟩
  obtain ⟨⟨v, n⟩, h, rfl⟩ := List.mem_map.1 hb
  obtain ⟨h1, h2⟩ := List.of_mem_zip h
  have := valsOf_b _ _ n h2
  exact ⟨hw v h1, wfI_of 3 (by omega) (by omega), wfI_of n (by omega) (by omega), Nat.zero_le _, Nat.zero_le _, trivial⟩
theorem zip_size : ∀ (vars : List ByteArray) (ns : List Int), szL GBind.size ((vars.zip ns).map mkB) ≤ szL szS vars + 10 * ns.length
  | [], ns => by simp [szL]
  | v :: vars, [] => by simp [szL]
  | v :: vars, n :: ns => by
    have := zip_size vars ns
    simp only [List.zip_cons_cons, List.map_cons, szL, mkB, GBind.size, wordT, Tm.size, Tm.sizes, List.length_cons, ByteArray.size_empty]
    omega
theorem caseSubst_size (vars : List ByteArray) (c : Int) : szL GBind.size (caseSubst vars c) ≤ szL szS vars + 100 := by
  have h1 := zip_size vars (valsOf vars.length c)
  have h2 := valsOf_len vars.length c
  simp only [caseSubst, casePairs]; omega
theorem pairs_at (vars : List ByteArray) (c : Int) (i : Nat) (h : i < (casePairs vars c).length) : ∃ v n, (casePairs vars c)[i] = (v, n) ∧ (vars.map encS).getD i [] = encS v ∧ ((valsOf vars.length c).map encI).getD i [] = encI n ∧ i < vars.length ∧ i < (valsOf vars.length c).length := by
  have h' := h
  simp only [casePairs, List.length_zip] at h
  have h1 : i < vars.length := by omega
  have h2 : i < (valsOf vars.length c).length := by omega
  exact ⟨vars[i], (valsOf vars.length c)[i], by simp [casePairs], map_getD h1, map_getD h2, h1, h2⟩
def bR (zs : List (ByteArray × Int)) : List (List AC) := zs.map fun p => [sC p.1, iC 3, iC p.2, sC ByteArray.empty, .nil]
theorem bR_len (zs : List (ByteArray × Int)) : (bR zs).length = zs.length := by simp [bR]
theorem bR_in (lb : Lk) (zs : List (ByteArray × Int)) : ∀ r, r ∈ bR zs → ∀ a, a ∈ r → inC lb a := by
  intro r hr a ha
  obtain ⟨p, _, rfl⟩ := List.mem_map.1 hr
  simp only [List.mem_cons, List.not_mem_nil, or_false] at ha
  rcases ha with rfl | rfl | rfl | rfl | rfl <;> trivial
theorem bR_isO (zs : List (ByteArray × Int)) : ∀ r, r ∈ bR zs → ∀ a, a ∈ r → isO a = true := by
  intro r hr a ha
  obtain ⟨p, _, rfl⟩ := List.mem_map.1 hr
  simp only [List.mem_cons, List.not_mem_nil, or_false] at ha
  rcases ha with rfl | rfl | rfl | rfl | rfl <;> rfl
theorem bR_toC (zs : List (ByteArray × Int)) : ((bR zs).map fun r => r.map toC) = (zs.map mkB).map GBind.enc := by
  simp [bR, mkB, GBind.enc, wordT, Tm.enc, Tm.encs, encS, toC]
theorem bR_snoc (zs : List (ByteArray × Int)) (v : ByteArray) (n : Int) : bR zs ++ [[sC v, iC 3, iC n, sC ByteArray.empty, .nil]] = bR (zs ++ [(v, n)]) := by simp [bR]

end Go.Ai
