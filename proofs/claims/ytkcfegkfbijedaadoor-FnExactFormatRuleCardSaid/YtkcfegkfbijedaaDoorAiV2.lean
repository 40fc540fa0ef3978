/- slices.Reverse on ints. -/
import Derived.Test.YtkcfegkfbijedaaDoorAiRow2
import Derived.Test.YtkcfegkfbijedaaDoorAiM3
import Derived.Test.YtkcfegkfbijedaaDoorAiG1
namespace Go.Ai
set_option linter.unusedVariables false
set_option linter.unusedSimpArgs false
open Go.Proofs
set_option maxRecDepth 100000

def cI (xs : List Int) : List (List AC) := xs.map fun x => [iC x]
theorem cI_len (xs : List Int) : (cI xs).length = xs.length := by simp [cI]
theorem cI_of (xs : List Int) : ((xs.map encI).map fun q => q.map mC) = cI xs := by simp [cI, encI, mC]
theorem cI_in (lb : Lk) (xs : List Int) : ∀ r, r ∈ cI xs → ∀ a, a ∈ r → inC lb a := by
  intro r hr a ha
  obtain ⟨x, _, rfl⟩ := List.mem_map.1 hr
  simp only [List.mem_singleton] at ha
  subst ha; trivial
theorem cI_isO (xs : List Int) : ∀ r, r ∈ cI xs → ∀ a, a ∈ r → isO a = true := by
  intro r hr a ha
  obtain ⟨x, _, rfl⟩ := List.mem_map.1 hr
  simp only [List.mem_singleton] at ha
  subst ha; rfl
theorem cI_noD (xs : List Int) : noD (cI xs) = true := by simp [noD, cI, isD]
theorem cI_toC (xs : List Int) : ((cI xs).map fun r => r.map toC) = xs.map encI := by simp [cI, encI, toC]
theorem cI_get (xs : List Int) (i : Nat) (h : i < xs.length) : (cI xs).getD i [] = [iC xs[i]] := by
  simp [cI, List.getD_eq_getElem?_getD, List.getElem?_eq_getElem h]
theorem cI_set (xs : List Int) (i : Nat) (x : Int) : (cI xs).set i [iC x] = cI (xs.set i x) := by simp [cI, List.map_set]
/-- The first i and the last i are swapped. -/
def rvI (xs : List Int) (i : Nat) : List Int := (List.range xs.length).map fun j => if j < i ∨ xs.length ≤ j + i then xs.getD (xs.length - 1 - j) 0 else xs.getD j 0
theorem rvI_len (xs : List Int) (i : Nat) : (rvI xs i).length = xs.length := by simp [rvI]
theorem rvI_get (xs : List Int) (i j : Nat) (h : j < (rvI xs i).length) : (rvI xs i)[j] = if j < i ∨ xs.length ≤ j + i then xs.getD (xs.length - 1 - j) 0 else xs.getD j 0 := by simp [rvI]
theorem rvI_zero (xs : List Int) : rvI xs 0 = xs := by
  refine List.ext_getElem (rvI_len xs 0) (fun j h1 h2 => ?_)
  rw [rvI_get, if_neg (by omega), List.getD_eq_getElem?_getD, List.getElem?_eq_getElem h2]; rfl
theorem rvI_end (xs : List Int) (i : Nat) (h : xs.length ≤ i + i + 1) : rvI xs i = xs.reverse := by
  refine List.ext_getElem (by rw [rvI_len, List.length_reverse]) (fun j h1 h2 => ?_)
  rw [rvI_len] at h1
  rw [rvI_get, List.getElem_reverse]
  split
  · rw [List.getD_eq_getElem?_getD, List.getElem?_eq_getElem (by omega)]; rfl
  · have e : xs.length - 1 - j = j := by omega
    simp only [e]
    rw [List.getD_eq_getElem?_getD, List.getElem?_eq_getElem h1]; rfl
theorem rvI_step (xs : List Int) (i : Nat) (h : i + i + 1 < xs.length) : ((rvI xs i).set i (xs.getD (xs.length - 1 - i) 0)).set (xs.length - 1 - i) (xs.getD i 0) = rvI xs (i + 1) := by
  refine List.ext_getElem (by simp [rvI_len]) (fun j h1 h2 => ?_)
  rw [rvI_len] at h2
  rw [rvI_get, List.getElem_set]
  split
  · subst j; rw [if_pos (by omega)]; congr 1; omega
  · rw [List.getElem_set]
    split
    · subst i; rw [if_pos (by omega)]
    · rw [rvI_get]
      by_cases c : j < i ∨ xs.length ≤ j + i
      · rw [if_pos c, if_pos (by omega)]
      · rw [if_neg c, if_neg (by omega)]
theorem rvI_lo (xs : List Int) (i : Nat) (h : i + i + 1 < xs.length) : (cI (rvI xs i)).getD i [] = [iC (xs.getD i 0)] := by
  rw [cI_get _ _ (by rw [rvI_len]; omega), rvI_get, if_neg (by omega)]
theorem rvI_hi (xs : List Int) (i : Nat) (h : i + i + 1 < xs.length) : (cI (rvI xs i)).getD (xs.length - 1 - i) [] = [iC (xs.getD (xs.length - 1 - i) 0)] := by
  rw [cI_get _ _ (by rw [rvI_len]; omega), rvI_get, if_neg (by omega)]

end Go.Ai
/- Cases of words: CountCases, ValuesOf. -/
namespace Go.Ai
set_option linter.unusedVariables false
set_option linter.unusedSimpArgs false
open Go.Proofs
set_option maxRecDepth 100000

def p4 : Nat → Int
  | 0 => 1
  | i + 1 => p4 i * 4
theorem p4_b : ∀ i, i ≤ 3 → 1 ≤ p4 i ∧ p4 i ≤ 64 ∧ (i < 3 → p4 i ≤ 16)
  | 0, _ => by decide
  | 1, _ => by decide
  | 2, _ => by decide
  | 3, _ => by decide
  | i + 4, h => by omega
def ccN (n : Nat) : Int := if n ≤ 3 then p4 n else 0
def cq (c : Int) : Nat → Int
  | 0 => c
  | i + 1 => cq c i / 4
def dgI (c : Int) : Nat → List Int
  | 0 => []
  | i + 1 => dgI c i ++ [cq c i % 4]
def valsOf (n : Nat) (c : Int) : List Int := if 0 ≤ c ∧ c < ccN n then (dgI c n).reverse else []
theorem dgI_len (c : Int) : ∀ i, (dgI c i).length = i
  | 0 => rfl
  | i + 1 => by simp [dgI, dgI_len c i]
theorem cq_b (c : Int) (h : 0 ≤ c ∧ c ≤ 64) : ∀ i, 0 ≤ cq c i ∧ cq c i ≤ 64
  | 0 => h
  | i + 1 => by
    have := cq_b c h i
    simp only [cq]; omega
theorem cq_div {c : Int} (h : 0 ≤ c) : c.tdiv 4 = c / 4 := Int.tdiv_eq_ediv_of_nonneg h
theorem cq_mod {c : Int} (h : 0 ≤ c) : c.tmod 4 = c % 4 := Int.tmod_eq_emod_of_nonneg h
theorem valsOf_len (n : Nat) (c : Int) : (valsOf n c).length ≤ 3 ∧ (valsOf n c).length ≤ n := by
  have : 0 ≤ c ∧ c < ccN n → n ≤ 3 := by
    unfold ccN
    split <;> omega
  unfold valsOf
  split
  · rename_i h
    have := this h
    rw [List.length_reverse, dgI_len]
    omega
  · simp
theorem isV_cI (xs : List Int) : ∀ r, r ∈ cI xs → ∀ a, a ∈ r → isV a = true := by
  intro r hr a ha
  obtain ⟨x, _, rfl⟩ := List.mem_map.1 hr
  simp only [List.mem_singleton] at ha
  subst ha; rfl
theorem cI_snoc (xs : List Int) (x : Int) : cI xs ++ [[iC x]] = cI (xs ++ [x]) := by simp [cI]
/-- What spec.ValuesOf has filled after i rounds. -/
def spI (n : Nat) (c : Int) (i : Nat) : List Int := List.replicate (n - i) 0 ++ (dgI c i).reverse
theorem spI_len (n : Nat) (c : Int) (i : Nat) (h : i ≤ n) : (spI n c i).length = n := by simp [spI, dgI_len]; omega
theorem spI_step (n : Nat) (c : Int) (i : Nat) (h : i < n) : (spI n c i).set (n - 1 - i) (cq c i % 4) = spI n c (i + 1) := by
  have e : n - i = (n - 1 - i) + 1 := by omega
  have e2 : n - (i + 1) = n - 1 - i := by omega
  simp only [spI, e, e2, dgI, List.replicate_succ', List.reverse_append, List.reverse_cons, List.reverse_nil, List.nil_append, List.append_assoc, List.cons_append]
  rw [List.set_append_right _ _ (by simp)]
  simp
def wordT (n : Int) : Tm := .mk 3 n ByteArray.empty []
end Go.Ai
