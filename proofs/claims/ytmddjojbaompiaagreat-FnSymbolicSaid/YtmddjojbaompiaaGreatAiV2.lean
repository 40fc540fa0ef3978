/- slices.Reverse on ints. -/
import Derived.Test.YtmddjojbaompiaaGreatAiRow2
import Derived.Test.YtmddjojbaompiaaGreatAiM3
import Derived.Test.YtmddjojbaompiaaGreatAiG1
set_option linter.unusedVariables false
set_option linter.unusedSimpArgs false
namespace Go.Ai
open Go.Proofs
set_option maxRecDepth 100000
def cI (xs : List Int) : List (List AC) := xs.map fun x => [iC x]
theorem cI_len (xs : List Int) : (cI xs).length = xs.length := by simp [cI]
theorem cI_of (xs : List Int) : ((xs.map encI).map fun q => q.map mC) = cI xs := by simp [cI, encI, mC]
theorem cI_in (lb : Lk) (xs : List Int) : ∀ r, r ∈ cI xs → ∀ a, a ∈ r → inC lb a := by
 intro r hr a ha
 obtain ⟨x, _, rfl⟩ := List.mem_map.1 hr
 simp only [List.mem_singleton] at ha
 subst ha; trivial
theorem cI_isO (xs : List Int) : ∀ r, r ∈ cI xs → ∀ a, a ∈ r → isO a = true := by
 intro r hr a ha
 obtain ⟨x, _, rfl⟩ := List.mem_map.1 hr
 simp only [List.mem_singleton] at ha
 subst ha; rfl
theorem cI_noD (xs : List Int) : noD (cI xs) = true := by simp [noD, cI, isD]
theorem cI_toC (xs : List Int) : ((cI xs).map fun r => r.map toC) = xs.map encI := by simp [cI, encI, toC]
theorem cI_get (xs : List Int) (i : Nat) (h : i < xs.length) : (cI xs).getD i [] = [iC xs[i]] := by
 simp [cI, List.getD_eq_getElem?_getD, List.getElem?_eq_getElem h]
theorem cI_set (xs : List Int) (i : Nat) (x : Int) : (cI xs).set i [iC x] = cI (xs.set i x) := by simp [cI, List.map_set]
def rvI (xs : List Int) (i : Nat) : List Int := (List.range xs.length).map fun j => if j < i ∨ xs.length ≤ j + i then xs.getD (xs.length - 1 - j) 0 else xs.getD j 0
theorem rvI_len (xs : List Int) (i : Nat) : (rvI xs i).length = xs.length := by simp [rvI]
theorem rvI_get (xs : List Int) (i j : Nat) (h : j < (rvI xs i).length) : (rvI xs i)[j] = if j < i ∨ xs.length ≤ j + i then xs.getD (xs.length - 1 - j) 0 else xs.getD j 0 := by simp [rvI]
theorem rvI_zero (xs : List Int) : rvI xs 0 = xs := by
 refine List.ext_getElem (rvI_len xs 0) (fun j h1 h2 => ?_)
 rw [rvI_get, if_neg (by omega), List.getD_eq_getElem?_getD, List.getElem?_eq_getElem h2]; rfl
theorem rvI_end (xs : List Int) (i : Nat) (h : xs.length ≤ i + i + 1) : rvI xs i = xs.reverse := by
 refine List.ext_getElem (by rw [rvI_len, List.length_reverse]) (fun j h1 h2 => ?_)
 rw [rvI_len] at h1
 rw [rvI_get, List.getElem_reverse]
 split
 ·rw [List.getD_eq_getElem?_getD, List.getElem?_eq_getElem (by omega)]; rfl
 ·have e : xs.length - 1 - j = j := by omega
  simp only [e]
  rw [List.getD_eq_getElem?_getD, List.getElem?_eq_getElem h1]; rfl
theorem rvI_step (xs : List Int) (i : Nat) (h : i + i + 1 < xs.length) : ((rvI xs i).set i (xs.getD (xs.length - 1 - i) 0)).set (xs.length - 1 - i) (xs.getD i 0) = rvI xs (i + 1) := by
 refine List.ext_getElem (by simp [rvI_len]) (fun j h1 h2 => ?_)
 rw [rvI_len] at h2
 rw [rvI_get, List.getElem_set]
 split
 ·subst j; rw [if_pos (by omega)]; congr 1; omega
 ·rw [List.getElem_set]
  split
  ·subst i; rw [if_pos (by omega)]
  ·rw [rvI_get]
   by_cases c : j < i ∨ xs.length ≤ j + i
   ·rw [if_pos c, if_pos (by omega)]
   ·rw [if_neg c, if_neg (by omega)]
theorem rvI_lo (xs : List Int) (i : Nat) (h : i + i + 1 < xs.length) : (cI (rvI xs i)).getD i [] = [iC (xs.getD i 0)] := by
 rw [cI_get _ _ (by rw [rvI_len]; omega), rvI_get, if_neg (by omega)]
theorem rvI_hi (xs : List Int) (i : Nat) (h : i + i + 1 < xs.length) : (cI (rvI xs i)).getD (xs.length - 1 - i) [] = [iC (xs.getD (xs.length - 1 - i) 0)] := by
 rw [cI_get _ _ (by rw [rvI_len]; omega), rvI_get, if_neg (by omega)]
theorem reverse_nil : Sat Tryz.prog 200 [slV []] (.tup []) := by
 refine sat_of_code tbOk mixed Tryz.func200 rfl rfl rfl (by decide +kernel) (by decide +kernel) (Nat.le_of_ble_eq_true rfl) ?_
 simp -implicitDefEqProofs (disch := omega) only [go_sem]
 refine loopA_rule (ι := Unit) (fun _ => mk 28 [(2, intV 0), (3, intV (-1))] []) (fun _ => True) (fun _ => 0) () trivial ?_ tbOk mixed (by decide +kernel) ?_
 ·exact le_mk (by simp [go_sem]) (by simp [go_sem])
 ·intro _ _
  simp -implicitDefEqProofs (disch := omega) only [go_sem]
  intro h; omega
theorem reverse_satM (xs : List Int) (hl : xs.length < 100000000) : SatM Tryz.prog 200 [.one (.m (.sl (xs.map encI)))] [.one (.m (.sl (xs.reverse.map encI)))] (.tup []) := by
 cases hx : xs with
 | nil => exact satM_nil rfl rfl reverse_nil
 | cons x0 xs0 =>
  rw [← hx]
  refine satM_slice 9001 1 tbOk mixed Tryz.func200 rfl rfl rfl (by decide +kernel) (by decide +kernel) (Nat.le_of_ble_eq_true rfl) rfl rfl (by rw [hx]; simp) (by simp [encI]) (fun e => ?_)
  rw [cI_of]
  simp -implicitDefEqProofs (disch := omega) only [go_sem, List.length_map, List.length_reverse, cI_len]
  have h1 : 0 < xs.length := by rw [hx]; simp
  refine loopA_rule (ι := Nat) (fun i => mk 28 [(0, .one (.own 9001 xs.length)), (2, intV i), (3, intV (xs.length - 1 - i))] [(9001, .arr e 1 (cI (rvI xs i)) false)] [.one (.own 9001 xs.length)]) (fun i => i + i ≤ xs.length) (fun i => xs.length - i) 0 (Nat.zero_le _) ?_ tbOk mixed (by decide +kernel) ?_
  ·exact le_mk (by simp [go_sem]) (by simp only [leB, lookB_cons, if_true, inB, rvI_zero, true_and, and_true]; exact cI_in _ _)
  ·intro i hi
   rcases Nat.lt_or_ge (i + i + 1) xs.length with hlt | hge
   ·have e1 : (xs.length : Int) - 1 - i = ((xs.length - 1 - i : Nat) : Int) := by omega
    have hlo := rvI_lo xs i hlt
    have hhi := rvI_hi xs i hlt
    have hst := rvI_step xs i hlt
    have hln := rvI_len xs i
    rw [e1]
    have hq : i < xs.length - 1 - i := by omega
    have hq2 : xs.length - 1 - i < xs.length := by omega
    have hq3 : i < xs.length := by omega
    have hhi2 : (cI ((rvI xs i).set i (xs.getD (xs.length - 1 - i) 0))).getD (xs.length - 1 - i) [] = [iC (xs.getD (xs.length - 1 - i) 0)] := by
     rw [cI_get _ _ (by rw [List.length_set, rvI_len]; omega), List.getElem_set_ne (by omega), rvI_get, if_neg (by omega)]
    simp -implicitDefEqProofs (disch := omega) only [go_sem, hlo, hhi, cI_len, rvI_len, cI_set, List.length_set, hq, hq2, hq3, List.forall_mem_cons, List.not_mem_nil, hhi2]
    refine ⟨i + 1, by omega, by omega, le_mk ?_ ?_⟩
    ·simp [go_sem]; omega
    ·simp only [leB, lookB_cons, if_true, inB, hst, true_and, and_true]; exact cI_in _ _
   ·have hno : ¬ ((i : Int) < xs.length - 1 - i) := by omega
    simp -implicitDefEqProofs (disch := omega) only [go_sem, cI_len, rvI_len, hno]
    refine ⟨by rw [cI_len, rvI_len], cI_isO _, ?_, rfl⟩
    rw [cI_toC, rvI_end xs i (by omega)]
end Go.Ai
/- Cases of words: CountCases, ValuesOf. -/
namespace Go.Ai
open Go.Proofs
set_option maxRecDepth 100000
def p4 : Nat → Int
 | 0 => 1
 | i + 1 => p4 i * 4
theorem p4_b : ∀ i, i ≤ 3 → 1 ≤ p4 i ∧ p4 i ≤ 64 ∧ (i < 3 → p4 i ≤ 16)
 | 0, _ => by decide
 | 1, _ => by decide
 | 2, _ => by decide
 | 3, _ => by decide
 | i + 4, h => by omega
def ccN (n : Nat) : Int := if n ≤ 3 then p4 n else 0
theorem specCount_sat (n : Nat) (hn : n < 100000000) : Sat Tryz.prog 99 [intV n] (intV (ccN n)) := by
 obtain ⟨r, hr⟩ : ∃ r, r = ccN n := ⟨_, rfl⟩
 rw [← hr]
 simp only [ccN] at hr
 refine sat_of_code tbOk mixed Tryz.func99 rfl rfl rfl (by decide +kernel) (by decide +kernel) (Nat.le_of_ble_eq_true rfl) ?_
 simp -implicitDefEqProofs (disch := omega) only [go_sem]
 refine CallK.mk (l1In_sat n 0 3) ?_
 simp -implicitDefEqProofs (disch := omega) only [go_sem]
 refine ⟨fun h => by rw [if_neg (by grind)] at hr; exact hr.symm, fun h => ?_⟩
 have h3 : n ≤ 3 := by grind
 rw [if_pos h3] at hr
 refine loopA_rule (ι := Nat) (fun i => mk 16 [(0, intV n), (3, intV (p4 i)), (4, intV i)] []) (fun i => i ≤ n) (fun i => n - i) 0 (Nat.zero_le _) ?_ tbOk mixed (by decide +kernel) ?_
 ·exact le_mk (by simp [go_sem, p4]) (by simp [go_sem])
 ·intro i hi
  obtain ⟨b1, b2, b3⟩ := p4_b i (by omega)
  simp -implicitDefEqProofs (disch := omega) only [go_sem]
  refine ⟨fun h => ⟨i + 1, by omega, by omega, le_mk (by simp [go_sem, p4]) (by simp [go_sem])⟩, fun h => ?_⟩
  have : i = n := by omega
  subst this; exact hr.symm
theorem implCount_sat (n : Nat) (hn : n < 100000000) : Sat Tryz.prog 165 [intV n] (intV (ccN n)) := by
 obtain ⟨r, hr⟩ : ∃ r, r = ccN n := ⟨_, rfl⟩
 rw [← hr]
 simp only [ccN] at hr
 refine sat_of_code tbOk mixed Tryz.func165 rfl rfl rfl (by decide +kernel) (by decide +kernel) (Nat.le_of_ble_eq_true rfl) ?_
 simp -implicitDefEqProofs (disch := omega) only [go_sem]
 refine ⟨fun h => by rw [if_neg (by grind)] at hr; exact hr.symm, fun h => ?_⟩
 have h3 : n ≤ 3 := by grind
 rw [if_pos h3] at hr
 refine loopA_rule (ι := Nat) (fun i => mk 17 [(0, intV (n - i)), (3, intV (p4 i))] []) (fun i => i ≤ n) (fun i => n - i) 0 (Nat.zero_le _) ?_ tbOk mixed (by decide +kernel) ?_
 ·exact le_mk (by simp [go_sem, p4]) (by simp [go_sem])
 ·intro i hi
  obtain ⟨b1, b2, b3⟩ := p4_b i (by omega)
  simp -implicitDefEqProofs (disch := omega) only [go_sem]
  refine ⟨fun h => ⟨i + 1, by omega, by omega, le_mk (by simp [go_sem, p4]; omega) (by simp [go_sem])⟩, fun h => ?_⟩
  have : i = n := by omega
  subst this; exact hr.symm
theorem isCase_sat (n : Nat) (hn : n < 100000000) (c : Int) : Sat Tryz.prog 96 [intV n, intV c] (boolV (decide (0 ≤ c ∧ c < ccN n))) := by
 obtain ⟨r, hr⟩ : ∃ r, r = (decide (0 ≤ c ∧ c < ccN n)) := ⟨_, rfl⟩
 rw [← hr]
 refine sat_of_code tbOk mixed Tryz.func96 rfl rfl rfl (by decide +kernel) (by decide +kernel) (Nat.le_of_ble_eq_true rfl) ?_
 simp -implicitDefEqProofs (disch := omega) only [go_sem]
 refine ⟨fun h => CallK.mk (implCount_sat n hn) ?_, fun h => ?_⟩
 ·simp -implicitDefEqProofs (disch := omega) only [go_sem]
  grind
 ·grind
def cq (c : Int) : Nat → Int
 | 0 => c
 | i + 1 => cq c i / 4
def dgI (c : Int) : Nat → List Int
 | 0 => []
 | i + 1 => dgI c i ++ [cq c i % 4]
def valsOf (n : Nat) (c : Int) : List Int := if 0 ≤ c ∧ c < ccN n then (dgI c n).reverse else []
theorem dgI_len (c : Int) : ∀ i, (dgI c i).length = i
 | 0 => rfl
 | i + 1 => by simp [dgI, dgI_len c i]
theorem cq_b (c : Int) (h : 0 ≤ c ∧ c ≤ 64) : ∀ i, 0 ≤ cq c i ∧ cq c i ≤ 64
 | 0 => h
 | i + 1 => by
  have := cq_b c h i
  simp only [cq]; omega
theorem cq_div {c : Int} (h : 0 ≤ c) : c.tdiv 4 = c / 4 := Int.tdiv_eq_ediv_of_nonneg h
theorem cq_mod {c : Int} (h : 0 ≤ c) : c.tmod 4 = c % 4 := Int.tmod_eq_emod_of_nonneg h
theorem valsOf_len (n : Nat) (c : Int) : (valsOf n c).length ≤ 3 ∧ (valsOf n c).length ≤ n := by
 have : 0 ≤ c ∧ c < ccN n → n ≤ 3 := by
  unfold ccN
  split <;> omega
 unfold valsOf
 split
 ·rename_i h
  have := this h
  rw [List.length_reverse, dgI_len]
  omega
 ·simp
theorem isV_cI (xs : List Int) : ∀ r, r ∈ cI xs → ∀ a, a ∈ r → isV a = true := by
 intro r hr a ha
 obtain ⟨x, _, rfl⟩ := List.mem_map.1 hr
 simp only [List.mem_singleton] at ha
 subst ha; rfl
theorem cI_snoc (xs : List Int) (x : Int) : cI xs ++ [[iC x]] = cI (xs ++ [x]) := by simp [cI]
def spI (n : Nat) (c : Int) (i : Nat) : List Int := List.replicate (n - i) 0 ++ (dgI c i).reverse
theorem spI_len (n : Nat) (c : Int) (i : Nat) (h : i ≤ n) : (spI n c i).length = n := by simp [spI, dgI_len]; omega
theorem spI_step (n : Nat) (c : Int) (i : Nat) (h : i < n) : (spI n c i).set (n - 1 - i) (cq c i % 4) = spI n c (i + 1) := by
 have e : n - i = (n - 1 - i) + 1 := by omega
 have e2 : n - (i + 1) = n - 1 - i := by omega
 simp only [spI, e, e2, dgI, List.replicate_succ', List.reverse_append, List.reverse_cons, List.reverse_nil, List.nil_append, List.append_assoc, List.cons_append]
 rw [List.set_append_right _ _ (by simp)]
 simp
theorem specValuesOf_sat (n : Nat) (hn : n < 100000000) (c : Int) : Sat Tryz.prog 201 [intV n, intV c] (slV ((valsOf n c).map encI)) := by
 obtain ⟨r, hr⟩ : ∃ r, r = valsOf n c := ⟨_, rfl⟩
 rw [← hr]
 simp only [valsOf] at hr
 have hcc : ccN n ≤ 64 ∧ 0 ≤ ccN n := by
  unfold ccN
  split
  ·have := p4_b n (by omega); omega
  ·omega
 refine sat_of_code tbOk mixed Tryz.func201 rfl rfl rfl (by decide +kernel) (by decide +kernel) (Nat.le_of_ble_eq_true rfl) ?_
 simp -implicitDefEqProofs (disch := omega) only [go_sem]
 refine CallK.mk (specCount_sat n hn) ?_
 simp -implicitDefEqProofs (disch := omega) only [go_sem]
 refine CallK.mk (l1In_sat c 0 (ccN n - 1)) ?_
 simp -implicitDefEqProofs (disch := omega) only [go_sem]
 refine ⟨fun h => ?_, fun h => ?_⟩
 ·rw [if_neg (by grind)] at hr
  subst hr; simp
 ·have hc : 0 ≤ c ∧ c < ccN n := by grind
  have h3 : n ≤ 3 := by
   unfold ccN at hc
   split at hc
   ·assumption
   ·omega
  rw [if_pos hc] at hr
  refine ⟨⟨by omega, by omega⟩, fun _ => ?_⟩
  have hz : List.replicate n [iC 0] = cI (spI n c 0) := by simp [spI, dgI, cI]
  rw [hz]
  refine loopA_rule (ι := Nat) (fun i => mk 30 [(0, intV n), (1, intV (cq c i)), (5, .one (.own 15 n)), (6, intV ((n : Int) - 1 - i))] [(15, .arr 3 1 (cI (spI n c i)) false)]) (fun i => i ≤ n) (fun i => n - i) 0 (Nat.zero_le _) ?_ tbOk mixed (by decide +kernel) ?_
  ·exact le_mk (by simp [go_sem, cq]) (by simp only [leB, lookB_cons, if_true, inB, true_and, and_true]; exact cI_in _ _)
  ·intro i hi
   have hb := cq_b c (by omega) i
   rcases Nat.lt_or_ge i n with hlt | hge
   ·have e1 : (n : Int) - 1 - i = ((n - 1 - i : Nat) : Int) := by omega
    have hst := spI_step n c i hlt
    have hq2 : n - 1 - i < n := by omega
    rw [e1]
    have hgt : (cI (spI n c i)).getD (n - 1 - i) [] = [iC ((spI n c i)[n - 1 - i]'(by rw [spI_len n c i hi]; omega))] := cI_get _ _ (by rw [spI_len n c i hi]; omega)
    simp -implicitDefEqProofs (disch := omega) only [go_sem, cI_len, spI_len, hq2, cq_div, cq_mod, hgt, List.forall_mem_cons, List.not_mem_nil, cI_set, hst]
    refine ⟨by omega, fun _ => ⟨by omega, fun _ => ⟨i + 1, hlt, by omega, le_mk ?_ ?_⟩⟩⟩
    ·simp [go_sem, cq]; omega
    ·simp only [leB, lookB_cons, if_true, inB, true_and, and_true]; exact cI_in _ _
   ·have : i = n := by omega
    subst this
    have hno : ¬ ((i : Int) - 1 - i ≥ 0) := by omega
    simp -implicitDefEqProofs (disch := omega) only [go_sem, cI_len, spI_len, hno]
    refine ⟨isV_cI _, ?_⟩
    rw [cI_toC, spI, Nat.sub_self, List.replicate_zero, List.nil_append, ← hr]
theorem implValuesOf_sat (n : Nat) (hn : n < 100000000) (c : Int) : SatF Tryz.prog 171 [intV n, intV c] (slV ((valsOf n c).map encI)) := by
 obtain ⟨r, hr⟩ : ∃ r, r = valsOf n c := ⟨_, rfl⟩
 rw [← hr]
 simp only [valsOf] at hr
 have hcc : ccN n ≤ 64 ∧ 0 ≤ ccN n := by
  unfold ccN
  split
  ·have := p4_b n (by omega); omega
  ·omega
 refine satF_of_code [slV (r.map encI)] rfl (fun _ h => by cases h) tbOk mixed Tryz.func171 rfl rfl rfl (by decide +kernel) (by decide +kernel) (Nat.le_of_ble_eq_true rfl) ?_
 simp -implicitDefEqProofs (disch := omega) only [go_sem]
 refine CallK.mk (isCase_sat n hn c) ?_
 simp -implicitDefEqProofs (disch := omega) only [go_sem]
 refine ⟨fun h => ?_, fun h => ?_⟩
 ·rw [if_neg (by grind)] at hr
  subst hr; simp [retC]
 ·have hc : 0 ≤ c ∧ c < ccN n := by grind
  have h3 : n ≤ 3 := by
   unfold ccN at hc
   split at hc
   ·assumption
   ·omega
  rw [if_pos hc] at hr
  refine loopW_rule (ι := Nat) (fun i => match i with
   | 0 => mk 24 [(0, intV n), (1, intV c), (5, .one .nil)] []
   | i + 1 => mk 24 [(0, intV ((n : Int) - (i + 1))), (1, intV (cq c (i + 1))), (5, .one (.own 18 (i + 1)))] [(18, .arr 3 1 (cI (dgI c (i + 1))) false)]) (fun i => i ≤ n) (fun i => n - i) 0 (Nat.zero_le _) ?_ tbOk mixed (by decide +kernel) ?_
  ·exact le_mk (by simp [go_sem]) (by simp [go_sem])
  ·intro i hi
   have hb := cq_b c (by omega) i
   rcases Nat.lt_or_ge i n with hlt | hge
   ·refine ⟨_, Wk.refl _, ?_⟩
    cases i with
    | zero =>
     have hpos : (0 : Int) < n := by omega
     simp -implicitDefEqProofs (disch := omega) only [go_sem, cI_len, cq_div, cq_mod, hpos]
     exact ⟨by omega, fun _ => ⟨by simp, fun _ => ⟨by omega, fun _ => ⟨1, hlt, by omega, le_mk (by simp [go_sem, cq]) (by simp [go_sem, cI, dgI, cq])⟩⟩⟩⟩
    | succ i =>
     have hpos : ((n : Int) - ((i : Int) + 1) > 0) = True := eq_true (by omega)
     simp -implicitDefEqProofs (disch := omega) only [go_sem, cI_len, cq_div, cq_mod, hpos, dgI_len]
     refine ⟨by omega, fun _ => ⟨⟨by simp, by omega, by omega⟩, fun _ => ⟨by omega, fun _ => ⟨i + 2, hlt, by omega, le_mk ?_ ?_⟩⟩⟩⟩
     ·simp [go_sem, cq]; omega
     ·refine ⟨?_, cI_in _ _, trivial⟩
      simp only [lookB_cons, if_true]
      rw [cI_snoc]; rfl
   ·have : i = n := by omega
    subst this
    cases i with
    | zero =>
     refine ⟨_, Wk.refl _, ?_⟩
     have hno : (((0 : Nat) : Int) > 0) = False := eq_false (by omega)
     simp -implicitDefEqProofs (disch := omega) only [go_sem, cI_len, spI_len, hno]
     refine CallK.mk reverse_nil ?_
     simp -implicitDefEqProofs (disch := omega) only [go_sem, cI_len, spI_len]
     subst hr
     trivial
    | succ i =>
     refine ⟨_, wk_close (t := 5) 900 rfl rfl (by simp [cI_len, dgI_len]) (by decide) rfl (cI_noD _) (cI_isO _) (cI_toC _), ?_⟩
     have hno : (((i + 1 : Nat) : Int) - ((i : Int) + 1) > 0) = False := eq_false (by omega)
     simp -implicitDefEqProofs (disch := omega) only [go_sem, cI_len, spI_len, hno]
     refine CallK.mut (reverse_satM (dgI c (i + 1)) (by rw [dgI_len]; omega)) ?_
     simp -implicitDefEqProofs (disch := omega) only [go_sem, cI_len, spI_len]
     rw [hr]
def wordT (n : Int) : Tm := .mk 3 n ByteArray.empty []
theorem l3Word_sat (n : Int) : Sat Tryz.prog 150 [intV n] (tmV (wordT n)) := by
 refine sat_of_code tbOk mixed Tryz.func150 rfl rfl rfl (by decide +kernel) (by decide +kernel) (Nat.le_of_ble_eq_true rfl) ?_
 simp -implicitDefEqProofs (disch := omega) only [go_sem]
 rfl
end Go.Ai
