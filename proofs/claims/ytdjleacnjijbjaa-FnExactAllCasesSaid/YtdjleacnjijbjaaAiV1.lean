/- slices.Reverse on ints. -/
import Derived.Test.YtdjleacnjijbjaaAiClose
import Derived.Test.YtdjleacnjijbjaaAiMarkC
namespace Go.Ai
set_option linter.unusedVariables false
set_option linter.unusedSimpArgs false
open Go.Proofs
set_option maxRecDepth 100000

def cI (xs : List Int) : List (List AC) := xs.map fun x => [iC x]
theorem cI_len (xs : List Int) : (cI xs).length = xs.length := by simp [cI]
theorem cI_of (xs : List Int) : ((xs.map encI).map fun q => q.map mC) = cI xs := by simp [cI, encI, mC]
theorem cI_in (lb : Lk) (xs : List Int) : ∀ r, r ∈ cI xs → ∀ a, a ∈ r → inC lb a := by
  intro r hr a ha
  obtain ⟨x, _, rfl⟩ := List.mem_map.1 hr
  simp only [List.mem_singleton] at ha
  subst ha; trivial
theorem cI_isO (xs : List Int) : ∀ r, r ∈ cI xs → ∀ a, a ∈ r → isO a = true := by
  intro r hr a ha
  obtain ⟨x, _, rfl⟩ := List.mem_map.1 hr
  simp only [List.mem_singleton] at ha
  subst ha; rfl
theorem cI_noD (xs : List Int) : noD (cI xs) = true := by simp [noD, cI, isD]
theorem cI_toC (xs : List Int) : ((cI xs).map fun r => r.map toC) = xs.map encI := by simp [cI, encI, toC]
theorem cI_get (xs : List Int) (i : Nat) (h : i < xs.length) : (cI xs).getD i [] = [iC xs[i]] := by
  simp [cI, List.getD_eq_getElem?_getD, List.getElem?_eq_getElem h]
theorem cI_set (xs : List Int) (i : Nat) (x : Int) : (cI xs).set i [iC x] = cI (xs.set i x) := by simp [cI, List.map_set]
/-- The first i and the last i are swapped. -/
def rvI (xs : List Int) (i : Nat) : List Int := (List.range xs.length).map fun j => if j < i ∨ xs.length ≤ j + i then xs.getD (xs.length - 1 - j) 0 else xs.getD j 0
theorem rvI_len (xs : List Int) (i : Nat) : (rvI xs i).length = xs.length := by simp [rvI]
theorem rvI_get (xs : List Int) (i j : Nat) (h : j < (rvI xs i).length) : (rvI xs i)[j] = if j < i ∨ xs.length ≤ j + i then xs.getD (xs.length - 1 - j) 0 else xs.getD j 0 := by simp [rvI]
theorem rvI_zero (xs : List Int) : rvI xs 0 = xs := by
  refine List.ext_getElem (rvI_len xs 0) (fun j h1 h2 => ?_)
  rw [rvI_get, if_neg (by omega), List.getD_eq_getElem?_getD, List.getElem?_eq_getElem h2]; rfl
theorem rvI_end (xs : List Int) (i : Nat) (h : xs.length ≤ i + i + 1) : rvI xs i = xs.reverse := by
  refine List.ext_getElem (by rw [rvI_len, List.length_reverse]) (fun j h1 h2 => ?_)
  rw [rvI_len] at h1
  rw [rvI_get, List.getElem_reverse]
  split
  · rw [List.getD_eq_getElem?_getD, List.getElem?_eq_getElem (by omega)]; rfl
  · have e : xs.length - 1 - j = j := by omega
    simp only [e]
    rw [List.getD_eq_getElem?_getD, List.getElem?_eq_getElem h1]; rfl
theorem rvI_step (xs : List Int) (i : Nat) (h : i + i + 1 < xs.length) : ((rvI xs i).set i (xs.getD (xs.length - 1 - i) 0)).set (xs.length - 1 - i) (xs.getD i 0) = rvI xs (i + 1) := by
  refine List.ext_getElem (by simp [rvI_len]) (fun j h1 h2 => ?_)
  rw [rvI_len] at h2
  rw [rvI_get, List.getElem_set]
  split
  · subst j; rw [if_pos (by omega)]; congr 1; omega
  · rw [List.getElem_set]
    split
    · subst i; rw [if_pos (by omega)]
    · rw [rvI_get]
      by_cases c : j < i ∨ xs.length ≤ j + i
      · rw [if_pos c, if_pos (by omega)]
      · rw [if_neg c, if_neg (by omega)]
theorem rvI_lo (xs : List Int) (i : Nat) (h : i + i + 1 < xs.length) : (cI (rvI xs i)).getD i [] = [iC (xs.getD i 0)] := by
  rw [cI_get _ _ (by rw [rvI_len]; omega), rvI_get, if_neg (by omega)]
theorem rvI_hi (xs : List Int) (i : Nat) (h : i + i + 1 < xs.length) : (cI (rvI xs i)).getD (xs.length - 1 - i) [] = [iC (xs.getD (xs.length - 1 - i) 0)] := by
  rw [cI_get _ _ (by rw [rvI_len]; omega), rvI_get, if_neg (by omega)]

theorem reverse_nil : Sat Try.prog 161 [slV []] (.tup []) := by
  refine sat_of_code tbOk mixed Try.func161 rfl rfl rfl (by decide +kernel) (by decide +kernel) (Nat.le_of_ble_eq_true rfl) ?_
  simp -implicitDefEqProofs (disch := omega) only [go_sem, ↓reduceIte, reduceCtorEq, Nat.reduceEqDiff, Nat.reduceLT, Nat.reduceLeDiff, Nat.reduceAdd, Nat.reduceSub, Nat.reduceMul, IntWalk.i64_in, AV.one.injEq, AC.c.injEq, C.v.injEq, Value.int.injEq, Value.bool.injEq, beq_self_eq_true, bne_self_eq_false]
  refine loopA_rule (ι := Unit) (fun _ => mk 28 [(2, intV 0), (3, intV (-1))] []) (fun _ => True) (fun _ => 0) () trivial ?_ tbOk mixed (by decide +kernel) ?_
  · exact le_mk (by simp [go_sem]) (by simp [go_sem])
  · intro _ _
    simp -implicitDefEqProofs (disch := omega) only [go_sem, ↓reduceIte, reduceCtorEq, Nat.reduceEqDiff, Nat.reduceLT, Nat.reduceLeDiff, Nat.reduceAdd, Nat.reduceSub, Nat.reduceMul, IntWalk.i64_in, AV.one.injEq, AC.c.injEq, C.v.injEq, Value.int.injEq, Value.bool.injEq, beq_self_eq_true, bne_self_eq_false]
    intro h; omega
theorem reverse_satM (xs : List Int) (hl : xs.length < 100000000) : SatM Try.prog 161 [.one (.m (.sl (xs.map encI)))] [.one (.m (.sl (xs.reverse.map encI)))] (.tup []) := by
  cases hx : xs with
  | nil => exact satM_nil rfl rfl reverse_nil
  | cons x0 xs0 =>
    rw [← hx]
    refine satM_slice 9001 1 tbOk mixed Try.func161 rfl rfl rfl (by decide +kernel) (by decide +kernel) (Nat.le_of_ble_eq_true rfl) rfl rfl (by rw [hx]; simp) (by simp [encI]) (fun e => ?_)
    rw [cI_of]
    simp -implicitDefEqProofs (disch := omega) only [go_sem, ↓reduceIte, reduceCtorEq, Nat.reduceEqDiff, Nat.reduceLT, Nat.reduceLeDiff, Nat.reduceAdd, Nat.reduceSub, Nat.reduceMul, IntWalk.i64_in, AV.one.injEq, AC.c.injEq, C.v.injEq, Value.int.injEq, Value.bool.injEq, beq_self_eq_true, bne_self_eq_false, List.length_map, List.length_reverse, cI_len]
    have h1 : 0 < xs.length := by rw [hx]; simp
    refine loopA_rule (ι := Nat) (fun i => mk 28 [(0, .one (.own 9001 xs.length)), (2, intV i), (3, intV (xs.length - 1 - i))] [(9001, .arr e 1 (cI (rvI xs i)) false)] [.one (.own 9001 xs.length)]) (fun i => i + i ≤ xs.length) (fun i => xs.length - i) 0 (Nat.zero_le _) ?_ tbOk mixed (by decide +kernel) ?_
    · exact le_mk (by simp [go_sem]) (by simp only [leB, lookB_cons, if_true, inB, rvI_zero, true_and, and_true]; exact cI_in _ _)
    · intro i hi
      rcases Nat.lt_or_ge (i + i + 1) xs.length with hlt | hge
      · have e1 : (xs.length : Int) - 1 - i = ((xs.length - 1 - i : Nat) : Int) := by omega
        have hlo := rvI_lo xs i hlt
        have hhi := rvI_hi xs i hlt
        have hst := rvI_step xs i hlt
        have hln := rvI_len xs i
        rw [e1]
        have hq : i < xs.length - 1 - i := by omega
        have hq2 : xs.length - 1 - i < xs.length := by omega
        have hq3 : i < xs.length := by omega
        have hhi2 : (cI ((rvI xs i).set i (xs.getD (xs.length - 1 - i) 0))).getD (xs.length - 1 - i) [] = [iC (xs.getD (xs.length - 1 - i) 0)] := by
          rw [cI_get _ _ (by rw [List.length_set, rvI_len]; omega), List.getElem_set_ne (by omega), rvI_get, if_neg (by omega)]
        simp -implicitDefEqProofs (disch := omega) only [go_sem, ↓reduceIte, reduceCtorEq, Nat.reduceEqDiff, Nat.reduceLT, Nat.reduceLeDiff, Nat.reduceAdd, Nat.reduceSub, Nat.reduceMul, IntWalk.i64_in, AV.one.injEq, AC.c.injEq, C.v.injEq, Value.int.injEq, Value.bool.injEq, beq_self_eq_true, bne_self_eq_false, hlo, hhi, cI_len, rvI_len, cI_set, List.length_set, hq, hq2, hq3, List.forall_mem_cons, List.not_mem_nil, hhi2]
        refine ⟨i + 1, by omega, by omega, le_mk ?_ ?_⟩
        · simp [go_sem]; omega
        · simp only [leB, lookB_cons, if_true, inB, hst, true_and, and_true]; exact cI_in _ _
      · have hno : ¬ ((i : Int) < xs.length - 1 - i) := by omega
        simp -implicitDefEqProofs (disch := omega) only [go_sem, ↓reduceIte, reduceCtorEq, Nat.reduceEqDiff, Nat.reduceLT, Nat.reduceLeDiff, Nat.reduceAdd, Nat.reduceSub, Nat.reduceMul, IntWalk.i64_in, AV.one.injEq, AC.c.injEq, C.v.injEq, Value.int.injEq, Value.bool.injEq, beq_self_eq_true, bne_self_eq_false, cI_len, rvI_len, hno]
        refine ⟨by rw [cI_len, rvI_len], cI_isO _, ?_, rfl⟩
        rw [cI_toC, rvI_end xs i (by omega)]
end Go.Ai
