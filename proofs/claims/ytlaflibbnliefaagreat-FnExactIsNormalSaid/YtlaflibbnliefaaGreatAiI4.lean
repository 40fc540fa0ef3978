/- CaseSubst. Written by mk14.py. -/
import Derived.Test.YtlaflibbnliefaaGreatAiI3
namespace Go.Ai
set_option linter.unusedVariables false
set_option linter.unusedSimpArgs false
open Go.Proofs
set_option maxRecDepth 100000

def mkB (p : ByteArray × Int) : GBind := ⟨p.1, wordT p.2⟩
def casePairs (vars : List ByteArray) (c : Int) : List (ByteArray × Int) := vars.zip (valsOf vars.length c)
def caseSubst (vars : List ByteArray) (c : Int) : List GBind := (casePairs vars c).map mkB
theorem casePairs_len (vars : List ByteArray) (c : Int) : (casePairs vars c).length = (valsOf vars.length c).length := by
  have := valsOf_len vars.length c
  simp only [casePairs, List.length_zip]; omega
theorem caseSubst_len (vars : List ByteArray) (c : Int) : (caseSubst vars c).length ≤ 3 := by
  have := valsOf_len vars.length c
  simp only [caseSubst, List.length_map, casePairs_len]; omega
theorem dgI_b (c : Int) : ∀ i n, n ∈ dgI c i → 0 ≤ n ∧ n < 4
  | 0, n, h => by simp [dgI] at h
  | i + 1, n, h => by
    simp only [dgI, List.mem_append, List.mem_singleton] at h
    rcases h with h | rfl
    · exact dgI_b c i n h
    · omega
theorem valsOf_b (k : Nat) (c : Int) : ∀ n, n ∈ valsOf k c → 0 ≤ n ∧ n < 4 := by
  intro n hn
  unfold valsOf at hn
  split at hn
  · exact dgI_b c k n (List.mem_reverse.1 hn)
  · simp at hn
theorem caseSubst_wf (vars : List ByteArray) (c : Int) (hw : ∀ v, v ∈ vars → wfS v) : wfL GBind.wf (caseSubst vars c) := by
  refine ⟨by have := caseSubst_len vars c; simp only [maxLen]; omega, fun b hb => ?_⟩
  obtain ⟨⟨v, n⟩, h, rfl⟩ := List.mem_map.1 hb
  obtain ⟨h1, h2⟩ := List.of_mem_zip h
  have := valsOf_b _ _ n h2
  exact ⟨hw v h1, wfI_of 3 (by omega) (by omega), wfI_of n (by omega) (by omega), Nat.zero_le _, Nat.zero_le _, trivial⟩
theorem zip_size : ∀ (vars : List ByteArray) (ns : List Int), szL GBind.size ((vars.zip ns).map mkB) ≤ szL szS vars + 10 * ns.length
  | [], ns => by simp [szL]
  | v :: vars, [] => by simp [szL]
  | v :: vars, n :: ns => by
    have := zip_size vars ns
    simp only [List.zip_cons_cons, List.map_cons, szL, mkB, GBind.size, wordT, Tm.size, Tm.sizes, List.length_cons, ByteArray.size_empty]
    omega
theorem caseSubst_size (vars : List ByteArray) (c : Int) : szL GBind.size (caseSubst vars c) ≤ szL szS vars + 100 := by
  have h1 := zip_size vars (valsOf vars.length c)
  have h2 := valsOf_len vars.length c
  simp only [caseSubst, casePairs]; omega
theorem pairs_at (vars : List ByteArray) (c : Int) (i : Nat) (h : i < (casePairs vars c).length) : ∃ v n, (casePairs vars c)[i] = (v, n) ∧ (vars.map encS).getD i [] = encS v ∧ ((valsOf vars.length c).map encI).getD i [] = encI n ∧ i < vars.length ∧ i < (valsOf vars.length c).length := by
  have h' := h
  simp only [casePairs, List.length_zip] at h
  have h1 : i < vars.length := by omega
  have h2 : i < (valsOf vars.length c).length := by omega
  exact ⟨vars[i], (valsOf vars.length c)[i], by simp [casePairs], map_getD h1, map_getD h2, h1, h2⟩
def bR (zs : List (ByteArray × Int)) : List (List AC) := zs.map fun p => [sC p.1, iC 3, iC p.2, sC ByteArray.empty, .nil]
theorem bR_len (zs : List (ByteArray × Int)) : (bR zs).length = zs.length := by simp [bR]
theorem bR_in (lb : Lk) (zs : List (ByteArray × Int)) : ∀ r, r ∈ bR zs → ∀ a, a ∈ r → inC lb a := by
  intro r hr a ha
  obtain ⟨p, _, rfl⟩ := List.mem_map.1 hr
  simp only [List.mem_cons, List.not_mem_nil, or_false] at ha
  rcases ha with rfl | rfl | rfl | rfl | rfl <;> trivial
theorem bR_isO (zs : List (ByteArray × Int)) : ∀ r, r ∈ bR zs → ∀ a, a ∈ r → isO a = true := by
  intro r hr a ha
  obtain ⟨p, _, rfl⟩ := List.mem_map.1 hr
  simp only [List.mem_cons, List.not_mem_nil, or_false] at ha
  rcases ha with rfl | rfl | rfl | rfl | rfl <;> rfl
theorem bR_toC (zs : List (ByteArray × Int)) : ((bR zs).map fun r => r.map toC) = (zs.map mkB).map GBind.enc := by
  simp [bR, mkB, GBind.enc, wordT, Tm.enc, Tm.encs, encS, toC]
theorem bR_snoc (zs : List (ByteArray × Int)) (v : ByteArray) (n : Int) : bR zs ++ [[sC v, iC 3, iC n, sC ByteArray.empty, .nil]] = bR (zs ++ [(v, n)]) := by simp [bR]

theorem specCaseSubst_sat (vars : List ByteArray) (c : Int) (hl : vars.length < 100000000) : Sat Tryz.prog 213 [slV (vars.map encS), intV c] (slV ((caseSubst vars c).map GBind.enc)) := by
  have hv := valsOf_len vars.length c
  have hzl := casePairs_len vars c
  have hcs : caseSubst vars c = (casePairs vars c).map mkB := rfl
  rw [hcs]
  refine sat_of_code tbOk mixed Tryz.func213 rfl rfl rfl (by decide +kernel) (by decide +kernel) (Nat.le_of_ble_eq_true rfl) ?_
  simp -implicitDefEqProofs (disch := omega) only [go_sem, ↓reduceIte, reduceCtorEq, Nat.reduceEqDiff, Nat.reduceLT, Nat.reduceLeDiff, Nat.reduceAdd, Nat.reduceSub, Nat.reduceMul, IntWalk.i64_in, AV.one.injEq, AC.c.injEq, C.v.injEq, Value.int.injEq, Value.bool.injEq, beq_self_eq_true, bne_self_eq_false, List.length_map]
  refine CallK.mk (specValuesOf_sat vars.length (by omega) c) ?_
  simp -implicitDefEqProofs (disch := omega) only [go_sem, ↓reduceIte, reduceCtorEq, Nat.reduceEqDiff, Nat.reduceLT, Nat.reduceLeDiff, Nat.reduceAdd, Nat.reduceSub, Nat.reduceMul, IntWalk.i64_in, AV.one.injEq, AC.c.injEq, C.v.injEq, Value.int.injEq, Value.bool.injEq, beq_self_eq_true, bne_self_eq_false, List.length_map]
  obtain ⟨ns, hns⟩ : ∃ ns, ns = valsOf vars.length c := ⟨_, rfl⟩
  have hat := pairs_at vars c
  rw [← hns] at hv hzl hat ⊢
  obtain ⟨zs, hzs⟩ : ∃ zs, zs = casePairs vars c := ⟨_, rfl⟩
  simp only [← hzs] at hzl hat ⊢
  refine loopA_rule (ι := Nat) (fun i => mk 33 [(0, slV (vars.map encS)), (5, .one (.own 8 (zs.take i).length)), (6, slV (ns.map encI)), (7, intV i)] [(8, .arr 222 5 (rowsOf GBind.enc ((zs.take i).map mkB)) false)]) (fun i => i ≤ zs.length) (fun i => zs.length - i) 0 (Nat.zero_le _) ?_ tbOk mixed (by decide +kernel) ?_
  · exact le_mk (by simp [go_sem]) (by simp [go_sem, rowsOf])
  · intro i hi
    have hln : (zs.take i).length ≤ zs.length := by rw [List.length_take]; omega
    rcases Nat.lt_or_ge i zs.length with hlt | hge
    · have ht : zs.take (i + 1) = zs.take i ++ [zs[i]] := by rw [List.take_add_one, List.getElem?_eq_getElem hlt]; rfl
      obtain ⟨v, n, hvn, hg1, hg2, hi1, hi2⟩ := hat i hlt
      rw [hvn] at ht
      simp only [encS] at hg1
      simp only [encI] at hg2
      simp -implicitDefEqProofs (disch := omega) only [go_sem, ↓reduceIte, reduceCtorEq, Nat.reduceEqDiff, Nat.reduceLT, Nat.reduceLeDiff, Nat.reduceAdd, Nat.reduceSub, Nat.reduceMul, IntWalk.i64_in, AV.one.injEq, AC.c.injEq, C.v.injEq, Value.int.injEq, Value.bool.injEq, beq_self_eq_true, bne_self_eq_false, hg1, hg2, hi1, hi2, List.length_map]
      refine CallK.mk (l3Word_sat n) ?_
      simp -implicitDefEqProofs (disch := omega) only [go_sem, ↓reduceIte, reduceCtorEq, Nat.reduceEqDiff, Nat.reduceLT, Nat.reduceLeDiff, Nat.reduceAdd, Nat.reduceSub, Nat.reduceMul, IntWalk.i64_in, AV.one.injEq, AC.c.injEq, C.v.injEq, Value.int.injEq, Value.bool.injEq, beq_self_eq_true, bne_self_eq_false, List.length_map]
      refine ⟨⟨by simp [wordT, Tm.enc], by omega, by omega⟩, fun _ => ⟨i + 1, hlt, by omega, ?_⟩⟩
      rw [ht]
      generalize zs.take i = acc
      exact le_mk (by simp [go_sem]) (by simp [go_sem]; simp [rowsOf, mkB, GBind.enc, encS])
    · have : i = zs.length := by omega
      subst this
      simp -implicitDefEqProofs (disch := omega) only [go_sem, ↓reduceIte, reduceCtorEq, Nat.reduceEqDiff, Nat.reduceLT, Nat.reduceLeDiff, Nat.reduceAdd, Nat.reduceSub, Nat.reduceMul, IntWalk.i64_in, AV.one.injEq, AC.c.injEq, C.v.injEq, Value.int.injEq, Value.bool.injEq, beq_self_eq_true, bne_self_eq_false, hzl, Nat.lt_irrefl, List.take_length, List.length_map]
      rw [← hzl, List.take_length, hzs]
theorem implCaseSubstF_sat (vars : List ByteArray) (c : Int) (hl : vars.length < 100000000) : SatF Tryz.prog 110 [slV (vars.map encS), intV c] (slV ((caseSubst vars c).map GBind.enc)) := by
  have hv := valsOf_len vars.length c
  have hzl := casePairs_len vars c
  have hcs : caseSubst vars c = (casePairs vars c).map mkB := rfl
  rw [hcs]
  refine satF_of_code [slV (((casePairs vars c).map mkB).map GBind.enc)] rfl (fun _ h => by cases h) tbOk mixed Tryz.func110 rfl rfl rfl (by decide +kernel) (by decide +kernel) (Nat.le_of_ble_eq_true rfl) ?_
  simp -implicitDefEqProofs (disch := omega) only [go_sem, ↓reduceIte, reduceCtorEq, Nat.reduceEqDiff, Nat.reduceLT, Nat.reduceLeDiff, Nat.reduceAdd, Nat.reduceSub, Nat.reduceMul, IntWalk.i64_in, AV.one.injEq, AC.c.injEq, C.v.injEq, Value.int.injEq, Value.bool.injEq, beq_self_eq_true, bne_self_eq_false, List.length_map]
  refine CallK.mk (implValuesOf_sat vars.length (by omega) c).sat ?_
  simp -implicitDefEqProofs (disch := omega) only [go_sem, ↓reduceIte, reduceCtorEq, Nat.reduceEqDiff, Nat.reduceLT, Nat.reduceLeDiff, Nat.reduceAdd, Nat.reduceSub, Nat.reduceMul, IntWalk.i64_in, AV.one.injEq, AC.c.injEq, C.v.injEq, Value.int.injEq, Value.bool.injEq, beq_self_eq_true, bne_self_eq_false, List.length_map]
  obtain ⟨ns, hns⟩ : ∃ ns, ns = valsOf vars.length c := ⟨_, rfl⟩
  have hat := pairs_at vars c
  rw [← hns] at hv hzl hat ⊢
  obtain ⟨zs, hzs⟩ : ∃ zs, zs = casePairs vars c := ⟨_, rfl⟩
  simp only [← hzs] at hzl hat ⊢
  refine loopA_rule (ι := Nat) (fun i => match i with
    | 0 => mk 30 [(0, slV (vars.map encS)), (5, .one .nil), (11, slV (ns.map encI)), (12, intV ns.length), (13, intV (0 : Nat))] []
    | i + 1 => mk 30 [(0, slV (vars.map encS)), (5, .one (.own 27 (i + 1))), (11, slV (ns.map encI)), (12, intV ns.length), (13, intV (i + 1 : Nat))] [(27, .arr 222 5 (bR (zs.take (i + 1))) false)]) (fun i => i ≤ zs.length) (fun i => zs.length - i) 0 (Nat.zero_le _) ?_ tbOk mixed (by decide +kernel) ?_
  · exact le_mk (by simp [go_sem]) (by simp [go_sem])
  · intro i hi
    rcases Nat.lt_or_ge i zs.length with hlt | hge
    · have ht : zs.take (i + 1) = zs.take i ++ [zs[i]] := by rw [List.take_add_one, List.getElem?_eq_getElem hlt]; rfl
      obtain ⟨v, n, hvn, hg1, hg2, hi1, hi2⟩ := hat i hlt
      rw [hvn] at ht
      simp only [encS] at hg1
      simp only [encI] at hg2
      cases i with
      | zero =>
        simp only [List.take_zero, List.nil_append] at ht
        simp -implicitDefEqProofs (disch := omega) only [go_sem, ↓reduceIte, reduceCtorEq, Nat.reduceEqDiff, Nat.reduceLT, Nat.reduceLeDiff, Nat.reduceAdd, Nat.reduceSub, Nat.reduceMul, IntWalk.i64_in, AV.one.injEq, AC.c.injEq, C.v.injEq, Value.int.injEq, Value.bool.injEq, beq_self_eq_true, bne_self_eq_false, hg1, hg2, hi1, hi2, List.length_map]
        refine ⟨by simp, fun _ => ⟨1, by omega, by omega, ?_⟩⟩
        exact le_mk (by simp [go_sem]) (by simp [go_sem, ht, bR]; rfl)
      | succ i =>
        have hdl : (zs.take (i + 1)).length = i + 1 := by rw [List.length_take]; omega
        simp -implicitDefEqProofs (disch := omega) only [go_sem, ↓reduceIte, reduceCtorEq, Nat.reduceEqDiff, Nat.reduceLT, Nat.reduceLeDiff, Nat.reduceAdd, Nat.reduceSub, Nat.reduceMul, IntWalk.i64_in, AV.one.injEq, AC.c.injEq, C.v.injEq, Value.int.injEq, Value.bool.injEq, beq_self_eq_true, bne_self_eq_false, hg1, hg2, hi1, hi2, List.length_map, bR_len, hdl]
        refine ⟨⟨by simp, by omega, by omega⟩, fun _ => ⟨i + 2, by omega, by omega, ?_⟩⟩
        refine le_mk (by simp [go_sem]) ?_
        refine ⟨?_, bR_in _ _, trivial⟩
        simp only [lookB_cons, if_true, ht, ← bR_snoc]
        rfl
    · have : i = zs.length := by omega
      subst this
      cases hz : zs with
      | nil =>
        rw [hz] at hzl
        have hn0 : ns.length = 0 := hzl.symm
        simp -implicitDefEqProofs (disch := omega) only [go_sem, ↓reduceIte, reduceCtorEq, Nat.reduceEqDiff, Nat.reduceLT, Nat.reduceLeDiff, Nat.reduceAdd, Nat.reduceSub, Nat.reduceMul, IntWalk.i64_in, AV.one.injEq, AC.c.injEq, C.v.injEq, Value.int.injEq, Value.bool.injEq, beq_self_eq_true, bne_self_eq_false, hn0, Nat.lt_irrefl, List.map_nil, List.length_nil]
        rw [← hzs, hz]
        trivial
      | cons z zs' =>
        rw [hz] at hzl
        have hn0 : ns.length = zs'.length + 1 := by rw [← hzl]; rfl
        simp -implicitDefEqProofs (disch := omega) only [go_sem, ↓reduceIte, reduceCtorEq, Nat.reduceEqDiff, Nat.reduceLT, Nat.reduceLeDiff, Nat.reduceAdd, Nat.reduceSub, Nat.reduceMul, IntWalk.i64_in, AV.one.injEq, AC.c.injEq, C.v.injEq, Value.int.injEq, Value.bool.injEq, beq_self_eq_true, bne_self_eq_false, hn0, Nat.lt_irrefl, List.length_cons, bR_len, List.take_length]
        exact ⟨bR_isO _, by rw [bR_toC, ← hzs, hz]⟩
end Go.Ai
