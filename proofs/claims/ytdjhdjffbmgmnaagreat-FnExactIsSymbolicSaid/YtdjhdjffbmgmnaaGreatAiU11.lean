/- Symbolic terms: IsSymbolic. -/
import Derived.Test.YtdjhdjffbmgmnaaGreatAiU9
import Derived.Test.YtdjhdjffbmgmnaaGreatAiS1
namespace Go.Ai
set_option linter.unusedVariables false
set_option linter.unusedSimpArgs false
open Go.Proofs
set_option maxRecDepth 100000

def wordVs (va : List ByteArray) : List GVarSort := va.map fun v => ⟨v, sWord⟩
def caseAt (n : Nat) (ca : List Int) (k : Nat) : Bool := decide (0 ≤ ca.getD k 0) && decide (ca.getD k 0 < ccN n) && (k == 0 || decide (ca.getD (k - 1) 0 < ca.getD k 0))
def symB (d : GDefinition) (s : GSymbolic) : Bool :=
  defB d && decide (s.va.length ≤ 3) && distS s.va && s.va.all isVn && s.t.valid && s.t.vars.all (hasS s.va) && (List.range s.ca.length).all (caseAt s.va.length s.ca) && !eqS (s.t.sort d.si (wordVs s.va)) sE
theorem specSorts_sat (va : List ByteArray) (hl : va.length < 100000000) : Sat Tryz.prog 97 [slV (va.map encS)] (slV ((wordVs va).map GVarSort.enc)) := by
  refine sat_of_code tbOk mixed Tryz.func97 rfl rfl rfl (by decide +kernel) (by decide +kernel) (Nat.le_of_ble_eq_true rfl) ?_
  simp -implicitDefEqProofs (disch := omega) only [go_sem, ↓reduceIte, reduceCtorEq, Nat.reduceEqDiff, Nat.reduceLT, Nat.reduceLeDiff, Nat.reduceAdd, Nat.reduceSub, Nat.reduceMul, IntWalk.i64_in, AV.one.injEq, AC.c.injEq, C.v.injEq, Value.int.injEq, Value.bool.injEq, beq_self_eq_true, bne_self_eq_false]
  refine loopA_rule (ι := Nat) (fun i => mk 21 [(0, slV (va.map encS)), (3, .one (.own 5 i)), (4, intV i)] [(5, .arr 148 2 (rowsOf GVarSort.enc (wordVs (va.take i))) false)]) (fun i => i ≤ va.length) (fun i => va.length - i) 0 (Nat.zero_le _) ?_ tbOk mixed (by decide +kernel) ?_
  · exact le_mk (by simp [go_sem]) (by simp [go_sem, rowsOf, wordVs])
  · intro i hi
    have hml : (wordVs (va.take i)).length = i := by simp [wordVs]; omega
    rcases Nat.lt_or_ge i va.length with hlt | hge
    · have hg := map_getD (ec := encS) hlt
      have ht : wordVs (va.take (i + 1)) = wordVs (va.take i) ++ [⟨va[i], sWord⟩] := by
        rw [List.take_add_one, List.getElem?_eq_getElem hlt]; simp only [wordVs, Option.toList_some, List.map_append, List.map_cons, List.map_nil]
      generalize va[i] = x at hg ht
      simp only [encS] at hg
      simp -implicitDefEqProofs (disch := omega) only [go_sem, ↓reduceIte, reduceCtorEq, Nat.reduceEqDiff, Nat.reduceLT, Nat.reduceLeDiff, Nat.reduceAdd, Nat.reduceSub, Nat.reduceMul, IntWalk.i64_in, AV.one.injEq, AC.c.injEq, C.v.injEq, Value.int.injEq, Value.bool.injEq, beq_self_eq_true, bne_self_eq_false, hg, hlt, hml, List.length_map]
      refine ⟨⟨by simp, by omega, by omega⟩, fun _ => ⟨i + 1, hlt, by omega, ?_⟩⟩
      rw [ht]
      exact le_mk (by simp [go_sem]) (by simp [go_sem]; simp [rowsOf, encS, GVarSort.enc])
    · have : i = va.length := by omega
      subst this
      rw [List.take_length] at hml ⊢
      simp -implicitDefEqProofs (disch := omega) only [go_sem, ↓reduceIte, reduceCtorEq, Nat.reduceEqDiff, Nat.reduceLT, Nat.reduceLeDiff, Nat.reduceAdd, Nat.reduceSub, Nat.reduceMul, IntWalk.i64_in, AV.one.injEq, AC.c.injEq, C.v.injEq, Value.int.injEq, Value.bool.injEq, beq_self_eq_true, bne_self_eq_false, Nat.lt_irrefl, hml, List.length_map]
theorem implWordVars_sat (va : List ByteArray) (hl : va.length < 100000000) : Sat Tryz.prog 101 [slV (va.map encS)] (slV ((wordVs va).map GVarSort.enc)) := by
  refine sat_of_code tbOk mixed Tryz.func101 rfl rfl rfl (by decide +kernel) (by decide +kernel) (Nat.le_of_ble_eq_true rfl) ?_
  simp -implicitDefEqProofs (disch := omega) only [go_sem, ↓reduceIte, reduceCtorEq, Nat.reduceEqDiff, Nat.reduceLT, Nat.reduceLeDiff, Nat.reduceAdd, Nat.reduceSub, Nat.reduceMul, IntWalk.i64_in, AV.one.injEq, AC.c.injEq, C.v.injEq, Value.int.injEq, Value.bool.injEq, beq_self_eq_true, bne_self_eq_false]
  refine loopA_rule (ι := Nat) (fun i => mk 19 [(3, .one (.own 9000 i)), (6, slV (va.map encS)), (7, intV va.length), (8, intV i)] [(9000, .arr 148 2 (rowsOf GVarSort.enc (wordVs (va.take i))) false)]) (fun i => i ≤ va.length) (fun i => va.length - i) 0 (Nat.zero_le _) ?_ tbOk mixed (by decide +kernel) ?_
  · refine (wk_nil (t := 3) 9000 148 2 rfl (by decide) rfl (by decide)).trans ?_
    exact le_mk (by simp [go_sem]) (by simp [go_sem, rowsOf, wordVs])
  · intro i hi
    have hml : (wordVs (va.take i)).length = i := by simp [wordVs]; omega
    rcases Nat.lt_or_ge i va.length with hlt | hge
    · have hg := map_getD (ec := encS) hlt
      have ht : wordVs (va.take (i + 1)) = wordVs (va.take i) ++ [⟨va[i], sWord⟩] := by
        rw [List.take_add_one, List.getElem?_eq_getElem hlt]; simp only [wordVs, Option.toList_some, List.map_append, List.map_cons, List.map_nil]
      generalize va[i] = x at hg ht
      simp only [encS] at hg
      simp -implicitDefEqProofs (disch := omega) only [go_sem, ↓reduceIte, reduceCtorEq, Nat.reduceEqDiff, Nat.reduceLT, Nat.reduceLeDiff, Nat.reduceAdd, Nat.reduceSub, Nat.reduceMul, IntWalk.i64_in, AV.one.injEq, AC.c.injEq, C.v.injEq, Value.int.injEq, Value.bool.injEq, beq_self_eq_true, bne_self_eq_false, hg, hlt, hml, List.length_map]
      refine ⟨⟨by simp, by omega, by omega⟩, fun _ => ⟨i + 1, hlt, by omega, ?_⟩⟩
      rw [ht]
      exact le_mk (by simp [go_sem]) (by simp [go_sem]; simp [rowsOf, encS, GVarSort.enc])
    · have : i = va.length := by omega
      subst this
      rw [List.take_length] at hml ⊢
      simp -implicitDefEqProofs (disch := omega) only [go_sem, ↓reduceIte, reduceCtorEq, Nat.reduceEqDiff, Nat.reduceLT, Nat.reduceLeDiff, Nat.reduceAdd, Nat.reduceSub, Nat.reduceMul, IntWalk.i64_in, AV.one.injEq, AC.c.injEq, C.v.injEq, Value.int.injEq, Value.bool.injEq, beq_self_eq_true, bne_self_eq_false, Nat.lt_irrefl, hml, List.length_map]
theorem specl18Vars_sat (va : List ByteArray) (hl : szL szS va < 80000000) : Sat Tryz.prog 94 [slV (va.map encS)] (boolV (va.all isVn && decide (va.length ≤ 3) && distS va)) := by
  have hll := len_szL szS va
  have hm := szL_mem szS va
  have hnm := fun s (h : s ∈ va) => specIsVarName_sat s (by have := hm s h; simp only [szS] at this; omega)
  have hd := specAllDistinct_sat va (by omega)
  generalize distS va = d at hd ⊢
  obtain ⟨A, hA⟩ : ∃ A, A = va.all isVn := ⟨_, rfl⟩
  rw [← hA]
  refine sat_of_code tbOk mixed Tryz.func94 rfl rfl rfl (by decide +kernel) (by decide +kernel) (Nat.le_of_ble_eq_true rfl) ?_
  simp -implicitDefEqProofs (disch := omega) only [go_sem, ↓reduceIte, reduceCtorEq, Nat.reduceEqDiff, Nat.reduceLT, Nat.reduceLeDiff, Nat.reduceAdd, Nat.reduceSub, Nat.reduceMul, IntWalk.i64_in, AV.one.injEq, AC.c.injEq, C.v.injEq, Value.int.injEq, Value.bool.injEq, beq_self_eq_true, bne_self_eq_false]
  refine loopA_rule (ι := Nat) (fun i => mk 23 [(0, slV (va.map encS)), (3, intV i)] []) (fun i => i ≤ va.length ∧ (va.drop i).all isVn = A) (fun i => va.length - i) 0 ⟨Nat.zero_le _, by simp [hA]⟩ ?_ tbOk mixed (by decide +kernel) ?_
  · exact le_mk (by simp [go_sem]) (by simp [go_sem])
  · rintro i ⟨hi, he⟩
    rcases Nat.lt_or_ge i va.length with hlt | hge
    · have hg := map_getD (ec := encS) hlt
      rw [all_drop _ va i hlt] at he
      have hn := hnm _ (List.getElem_mem hlt)
      obtain ⟨rest, hre⟩ : ∃ rest, rest = (va.drop (i + 1)).all isVn := ⟨_, rfl⟩
      rw [← hre] at he
      generalize isVn va[i] = b at he hn
      generalize va[i] = x at hg hn
      simp only [encS] at hg
      simp -implicitDefEqProofs (disch := omega) only [go_sem, ↓reduceIte, reduceCtorEq, Nat.reduceEqDiff, Nat.reduceLT, Nat.reduceLeDiff, Nat.reduceAdd, Nat.reduceSub, Nat.reduceMul, IntWalk.i64_in, AV.one.injEq, AC.c.injEq, C.v.injEq, Value.int.injEq, Value.bool.injEq, beq_self_eq_true, bne_self_eq_false, hg, hlt, List.length_map]
      refine CallK.mk hn ?_
      simp -implicitDefEqProofs (disch := omega) only [go_sem, ↓reduceIte, reduceCtorEq, Nat.reduceEqDiff, Nat.reduceLT, Nat.reduceLeDiff, Nat.reduceAdd, Nat.reduceSub, Nat.reduceMul, IntWalk.i64_in, AV.one.injEq, AC.c.injEq, C.v.injEq, Value.int.injEq, Value.bool.injEq, beq_self_eq_true, bne_self_eq_false]
      exact ⟨fun k => by rw [← he, k]; simp, fun k => ⟨i + 1, ⟨hlt, by rw [← he, k, ← hre]; simp⟩, by omega, le_mk (by simp [go_sem]) (by simp [go_sem])⟩⟩
    · have : i = va.length := by omega
      subst this
      rw [List.drop_length] at he
      have he : true = A := he
      rw [← he]
      simp -implicitDefEqProofs (disch := omega) only [go_sem, ↓reduceIte, reduceCtorEq, Nat.reduceEqDiff, Nat.reduceLT, Nat.reduceLeDiff, Nat.reduceAdd, Nat.reduceSub, Nat.reduceMul, IntWalk.i64_in, AV.one.injEq, AC.c.injEq, C.v.injEq, Value.int.injEq, Value.bool.injEq, beq_self_eq_true, bne_self_eq_false, Nat.lt_irrefl, List.length_map]
      refine ⟨fun k => CallK.mk hd ?_, fun k => by rw [(by simp; omega : decide (va.length ≤ 3) = false)]; simp⟩
      simp -implicitDefEqProofs (disch := omega) only [go_sem, ↓reduceIte, reduceCtorEq, Nat.reduceEqDiff, Nat.reduceLT, Nat.reduceLeDiff, Nat.reduceAdd, Nat.reduceSub, Nat.reduceMul, IntWalk.i64_in, AV.one.injEq, AC.c.injEq, C.v.injEq, Value.int.injEq, Value.bool.injEq, beq_self_eq_true, bne_self_eq_false]
      rw [(by simp; omega : decide (va.length ≤ 3) = true)]; simp
theorem specSym_sat (d : GDefinition) (hs : d.size < 1048577) (s : GSymbolic) (hss : s.size < 1048577) : Sat Tryz.prog 34 [aggV d.enc, aggV s.enc] (boolV (symB d s)) := by
  have h1 := specDef_sat d hs
  simp only [GDefinition.size] at hs
  have hk := opOk_of d.si (by omega)
  obtain ⟨va, t, ca⟩ := s
  simp only [GSymbolic.size] at hss
  have hvl := len_szL szS va
  have hcl := len_szL szI ca
  have h2 := specl18Vars_sat va (by omega)
  have h3 := specValid_sat t (by omega)
  have h4 := specVarsOf_sat t (by omega)
  have hv := vars_len t
  have hsl := sortN_len t.vars
  have h5 := specWithout_sat (sortN t.vars) va (by omega) (by omega)
  have hwl := wout_len (sortN t.vars) va
  have hw : ((wout (sortN t.vars) va).length == 0) = t.vars.all (hasS va) := by
    rw [wout_nil, Bool.eq_iff_iff, List.all_eq_true, List.all_eq_true]
    simp only [sortN_mem]
  have h6 := specCount_sat va.length (by omega)
  have hcb : 0 ≤ ccN va.length ∧ ccN va.length ≤ 64 := by
    unfold ccN
    split
    · have := p4_b va.length (by omega); omega
    · omega
  have h7 := specSorts_sat va (by omega)
  have h8 := specSortOf_sat d.si hk (wordVs va) (by simp [wordVs]; omega) t (by omega)
  obtain ⟨r, hr⟩ : ∃ r, r = symB d ⟨va, t, ca⟩ := ⟨_, rfl⟩
  rw [← hr]
  unfold symB at hr
  simp only at hr
  generalize defB d = b1 at hr h1
  generalize t.valid = b3 at hr h3
  rw [← hw] at hr
  obtain ⟨cb, hC⟩ : ∃ cb, cb = (List.range ca.length).all (caseAt va.length ca) := ⟨_, rfl⟩
  rw [← hC] at hr
  generalize wout (sortN t.vars) va = ws at hr h5 hwl
  have hwl : ws.length < 100000000 := by omega
  generalize sortN t.vars = vs at h4 h5 hsl
  generalize t.sort d.si (wordVs va) = q at hr h8
  generalize hb2 : (va.all isVn && decide (va.length ≤ 3) && distS va) = b2 at h2
  replace hr : r = (b1 && b2 && b3 && (ws.length == 0) && cb && !eqS q sE) := by
    rw [hr, ← hb2]
    cases b1 <;> cases distS va <;> cases va.all isVn <;> cases decide (va.length ≤ 3) <;> rfl
  obtain ⟨⟨so, op⟩, ru, st⟩ := d
  obtain ⟨k, n, s, ts⟩ := t
  refine sat_of_code tbOk mixed Tryz.func34 rfl rfl rfl (by decide +kernel) (by decide +kernel) (Nat.le_of_ble_eq_true rfl) ?_
  simp -implicitDefEqProofs (disch := omega) only [go_sem, ↓reduceIte, reduceCtorEq, Nat.reduceEqDiff, Nat.reduceLT, Nat.reduceLeDiff, Nat.reduceAdd, Nat.reduceSub, Nat.reduceMul, IntWalk.i64_in, AV.one.injEq, AC.c.injEq, C.v.injEq, Value.int.injEq, Value.bool.injEq, beq_self_eq_true, bne_self_eq_false, Tm.enc, GDefinition.enc, GSymbolic.enc, GSignature.enc, encL, List.cons_append, List.nil_append]
  refine CallK.mk h1 ?_
  simp -implicitDefEqProofs (disch := omega) only [go_sem, ↓reduceIte, reduceCtorEq, Nat.reduceEqDiff, Nat.reduceLT, Nat.reduceLeDiff, Nat.reduceAdd, Nat.reduceSub, Nat.reduceMul, IntWalk.i64_in, AV.one.injEq, AC.c.injEq, C.v.injEq, Value.int.injEq, Value.bool.injEq, beq_self_eq_true, bne_self_eq_false]
  refine ⟨fun k1 => CallK.mk h2 ?_, fun k1 => by rw [hr, k1]; simp⟩
  simp -implicitDefEqProofs (disch := omega) only [go_sem, ↓reduceIte, reduceCtorEq, Nat.reduceEqDiff, Nat.reduceLT, Nat.reduceLeDiff, Nat.reduceAdd, Nat.reduceSub, Nat.reduceMul, IntWalk.i64_in, AV.one.injEq, AC.c.injEq, C.v.injEq, Value.int.injEq, Value.bool.injEq, beq_self_eq_true, bne_self_eq_false]
  refine ⟨fun k2 => CallK.mk h3 ?_, fun k2 => by rw [hr, k2]; simp⟩
  simp -implicitDefEqProofs (disch := omega) only [go_sem, ↓reduceIte, reduceCtorEq, Nat.reduceEqDiff, Nat.reduceLT, Nat.reduceLeDiff, Nat.reduceAdd, Nat.reduceSub, Nat.reduceMul, IntWalk.i64_in, AV.one.injEq, AC.c.injEq, C.v.injEq, Value.int.injEq, Value.bool.injEq, beq_self_eq_true, bne_self_eq_false]
  refine ⟨fun k3 => CallK.mk h4 ?_, fun k3 => by rw [hr, k3]; simp⟩
  simp -implicitDefEqProofs (disch := omega) only [go_sem, ↓reduceIte, reduceCtorEq, Nat.reduceEqDiff, Nat.reduceLT, Nat.reduceLeDiff, Nat.reduceAdd, Nat.reduceSub, Nat.reduceMul, IntWalk.i64_in, AV.one.injEq, AC.c.injEq, C.v.injEq, Value.int.injEq, Value.bool.injEq, beq_self_eq_true, bne_self_eq_false]
  refine CallK.mk h5 ?_
  simp -implicitDefEqProofs (disch := omega) only [go_sem, ↓reduceIte, reduceCtorEq, Nat.reduceEqDiff, Nat.reduceLT, Nat.reduceLeDiff, Nat.reduceAdd, Nat.reduceSub, Nat.reduceMul, IntWalk.i64_in, AV.one.injEq, AC.c.injEq, C.v.injEq, Value.int.injEq, Value.bool.injEq, beq_self_eq_true, bne_self_eq_false, List.length_map]
  refine ⟨fun k4 => by rw [hr, (by rw [beq_eq_false_iff_ne]; omega : (ws.length == 0) = false)]; simp, fun k4 => ?_⟩
  replace hr : r = (cb && !eqS q sE) := by
    rw [hr, k1, k2, k3, (by rw [beq_iff_eq]; omega : (ws.length == 0) = true)]; simp
  refine loopA_rule (ι := Nat) (fun i => mk 77 [(2, .one (.ptr 2 0)), (3, .one (.ptr 3 0)), (5, intV i)] [(2, .var [.c (.sl (so.map encS)), .c (.sl (op.map GOp.enc)), .c (.sl (ru.map GRule.enc)), .c (.sl (st.map GStrict.enc))]), (3, .var [.c (.sl (va.map encS)), iC k, iC n, sC s, tC ts, .c (.sl (ca.map encI))])]) (fun i => i ≤ ca.length ∧ ((List.range ca.length).drop i).all (caseAt va.length ca) = cb) (fun i => ca.length - i) 0 ⟨Nat.zero_le _, by simp [hC]⟩ ?_ tbOk mixed (by decide +kernel) ?_
  · exact le_mk (by simp [go_sem]) (by simp [go_sem])
  · rintro i ⟨hi, he⟩
    rcases Nat.lt_or_ge i ca.length with hlt | hge
    · have hgd := map_getD (ec := encI) hlt
      rw [range_drop _ _ _ hlt] at he
      obtain ⟨rest, hre⟩ : ∃ rest, rest = ((List.range ca.length).drop (i + 1)).all (caseAt va.length ca) := ⟨_, rfl⟩
      rw [← hre] at he
      have hca : caseAt va.length ca i = (decide (0 ≤ ca[i]) && decide (ca[i] < ccN va.length) && (i == 0 || decide (ca.getD (i - 1) 0 < ca[i]))) := by
        simp only [caseAt, List.getD_eq_getElem?_getD, List.getElem?_eq_getElem hlt, Option.getD_some]
      rw [hca] at he
      have hin : ∀ c : Int, (decide (0 ≤ c) && decide (c ≤ ccN va.length - 1)) = (decide (0 ≤ c) && decide (c < ccN va.length)) := by
        intro c; rw [Bool.eq_iff_iff]; simp; omega
      cases i with
      | zero =>
        generalize ca[0] = c at hgd he
        simp only [encI] at hgd
        have hl0 : ((0 : Int) < (ca.length : Int)) = True := eq_true (by omega)
        simp -implicitDefEqProofs (disch := omega) only [go_sem, ↓reduceIte, reduceCtorEq, Nat.reduceEqDiff, Nat.reduceLT, Nat.reduceLeDiff, Nat.reduceAdd, Nat.reduceSub, Nat.reduceMul, IntWalk.i64_in, AV.one.injEq, AC.c.injEq, C.v.injEq, Value.int.injEq, Value.bool.injEq, beq_self_eq_true, bne_self_eq_false, hgd, hlt, hl0, List.length_map, Int.natCast_zero]
        refine CallK.mk h6 ?_
        simp -implicitDefEqProofs (disch := omega) only [go_sem, ↓reduceIte, reduceCtorEq, Nat.reduceEqDiff, Nat.reduceLT, Nat.reduceLeDiff, Nat.reduceAdd, Nat.reduceSub, Nat.reduceMul, IntWalk.i64_in, AV.one.injEq, AC.c.injEq, C.v.injEq, Value.int.injEq, Value.bool.injEq, beq_self_eq_true, bne_self_eq_false, hgd, hlt, hl0, List.length_map]
        refine CallK.mk (l1In_sat _ _ _) ?_
        simp -implicitDefEqProofs (disch := omega) only [go_sem, ↓reduceIte, reduceCtorEq, Nat.reduceEqDiff, Nat.reduceLT, Nat.reduceLeDiff, Nat.reduceAdd, Nat.reduceSub, Nat.reduceMul, IntWalk.i64_in, AV.one.injEq, AC.c.injEq, C.v.injEq, Value.int.injEq, Value.bool.injEq, beq_self_eq_true, bne_self_eq_false, hgd, hlt, hl0, hin, List.length_map, Int.natCast_zero, gt_iff_lt, Int.lt_irrefl, decide_false]
        simp only [beq_self_eq_true, Bool.true_or, Bool.and_true] at he
        refine ⟨fun k5 => ⟨0 + 1, ⟨by omega, by rw [← he, k5, ← hre]; simp⟩, by omega, le_mk (by simp [go_sem]) (by simp [go_sem])⟩, fun k5 => by rw [hr, ← he, k5]; simp⟩
      | succ m =>
        have hlm : m < ca.length := by omega
        have hgm := map_getD (ec := encI) hlm
        have hcast : (((m + 1 : Nat) : Int) - 1) = (m : Int) := by omega
        have hpos : (((m + 1 : Nat) : Int) > 0) = True := eq_true (by omega)
        have hgp : ca.getD (m + 1 - 1) 0 = ca[m] := by simp [hlm]
        rw [hgp] at he
        generalize ca[m + 1] = c at hgd he
        generalize ca[m] = c' at hgm he
        simp only [encI] at hgd hgm
        simp -implicitDefEqProofs (disch := omega) only [go_sem, ↓reduceIte, reduceCtorEq, Nat.reduceEqDiff, Nat.reduceLT, Nat.reduceLeDiff, Nat.reduceAdd, Nat.reduceSub, Nat.reduceMul, IntWalk.i64_in, AV.one.injEq, AC.c.injEq, C.v.injEq, Value.int.injEq, Value.bool.injEq, beq_self_eq_true, bne_self_eq_false, hgd, hlt, List.length_map]
        refine CallK.mk h6 ?_
        simp -implicitDefEqProofs (disch := omega) only [go_sem, ↓reduceIte, reduceCtorEq, Nat.reduceEqDiff, Nat.reduceLT, Nat.reduceLeDiff, Nat.reduceAdd, Nat.reduceSub, Nat.reduceMul, IntWalk.i64_in, AV.one.injEq, AC.c.injEq, C.v.injEq, Value.int.injEq, Value.bool.injEq, beq_self_eq_true, bne_self_eq_false, hgd, hlt, List.length_map]
        refine CallK.mk (l1In_sat _ _ _) ?_
        simp -implicitDefEqProofs (disch := omega) only [go_sem, ↓reduceIte, reduceCtorEq, Nat.reduceEqDiff, Nat.reduceLT, Nat.reduceLeDiff, Nat.reduceAdd, Nat.reduceSub, Nat.reduceMul, IntWalk.i64_in, AV.one.injEq, AC.c.injEq, C.v.injEq, Value.int.injEq, Value.bool.injEq, beq_self_eq_true, bne_self_eq_false, hgd, hgm, hlt, hlm, hin, hcast, hpos, List.length_map, decide_true]
        have hm0 : (m + 1 == 0) = false := by simp
        rw [hm0, Bool.false_or] at he
        refine ⟨fun k5 => ⟨fun k6 => by rw [hr, ← he, (by simp; omega : decide (c' < c) = false)]; simp, fun k6 => ⟨m + 1 + 1, ⟨by omega, by rw [← he, k5, (by simp; omega : decide (c' < c) = true), ← hre]; simp⟩, by omega, le_mk (by simp [go_sem]) (by simp [go_sem])⟩⟩, fun k5 => by rw [hr, ← he, k5]; simp⟩
    · have : i = ca.length := by omega
      subst this
      rw [range_end] at he
      rw [← he] at hr
      simp -implicitDefEqProofs (disch := omega) only [go_sem, ↓reduceIte, reduceCtorEq, Nat.reduceEqDiff, Nat.reduceLT, Nat.reduceLeDiff, Nat.reduceAdd, Nat.reduceSub, Nat.reduceMul, IntWalk.i64_in, AV.one.injEq, AC.c.injEq, C.v.injEq, Value.int.injEq, Value.bool.injEq, beq_self_eq_true, bne_self_eq_false, Nat.lt_irrefl, List.length_map]
      refine CallK.mk h7 ?_
      simp -implicitDefEqProofs (disch := omega) only [go_sem, ↓reduceIte, reduceCtorEq, Nat.reduceEqDiff, Nat.reduceLT, Nat.reduceLeDiff, Nat.reduceAdd, Nat.reduceSub, Nat.reduceMul, IntWalk.i64_in, AV.one.injEq, AC.c.injEq, C.v.injEq, Value.int.injEq, Value.bool.injEq, beq_self_eq_true, bne_self_eq_false, List.length_map]
      refine CallK.mk h8 ?_
      simp -implicitDefEqProofs (disch := omega) only [go_sem, ↓reduceIte, reduceCtorEq, Nat.reduceEqDiff, Nat.reduceLT, Nat.reduceLeDiff, Nat.reduceAdd, Nat.reduceSub, Nat.reduceMul, IntWalk.i64_in, AV.one.injEq, AC.c.injEq, C.v.injEq, Value.int.injEq, Value.bool.injEq, beq_self_eq_true, bne_self_eq_false]
      rw [hr]; rfl
theorem implSym_sat (d : GDefinition) (hs : d.size < 1048577) (s : GSymbolic) (hss : s.size < 1048577) : Sat Tryz.prog 36 [aggV d.enc, aggV s.enc] (boolV (symB d s)) := by
  have h1 := implDef_sat d hs
  simp only [GDefinition.size] at hs
  have hk := opOk_of d.si (by omega)
  obtain ⟨va, t, ca⟩ := s
  simp only [GSymbolic.size] at hss
  have hvl := len_szL szS va
  have hcl := len_szL szI ca
  have hm := szL_mem szS va
  have hnm := fun s (h : s ∈ va) => implIsVarName_sat s (by have := hm s h; simp only [szS] at this; omega)
  have h2 := implDist_sat va (by omega)
  have h3 := implValid_sat t (by omega)
  have hv := vars_len t
  have h5 := implWithin_sat t (by omega) va (by omega)
  have h6 := fun c => isCase_sat va.length (by omega) c
  have h7 := implWordVars_sat va (by omega)
  have h8 := implSortOf_sat d.si hk (wordVs va) (by simp [wordVs]; omega) t (by omega)
  obtain ⟨r, hr⟩ : ∃ r, r = symB d ⟨va, t, ca⟩ := ⟨_, rfl⟩
  rw [← hr]
  unfold symB at hr
  simp only at hr
  generalize defB d = b1 at hr h1
  generalize distS va = b2 at hr h2
  generalize t.valid = b3 at hr h3
  generalize t.vars.all (hasS va) = b5 at hr h5
  obtain ⟨cb, hC⟩ : ∃ cb, cb = (List.range ca.length).all (caseAt va.length ca) := ⟨_, rfl⟩
  obtain ⟨nb, hN⟩ : ∃ nb, nb = va.all isVn := ⟨_, rfl⟩
  rw [← hC, ← hN] at hr
  generalize t.sort d.si (wordVs va) = q at hr h8
  obtain ⟨⟨so, op⟩, ru, st⟩ := d
  obtain ⟨k, n, s, ts⟩ := t
  refine sat_of_code tbOk mixed Tryz.func36 rfl rfl rfl (by decide +kernel) (by decide +kernel) (Nat.le_of_ble_eq_true rfl) ?_
  simp -implicitDefEqProofs (disch := omega) only [go_sem, ↓reduceIte, reduceCtorEq, Nat.reduceEqDiff, Nat.reduceLT, Nat.reduceLeDiff, Nat.reduceAdd, Nat.reduceSub, Nat.reduceMul, IntWalk.i64_in, AV.one.injEq, AC.c.injEq, C.v.injEq, Value.int.injEq, Value.bool.injEq, beq_self_eq_true, bne_self_eq_false, Tm.enc, GDefinition.enc, GSymbolic.enc, GSignature.enc, encL, List.cons_append, List.nil_append]
  refine CallK.mk h1 ?_
  simp -implicitDefEqProofs (disch := omega) only [go_sem, ↓reduceIte, reduceCtorEq, Nat.reduceEqDiff, Nat.reduceLT, Nat.reduceLeDiff, Nat.reduceAdd, Nat.reduceSub, Nat.reduceMul, IntWalk.i64_in, AV.one.injEq, AC.c.injEq, C.v.injEq, Value.int.injEq, Value.bool.injEq, beq_self_eq_true, bne_self_eq_false, List.length_map]
  refine ⟨fun k1 => ⟨fun k2 => CallK.mk h2 ?_, fun k2 => by rw [hr, (by simp; omega : decide (va.length ≤ 3) = false)]; simp⟩, fun k1 => by rw [hr, k1]; simp⟩
  simp -implicitDefEqProofs (disch := omega) only [go_sem, ↓reduceIte, reduceCtorEq, Nat.reduceEqDiff, Nat.reduceLT, Nat.reduceLeDiff, Nat.reduceAdd, Nat.reduceSub, Nat.reduceMul, IntWalk.i64_in, AV.one.injEq, AC.c.injEq, C.v.injEq, Value.int.injEq, Value.bool.injEq, beq_self_eq_true, bne_self_eq_false, List.length_map]
  refine ⟨fun k3 => by rw [hr, k3]; simp, fun k3 => ?_⟩
  replace hr : r = (nb && b3 && b5 && cb && !eqS q sE) := by
    rw [hr, k1, k3, (by simp; omega : decide (va.length ≤ 3) = true)]; simp
  refine loopA_rule (ι := Nat) (fun i => mk 87 [(2, .one (.ptr 2 0)), (3, .one (.ptr 3 0)), (25, slV (va.map encS)), (26, intV va.length), (27, intV i)] [(2, .var [.c (.sl (so.map encS)), .c (.sl (op.map GOp.enc)), .c (.sl (ru.map GRule.enc)), .c (.sl (st.map GStrict.enc))]), (3, .var [.c (.sl (va.map encS)), iC k, iC n, sC s, tC ts, .c (.sl (ca.map encI))])]) (fun i => i ≤ va.length ∧ (va.drop i).all isVn = nb) (fun i => va.length - i) 0 ⟨Nat.zero_le _, by simp [hN]⟩ ?_ tbOk mixed (by decide +kernel) ?_
  · exact le_mk (by simp [go_sem]) (by simp [go_sem])
  · rintro i ⟨hi, he⟩
    rcases Nat.lt_or_ge i va.length with hlt | hge
    · have hg := map_getD (ec := encS) hlt
      rw [all_drop _ va i hlt] at he
      have hn := hnm _ (List.getElem_mem hlt)
      obtain ⟨rest, hre⟩ : ∃ rest, rest = (va.drop (i + 1)).all isVn := ⟨_, rfl⟩
      rw [← hre] at he
      generalize isVn va[i] = b at he hn
      generalize va[i] = x at hg hn
      simp only [encS] at hg
      simp -implicitDefEqProofs (disch := omega) only [go_sem, ↓reduceIte, reduceCtorEq, Nat.reduceEqDiff, Nat.reduceLT, Nat.reduceLeDiff, Nat.reduceAdd, Nat.reduceSub, Nat.reduceMul, IntWalk.i64_in, AV.one.injEq, AC.c.injEq, C.v.injEq, Value.int.injEq, Value.bool.injEq, beq_self_eq_true, bne_self_eq_false, hg, hlt, List.length_map]
      refine CallK.mk hn ?_
      simp -implicitDefEqProofs (disch := omega) only [go_sem, ↓reduceIte, reduceCtorEq, Nat.reduceEqDiff, Nat.reduceLT, Nat.reduceLeDiff, Nat.reduceAdd, Nat.reduceSub, Nat.reduceMul, IntWalk.i64_in, AV.one.injEq, AC.c.injEq, C.v.injEq, Value.int.injEq, Value.bool.injEq, beq_self_eq_true, bne_self_eq_false]
      exact ⟨fun k => by rw [hr, ← he, k]; simp, fun k => ⟨i + 1, ⟨hlt, by rw [← he, k, ← hre]; simp⟩, by omega, le_mk (by simp [go_sem]) (by simp [go_sem])⟩⟩
    · have : i = va.length := by omega
      subst this
      rw [List.drop_length] at he
      have he : true = nb := he
      rw [← he] at hr
      simp -implicitDefEqProofs (disch := omega) only [go_sem, ↓reduceIte, reduceCtorEq, Nat.reduceEqDiff, Nat.reduceLT, Nat.reduceLeDiff, Nat.reduceAdd, Nat.reduceSub, Nat.reduceMul, IntWalk.i64_in, AV.one.injEq, AC.c.injEq, C.v.injEq, Value.int.injEq, Value.bool.injEq, beq_self_eq_true, bne_self_eq_false, Nat.lt_irrefl, List.length_map]
      refine CallK.mk h3 ?_
      simp -implicitDefEqProofs (disch := omega) only [go_sem, ↓reduceIte, reduceCtorEq, Nat.reduceEqDiff, Nat.reduceLT, Nat.reduceLeDiff, Nat.reduceAdd, Nat.reduceSub, Nat.reduceMul, IntWalk.i64_in, AV.one.injEq, AC.c.injEq, C.v.injEq, Value.int.injEq, Value.bool.injEq, beq_self_eq_true, bne_self_eq_false, List.length_map]
      refine ⟨fun k4 => CallK.mk h5 ?_, fun k4 => by rw [hr, k4]; simp⟩
      simp -implicitDefEqProofs (disch := omega) only [go_sem, ↓reduceIte, reduceCtorEq, Nat.reduceEqDiff, Nat.reduceLT, Nat.reduceLeDiff, Nat.reduceAdd, Nat.reduceSub, Nat.reduceMul, IntWalk.i64_in, AV.one.injEq, AC.c.injEq, C.v.injEq, Value.int.injEq, Value.bool.injEq, beq_self_eq_true, bne_self_eq_false, List.length_map]
      refine ⟨fun k5 => CallK.mk h7 ?_, fun k5 => by rw [hr, k5]; simp⟩
      simp -implicitDefEqProofs (disch := omega) only [go_sem, ↓reduceIte, reduceCtorEq, Nat.reduceEqDiff, Nat.reduceLT, Nat.reduceLeDiff, Nat.reduceAdd, Nat.reduceSub, Nat.reduceMul, IntWalk.i64_in, AV.one.injEq, AC.c.injEq, C.v.injEq, Value.int.injEq, Value.bool.injEq, beq_self_eq_true, bne_self_eq_false, List.length_map]
      refine CallK.mk h8 ?_
      simp -implicitDefEqProofs (disch := omega) only [go_sem, ↓reduceIte, reduceCtorEq, Nat.reduceEqDiff, Nat.reduceLT, Nat.reduceLeDiff, Nat.reduceAdd, Nat.reduceSub, Nat.reduceMul, IntWalk.i64_in, AV.one.injEq, AC.c.injEq, C.v.injEq, Value.int.injEq, Value.bool.injEq, beq_self_eq_true, bne_self_eq_false, List.length_map]
      refine ⟨fun k6 => ?_, fun k6 => ?_⟩
      · have k6 : eqS q sE = true := by simpa [eqS] using k6
        rw [hr, k6]; simp
      replace hr : r = cb := by
        have k6 : eqS q sE = false := k6
        rw [hr, k4, k5, k6]; simp
      refine loopA_rule (ι := Nat) (fun i => mk 87 [(3, .one (.ptr 3 0)), (59, slV (ca.map encI)), (60, intV ca.length), (61, intV i)] [(3, .var [.c (.sl (va.map encS)), iC k, iC n, sC s, tC ts, .c (.sl (ca.map encI))])]) (fun i => i ≤ ca.length ∧ ((List.range ca.length).drop i).all (caseAt va.length ca) = cb) (fun i => ca.length - i) 0 ⟨Nat.zero_le _, by simp [hC]⟩ ?_ tbOk mixed (by decide +kernel) ?_
      · exact le_mk (by simp [go_sem]) (by simp [go_sem])
      · rintro i ⟨hi, he⟩
        rcases Nat.lt_or_ge i ca.length with hlt | hge
        · have hgd := map_getD (ec := encI) hlt
          rw [range_drop _ _ _ hlt] at he
          obtain ⟨rest, hre⟩ : ∃ rest, rest = ((List.range ca.length).drop (i + 1)).all (caseAt va.length ca) := ⟨_, rfl⟩
          rw [← hre] at he
          have hca : caseAt va.length ca i = (decide (0 ≤ ca[i] ∧ ca[i] < ccN va.length) && (i == 0 || decide (ca.getD (i - 1) 0 < ca[i]))) := by
            simp only [caseAt, List.getD_eq_getElem?_getD, List.getElem?_eq_getElem hlt, Option.getD_some, Bool.decide_and]
          rw [hca] at he
          have h6 := h6 ca[i]
          generalize decide (0 ≤ ca[i] ∧ ca[i] < ccN va.length) = cc at he h6
          cases i with
          | zero =>
            generalize ca[0] = c at hgd he h6
            simp only [encI] at hgd
            have hl0 : ((0 : Int) < (ca.length : Int)) = True := eq_true (by omega)
            simp -implicitDefEqProofs (disch := omega) only [go_sem, ↓reduceIte, reduceCtorEq, Nat.reduceEqDiff, Nat.reduceLT, Nat.reduceLeDiff, Nat.reduceAdd, Nat.reduceSub, Nat.reduceMul, IntWalk.i64_in, AV.one.injEq, AC.c.injEq, C.v.injEq, Value.int.injEq, Value.bool.injEq, beq_self_eq_true, bne_self_eq_false, hgd, hlt, hl0, List.length_map, Int.natCast_zero]
            refine CallK.mk h6 ?_
            simp -implicitDefEqProofs (disch := omega) only [go_sem, ↓reduceIte, reduceCtorEq, Nat.reduceEqDiff, Nat.reduceLT, Nat.reduceLeDiff, Nat.reduceAdd, Nat.reduceSub, Nat.reduceMul, IntWalk.i64_in, AV.one.injEq, AC.c.injEq, C.v.injEq, Value.int.injEq, Value.bool.injEq, beq_self_eq_true, bne_self_eq_false, hgd, hlt, hl0, List.length_map, Int.natCast_zero, gt_iff_lt, Int.lt_irrefl, decide_false]
            simp only [beq_self_eq_true, Bool.true_or, Bool.and_true] at he
            refine ⟨fun k5 => ⟨0 + 1, ⟨by omega, by rw [← he, k5, ← hre]; simp⟩, by omega, le_mk (by simp [go_sem]) (by simp [go_sem])⟩, fun k5 => by rw [hr, ← he, k5]; simp⟩
          | succ m =>
            have hlm : m < ca.length := by omega
            have hgm := map_getD (ec := encI) hlm
            have hcast : (((m + 1 : Nat) : Int) - 1) = (m : Int) := by omega
            have hpos : (((m + 1 : Nat) : Int) > 0) = True := eq_true (by omega)
            have hgp : ca.getD (m + 1 - 1) 0 = ca[m] := by simp [hlm]
            rw [hgp] at he
            generalize ca[m + 1] = c at hgd he h6
            generalize ca[m] = c' at hgm he
            simp only [encI] at hgd hgm
            simp -implicitDefEqProofs (disch := omega) only [go_sem, ↓reduceIte, reduceCtorEq, Nat.reduceEqDiff, Nat.reduceLT, Nat.reduceLeDiff, Nat.reduceAdd, Nat.reduceSub, Nat.reduceMul, IntWalk.i64_in, AV.one.injEq, AC.c.injEq, C.v.injEq, Value.int.injEq, Value.bool.injEq, beq_self_eq_true, bne_self_eq_false, hgd, hlt, List.length_map]
            refine CallK.mk h6 ?_
            simp -implicitDefEqProofs (disch := omega) only [go_sem, ↓reduceIte, reduceCtorEq, Nat.reduceEqDiff, Nat.reduceLT, Nat.reduceLeDiff, Nat.reduceAdd, Nat.reduceSub, Nat.reduceMul, IntWalk.i64_in, AV.one.injEq, AC.c.injEq, C.v.injEq, Value.int.injEq, Value.bool.injEq, beq_self_eq_true, bne_self_eq_false, hgd, hgm, hlt, hlm, hcast, hpos, List.length_map, decide_true]
            have hm0 : (m + 1 == 0) = false := by simp
            rw [hm0, Bool.false_or] at he
            refine ⟨fun k5 => ⟨fun k6 => by rw [hr, ← he, (by simp; omega : decide (c' < c) = false)]; simp, fun k6 => ⟨m + 1 + 1, ⟨by omega, by rw [← he, k5, (by simp; omega : decide (c' < c) = true), ← hre]; simp⟩, by omega, le_mk (by simp [go_sem]) (by simp [go_sem])⟩⟩, fun k5 => by rw [hr, ← he, k5]; simp⟩
        · have : i = ca.length := by omega
          subst this
          rw [range_end] at he
          simp -implicitDefEqProofs (disch := omega) only [go_sem, ↓reduceIte, reduceCtorEq, Nat.reduceEqDiff, Nat.reduceLT, Nat.reduceLeDiff, Nat.reduceAdd, Nat.reduceSub, Nat.reduceMul, IntWalk.i64_in, AV.one.injEq, AC.c.injEq, C.v.injEq, Value.int.injEq, Value.bool.injEq, beq_self_eq_true, bne_self_eq_false, Nat.lt_irrefl, List.length_map]
          rw [hr, ← he]
end Go.Ai
