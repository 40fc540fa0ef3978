/- Copies of terms: impl.copyTerm gives an owned copy. -/
import Derived.Test.YtdjleacnjijbjaaAiM3
namespace Go.Ai
set_option linter.unusedVariables false
set_option linter.unusedSimpArgs false
open Go.Proofs
set_option maxRecDepth 100000

theorem copyTermF_1 (k n : Int) (s : ByteArray) (ts : List Tm) (hl : ts.length < 100000000) (ih : ∀ t, t ∈ ts → SatF Try.prog 129 [tmV t] (tmV t)) : SatF Try.prog 129 [tmV (.mk k n s ts)] (tmV (.mk k n s ts)) := by
  refine satF_of_code [tmV (.mk k n s ts)] rfl (fun _ h => by cases h) tbOk mixed Try.func129 rfl rfl rfl (by decide +kernel) (by decide +kernel) (Nat.le_of_ble_eq_true rfl) ?_
  simp -implicitDefEqProofs (disch := omega) only [go_sem, ↓reduceIte, reduceCtorEq, Nat.reduceEqDiff, Nat.reduceLT, Nat.reduceLeDiff, Nat.reduceAdd, Nat.reduceSub, Nat.reduceMul, IntWalk.i64_in, AV.one.injEq, AC.c.injEq, C.v.injEq, Value.int.injEq, Value.bool.injEq, beq_self_eq_true, bne_self_eq_false, Tm.enc]
  refine loopA_rule (ι := Nat) (fun i => match i with
      | 0 => mk 29 [(2, .one (.ptr 2 0)), (3, .one (.ptr 3 0)), (14, tmsV ts), (15, intV ts.length), (16, intV (0 : Nat))] [(2, .var zT), (3, .var [iC k, iC n, sC s, .nil])]
      | i + 1 => mk 29 [(2, .one (.ptr 2 0)), (3, .one (.ptr 3 0)), (14, tmsV ts), (15, intV ts.length), (16, intV (i + 1 : Nat))] [(2, .var zT), (3, .var [iC k, iC n, sC s, .own 25 (i + 1)]), (25, .arr 48 4 (drowsOf Tm.enc (ts.take (i + 1))) false)])
    (fun i => i ≤ ts.length) (fun i => ts.length - i) 0 (Nat.zero_le _) ?_ tbOk mixed (by decide +kernel) ?_
  · exact le_mk (by simp [go_sem]) (by simp [go_sem, zT])
  · intro i hi
    rcases Nat.lt_or_ge i ts.length with hlt | hge
    · have hg := encs_getD ts i hlt
      have hih := ih _ (List.getElem_mem hlt)
      have ht := drowsOf_take Tm.enc ts i hlt
      generalize ts[i] = a at hg hih ht
      obtain ⟨ak, an, as', at_⟩ := a
      simp only [Tm.enc, List.map_cons, List.map_nil, dC] at ht
      cases i with
      | zero =>
        have ht0 := ht.trans (congrArg (· ++ _) (show drowsOf Tm.enc (List.take 0 ts) = [] from rfl))
        simp only [List.nil_append, Nat.zero_add] at ht0
        simp -implicitDefEqProofs (disch := omega) only [go_sem, ↓reduceIte, reduceCtorEq, Nat.reduceEqDiff, Nat.reduceLT, Nat.reduceLeDiff, Nat.reduceAdd, Nat.reduceSub, Nat.reduceMul, IntWalk.i64_in, AV.one.injEq, AC.c.injEq, C.v.injEq, Value.int.injEq, Value.bool.injEq, beq_self_eq_true, bne_self_eq_false, hg, hlt, enc_len]
        refine CallK.own hih rfl ?_
        simp -implicitDefEqProofs (disch := omega) only [go_sem, ↓reduceIte, reduceCtorEq, Nat.reduceEqDiff, Nat.reduceLT, Nat.reduceLeDiff, Nat.reduceAdd, Nat.reduceSub, Nat.reduceMul, IntWalk.i64_in, AV.one.injEq, AC.c.injEq, C.v.injEq, Value.int.injEq, Value.bool.injEq, beq_self_eq_true, bne_self_eq_false, Tm.enc]
        refine ⟨by simp, fun _ => ⟨1, by omega, by omega, (wk_moveLast (l := 25) (c := 3) (rows := []) rfl rfl rfl rfl).trans ?_⟩⟩
        exact le_mk (by simp [go_sem]) (by simp only [Nat.zero_add, ht0]; simp [go_sem, zT])
      | succ i =>
        have hdl : (drowsOf Tm.enc (ts.take (i + 1))).length = i + 1 := by rw [drowsOf_len, List.length_take]; omega
        simp -implicitDefEqProofs (disch := omega) only [go_sem, ↓reduceIte, reduceCtorEq, Nat.reduceEqDiff, Nat.reduceLT, Nat.reduceLeDiff, Nat.reduceAdd, Nat.reduceSub, Nat.reduceMul, IntWalk.i64_in, AV.one.injEq, AC.c.injEq, C.v.injEq, Value.int.injEq, Value.bool.injEq, beq_self_eq_true, bne_self_eq_false, hg, hlt, enc_len]
        refine CallK.own hih rfl ?_
        simp -implicitDefEqProofs (disch := omega) only [go_sem, ↓reduceIte, reduceCtorEq, Nat.reduceEqDiff, Nat.reduceLT, Nat.reduceLeDiff, Nat.reduceAdd, Nat.reduceSub, Nat.reduceMul, IntWalk.i64_in, AV.one.injEq, AC.c.injEq, C.v.injEq, Value.int.injEq, Value.bool.injEq, beq_self_eq_true, bne_self_eq_false, Tm.enc, hdl]
        refine ⟨⟨by simp, by omega, by omega⟩, fun _ => ⟨i + 2, by omega, by omega, (wk_moveLast (l := 25) (c := 3) rfl rfl rfl rfl).trans ?_⟩⟩
        exact le_mk (by simp [go_sem]) (by simp [go_sem, zT, ht])
    · have : i = ts.length := by omega
      subst this
      cases ts with
      | nil =>
        simp -implicitDefEqProofs (disch := omega) only [go_sem, ↓reduceIte, reduceCtorEq, Nat.reduceEqDiff, Nat.reduceLT, Nat.reduceLeDiff, Nat.reduceAdd, Nat.reduceSub, Nat.reduceMul, IntWalk.i64_in, AV.one.injEq, AC.c.injEq, C.v.injEq, Value.int.injEq, Value.bool.injEq, beq_self_eq_true, bne_self_eq_false, Nat.lt_irrefl, Tm.enc, Tm.encs]
      | cons a rest =>
        simp -implicitDefEqProofs (disch := omega) only [go_sem, ↓reduceIte, reduceCtorEq, Nat.reduceEqDiff, Nat.reduceLT, Nat.reduceLeDiff, Nat.reduceAdd, Nat.reduceSub, Nat.reduceMul, IntWalk.i64_in, AV.one.injEq, AC.c.injEq, C.v.injEq, Value.int.injEq, Value.bool.injEq, beq_self_eq_true, bne_self_eq_false, Nat.lt_irrefl, Tm.enc, List.take_length]
        exact ⟨by simp [drowsOf], by simp [Tm.encs, encs_map]⟩
theorem copyTermF_sat : ∀ (t : Tm), t.size < 100000000 → SatF Try.prog 129 [tmV t] (tmV t) := by
  refine Tm.ind (fun k n s ts ih h => copyTermF_1 k n s ts ?_ (fun t ht => ih t ht ?_))
  · have := len_sizes ts; simp only [Tm.size] at h; omega
  · have := size_mem ts t ht; simp only [Tm.size] at h; omega
end Go.Ai
