/- What laws.toTerm and laws.toTermS give is owned. -/
import Derived.Test.YtdjleacnjijbjaaAiM2
namespace Go.Ai
set_option linter.unusedVariables false
set_option linter.unusedSimpArgs false
open Go.Proofs
set_option maxRecDepth 100000

theorem toTermF_1 (k n : Int) (s : ByteArray) (ts : List Tm) (ih : SatF Try.prog 62 [tmsV ts] (tmsV ts)) :
    SatF Try.prog 31 [tmV (.mk k n s ts)] (tmV (.mk k n s ts)) := by
  refine satF_of_code [tmV (.mk k n s ts)] rfl (fun _ h => by cases h) tbOk mixed Try.func31 rfl rfl rfl (by decide +kernel) (by decide +kernel) (Nat.le_of_ble_eq_true rfl) ?_
  simp -implicitDefEqProofs (disch := omega) only [go_sem, ↓reduceIte, reduceCtorEq, Nat.reduceEqDiff, Nat.reduceLT, Nat.reduceLeDiff, Nat.reduceAdd, Nat.reduceSub, Nat.reduceMul, IntWalk.i64_in, AV.one.injEq, AC.c.injEq, C.v.injEq, Value.int.injEq, Value.bool.injEq, beq_self_eq_true, bne_self_eq_false, Tm.enc]
  refine CallK.own ih rfl ?_
  simp -implicitDefEqProofs (disch := omega) only [go_sem, ↓reduceIte, reduceCtorEq, Nat.reduceEqDiff, Nat.reduceLT, Nat.reduceLeDiff, Nat.reduceAdd, Nat.reduceSub, Nat.reduceMul, IntWalk.i64_in, AV.one.injEq, AC.c.injEq, C.v.injEq, Value.int.injEq, Value.bool.injEq, beq_self_eq_true, bne_self_eq_false, Tm.enc]

theorem toTermSF_1 (ts : List Tm) (hl : ts.length < 1048577) (ih : ∀ t, t ∈ ts → SatF Try.prog 31 [tmV t] (tmV t)) : SatF Try.prog 62 [tmsV ts] (tmsV ts) := by
  obtain ⟨rows, hrows⟩ : ∃ rows, rows = ts.map Tm.enc := ⟨_, rfl⟩
  have lr : rows.length = ts.length := by rw [hrows]; simp
  rw [tmsV, encs_map, ← hrows]
  refine satF_of_code [slV rows] rfl (fun _ h => by cases h) tbOk mixed Try.func62 rfl rfl rfl (by decide +kernel) (by decide +kernel) (Nat.le_of_ble_eq_true rfl) ?_
  simp -implicitDefEqProofs (disch := omega) only [go_sem, ↓reduceIte, reduceCtorEq, Nat.reduceEqDiff, Nat.reduceLT, Nat.reduceLeDiff, Nat.reduceAdd, Nat.reduceSub, Nat.reduceMul, IntWalk.i64_in, AV.one.injEq, AC.c.injEq, C.v.injEq, Value.int.injEq, Value.bool.injEq, beq_self_eq_true, bne_self_eq_false, lr]
  refine ⟨⟨by omega, by omega⟩, fun _ => ?_⟩
  obtain ⟨Z, hZ⟩ : ∃ Z, Z = List.replicate ts.length zT := ⟨_, rfl⟩
  obtain ⟨Fr, hFr⟩ : ∃ Fr, Fr = rows.map fun q => q.map dC := ⟨_, rfl⟩
  have lZ : Z.length = ts.length := by rw [hZ]; simp
  have lF : Fr.length = Z.length := by rw [hFr, lZ]; simp [lr]
  have iF : ∀ lb r, r ∈ Fr → ∀ a, a ∈ r → inC lb a := fun lb => by rw [hFr]; exact drows_in lb
  have iZ : ∀ lb r, r ∈ Z → ∀ a, a ∈ r → inC lb a := fun lb => by rw [hZ]; exact rep_in (by simp [zT, inC])
  rw [← hZ]
  refine loopA_rule (ι := Nat) (fun i => mk 23 [(0, slV rows), (3, .one (.own 7 ts.length)), (4, intV i)] [(7, .arr 48 4 (turnR Fr Z i) false)]) (fun i => i ≤ ts.length) (fun i => ts.length - i) 0 (Nat.zero_le _) ?_ tbOk mixed (by decide +kernel) ?_
  · exact le_mk (by simp [go_sem]) (by simp only [leB, lookB_cons, if_true, inB, turnR_zero, true_and, and_true]; exact iZ _)
  · intro i hi
    have hlen := turnR_len (i := i) lF (by omega)
    rcases Nat.lt_or_ge i ts.length with hlt | hge
    · have hi' : i < Z.length := by omega
      have hg : rows.getD i [] = (ts[i]).enc := by rw [hrows]; exact map_getD hlt
      have eZ : Z[i] = zT := by simp [hZ]
      have eF : Fr[i]'(by omega) = (ts[i]).enc.map dC := by simp [hFr, hrows]
      have hih := ih _ (List.getElem_mem hlt)
      generalize ts[i] = x at hg eF hih
      obtain ⟨xk, xn, xs, xt⟩ := x
      have hfin := turnS_turnR lF hi'
      rw [eF] at hfin
      have sl := fun r => turnS_len lF hi' r
      have sg := fun r => turnS_get lF hi' r
      rw [turnR_eq lF hi' eZ]
      simp -implicitDefEqProofs (disch := omega) only [go_sem, ↓reduceIte, reduceCtorEq, Nat.reduceEqDiff, Nat.reduceLT, Nat.reduceLeDiff, Nat.reduceAdd, Nat.reduceSub, Nat.reduceMul, IntWalk.i64_in, AV.one.injEq, AC.c.injEq, C.v.injEq, Value.int.injEq, Value.bool.injEq, beq_self_eq_true, bne_self_eq_false, hg, hlt, lr, lZ, sl, sg, turnS_set, enc_len]
      refine CallK.own hih rfl ?_
      simp -implicitDefEqProofs (disch := omega) only [go_sem, ↓reduceIte, reduceCtorEq, Nat.reduceEqDiff, Nat.reduceLT, Nat.reduceLeDiff, Nat.reduceAdd, Nat.reduceSub, Nat.reduceMul, IntWalk.i64_in, AV.one.injEq, AC.c.injEq, C.v.injEq, Value.int.injEq, Value.bool.injEq, beq_self_eq_true, bne_self_eq_false, hg, hlt, lr, lZ, sl, sg, turnS_set, Tm.enc, List.forall_mem_cons, List.not_mem_nil]
      refine ⟨i + 1, hlt, by omega, (wk_moveS (l := 7) (c := 3) lF hi' rfl rfl rfl rfl).trans (le_mk (by simp [go_sem]) ?_)⟩
      simp only [leB, lookB_cons, if_true, inB, true_and, and_true]
      exact ⟨by rw [← hfin]; rfl, turnR_in (iF _) (iZ _)⟩
    · have : i = ts.length := by omega
      subst this
      simp -implicitDefEqProofs (disch := omega) only [go_sem, ↓reduceIte, reduceCtorEq, Nat.reduceEqDiff, Nat.reduceLT, Nat.reduceLeDiff, Nat.reduceAdd, Nat.reduceSub, Nat.reduceMul, IntWalk.i64_in, AV.one.injEq, AC.c.injEq, C.v.injEq, Value.int.injEq, Value.bool.injEq, beq_self_eq_true, bne_self_eq_false, hlen, lZ, lr, Nat.lt_irrefl]
      rw [turnR_end lF lZ.symm, hFr]
      exact ⟨drows_isO, drows_toC⟩
theorem toTermF_sat : ∀ (t : Tm), t.size < 1048577 → SatF Try.prog 31 [tmV t] (tmV t) := by
  refine Tm.ind (fun k n s ts ih h => toTermF_1 k n s ts (toTermSF_1 ts ?_ (fun t ht => ih t ht ?_)))
  · have := len_sizes ts; simp only [Tm.size] at h; omega
  · have := size_mem ts t ht; simp only [Tm.size] at h; omega
theorem toTermSF_sat (ts : List Tm) (h : Tm.sizes ts < 1048577) : SatF Try.prog 62 [tmsV ts] (tmsV ts) :=
  toTermSF_1 ts (by have := len_sizes ts; omega) (fun t ht => toTermF_sat t (by have := size_mem ts t ht; omega))
end Go.Ai
