/- Contracts of the functions on outcomes, and of the law on them. -/
import Derived.Test.YthaghkakjaengaaAiC1
namespace Go.Ai
set_option linter.unusedVariables false
set_option linter.unusedSimpArgs false
open Go.Proofs
set_option maxRecDepth 100000

structure Oc where
  st : Int
  t : Tm
  sp : Int
def Oc.enc (o : Oc) : List C := .v (.int .i64 o.st) :: (o.t.enc ++ [.v (.int .i64 o.sp)])
abbrev ocL (st k n : Int) (s : ByteArray) (ts : List Tm) (sp : Int) : AV := .agg [iC st, iC k, iC n, sC s, tC ts, iC sp]

theorem szOutcome_sat (st k n : Int) (s : ByteArray) (ts : List Tm) (sp : Int) (hw : (Tm.mk k n s ts).wf) (b : Int) (h0 : 0 ≤ b) (h1 : b < 1048577) :
    Sat Try.prog 17 [ocL st k n s ts sp, intV b] (intV (szR (Tm.mk k n s ts).size b)) := by
  refine sat_of_code tbOk mixed Try.func17 rfl rfl rfl (by decide +kernel) (by decide +kernel) (Nat.le_of_ble_eq_true rfl) ?_
  simp -implicitDefEqProofs (disch := omega) only [go_sem, ↓reduceIte, reduceCtorEq, Nat.reduceEqDiff, Nat.reduceLT, Nat.reduceLeDiff, Nat.reduceAdd, Nat.reduceSub, Nat.reduceMul, IntWalk.i64_in, AV.one.injEq, AC.c.injEq, C.v.injEq, Value.int.injEq, Value.bool.injEq, beq_self_eq_true, bne_self_eq_false]
  refine CallK.mk (szTerm_sat (.mk k n s ts) hw b h0 h1) ?_
  simp -implicitDefEqProofs (disch := omega) only [go_sem, ↓reduceIte, reduceCtorEq, Nat.reduceEqDiff, Nat.reduceLT, Nat.reduceLeDiff, Nat.reduceAdd, Nat.reduceSub, Nat.reduceMul, IntWalk.i64_in, AV.one.injEq, AC.c.injEq, C.v.injEq, Value.int.injEq, Value.bool.injEq, beq_self_eq_true, bne_self_eq_false]
  unfold szR
  intro h
  split at h <;> split <;> first | rfl | omega

theorem toOutcome_sat (st k n : Int) (s : ByteArray) (ts : List Tm) (sp : Int) (hs : (Tm.mk k n s ts).size < 1048577) :
    Sat Try.prog 19 [ocL st k n s ts sp] (ocL st k n s ts sp) := by
  refine sat_of_code tbOk mixed Try.func19 rfl rfl rfl (by decide +kernel) (by decide +kernel) (Nat.le_of_ble_eq_true rfl) ?_
  simp -implicitDefEqProofs (disch := omega) only [go_sem, ↓reduceIte, reduceCtorEq, Nat.reduceEqDiff, Nat.reduceLT, Nat.reduceLeDiff, Nat.reduceAdd, Nat.reduceSub, Nat.reduceMul, IntWalk.i64_in, AV.one.injEq, AC.c.injEq, C.v.injEq, Value.int.injEq, Value.bool.injEq, beq_self_eq_true, bne_self_eq_false]
  refine CallK.mk (toTerm_sat (.mk k n s ts) hs) ?_
  simp -implicitDefEqProofs (disch := omega) only [go_sem, ↓reduceIte, reduceCtorEq, Nat.reduceEqDiff, Nat.reduceLT, Nat.reduceLeDiff, Nat.reduceAdd, Nat.reduceSub, Nat.reduceMul, IntWalk.i64_in, AV.one.injEq, AC.c.injEq, C.v.injEq, Value.int.injEq, Value.bool.injEq, beq_self_eq_true, bne_self_eq_false, Tm.enc]

def ocEq (st k n : Int) (s : ByteArray) (ts : List Tm) (sp : Int) (st' k' n' : Int) (s' : ByteArray) (ts' : List Tm) (sp' : Int) : Bool :=
  st == st' && ((Tm.mk k n s ts).eqb (.mk k' n' s' ts') && sp == sp')
theorem specEqualOutcome_sat (st k n : Int) (s : ByteArray) (ts : List Tm) (sp : Int) (st' k' n' : Int) (s' : ByteArray) (ts' : List Tm) (sp' : Int) (hw : (Tm.mk k n s ts).wf) :
    Sat Try.prog 18 [ocL st k n s ts sp, ocL st' k' n' s' ts' sp'] (boolV (ocEq st k n s ts sp st' k' n' s' ts' sp')) := by
  obtain ⟨r, hr⟩ : ∃ r, r = ocEq st k n s ts sp st' k' n' s' ts' sp' := ⟨_, rfl⟩
  rw [← hr]
  simp only [ocEq] at hr
  refine sat_of_code tbOk mixed Try.func18 rfl rfl rfl (by decide +kernel) (by decide +kernel) (Nat.le_of_ble_eq_true rfl) ?_
  simp -implicitDefEqProofs (disch := omega) only [go_sem, ↓reduceIte, reduceCtorEq, Nat.reduceEqDiff, Nat.reduceLT, Nat.reduceLeDiff, Nat.reduceAdd, Nat.reduceSub, Nat.reduceMul, IntWalk.i64_in, AV.one.injEq, AC.c.injEq, C.v.injEq, Value.int.injEq, Value.bool.injEq, beq_self_eq_true, bne_self_eq_false]
  refine ⟨fun h1 => ?_, fun h1 => ?_⟩
  · refine CallK.mk (specEqualTerm_sat (.mk k n s ts) hw (.mk k' n' s' ts')) ?_
    simp -implicitDefEqProofs (disch := omega) only [go_sem, ↓reduceIte, reduceCtorEq, Nat.reduceEqDiff, Nat.reduceLT, Nat.reduceLeDiff, Nat.reduceAdd, Nat.reduceSub, Nat.reduceMul, IntWalk.i64_in, AV.one.injEq, AC.c.injEq, C.v.injEq, Value.int.injEq, Value.bool.injEq, beq_self_eq_true, bne_self_eq_false]
    simp_all
  · simp_all
theorem implEqualOutcome_sat (st k n : Int) (s : ByteArray) (ts : List Tm) (sp : Int) (st' k' n' : Int) (s' : ByteArray) (ts' : List Tm) (sp' : Int) (hw : (Tm.mk k n s ts).wf) :
    Sat Try.prog 20 [ocL st k n s ts sp, ocL st' k' n' s' ts' sp'] (boolV (ocEq st k n s ts sp st' k' n' s' ts' sp')) := by
  obtain ⟨r, hr⟩ : ∃ r, r = ocEq st k n s ts sp st' k' n' s' ts' sp' := ⟨_, rfl⟩
  rw [← hr]
  simp only [ocEq] at hr
  refine sat_of_code tbOk mixed Try.func20 rfl rfl rfl (by decide +kernel) (by decide +kernel) (Nat.le_of_ble_eq_true rfl) ?_
  simp -implicitDefEqProofs (disch := omega) only [go_sem, ↓reduceIte, reduceCtorEq, Nat.reduceEqDiff, Nat.reduceLT, Nat.reduceLeDiff, Nat.reduceAdd, Nat.reduceSub, Nat.reduceMul, IntWalk.i64_in, AV.one.injEq, AC.c.injEq, C.v.injEq, Value.int.injEq, Value.bool.injEq, beq_self_eq_true, bne_self_eq_false]
  refine ⟨fun h1 => ?_, fun h1 => ?_⟩
  · refine CallK.mk (implEqualTerm_sat (.mk k n s ts) hw (.mk k' n' s' ts')) ?_
    simp -implicitDefEqProofs (disch := omega) only [go_sem, ↓reduceIte, reduceCtorEq, Nat.reduceEqDiff, Nat.reduceLT, Nat.reduceLeDiff, Nat.reduceAdd, Nat.reduceSub, Nat.reduceMul, IntWalk.i64_in, AV.one.injEq, AC.c.injEq, C.v.injEq, Value.int.injEq, Value.bool.injEq, beq_self_eq_true, bne_self_eq_false]
    simp_all
  · simp_all
theorem eqOutcome_sat (st k n : Int) (s : ByteArray) (ts : List Tm) (sp : Int) (hw : (Tm.mk k n s ts).wf) :
    Sat Try.prog 21 [ocL st k n s ts sp, ocL st k n s ts sp] (boolV true) := by
  refine sat_of_code tbOk mixed Try.func21 rfl rfl rfl (by decide +kernel) (by decide +kernel) (Nat.le_of_ble_eq_true rfl) ?_
  simp -implicitDefEqProofs (disch := omega) only [go_sem, ↓reduceIte, reduceCtorEq, Nat.reduceEqDiff, Nat.reduceLT, Nat.reduceLeDiff, Nat.reduceAdd, Nat.reduceSub, Nat.reduceMul, IntWalk.i64_in, AV.one.injEq, AC.c.injEq, C.v.injEq, Value.int.injEq, Value.bool.injEq, beq_self_eq_true, bne_self_eq_false, bne_self_eq_false]
  refine CallK.mk (eqTerm_sat (.mk k n s ts) hw (.mk k n s ts)) ?_
  simp -implicitDefEqProofs (disch := omega) only [go_sem, ↓reduceIte, reduceCtorEq, Nat.reduceEqDiff, Nat.reduceLT, Nat.reduceLeDiff, Nat.reduceAdd, Nat.reduceSub, Nat.reduceMul, IntWalk.i64_in, AV.one.injEq, AC.c.injEq, C.v.injEq, Value.int.injEq, Value.bool.injEq, beq_self_eq_true, bne_self_eq_false, Tm.eqb_refl, bne_self_eq_false]

theorem law_sat (o o' : Oc) (hw : o.t.wf) (hw' : o'.t.wf) : Sat Try.prog 5 [aggV o.enc, aggV o'.enc] (boolV true) := by
  obtain ⟨st, ⟨k, n, s, ts⟩, sp⟩ := o
  obtain ⟨st', ⟨k', n', s', ts'⟩, sp'⟩ := o'
  refine sat_of_code tbOk mixed Try.func5 rfl rfl rfl (by decide +kernel) (by decide +kernel) (Nat.le_of_ble_eq_true rfl) ?_
  simp -implicitDefEqProofs (disch := omega) only [go_sem, ↓reduceIte, reduceCtorEq, Nat.reduceEqDiff, Nat.reduceLT, Nat.reduceLeDiff, Nat.reduceAdd, Nat.reduceSub, Nat.reduceMul, IntWalk.i64_in, AV.one.injEq, AC.c.injEq, C.v.injEq, Value.int.injEq, Value.bool.injEq, beq_self_eq_true, bne_self_eq_false, Oc.enc, Tm.enc]
  refine CallK.mk (szOutcome_sat st k n s ts sp hw 1048576 (by omega) (by omega)) ?_
  simp -implicitDefEqProofs (disch := omega) only [go_sem, ↓reduceIte, reduceCtorEq, Nat.reduceEqDiff, Nat.reduceLT, Nat.reduceLeDiff, Nat.reduceAdd, Nat.reduceSub, Nat.reduceMul, IntWalk.i64_in, AV.one.injEq, AC.c.injEq, C.v.injEq, Value.int.injEq, Value.bool.injEq, beq_self_eq_true, bne_self_eq_false]
  intro h
  have hs : (Tm.mk k n s ts).size < 1048577 := by unfold szR at h; split at h <;> omega
  have hb : 0 ≤ szR (Tm.mk k n s ts).size 1048576 ∧ szR (Tm.mk k n s ts).size 1048576 < 1048577 := by unfold szR at h ⊢; split at h <;> omega
  refine CallK.mk (szOutcome_sat st' k' n' s' ts' sp' hw' _ hb.1 hb.2) ?_
  simp -implicitDefEqProofs (disch := omega) only [go_sem, ↓reduceIte, reduceCtorEq, Nat.reduceEqDiff, Nat.reduceLT, Nat.reduceLeDiff, Nat.reduceAdd, Nat.reduceSub, Nat.reduceMul, IntWalk.i64_in, AV.one.injEq, AC.c.injEq, C.v.injEq, Value.int.injEq, Value.bool.injEq, beq_self_eq_true, bne_self_eq_false]
  intro h'
  have hs' : (Tm.mk k' n' s' ts').size < 1048577 := by unfold szR at h'; split at h' <;> omega
  refine CallK.mk (toOutcome_sat st k n s ts sp hs) ?_
  simp -implicitDefEqProofs (disch := omega) only [go_sem, ↓reduceIte, reduceCtorEq, Nat.reduceEqDiff, Nat.reduceLT, Nat.reduceLeDiff, Nat.reduceAdd, Nat.reduceSub, Nat.reduceMul, IntWalk.i64_in, AV.one.injEq, AC.c.injEq, C.v.injEq, Value.int.injEq, Value.bool.injEq, beq_self_eq_true, bne_self_eq_false]
  refine CallK.mk (toOutcome_sat st' k' n' s' ts' sp' hs') ?_
  simp -implicitDefEqProofs (disch := omega) only [go_sem, ↓reduceIte, reduceCtorEq, Nat.reduceEqDiff, Nat.reduceLT, Nat.reduceLeDiff, Nat.reduceAdd, Nat.reduceSub, Nat.reduceMul, IntWalk.i64_in, AV.one.injEq, AC.c.injEq, C.v.injEq, Value.int.injEq, Value.bool.injEq, beq_self_eq_true, bne_self_eq_false]
  refine CallK.mk (specEqualOutcome_sat st k n s ts sp st' k' n' s' ts' sp' hw) ?_
  simp -implicitDefEqProofs (disch := omega) only [go_sem, ↓reduceIte, reduceCtorEq, Nat.reduceEqDiff, Nat.reduceLT, Nat.reduceLeDiff, Nat.reduceAdd, Nat.reduceSub, Nat.reduceMul, IntWalk.i64_in, AV.one.injEq, AC.c.injEq, C.v.injEq, Value.int.injEq, Value.bool.injEq, beq_self_eq_true, bne_self_eq_false]
  refine CallK.mk (toOutcome_sat st k n s ts sp hs) ?_
  simp -implicitDefEqProofs (disch := omega) only [go_sem, ↓reduceIte, reduceCtorEq, Nat.reduceEqDiff, Nat.reduceLT, Nat.reduceLeDiff, Nat.reduceAdd, Nat.reduceSub, Nat.reduceMul, IntWalk.i64_in, AV.one.injEq, AC.c.injEq, C.v.injEq, Value.int.injEq, Value.bool.injEq, beq_self_eq_true, bne_self_eq_false]
  refine CallK.mk (toOutcome_sat st' k' n' s' ts' sp' hs') ?_
  simp -implicitDefEqProofs (disch := omega) only [go_sem, ↓reduceIte, reduceCtorEq, Nat.reduceEqDiff, Nat.reduceLT, Nat.reduceLeDiff, Nat.reduceAdd, Nat.reduceSub, Nat.reduceMul, IntWalk.i64_in, AV.one.injEq, AC.c.injEq, C.v.injEq, Value.int.injEq, Value.bool.injEq, beq_self_eq_true, bne_self_eq_false]
  refine CallK.mk (implEqualOutcome_sat st k n s ts sp st' k' n' s' ts' sp' hw) ?_
  simp -implicitDefEqProofs (disch := omega) only [go_sem, ↓reduceIte, reduceCtorEq, Nat.reduceEqDiff, Nat.reduceLT, Nat.reduceLeDiff, Nat.reduceAdd, Nat.reduceSub, Nat.reduceMul, IntWalk.i64_in, AV.one.injEq, AC.c.injEq, C.v.injEq, Value.int.injEq, Value.bool.injEq, beq_self_eq_true, bne_self_eq_false]
  refine CallK.mk (toOutcome_sat st k n s ts sp hs) ?_
  simp -implicitDefEqProofs (disch := omega) only [go_sem, ↓reduceIte, reduceCtorEq, Nat.reduceEqDiff, Nat.reduceLT, Nat.reduceLeDiff, Nat.reduceAdd, Nat.reduceSub, Nat.reduceMul, IntWalk.i64_in, AV.one.injEq, AC.c.injEq, C.v.injEq, Value.int.injEq, Value.bool.injEq, beq_self_eq_true, bne_self_eq_false]
  refine CallK.mk (eqOutcome_sat st k n s ts sp hw) ?_
  simp -implicitDefEqProofs (disch := omega) only [go_sem, ↓reduceIte, reduceCtorEq, Nat.reduceEqDiff, Nat.reduceLT, Nat.reduceLeDiff, Nat.reduceAdd, Nat.reduceSub, Nat.reduceMul, IntWalk.i64_in, AV.one.injEq, AC.c.injEq, C.v.injEq, Value.int.injEq, Value.bool.injEq, beq_self_eq_true, bne_self_eq_false]
  refine CallK.mk (toOutcome_sat st' k' n' s' ts' sp' hs') ?_
  simp -implicitDefEqProofs (disch := omega) only [go_sem, ↓reduceIte, reduceCtorEq, Nat.reduceEqDiff, Nat.reduceLT, Nat.reduceLeDiff, Nat.reduceAdd, Nat.reduceSub, Nat.reduceMul, IntWalk.i64_in, AV.one.injEq, AC.c.injEq, C.v.injEq, Value.int.injEq, Value.bool.injEq, beq_self_eq_true, bne_self_eq_false]
  refine CallK.mk (eqOutcome_sat st' k' n' s' ts' sp' hw') ?_
  simp -implicitDefEqProofs (disch := omega) only [go_sem, ↓reduceIte, reduceCtorEq, Nat.reduceEqDiff, Nat.reduceLT, Nat.reduceLeDiff, Nat.reduceAdd, Nat.reduceSub, Nat.reduceMul, IntWalk.i64_in, AV.one.injEq, AC.c.injEq, C.v.injEq, Value.int.injEq, Value.bool.injEq, beq_self_eq_true, bne_self_eq_false]
end Go.Ai
