/- FireRule. -/
import Derived.Test.YtkaplmbflkoliaaGreatAiP5
namespace Go.Ai
set_option linter.unusedVariables false
set_option linter.unusedSimpArgs false
open Go.Proofs
set_option maxRecDepth 100000

theorem implFireF_sat (d : GDefinition) (hl : d.ru.length < 100000000) (i : Nat) (hi : i < d.ru.length) (hx : ruleOk d.ru[i]) (t : Tm) (ht : tmOk t) : SatF Tryz.prog 44 [aggV d.enc, intV i, tmV t] (.tup [tmV (fireT d.ru[i] t), boolV (fireI d.ru[i] t).isSome]) := by
  have hg := map_getD (ec := GRule.enc) hi
  have hde : d.enc = [.sl (d.si.so.map encS), .sl (d.si.op.map GOp.enc), .sl (d.ru.map GRule.enc), .sl (d.st.map GStrict.enc)] := rfl
  rw [hde]
  clear hde
  obtain ⟨si, ru, st⟩ := d
  simp only at hl hi hx hg ⊢
  generalize ru[i] = x at hg hx
  obtain ⟨hle, hri, hgl, hgu⟩ := hx
  have hm := implMatch_sat x.le (by have := hle.1; omega) t [] (by have := ht.1; omega) ht.2.2 (by simp) (by have := hle.2.1; simp; omega)
  have hmo := mat_ok x.le t ht
  have hml := mat_len x.le t []
  have hc := hle.2.1
  obtain ⟨r1, r2, hr1, hr2⟩ : ∃ r1 r2, r1 = fireT x t ∧ r2 = (fireI x t).isSome := ⟨_, _, rfl, rfl⟩
  rw [← hr1, ← hr2]
  unfold fireT at hr1
  unfold fireI at hr1 hr2
  generalize hq : x.le.mat t [] = q at hm hr1 hr2 hmo hml
  obtain ⟨na, le, ri, gu⟩ := x
  obtain ⟨k2, n2, s2, ts2⟩ := t
  simp only at hm hr1 hr2 hgl hgu hri
  cases q with
  | none =>
    clear hq
    have hr1 : r1 = zeroT := hr1
    have hr2 : r2 = false := hr2
    subst hr1 hr2
    obtain ⟨lk, ln, ls, lt⟩ := le
    obtain ⟨rk, rn, rs, rt⟩ := ri
    simp only [GRule.enc, Tm.enc, encS, encL, List.cons_append, List.nil_append] at hg
    have hm : SatL Tryz.prog 87 [tmV (.mk lk ln ls lt), tmV (.mk k2 n2 s2 ts2)] [] 159 5 [] [boolV false] := hm
    refine satF_of_code [tmV zeroT, boolV false] rfl (fun _ h => by cases h; rfl) tbOk mixed Tryz.func44 rfl rfl rfl (by decide +kernel) (by decide +kernel) (Nat.le_of_ble_eq_true rfl) ?_
    simp -implicitDefEqProofs (disch := omega) only [go_sem, ↓reduceIte, reduceCtorEq, Nat.reduceEqDiff, Nat.reduceLT, Nat.reduceLeDiff, Nat.reduceAdd, Nat.reduceSub, Nat.reduceMul, IntWalk.i64_in, AV.one.injEq, AC.c.injEq, C.v.injEq, Value.int.injEq, Value.bool.injEq, beq_self_eq_true, bne_self_eq_false, Tm.enc, hg, hi, List.length_map]
    refine CallK.lost 2 rfl hm ⟨by simp [go_sem], rfl, rfl⟩ ?_
    simp -implicitDefEqProofs (disch := omega) only [go_sem, ↓reduceIte, reduceCtorEq, Nat.reduceEqDiff, Nat.reduceLT, Nat.reduceLeDiff, Nat.reduceAdd, Nat.reduceSub, Nat.reduceMul, IntWalk.i64_in, AV.one.injEq, AC.c.injEq, C.v.injEq, Value.int.injEq, Value.bool.injEq, beq_self_eq_true, bne_self_eq_false, List.getElem?_cons_succ, List.getElem?_cons_zero, zeroT, Tm.enc, Tm.encs, List.map_cons, List.map_nil]
    rfl
  | some bs =>
    clear hq
    have hbs := hmo bs rfl
    have hbl : bs.length < 1000000 := by
      have h1 : bs.length ≤ 0 + le.cnt := hml bs rfl
      have h2 : le.cnt ≤ 60 := hc
      omega
    have hr0 : ((gu.all fun g => holdsG (g.sub bs)) = false → r1 = zeroT ∧ r2 = false) ∧ ((gu.all fun g => holdsG (g.sub bs)) = true → r1 = (ri.sub bs).red ∧ r2 = true) := by
      refine ⟨fun h => ?_, fun h => ?_⟩ <;> (rw [hr1, hr2]; simp only [h]; exact ⟨rfl, rfl⟩)
    clear hr1 hr2
    have hho := allHoldG_sat bs (by omega) hbs gu (by omega) hgu
    have hsu := implSubst_sat bs (by omega) (fun b hb => by have := (hbs b hb).1; omega) ri (by have := hri.1; omega)
    have z1 := gsub_ok bs hbs ri hri
    have hre := implReduce_sat (ri.sub bs) z1.1
    generalize (gu.all fun g => holdsG (g.sub bs)) = ok at hho hr0
    generalize (ri.sub bs).red = y at hre hr0
    generalize ri.sub bs = y1 at hsu hre
    obtain ⟨lk, ln, ls, lt⟩ := le
    obtain ⟨rk, rn, rs, rt⟩ := ri
    obtain ⟨yk, yn, ys, yt⟩ := y1
    obtain ⟨zk, zn, zs, zt⟩ := y
    simp only [GRule.enc, Tm.enc, encS, encL, List.cons_append, List.nil_append] at hg
    have hm : SatA Tryz.prog 87 [tmV (.mk lk ln ls lt), tmV (.mk k2 n2 s2 ts2)] [] 159 5 [] (rowsOf GBind.enc bs) [boolV true] := hm
    refine satF_of_code [tmV r1, boolV r2] rfl (fun _ h => by cases h; rfl) tbOk mixed Tryz.func44 rfl rfl rfl (by decide +kernel) (by decide +kernel) (Nat.le_of_ble_eq_true rfl) ?_
    simp -implicitDefEqProofs (disch := omega) only [go_sem, ↓reduceIte, reduceCtorEq, Nat.reduceEqDiff, Nat.reduceLT, Nat.reduceLeDiff, Nat.reduceAdd, Nat.reduceSub, Nat.reduceMul, IntWalk.i64_in, AV.one.injEq, AC.c.injEq, C.v.injEq, Value.int.injEq, Value.bool.injEq, beq_self_eq_true, bne_self_eq_false, Tm.enc, hg, hi, List.length_map]
    refine CallK.acc 2 hm ⟨by simp [go_sem], rfl, rfl⟩ rfl ?_
    simp -implicitDefEqProofs (disch := omega) only [go_sem, ↓reduceIte, reduceCtorEq, Nat.reduceEqDiff, Nat.reduceLT, Nat.reduceLeDiff, Nat.reduceAdd, Nat.reduceSub, Nat.reduceMul, IntWalk.i64_in, AV.one.injEq, AC.c.injEq, C.v.injEq, Value.int.injEq, Value.bool.injEq, beq_self_eq_true, bne_self_eq_false, List.getElem?_cons_succ, List.getElem?_cons_zero, rowsOf_toC]
    refine CallK.bor hho rfl ?_
    simp -implicitDefEqProofs (disch := omega) only [go_sem, ↓reduceIte, reduceCtorEq, Nat.reduceEqDiff, Nat.reduceLT, Nat.reduceLeDiff, Nat.reduceAdd, Nat.reduceSub, Nat.reduceMul, IntWalk.i64_in, AV.one.injEq, AC.c.injEq, C.v.injEq, Value.int.injEq, Value.bool.injEq, beq_self_eq_true, bne_self_eq_false]
    refine ⟨fun h => ?_, fun h => ?_⟩
    · obtain ⟨rfl, rfl⟩ := hr0.1 h
      simp [go_sem, zeroT, Tm.enc, Tm.encs]
      rfl
    · obtain ⟨rfl, rfl⟩ := hr0.2 h
      refine CallK.own hsu rfl ?_
      simp -implicitDefEqProofs (disch := omega) only [go_sem, ↓reduceIte, reduceCtorEq, Nat.reduceEqDiff, Nat.reduceLT, Nat.reduceLeDiff, Nat.reduceAdd, Nat.reduceSub, Nat.reduceMul, IntWalk.i64_in, AV.one.injEq, AC.c.injEq, C.v.injEq, Value.int.injEq, Value.bool.injEq, beq_self_eq_true, bne_self_eq_false, Tm.enc]
      refine CallK.own hre rfl ?_
      simp -implicitDefEqProofs (disch := omega) only [go_sem, ↓reduceIte, reduceCtorEq, Nat.reduceEqDiff, Nat.reduceLT, Nat.reduceLeDiff, Nat.reduceAdd, Nat.reduceSub, Nat.reduceMul, IntWalk.i64_in, AV.one.injEq, AC.c.injEq, C.v.injEq, Value.int.injEq, Value.bool.injEq, beq_self_eq_true, bne_self_eq_false, Tm.enc]
end Go.Ai
