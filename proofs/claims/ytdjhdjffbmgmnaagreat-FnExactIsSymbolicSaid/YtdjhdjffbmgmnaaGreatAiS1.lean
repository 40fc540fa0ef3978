/- Symbolic terms: their mirror. Written by mk22.py. -/
import Derived.Test.YtdjhdjffbmgmnaaGreatAiD1
namespace Go.Ai
set_option linter.unusedVariables false
set_option linter.unusedSimpArgs false
open Go.Proofs Go.RowKit
set_option maxRecDepth 100000

theorem szIntS_sat (xs : List Int) (hw : wfL wfI xs) (b : Int) (h0 : 0 ≤ b) (h1 : b < 1048577) : Sat Tryz.prog 93 [slV (xs.map encI), intV b] (intV (szR (szL szI xs) b)) := by
  have hl := hw.1
  simp only [maxLen] at hl
  refine sat_of_code tbOk mixed Tryz.func93 rfl rfl rfl (by decide +kernel) (by decide +kernel) (Nat.le_of_ble_eq_true rfl) ?_
  simp -implicitDefEqProofs (disch := omega) only [go_sem, ↓reduceIte, reduceCtorEq, Nat.reduceEqDiff, Nat.reduceLT, Nat.reduceLeDiff, Nat.reduceAdd, Nat.reduceSub, Nat.reduceMul, IntWalk.i64_in, AV.one.injEq, AC.c.injEq, C.v.injEq, Value.int.injEq, Value.bool.injEq, beq_self_eq_true, bne_self_eq_false]
  have := szL_int xs
  grind [szR]

structure GSymbolic where
  va : List ByteArray
  t : Tm
  ca : List Int
def GSymbolic.enc (x : GSymbolic) : List C := encL encS x.va ++ (Tm.enc x.t ++ (encL encI x.ca))
def GSymbolic.size (x : GSymbolic) : Nat := (szL szS) x.va + Tm.size x.t + (szL szI) x.ca
def GSymbolic.wf (x : GSymbolic) : Prop := (wfL wfS) x.va ∧ Tm.wf x.t ∧ (wfL wfI) x.ca
def GSymbolic.eqb (x y : GSymbolic) : Bool := (eqL eqS) x.va y.va && (Tm.eqb x.t y.t && ((eqL eqI) x.ca y.ca))
theorem GSymbolic.enc_len (x : GSymbolic) : x.enc.length = 6 := by simp [GSymbolic.enc, encI, encS, encB, encL, Go.Ai.enc_len]
theorem GSymbolic.enc_take (x : GSymbolic) : x.enc.take 6 = x.enc := List.take_of_length_le (by rw [GSymbolic.enc_len]; exact Nat.le_refl _)
theorem GSymbolic.encm_take (x : GSymbolic) : (x.enc.map AC.c).take 6 = x.enc.map AC.c := List.take_of_length_le (by rw [List.length_map, GSymbolic.enc_len]; exact Nat.le_refl _)
attribute [go_sem] GSymbolic.enc_len GSymbolic.enc_take GSymbolic.encm_take
theorem GSymbolic.eqb_refl (x : GSymbolic) : x.eqb x = true := by simp only [GSymbolic.eqb, (eqL_refl eqS_refl) x.va, Tm.eqb_refl x.t, (eqL_refl eqI_refl) x.ca, Bool.and_self]

theorem szSymbolic_sat (x : GSymbolic) (hw : x.wf) (b : Int) (h0 : 0 ≤ b) (h1 : b < 1048577) : Sat Tryz.prog 33 [aggV x.enc, intV b] (intV (szR x.size b)) := by
  obtain ⟨r, hr⟩ : ∃ r, r = szR x.size b := ⟨_, rfl⟩
  rw [← hr]
  obtain ⟨xva, ⟨xtk, xtn, xts, xtt⟩, xca⟩ := x
  simp only [GSymbolic.wf, wfI, wfS, wfB, maxLen] at hw
  simp only [GSymbolic.size, szI, szS] at hr
  refine sat_of_code tbOk mixed Tryz.func33 rfl rfl rfl (by decide +kernel) (by decide +kernel) (Nat.le_of_ble_eq_true rfl) ?_
  simp -implicitDefEqProofs (disch := omega) only [go_sem, ↓reduceIte, reduceCtorEq, Nat.reduceEqDiff, Nat.reduceLT, Nat.reduceLeDiff, Nat.reduceAdd, Nat.reduceSub, Nat.reduceMul, IntWalk.i64_in, AV.one.injEq, AC.c.injEq, C.v.injEq, Value.int.injEq, Value.bool.injEq, beq_self_eq_true, bne_self_eq_false, GSymbolic.enc, Tm.enc, encB, encI, encL, encS, List.cons_append, List.nil_append, List.append_nil]
  have hb0 : -1 ≤ szR ((szL szS) xva) b ∧ szR ((szL szS) xva) b ≤ 1048576 := by grind [szR]
  refine CallK.mk (szStringS_sat xva hw.1 b (by grind [szR]) (by grind [szR])) ?_
  simp -implicitDefEqProofs (disch := omega) only [go_sem, ↓reduceIte, reduceCtorEq, Nat.reduceEqDiff, Nat.reduceLT, Nat.reduceLeDiff, Nat.reduceAdd, Nat.reduceSub, Nat.reduceMul, IntWalk.i64_in, AV.one.injEq, AC.c.injEq, C.v.injEq, Value.int.injEq, Value.bool.injEq, beq_self_eq_true, bne_self_eq_false, GSymbolic.enc, Tm.enc, encB, encI, encL, encS, List.cons_append, List.nil_append, List.append_nil]
  refine ⟨fun h0 => by grind [szR], fun h0 => ?_⟩
  have hb1 : -1 ≤ szR (Tm.size (.mk xtk xtn xts xtt)) (szR ((szL szS) xva) b) ∧ szR (Tm.size (.mk xtk xtn xts xtt)) (szR ((szL szS) xva) b) ≤ 1048576 := by grind [szR]
  refine CallK.mk (szTerm_sat (.mk xtk xtn xts xtt) hw.2.1 (szR ((szL szS) xva) b) (by grind [szR]) (by grind [szR])) ?_
  simp -implicitDefEqProofs (disch := omega) only [go_sem, ↓reduceIte, reduceCtorEq, Nat.reduceEqDiff, Nat.reduceLT, Nat.reduceLeDiff, Nat.reduceAdd, Nat.reduceSub, Nat.reduceMul, IntWalk.i64_in, AV.one.injEq, AC.c.injEq, C.v.injEq, Value.int.injEq, Value.bool.injEq, beq_self_eq_true, bne_self_eq_false, GSymbolic.enc, Tm.enc, encB, encI, encL, encS, List.cons_append, List.nil_append, List.append_nil]
  refine ⟨fun h1 => by grind [szR], fun h1 => ?_⟩
  have hb2 : -1 ≤ szR ((szL szI) xca) (szR (Tm.size (.mk xtk xtn xts xtt)) (szR ((szL szS) xva) b)) ∧ szR ((szL szI) xca) (szR (Tm.size (.mk xtk xtn xts xtt)) (szR ((szL szS) xva) b)) ≤ 1048576 := by grind [szR]
  refine CallK.mk (szIntS_sat xca hw.2.2 (szR (Tm.size (.mk xtk xtn xts xtt)) (szR ((szL szS) xva) b)) (by grind [szR]) (by grind [szR])) ?_
  simp -implicitDefEqProofs (disch := omega) only [go_sem, ↓reduceIte, reduceCtorEq, Nat.reduceEqDiff, Nat.reduceLT, Nat.reduceLeDiff, Nat.reduceAdd, Nat.reduceSub, Nat.reduceMul, IntWalk.i64_in, AV.one.injEq, AC.c.injEq, C.v.injEq, Value.int.injEq, Value.bool.injEq, beq_self_eq_true, bne_self_eq_false, GSymbolic.enc, Tm.enc, encB, encI, encL, encS, List.cons_append, List.nil_append, List.append_nil]
  grind [szR]

theorem toSymbolic_sat (x : GSymbolic) (hs : x.size < 1048577) : Sat Tryz.prog 35 [aggV x.enc] (aggV x.enc) := by
  obtain ⟨xva, ⟨xtk, xtn, xts, xtt⟩, xca⟩ := x
  simp only [GSymbolic.size, szI, szS] at hs
  refine sat_of_code tbOk mixed Tryz.func35 rfl rfl rfl (by decide +kernel) (by decide +kernel) (Nat.le_of_ble_eq_true rfl) ?_
  simp -implicitDefEqProofs (disch := omega) only [go_sem, ↓reduceIte, reduceCtorEq, Nat.reduceEqDiff, Nat.reduceLT, Nat.reduceLeDiff, Nat.reduceAdd, Nat.reduceSub, Nat.reduceMul, IntWalk.i64_in, AV.one.injEq, AC.c.injEq, C.v.injEq, Value.int.injEq, Value.bool.injEq, beq_self_eq_true, bne_self_eq_false, GSymbolic.enc, Tm.enc, encB, encI, encL, encS, List.cons_append, List.nil_append, List.append_nil]
  refine CallK.mk (toStringS_sat xva (by omega)) ?_
  simp -implicitDefEqProofs (disch := omega) only [go_sem, ↓reduceIte, reduceCtorEq, Nat.reduceEqDiff, Nat.reduceLT, Nat.reduceLeDiff, Nat.reduceAdd, Nat.reduceSub, Nat.reduceMul, IntWalk.i64_in, AV.one.injEq, AC.c.injEq, C.v.injEq, Value.int.injEq, Value.bool.injEq, beq_self_eq_true, bne_self_eq_false, GSymbolic.enc, Tm.enc, encB, encI, encL, encS, List.cons_append, List.nil_append, List.append_nil]
  refine CallK.mk (toTerm_sat (.mk xtk xtn xts xtt) (by omega)) ?_
  simp -implicitDefEqProofs (disch := omega) only [go_sem, ↓reduceIte, reduceCtorEq, Nat.reduceEqDiff, Nat.reduceLT, Nat.reduceLeDiff, Nat.reduceAdd, Nat.reduceSub, Nat.reduceMul, IntWalk.i64_in, AV.one.injEq, AC.c.injEq, C.v.injEq, Value.int.injEq, Value.bool.injEq, beq_self_eq_true, bne_self_eq_false, GSymbolic.enc, Tm.enc, encB, encI, encL, encS, List.cons_append, List.nil_append, List.append_nil]
  refine CallK.mk (toIntS_sat xca (by omega)) ?_
  simp -implicitDefEqProofs (disch := omega) only [go_sem, ↓reduceIte, reduceCtorEq, Nat.reduceEqDiff, Nat.reduceLT, Nat.reduceLeDiff, Nat.reduceAdd, Nat.reduceSub, Nat.reduceMul, IntWalk.i64_in, AV.one.injEq, AC.c.injEq, C.v.injEq, Value.int.injEq, Value.bool.injEq, beq_self_eq_true, bne_self_eq_false, GSymbolic.enc, Tm.enc, encB, encI, encL, encS, List.cons_append, List.nil_append, List.append_nil]
  rfl

theorem eqSymbolic_sat (x : GSymbolic) (hw : x.wf) (y : GSymbolic) : Sat Tryz.prog 37 [aggV x.enc, aggV y.enc] (boolV (x.eqb y)) := by
  obtain ⟨r, hr⟩ : ∃ r, r = x.eqb y := ⟨_, rfl⟩
  rw [← hr]
  obtain ⟨xva, ⟨xtk, xtn, xts, xtt⟩, xca⟩ := x
  obtain ⟨yva, ⟨ytk, ytn, yts, ytt⟩, yca⟩ := y
  simp only [GSymbolic.wf] at hw
  simp only [GSymbolic.eqb, eqI, eqS, eqB] at hr
  refine sat_of_code tbOk mixed Tryz.func37 rfl rfl rfl (by decide +kernel) (by decide +kernel) (Nat.le_of_ble_eq_true rfl) ?_
  simp -implicitDefEqProofs (disch := omega) only [go_sem, ↓reduceIte, reduceCtorEq, Nat.reduceEqDiff, Nat.reduceLT, Nat.reduceLeDiff, Nat.reduceAdd, Nat.reduceSub, Nat.reduceMul, IntWalk.i64_in, AV.one.injEq, AC.c.injEq, C.v.injEq, Value.int.injEq, Value.bool.injEq, beq_self_eq_true, bne_self_eq_false, GSymbolic.enc, Tm.enc, encB, encI, encL, encS, List.cons_append, List.nil_append, List.append_nil]
  refine CallK.mk (eqStringS_sat xva hw.1 yva) ?_
  simp -implicitDefEqProofs (disch := omega) only [go_sem, ↓reduceIte, reduceCtorEq, Nat.reduceEqDiff, Nat.reduceLT, Nat.reduceLeDiff, Nat.reduceAdd, Nat.reduceSub, Nat.reduceMul, IntWalk.i64_in, AV.one.injEq, AC.c.injEq, C.v.injEq, Value.int.injEq, Value.bool.injEq, beq_self_eq_true, bne_self_eq_false, GSymbolic.enc, Tm.enc, encB, encI, encL, encS, List.cons_append, List.nil_append, List.append_nil]
  refine ⟨fun h0 => by grind, fun h0 => ?_⟩
  refine CallK.mk (eqTerm_sat (.mk xtk xtn xts xtt) hw.2.1 (.mk ytk ytn yts ytt)) ?_
  simp -implicitDefEqProofs (disch := omega) only [go_sem, ↓reduceIte, reduceCtorEq, Nat.reduceEqDiff, Nat.reduceLT, Nat.reduceLeDiff, Nat.reduceAdd, Nat.reduceSub, Nat.reduceMul, IntWalk.i64_in, AV.one.injEq, AC.c.injEq, C.v.injEq, Value.int.injEq, Value.bool.injEq, beq_self_eq_true, bne_self_eq_false, GSymbolic.enc, Tm.enc, encB, encI, encL, encS, List.cons_append, List.nil_append, List.append_nil]
  refine ⟨fun h1 => by grind, fun h1 => ?_⟩
  refine CallK.mk (eqIntS_sat xca hw.2.2 yca) ?_
  simp -implicitDefEqProofs (disch := omega) only [go_sem, ↓reduceIte, reduceCtorEq, Nat.reduceEqDiff, Nat.reduceLT, Nat.reduceLeDiff, Nat.reduceAdd, Nat.reduceSub, Nat.reduceMul, IntWalk.i64_in, AV.one.injEq, AC.c.injEq, C.v.injEq, Value.int.injEq, Value.bool.injEq, beq_self_eq_true, bne_self_eq_false, GSymbolic.enc, Tm.enc, encB, encI, encL, encS, List.cons_append, List.nil_append, List.append_nil]
  grind

end Go.Ai
