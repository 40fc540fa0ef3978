/- Machines: sizes, copies, equality. Written by mk28.py. -/
import Derived.Test.YtofbieojmaobfaaAiC1
import Derived.Test.YtofbieojmaobfaaAiKinds
namespace Go.Ai
set_option linter.unusedVariables false
set_option linter.unusedSimpArgs false
open Go.Proofs Go.RowKit
set_option maxRecDepth 100000

structure GFrame where
  t : Tm
  nx : Int
def GFrame.enc (x : GFrame) : List C := Tm.enc x.t ++ (encI x.nx)
def GFrame.size (x : GFrame) : Nat := Tm.size x.t + szI x.nx
def GFrame.wf (x : GFrame) : Prop := Tm.wf x.t ∧ wfI x.nx
def GFrame.eqb (x y : GFrame) : Bool := Tm.eqb x.t y.t && (eqI x.nx y.nx)
theorem GFrame.enc_len (x : GFrame) : x.enc.length = 5 := by simp [GFrame.enc, encI, encS, encB, encL, Go.Ai.enc_len]
theorem GFrame.enc_take (x : GFrame) : x.enc.take 5 = x.enc := List.take_of_length_le (by rw [GFrame.enc_len]; exact Nat.le_refl _)
theorem GFrame.encm_take (x : GFrame) : (x.enc.map AC.c).take 5 = x.enc.map AC.c := List.take_of_length_le (by rw [List.length_map, GFrame.enc_len]; exact Nat.le_refl _)
attribute [go_sem] GFrame.enc_len GFrame.enc_take GFrame.encm_take
theorem GFrame.eqb_refl (x : GFrame) : x.eqb x = true := by simp only [GFrame.eqb, Tm.eqb_refl x.t, eqI_refl x.nx, Bool.and_self]

theorem szFrame_sat (x : GFrame) (hw : x.wf) (b : Int) (h0 : 0 ≤ b) (h1 : b < 1048577) : Sat Try.prog 47 [aggV x.enc, intV b] (intV (szR x.size b)) := by
  obtain ⟨r, hr⟩ : ∃ r, r = szR x.size b := ⟨_, rfl⟩
  rw [← hr]
  obtain ⟨⟨xtk, xtn, xts, xtt⟩, xnx⟩ := x
  simp only [GFrame.wf, wfI, wfS, wfB, maxLen] at hw
  simp only [GFrame.size, szI, szS] at hr
  refine sat_of_code tbOk mixed Try.func47 rfl rfl rfl (by decide +kernel) (by decide +kernel) (Nat.le_of_ble_eq_true rfl) ?_
  simp -implicitDefEqProofs (disch := omega) only [go_sem, ↓reduceIte, reduceCtorEq, Nat.reduceEqDiff, Nat.reduceLT, Nat.reduceLeDiff, Nat.reduceAdd, Nat.reduceSub, Nat.reduceMul, GFrame.enc, Tm.enc, encB, encI, encL, encS, List.cons_append, List.nil_append, List.append_nil]
  have hb0 : -1 ≤ szR (Tm.size (.mk xtk xtn xts xtt)) b ∧ szR (Tm.size (.mk xtk xtn xts xtt)) b ≤ 1048576 := by grind [szR]
  refine CallK.mk (szTerm_sat (.mk xtk xtn xts xtt) hw.1 b (by grind [szR]) (by grind [szR])) ?_
  simp -implicitDefEqProofs (disch := omega) only [go_sem, ↓reduceIte, reduceCtorEq, Nat.reduceEqDiff, Nat.reduceLT, Nat.reduceLeDiff, Nat.reduceAdd, Nat.reduceSub, Nat.reduceMul, GFrame.enc, Tm.enc, encB, encI, encL, encS, List.cons_append, List.nil_append, List.append_nil]
  grind [szR]

theorem toFrame_sat (x : GFrame) (hs : x.size < 1048577) : Sat Try.prog 55 [aggV x.enc] (aggV x.enc) := by
  obtain ⟨⟨xtk, xtn, xts, xtt⟩, xnx⟩ := x
  simp only [GFrame.size, szI, szS] at hs
  refine sat_of_code tbOk mixed Try.func55 rfl rfl rfl (by decide +kernel) (by decide +kernel) (Nat.le_of_ble_eq_true rfl) ?_
  simp -implicitDefEqProofs (disch := omega) only [go_sem, ↓reduceIte, reduceCtorEq, Nat.reduceEqDiff, Nat.reduceLT, Nat.reduceLeDiff, Nat.reduceAdd, Nat.reduceSub, Nat.reduceMul, GFrame.enc, Tm.enc, encB, encI, encL, encS, List.cons_append, List.nil_append, List.append_nil]
  refine CallK.mk (toTerm_sat (.mk xtk xtn xts xtt) (by omega)) ?_
  simp -implicitDefEqProofs (disch := omega) only [go_sem, ↓reduceIte, reduceCtorEq, Nat.reduceEqDiff, Nat.reduceLT, Nat.reduceLeDiff, Nat.reduceAdd, Nat.reduceSub, Nat.reduceMul, GFrame.enc, Tm.enc, encB, encI, encL, encS, List.cons_append, List.nil_append, List.append_nil]
  rfl

theorem eqFrame_sat (x : GFrame) (hw : x.wf) (y : GFrame) : Sat Try.prog 61 [aggV x.enc, aggV y.enc] (boolV (x.eqb y)) := by
  obtain ⟨r, hr⟩ : ∃ r, r = x.eqb y := ⟨_, rfl⟩
  rw [← hr]
  obtain ⟨⟨xtk, xtn, xts, xtt⟩, xnx⟩ := x
  obtain ⟨⟨ytk, ytn, yts, ytt⟩, ynx⟩ := y
  simp only [GFrame.wf] at hw
  simp only [GFrame.eqb, eqI, eqS, eqB] at hr
  refine sat_of_code tbOk mixed Try.func61 rfl rfl rfl (by decide +kernel) (by decide +kernel) (Nat.le_of_ble_eq_true rfl) ?_
  simp -implicitDefEqProofs (disch := omega) only [go_sem, ↓reduceIte, reduceCtorEq, Nat.reduceEqDiff, Nat.reduceLT, Nat.reduceLeDiff, Nat.reduceAdd, Nat.reduceSub, Nat.reduceMul, GFrame.enc, Tm.enc, encB, encI, encL, encS, List.cons_append, List.nil_append, List.append_nil]
  refine CallK.mk (eqTerm_sat (.mk xtk xtn xts xtt) hw.1 (.mk ytk ytn yts ytt)) ?_
  simp -implicitDefEqProofs (disch := omega) only [go_sem, ↓reduceIte, reduceCtorEq, Nat.reduceEqDiff, Nat.reduceLT, Nat.reduceLeDiff, Nat.reduceAdd, Nat.reduceSub, Nat.reduceMul, GFrame.enc, Tm.enc, encB, encI, encL, encS, List.cons_append, List.nil_append, List.append_nil]
  refine ⟨fun h0 => by grind, fun h0 => ?_⟩
  grind

theorem szFrameS_sat (xs : List GFrame) (hw : wfL GFrame.wf xs) (b : Int) (h0 : 0 ≤ b) (h1 : b < 1048577) : Sat Try.prog 21 [slV (xs.map GFrame.enc), intV b] (intV (szR (szL GFrame.size xs) b)) := by
  have hl := hw.1
  simp only [maxLen] at hl
  refine sat_of_code tbOk mixed Try.func21 rfl rfl rfl (by decide +kernel) (by decide +kernel) (Nat.le_of_ble_eq_true rfl) ?_
  simp -implicitDefEqProofs (disch := omega) only [go_sem, ↓reduceIte, reduceCtorEq, Nat.reduceEqDiff, Nat.reduceLT, Nat.reduceLeDiff, Nat.reduceAdd, Nat.reduceSub, Nat.reduceMul]
  refine ⟨fun h => ?_, fun h => ?_⟩
  · have := len_szL GFrame.size xs
    grind [szR]
  · refine loopA_rule (ι := Nat × Int) (fun i => mk 27 [(0, slV (xs.map GFrame.enc)), (5, intV i.1), (1, intV i.2)] []) (fun i => i.1 ≤ xs.length ∧ i.2 - ((szL GFrame.size (xs.drop i.1) : Int) - (xs.length - i.1)) = b - szL GFrame.size xs ∧ 0 ≤ i.2 ∧ i.2 < 1048577) (fun i => xs.length - i.1) (0, b - xs.length) ?_ ?_ tbOk mixed (by decide +kernel) ?_
    · simp; omega
    · exact le_mk (by simp [go_sem]) (by simp [go_sem])
    · rintro ⟨i, c⟩ ⟨hi, hc, hc0, hc1⟩
      simp only at hi hc hc0 hc1
      rcases Nat.lt_or_ge i xs.length with hlt | hge
      · have hg := map_getD (ec := GFrame.enc) hlt
        have hz := szL_drop GFrame.size xs i hlt
        have hz2 := len_szL GFrame.size (xs.drop (i + 1))
        simp only [List.length_drop] at hz2
        have hx := hw.2 _ (List.getElem_mem hlt)
        generalize xs[i] = x at hg hz hx
        simp -implicitDefEqProofs (disch := omega) only [go_sem, ↓reduceIte, reduceCtorEq, Nat.reduceEqDiff, Nat.reduceLT, Nat.reduceLeDiff, Nat.reduceAdd, Nat.reduceSub, Nat.reduceMul, hg, hlt]
        refine CallK.mk (szFrame_sat x hx c hc0 (by omega)) ?_
        simp -implicitDefEqProofs (disch := omega) only [go_sem, ↓reduceIte, reduceCtorEq, Nat.reduceEqDiff, Nat.reduceLT, Nat.reduceLeDiff, Nat.reduceAdd, Nat.reduceSub, Nat.reduceMul]
        refine ⟨fun h => ?_, fun h => ⟨(i + 1, szR (GFrame.size x) c), ⟨hlt, ?_⟩, ?_, le_mk (by simp [go_sem]) (by simp [go_sem])⟩⟩
        · grind [szR]
        · grind [szR]
        · simp only; omega
      · simp -implicitDefEqProofs (disch := omega) only [go_sem, ↓reduceIte, reduceCtorEq, Nat.reduceEqDiff, Nat.reduceLT, Nat.reduceLeDiff, Nat.reduceAdd, Nat.reduceSub, Nat.reduceMul, Nat.not_lt.2 hge]
        rw [List.drop_of_length_le hge] at hc
        simp only [szL] at hc
        grind [szR]

abbrev zFrame : List AC := [iC 0, iC 0, sC ⟨⟨[]⟩⟩, .nil, iC 0]
theorem toFrameS_sat (xs : List GFrame) (hs : szL GFrame.size xs < 1048577) : Sat Try.prog 28 [slV (xs.map GFrame.enc)] (slV (xs.map GFrame.enc)) := by
  have hl := len_szL GFrame.size xs
  refine sat_of_code tbOk mixed Try.func28 rfl rfl rfl (by decide +kernel) (by decide +kernel) (Nat.le_of_ble_eq_true rfl) ?_
  simp -implicitDefEqProofs (disch := omega) only [go_sem, ↓reduceIte, reduceCtorEq, Nat.reduceEqDiff, Nat.reduceLT, Nat.reduceLeDiff, Nat.reduceAdd, Nat.reduceSub, Nat.reduceMul]
  refine ⟨⟨by omega, by omega⟩, fun _ => ?_⟩
  refine loopA_rule (ι := Nat) (fun i => mk 23 [(0, slV (xs.map GFrame.enc)), (3, .one (.own 7 xs.length)), (4, intV i)] [(7, .arr 70 5 (rowsAt GFrame.enc zFrame xs i) false)]) (fun i => i ≤ xs.length) (fun i => xs.length - i) 0 (Nat.zero_le _) ?_ tbOk mixed (by decide +kernel) ?_
  · exact le_mk (by simp [go_sem]) (by simp [go_sem, rowsAt_zero, List.mem_replicate])
  · intro i hi
    have hlen := rowsAt_len (ec := GFrame.enc) (z := zFrame) hi
    rcases Nat.lt_or_ge i xs.length with hlt | hge
    · have hg := map_getD (ec := GFrame.enc) hlt
      have hr := rowsAt_get (ec := GFrame.enc) (z := zFrame) hlt
      have hset := rowsAt_set (ec := GFrame.enc) (z := zFrame) hlt
      have hm := szL_mem GFrame.size xs _ (List.getElem_mem hlt)
      simp -implicitDefEqProofs (disch := omega) only [go_sem, ↓reduceIte, reduceCtorEq, Nat.reduceEqDiff, Nat.reduceLT, Nat.reduceLeDiff, Nat.reduceAdd, Nat.reduceSub, Nat.reduceMul, hg, hlt, hlen]
      refine CallK.mk (toFrame_sat _ (by omega)) ?_
      simp -implicitDefEqProofs (disch := omega) only [go_sem, ↓reduceIte, reduceCtorEq, Nat.reduceEqDiff, Nat.reduceLT, Nat.reduceLeDiff, Nat.reduceAdd, Nat.reduceSub, Nat.reduceMul, hlen, hlt, List.length_map, hr, hset]
      refine ⟨by simp [zFrame, unD], fun _ => ⟨i + 1, hlt, by omega, le_mk (by simp [go_sem]) ?_⟩⟩
      simp only [leB, lookB_cons, if_true, inB, true_and, and_true]
      exact rowsAt_inC (by simp [zFrame, inC])
    · have : i = xs.length := by omega
      subst this
      have hv := rowsAt_view (ec := GFrame.enc) (z := zFrame) (Nat.le_refl xs.length)
      simp -implicitDefEqProofs (disch := omega) only [go_sem, ↓reduceIte, reduceCtorEq, Nat.reduceEqDiff, Nat.reduceLT, Nat.reduceLeDiff, Nat.reduceAdd, Nat.reduceSub, Nat.reduceMul, hlen, hv, Nat.lt_irrefl]
      exact rowsAt_isV (Nat.le_refl _)

theorem eqFrameS_sat (xs : List GFrame) (hw : wfL GFrame.wf xs) (ys : List GFrame) : Sat Try.prog 35 [slV (xs.map GFrame.enc), slV (ys.map GFrame.enc)] (boolV (eqL GFrame.eqb xs ys)) := by
  have hl := hw.1
  simp only [maxLen] at hl
  refine sat_of_code tbOk mixed Try.func35 rfl rfl rfl (by decide +kernel) (by decide +kernel) (Nat.le_of_ble_eq_true rfl) ?_
  simp -implicitDefEqProofs (disch := omega) only [go_sem, ↓reduceIte, reduceCtorEq, Nat.reduceEqDiff, Nat.reduceLT, Nat.reduceLeDiff, Nat.reduceAdd, Nat.reduceSub, Nat.reduceMul]
  refine ⟨fun h4 => ?_, fun h4 => ?_⟩
  · rw [eqL_len GFrame.eqb xs ys (by omega)]
  · have hll : xs.length = ys.length := by simp at h4; omega
    refine loopA_rule (ι := Nat) (fun i => mk 27 [(0, slV (xs.map GFrame.enc)), (1, slV (ys.map GFrame.enc)), (5, intV i)] [])
      (fun i => i ≤ xs.length ∧ eqL GFrame.eqb (xs.drop i) (ys.drop i) = eqL GFrame.eqb xs ys) (fun i => xs.length - i) 0 ⟨Nat.zero_le _, by simp⟩ ?_ tbOk mixed (by decide +kernel) ?_
    · exact le_mk (by simp [go_sem]) (by simp [go_sem])
    · rintro i ⟨hi, he⟩
      rcases Nat.lt_or_ge i xs.length with hlt | hge
      · have hlt' : i < ys.length := by omega
        have hg := map_getD (ec := GFrame.enc) hlt
        have hg' := map_getD (ec := GFrame.enc) hlt'
        rw [eqL_drop GFrame.eqb xs ys i hlt hlt'] at he
        have hx := hw.2 _ (List.getElem_mem hlt)
        generalize xs[i] = x at hg he hx
        generalize ys[i] = y at hg' he
        simp -implicitDefEqProofs (disch := omega) only [go_sem, ↓reduceIte, reduceCtorEq, Nat.reduceEqDiff, Nat.reduceLT, Nat.reduceLeDiff, Nat.reduceAdd, Nat.reduceSub, Nat.reduceMul, hg, hg', hlt, hlt']
        refine CallK.mk (eqFrame_sat x hx y) ?_
        simp -implicitDefEqProofs (disch := omega) only [go_sem, ↓reduceIte, reduceCtorEq, Nat.reduceEqDiff, Nat.reduceLT, Nat.reduceLeDiff, Nat.reduceAdd, Nat.reduceSub, Nat.reduceMul]
        refine ⟨fun h => ?_, fun h => ⟨i + 1, ⟨hlt, ?_⟩, by omega, le_mk (by simp [go_sem]) (by simp [go_sem])⟩⟩
        · rw [h] at he; simpa using he
        · rw [h] at he; simpa using he
      · have e1 : xs.drop i = [] := List.drop_of_length_le hge
        have e2 : ys.drop i = [] := List.drop_of_length_le (by omega)
        rw [e1, e2] at he
        simp -implicitDefEqProofs (disch := omega) only [go_sem, ↓reduceIte, reduceCtorEq, Nat.reduceEqDiff, Nat.reduceLT, Nat.reduceLeDiff, Nat.reduceAdd, Nat.reduceSub, Nat.reduceMul, Nat.not_lt.2 hge]
        rw [← he]; rfl

structure GMachine where
  fo : Tm
  nx : Int
  st : List GFrame
  rw : Int
def GMachine.enc (x : GMachine) : List C := Tm.enc x.fo ++ (encI x.nx ++ (encL GFrame.enc x.st ++ (encI x.rw)))
def GMachine.size (x : GMachine) : Nat := Tm.size x.fo + szI x.nx + (szL GFrame.size) x.st + szI x.rw
def GMachine.wf (x : GMachine) : Prop := Tm.wf x.fo ∧ wfI x.nx ∧ (wfL GFrame.wf) x.st ∧ wfI x.rw
def GMachine.eqb (x y : GMachine) : Bool := Tm.eqb x.fo y.fo && (eqI x.nx y.nx && ((eqL GFrame.eqb) x.st y.st && (eqI x.rw y.rw)))
theorem GMachine.enc_len (x : GMachine) : x.enc.length = 7 := by simp [GMachine.enc, encI, encS, encB, encL, Go.Ai.enc_len]
theorem GMachine.enc_take (x : GMachine) : x.enc.take 7 = x.enc := List.take_of_length_le (by rw [GMachine.enc_len]; exact Nat.le_refl _)
theorem GMachine.encm_take (x : GMachine) : (x.enc.map AC.c).take 7 = x.enc.map AC.c := List.take_of_length_le (by rw [List.length_map, GMachine.enc_len]; exact Nat.le_refl _)
attribute [go_sem] GMachine.enc_len GMachine.enc_take GMachine.encm_take
theorem GMachine.eqb_refl (x : GMachine) : x.eqb x = true := by simp only [GMachine.eqb, Tm.eqb_refl x.fo, eqI_refl x.nx, (eqL_refl GFrame.eqb_refl) x.st, eqI_refl x.rw, Bool.and_self]

theorem szMachine_sat (x : GMachine) (hw : x.wf) (b : Int) (h0 : 0 ≤ b) (h1 : b < 1048577) : Sat Try.prog 5 [aggV x.enc, intV b] (intV (szR x.size b)) := by
  obtain ⟨r, hr⟩ : ∃ r, r = szR x.size b := ⟨_, rfl⟩
  rw [← hr]
  obtain ⟨⟨xfok, xfon, xfos, xfot⟩, xnx, xst, xrw⟩ := x
  simp only [GMachine.wf, wfI, wfS, wfB, maxLen] at hw
  simp only [GMachine.size, szI, szS] at hr
  refine sat_of_code tbOk mixed Try.func5 rfl rfl rfl (by decide +kernel) (by decide +kernel) (Nat.le_of_ble_eq_true rfl) ?_
  simp -implicitDefEqProofs (disch := omega) only [go_sem, ↓reduceIte, reduceCtorEq, Nat.reduceEqDiff, Nat.reduceLT, Nat.reduceLeDiff, Nat.reduceAdd, Nat.reduceSub, Nat.reduceMul, GMachine.enc, Tm.enc, encB, encI, encL, encS, List.cons_append, List.nil_append, List.append_nil]
  have hb0 : -1 ≤ szR (Tm.size (.mk xfok xfon xfos xfot)) b ∧ szR (Tm.size (.mk xfok xfon xfos xfot)) b ≤ 1048576 := by grind [szR]
  refine CallK.mk (szTerm_sat (.mk xfok xfon xfos xfot) hw.1 b (by grind [szR]) (by grind [szR])) ?_
  simp -implicitDefEqProofs (disch := omega) only [go_sem, ↓reduceIte, reduceCtorEq, Nat.reduceEqDiff, Nat.reduceLT, Nat.reduceLeDiff, Nat.reduceAdd, Nat.reduceSub, Nat.reduceMul, GMachine.enc, Tm.enc, encB, encI, encL, encS, List.cons_append, List.nil_append, List.append_nil]
  refine ⟨fun h0 => by grind [szR], fun h0 => ?_⟩
  have hb1 : -1 ≤ szR ((szL GFrame.size) xst) (szR (Tm.size (.mk xfok xfon xfos xfot)) b) ∧ szR ((szL GFrame.size) xst) (szR (Tm.size (.mk xfok xfon xfos xfot)) b) ≤ 1048576 := by grind [szR]
  refine CallK.mk (szFrameS_sat xst hw.2.2.1 (szR (Tm.size (.mk xfok xfon xfos xfot)) b) (by grind [szR]) (by grind [szR])) ?_
  simp -implicitDefEqProofs (disch := omega) only [go_sem, ↓reduceIte, reduceCtorEq, Nat.reduceEqDiff, Nat.reduceLT, Nat.reduceLeDiff, Nat.reduceAdd, Nat.reduceSub, Nat.reduceMul, GMachine.enc, Tm.enc, encB, encI, encL, encS, List.cons_append, List.nil_append, List.append_nil]
  grind [szR]

theorem toMachine_sat (x : GMachine) (hs : x.size < 1048577) : Sat Try.prog 8 [aggV x.enc] (aggV x.enc) := by
  obtain ⟨⟨xfok, xfon, xfos, xfot⟩, xnx, xst, xrw⟩ := x
  simp only [GMachine.size, szI, szS] at hs
  refine sat_of_code tbOk mixed Try.func8 rfl rfl rfl (by decide +kernel) (by decide +kernel) (Nat.le_of_ble_eq_true rfl) ?_
  simp -implicitDefEqProofs (disch := omega) only [go_sem, ↓reduceIte, reduceCtorEq, Nat.reduceEqDiff, Nat.reduceLT, Nat.reduceLeDiff, Nat.reduceAdd, Nat.reduceSub, Nat.reduceMul, GMachine.enc, Tm.enc, encB, encI, encL, encS, List.cons_append, List.nil_append, List.append_nil]
  refine CallK.mk (toTerm_sat (.mk xfok xfon xfos xfot) (by omega)) ?_
  simp -implicitDefEqProofs (disch := omega) only [go_sem, ↓reduceIte, reduceCtorEq, Nat.reduceEqDiff, Nat.reduceLT, Nat.reduceLeDiff, Nat.reduceAdd, Nat.reduceSub, Nat.reduceMul, GMachine.enc, Tm.enc, encB, encI, encL, encS, List.cons_append, List.nil_append, List.append_nil]
  refine CallK.mk (toFrameS_sat xst (by omega)) ?_
  simp -implicitDefEqProofs (disch := omega) only [go_sem, ↓reduceIte, reduceCtorEq, Nat.reduceEqDiff, Nat.reduceLT, Nat.reduceLeDiff, Nat.reduceAdd, Nat.reduceSub, Nat.reduceMul, GMachine.enc, Tm.enc, encB, encI, encL, encS, List.cons_append, List.nil_append, List.append_nil]
  rfl

theorem eqMachine_sat (x : GMachine) (hw : x.wf) (y : GMachine) : Sat Try.prog 12 [aggV x.enc, aggV y.enc] (boolV (x.eqb y)) := by
  obtain ⟨r, hr⟩ : ∃ r, r = x.eqb y := ⟨_, rfl⟩
  rw [← hr]
  obtain ⟨⟨xfok, xfon, xfos, xfot⟩, xnx, xst, xrw⟩ := x
  obtain ⟨⟨yfok, yfon, yfos, yfot⟩, ynx, yst, yrw⟩ := y
  simp only [GMachine.wf] at hw
  simp only [GMachine.eqb, eqI, eqS, eqB] at hr
  refine sat_of_code tbOk mixed Try.func12 rfl rfl rfl (by decide +kernel) (by decide +kernel) (Nat.le_of_ble_eq_true rfl) ?_
  simp -implicitDefEqProofs (disch := omega) only [go_sem, ↓reduceIte, reduceCtorEq, Nat.reduceEqDiff, Nat.reduceLT, Nat.reduceLeDiff, Nat.reduceAdd, Nat.reduceSub, Nat.reduceMul, GMachine.enc, Tm.enc, encB, encI, encL, encS, List.cons_append, List.nil_append, List.append_nil]
  refine CallK.mk (eqTerm_sat (.mk xfok xfon xfos xfot) hw.1 (.mk yfok yfon yfos yfot)) ?_
  simp -implicitDefEqProofs (disch := omega) only [go_sem, ↓reduceIte, reduceCtorEq, Nat.reduceEqDiff, Nat.reduceLT, Nat.reduceLeDiff, Nat.reduceAdd, Nat.reduceSub, Nat.reduceMul, GMachine.enc, Tm.enc, encB, encI, encL, encS, List.cons_append, List.nil_append, List.append_nil]
  refine ⟨fun h0 => by grind, fun h0 => ?_⟩
  refine ⟨fun h1 => by grind, fun h1 => ?_⟩
  refine CallK.mk (eqFrameS_sat xst hw.2.2.1 yst) ?_
  simp -implicitDefEqProofs (disch := omega) only [go_sem, ↓reduceIte, reduceCtorEq, Nat.reduceEqDiff, Nat.reduceLT, Nat.reduceLeDiff, Nat.reduceAdd, Nat.reduceSub, Nat.reduceMul, GMachine.enc, Tm.enc, encB, encI, encL, encS, List.cons_append, List.nil_append, List.append_nil]
  refine ⟨fun h2 => by grind, fun h2 => ?_⟩
  grind

end Go.Ai
