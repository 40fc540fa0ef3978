/- Machines: marks; LoadMachine. Written by mk9.py. -/
import Derived.Test.YthaghkakjaengaaAiC3
import Derived.Test.YthaghkakjaengaaAiM3
import Derived.Test.YthaghkakjaengaaAiK1
import Derived.Test.YthaghkakjaengaaAiG1
namespace Go.Ai
set_option linter.unusedVariables false
set_option linter.unusedSimpArgs false
open Go.Proofs Go.RowKit
set_option maxRecDepth 100000

theorem GFrame.csz (x : GFrame) : cszCells x.enc = x.size := by simp only [GFrame.enc, GFrame.size, cszCells_append, Nat.add_assoc, Tm.csz, cszE_I]
theorem GFrame.nar (x : GFrame) : narCells x.enc := (narCells_append _ _ (Tm.nar x.t) (narE_I x.nx))

theorem markFrameS_nil (k : Int) : Sat Try.prog 71 [slV [], intV k] (intV k) := by
  refine sat_of_code tbOk mixed Try.func71 rfl rfl rfl (by decide +kernel) (by decide +kernel) (Nat.le_of_ble_eq_true rfl) ?_
  simp -implicitDefEqProofs (disch := omega) only [go_sem, ↓reduceIte, reduceCtorEq, Nat.reduceEqDiff, Nat.reduceLT, Nat.reduceLeDiff, Nat.reduceAdd, Nat.reduceSub, Nat.reduceMul, IntWalk.i64_in, AV.one.injEq, AC.c.injEq, C.v.injEq, Value.int.injEq, Value.bool.injEq, beq_self_eq_true, bne_self_eq_false]
  refine loopA_rule (ι := Unit) (fun _ => mk 53 [(0, slV []), (1, intV k), (5, intV 0)] []) (fun _ => True) (fun _ => 0) () trivial ?_ tbOk mixed (by decide +kernel) ?_
  · exact le_mk (by simp [go_sem]) (by simp [go_sem])
  · intro _ _
    simp -implicitDefEqProofs (disch := omega) only [go_sem, ↓reduceIte, reduceCtorEq, Nat.reduceEqDiff, Nat.reduceLT, Nat.reduceLeDiff, Nat.reduceAdd, Nat.reduceSub, Nat.reduceMul, IntWalk.i64_in, AV.one.injEq, AC.c.injEq, C.v.injEq, Value.int.injEq, Value.bool.injEq, beq_self_eq_true, bne_self_eq_false]
    intro h; omega
theorem markFrameS_sat (xs : List GFrame) (hw : wfL GFrame.wf xs) (k : Int) (h0 : 0 ≤ k) (h1 : (mkRows (xs.map GFrame.enc) k).2 ≤ 100000000) : SatM Try.prog 71 [.one (.m (.sl (xs.map GFrame.enc))), intV k] [.one (.m (.sl (mkRows (xs.map GFrame.enc) k).1)), intV k] (intV (mkRows (xs.map GFrame.enc) k).2) := by
  have hl := hw.1
  cases hx : xs with
  | nil => simpa [mkRows] using satM_nil (rest := [intV k]) rfl rfl (markFrameS_nil k)
  | cons x0 xs0 =>
    rw [← hx]
    simp only [maxLen] at hl
    obtain ⟨rows, hrows⟩ : ∃ rows, rows = xs.map GFrame.enc := ⟨_, rfl⟩
    have lr : rows.length = xs.length := by rw [hrows]; simp
    rw [← hrows] at h1 ⊢
    refine satM_slice 9001 5 tbOk mixed Try.func71 rfl rfl rfl (by decide +kernel) (by decide +kernel) (Nat.le_of_ble_eq_true rfl) rfl rfl (by rw [hrows, hx]; simp) (by rw [hrows]; simp [GFrame.enc_len]) (fun e => ?_)
    simp -implicitDefEqProofs (disch := omega) only [go_sem, ↓reduceIte, reduceCtorEq, Nat.reduceEqDiff, Nat.reduceLT, Nat.reduceLeDiff, Nat.reduceAdd, Nat.reduceSub, Nat.reduceMul, IntWalk.i64_in, AV.one.injEq, AC.c.injEq, C.v.injEq, Value.int.injEq, Value.bool.injEq, beq_self_eq_true, bne_self_eq_false]
    obtain ⟨G, hG⟩ : ∃ G, G = rows.map fun q => q.map mC := ⟨_, rfl⟩
    obtain ⟨Fr, hFr⟩ : ∃ Fr, Fr = (mkRows rows k).1.map fun q => q.map mC := ⟨_, rfl⟩
    have lG : G.length = rows.length := by rw [hG]; simp
    have lF : Fr.length = G.length := by rw [hFr, lG]; simp [mkRows_len]
    have iF : ∀ lb r, r ∈ Fr → ∀ a, a ∈ r → inC lb a := fun lb => by rw [hFr]; exact mrows_in lb
    have iG : ∀ lb r, r ∈ G → ∀ a, a ∈ r → inC lb a := fun lb => by rw [hG]; exact mrows_in lb
    have nF : noD Fr = true := by rw [hFr]; exact mrows_noD
    have nG : noD G = true := by rw [hG]; exact mrows_noD
    rw [← hG]
    refine loopW_rule (ι := Nat) (fun i => mk 53 [(0, .one (.own 9001 rows.length)), (1, intV (kAt rows k i)), (5, intV i)] [(9001, .arr e 5 (turnR Fr G i) false)] [.one (.own 9001 rows.length)]) (fun i => i ≤ rows.length) (fun i => rows.length - i) 0 (Nat.zero_le _) ?_ tbOk mixed (by decide +kernel) ?_
    · exact le_mk (by simp [go_sem, kAt_zero]) (by simp only [leB, lookB_cons, if_true, inB, turnR_zero, true_and, and_true]; exact iG _)
    · intro i hi
      have hlen := turnR_len (i := i) lF (by omega)
      rcases Nat.lt_or_ge i rows.length with hlt | hge
      · have hi' : i < G.length := by omega
        obtain ⟨hm, eM, eK⟩ := mkRows_at rows k i hlt
        have hb1 := kAt_cnt rows k i
        have hb2 := cntRows_get rows i hlt
        have hb3 := mkRows_cnt rows k
        have hb4 := mkCells_cnt rows[i] (kAt rows k i)
        have ex : rows[i] = GFrame.enc (xs[i]'(by omega)) := by simp [hrows]
        have hw' := hw.2 _ (List.getElem_mem (show i < xs.length by omega))
        generalize xs[i]'(by omega) = x at ex hw'
        obtain ⟨⟨xtk, xtn, xts, xtt⟩, xnx⟩ := x
        simp only [GFrame.wf] at hw'
        rw [ex] at eM eK hb2 hb4
        simp only [GFrame.enc, Tm.enc, encB, encI, encL, encS, List.cons_append, List.nil_append, List.append_nil, mkCells, mkC] at eM eK hb2 hb4
        generalize hK : kAt rows k i = K at eM eK hb1 hb4
        have hKn : 0 ≤ K := by omega
        have hc3 := mkRows_cnt (Tm.encs xtt) (((K + 1) + 1) + 1)
        have eG : G[i] = [iC xtk, iC xtn, sC xts, .m (.sl (Tm.encs xtt)), iC xnx] := by simp [hG, ex, GFrame.enc, Tm.enc, encB, encI, encL, encS, List.cons_append, List.nil_append, List.append_nil, mC]
        have eF : Fr[i]'(by omega) = [iC K, iC (K + 1), sC (mtext ((K + 1) + 1)), .m (.sl (mkRows (Tm.encs xtt) (((K + 1) + 1) + 1)).1), iC (mkRows (Tm.encs xtt) (((K + 1) + 1) + 1)).2] := by simp [hFr, eM, mC]
        have hfin := turnS_turnR lF hi'
        rw [eF] at hfin
        have sl := fun r => turnS_len lF hi' r
        have sg := fun r => turnS_get lF hi' r
        rw [turnR_eq lF hi' eG]
        refine ⟨_, (wk_takeS (l := 9001) (T := 9103) (c := 3) lF hi' rfl rfl rfl (by exact turnS_noD nF nG rfl)), ?_⟩
        simp -implicitDefEqProofs (disch := omega) only [go_sem, ↓reduceIte, reduceCtorEq, Nat.reduceEqDiff, Nat.reduceLT, Nat.reduceLeDiff, Nat.reduceAdd, Nat.reduceSub, Nat.reduceMul, IntWalk.i64_in, AV.one.injEq, AC.c.injEq, C.v.injEq, Value.int.injEq, Value.bool.injEq, beq_self_eq_true, bne_self_eq_false, sl, sg, turnS_set, lG, hlt, List.forall_mem_cons, List.not_mem_nil, Tm.args]
        refine CallK.bor (markText_sat ((K + 1) + 1) (by omega)) rfl ?_
        simp -implicitDefEqProofs (disch := omega) only [go_sem, ↓reduceIte, reduceCtorEq, Nat.reduceEqDiff, Nat.reduceLT, Nat.reduceLeDiff, Nat.reduceAdd, Nat.reduceSub, Nat.reduceMul, IntWalk.i64_in, AV.one.injEq, AC.c.injEq, C.v.injEq, Value.int.injEq, Value.bool.injEq, beq_self_eq_true, bne_self_eq_false, sl, sg, turnS_set, lG, hlt, List.forall_mem_cons, List.not_mem_nil, Tm.args]
        refine CallK.mut (markTermS_tm (.mk xtk xtn xts xtt) hw'.1 (((K + 1) + 1) + 1) (by omega) (by simp only [Tm.args]; omega)) ?_
        simp -implicitDefEqProofs (disch := omega) only [go_sem, ↓reduceIte, reduceCtorEq, Nat.reduceEqDiff, Nat.reduceLT, Nat.reduceLeDiff, Nat.reduceAdd, Nat.reduceSub, Nat.reduceMul, IntWalk.i64_in, AV.one.injEq, AC.c.injEq, C.v.injEq, Value.int.injEq, Value.bool.injEq, beq_self_eq_true, bne_self_eq_false, sl, sg, turnS_set, lG, hlt, List.forall_mem_cons, List.not_mem_nil, Tm.args]
        refine ⟨i + 1, hlt, by omega, ((wk_giveS (l := 9001) (T := 9103) (c := 3) lF hi' rfl rfl rfl).trans (le_mk (by simp [go_sem, eK]) ?_))⟩
        simp only [leB, lookB_cons, if_true, inB, true_and, and_true]
        exact ⟨by rw [← hfin] <;> rfl, turnR_in (iF _) (iG _)⟩
      · have : i = rows.length := by omega
        subst this
        refine ⟨_, Wk.refl _, ?_⟩
        simp -implicitDefEqProofs (disch := omega) only [go_sem, ↓reduceIte, reduceCtorEq, Nat.reduceEqDiff, Nat.reduceLT, Nat.reduceLeDiff, Nat.reduceAdd, Nat.reduceSub, Nat.reduceMul, IntWalk.i64_in, AV.one.injEq, AC.c.injEq, C.v.injEq, Value.int.injEq, Value.bool.injEq, beq_self_eq_true, bne_self_eq_false, hlen, lG, Nat.lt_irrefl, kAt_all]
        exact turnedRow_mk rfl (by rw [turnR_end lF lG.symm, hFr]) (by rw [mkRows_len]) rfl

theorem heldFrameS_sat (xs : List GFrame) (hw : wfL GFrame.wf xs) (k : Int) (h0 : 0 ≤ k) (h1 : (mkRows (xs.map GFrame.enc) k).2 ≤ 100000000) : Sat Try.prog 73 [slV (mkRows (xs.map GFrame.enc) k).1, intV k] (intV (mkRows (xs.map GFrame.enc) k).2) := by
  have hl := hw.1
  simp only [maxLen] at hl
  obtain ⟨rows, hrows⟩ : ∃ rows, rows = xs.map GFrame.enc := ⟨_, rfl⟩
  have lr : rows.length = xs.length := by rw [hrows]; simp
  rw [← hrows] at h1 ⊢
  have lM := mkRows_len rows k
  obtain ⟨M, hM⟩ : ∃ M, M = (mkRows rows k).1 := ⟨_, rfl⟩
  rw [← hM] at lM ⊢
  refine sat_of_code tbOk mixed Try.func73 rfl rfl rfl (by decide +kernel) (by decide +kernel) (Nat.le_of_ble_eq_true rfl) ?_
  simp -implicitDefEqProofs (disch := omega) only [go_sem, ↓reduceIte, reduceCtorEq, Nat.reduceEqDiff, Nat.reduceLT, Nat.reduceLeDiff, Nat.reduceAdd, Nat.reduceSub, Nat.reduceMul, IntWalk.i64_in, AV.one.injEq, AC.c.injEq, C.v.injEq, Value.int.injEq, Value.bool.injEq, beq_self_eq_true, bne_self_eq_false]
  refine loopA_rule (ι := Nat) (fun i => mk 63 [(0, slV M), (1, intV (kAt rows k i)), (5, intV i)] []) (fun i => i ≤ rows.length) (fun i => rows.length - i) 0 (Nat.zero_le _) ?_ tbOk mixed (by decide +kernel) ?_
  · exact le_mk (by simp [go_sem, kAt_zero]) (by simp [go_sem])
  · intro i hi
    rcases Nat.lt_or_ge i rows.length with hlt | hge
    · obtain ⟨hm, eM, eK⟩ := mkRows_at rows k i hlt
      have hb1 := kAt_cnt rows k i
      have hb2 := cntRows_get rows i hlt
      have hb3 := mkRows_cnt rows k
      have hb4 := mkCells_cnt rows[i] (kAt rows k i)
      have ex : rows[i] = GFrame.enc (xs[i]'(by omega)) := by simp [hrows]
      have hw' := hw.2 _ (List.getElem_mem (show i < xs.length by omega))
      generalize xs[i]'(by omega) = x at ex hw'
      obtain ⟨⟨xtk, xtn, xts, xtt⟩, xnx⟩ := x
      simp only [GFrame.wf] at hw'
      rw [ex] at eM eK hb2 hb4
      simp only [GFrame.enc, Tm.enc, encB, encI, encL, encS, List.cons_append, List.nil_append, List.append_nil, mkCells, mkC] at eM eK hb2 hb4
      generalize hK : kAt rows k i = K at eM eK hb1 hb4
      have hKn : 0 ≤ K := by omega
      have hc3 := mkRows_cnt (Tm.encs xtt) (((K + 1) + 1) + 1)
      have hg : M.getD i [] = [.v (.int .i64 K), .v (.int .i64 (K + 1)), .v (.string (mtext ((K + 1) + 1))), .sl (mkRows (Tm.encs xtt) (((K + 1) + 1) + 1)).1, .v (.int .i64 (mkRows (Tm.encs xtt) (((K + 1) + 1) + 1)).2)] := by
        rw [hM, List.getD_eq_getElem?_getD, List.getElem?_eq_getElem hm, eM]; rfl
      have hlt2 : i < M.length := by omega
      simp -implicitDefEqProofs (disch := omega) only [go_sem, ↓reduceIte, reduceCtorEq, Nat.reduceEqDiff, Nat.reduceLT, Nat.reduceLeDiff, Nat.reduceAdd, Nat.reduceSub, Nat.reduceMul, IntWalk.i64_in, AV.one.injEq, AC.c.injEq, C.v.injEq, Value.int.injEq, Value.bool.injEq, beq_self_eq_true, bne_self_eq_false, hg, hlt, lM, hlt2]
      refine CallK.bor (markText_sat ((K + 1) + 1) (by omega)) rfl ?_
      simp -implicitDefEqProofs (disch := omega) only [go_sem, ↓reduceIte, reduceCtorEq, Nat.reduceEqDiff, Nat.reduceLT, Nat.reduceLeDiff, Nat.reduceAdd, Nat.reduceSub, Nat.reduceMul, IntWalk.i64_in, AV.one.injEq, AC.c.injEq, C.v.injEq, Value.int.injEq, Value.bool.injEq, beq_self_eq_true, bne_self_eq_false, hg, hlt, lM, hlt2]
      refine CallK.bor (heldTermS_tm (.mk xtk xtn xts xtt) hw'.1 (((K + 1) + 1) + 1) (by omega) (by simp only [Tm.args]; omega)) rfl ?_
      simp -implicitDefEqProofs (disch := omega) only [go_sem, ↓reduceIte, reduceCtorEq, Nat.reduceEqDiff, Nat.reduceLT, Nat.reduceLeDiff, Nat.reduceAdd, Nat.reduceSub, Nat.reduceMul, IntWalk.i64_in, AV.one.injEq, AC.c.injEq, C.v.injEq, Value.int.injEq, Value.bool.injEq, beq_self_eq_true, bne_self_eq_false, hg, hlt, lM, hlt2, Tm.args]
      refine ⟨fun h => by omega, fun _ => ?_⟩
      exact ⟨i + 1, hlt, by omega, le_mk (by simp [go_sem, eK]) (by simp [go_sem])⟩
    · have : i = rows.length := by omega
      subst this
      simp -implicitDefEqProofs (disch := omega) only [go_sem, ↓reduceIte, reduceCtorEq, Nat.reduceEqDiff, Nat.reduceLT, Nat.reduceLeDiff, Nat.reduceAdd, Nat.reduceSub, Nat.reduceMul, IntWalk.i64_in, AV.one.injEq, AC.c.injEq, C.v.injEq, Value.int.injEq, Value.bool.injEq, beq_self_eq_true, bne_self_eq_false, lM, Nat.lt_irrefl, kAt_all]

theorem GMachine.csz (x : GMachine) : cszCells x.enc = x.size := by simp only [GMachine.enc, GMachine.size, cszCells_append, Nat.add_assoc, Tm.csz, cszE_I, cszL_of GFrame.csz]
theorem GMachine.nar (x : GMachine) : narCells x.enc := (narCells_append _ _ (Tm.nar x.fo) (narCells_append _ _ (narE_I x.nx) (narCells_append _ _ (narL_of (fun y => ⟨by rw [GFrame.enc_len]; omega, GFrame.nar y⟩) x.st) (narE_I x.rw))))

theorem markMachine_sat (xfok : Int) (xfon : Int) (xfos : ByteArray) (xfot : List Tm) (xnx : Int) (xst : List GFrame) (xrw : Int) (hw : (⟨⟨xfok, xfon, xfos, xfot⟩, xnx, xst, xrw⟩ : GMachine).wf) (k : Int) (h0 : 0 ≤ k) (h1 : (mkRows (xst.map GFrame.enc) (mkRows (Tm.encs xfot) k).2).2 ≤ 100000000) : SatM Try.prog 38 [.agg [iC xfok, iC xfon, sC xfos, .m (.sl (Tm.encs xfot)), iC xnx, .m (.sl (xst.map GFrame.enc)), iC xrw], intV k] [.agg [iC xfok, iC xfon, sC xfos, .m (.sl (mkRows (Tm.encs xfot) k).1), iC xnx, .m (.sl (mkRows (xst.map GFrame.enc) (mkRows (Tm.encs xfot) k).2).1), iC xrw], intV k] (intV (mkRows (xst.map GFrame.enc) (mkRows (Tm.encs xfot) k).2).2) := by
  simp only [GMachine.wf] at hw
  have hc3 := mkRows_cnt (Tm.encs xfot) k
  have hc5 := mkRows_cnt (xst.map GFrame.enc) (mkRows (Tm.encs xfot) k).2
  refine satM_of_code 9000 tbOk mixed Try.func38 rfl rfl rfl (by decide +kernel) (by decide +kernel) (Nat.le_of_ble_eq_true rfl) rfl rfl rfl ?_
  simp -implicitDefEqProofs (disch := omega) only [go_sem, ↓reduceIte, reduceCtorEq, Nat.reduceEqDiff, Nat.reduceLT, Nat.reduceLeDiff, Nat.reduceAdd, Nat.reduceSub, Nat.reduceMul, IntWalk.i64_in, AV.one.injEq, AC.c.injEq, C.v.injEq, Value.int.injEq, Value.bool.injEq, beq_self_eq_true, bne_self_eq_false]
  refine CallK.mut (markTerm_sat xfok xfon xfos xfot hw.1 k (by omega) (by omega)) ?_
  simp -implicitDefEqProofs (disch := omega) only [go_sem, ↓reduceIte, reduceCtorEq, Nat.reduceEqDiff, Nat.reduceLT, Nat.reduceLeDiff, Nat.reduceAdd, Nat.reduceSub, Nat.reduceMul, IntWalk.i64_in, AV.one.injEq, AC.c.injEq, C.v.injEq, Value.int.injEq, Value.bool.injEq, beq_self_eq_true, bne_self_eq_false, Tm.args]
  refine CallK.mut (markFrameS_sat xst hw.2.2.1 (mkRows (Tm.encs xfot) k).2 (by omega) (by omega)) ?_
  simp -implicitDefEqProofs (disch := omega) only [go_sem, ↓reduceIte, reduceCtorEq, Nat.reduceEqDiff, Nat.reduceLT, Nat.reduceLeDiff, Nat.reduceAdd, Nat.reduceSub, Nat.reduceMul, IntWalk.i64_in, AV.one.injEq, AC.c.injEq, C.v.injEq, Value.int.injEq, Value.bool.injEq, beq_self_eq_true, bne_self_eq_false, Tm.args]

theorem heldMachine_sat (xfok : Int) (xfon : Int) (xfos : ByteArray) (xfot : List Tm) (xnx : Int) (xst : List GFrame) (xrw : Int) (hw : (⟨⟨xfok, xfon, xfos, xfot⟩, xnx, xst, xrw⟩ : GMachine).wf) (k : Int) (h0 : 0 ≤ k) (h1 : (mkRows (xst.map GFrame.enc) (mkRows (Tm.encs xfot) k).2).2 ≤ 100000000) : Sat Try.prog 39 [.agg [iC xfok, iC xfon, sC xfos, .c (.sl (mkRows (Tm.encs xfot) k).1), iC xnx, .c (.sl (mkRows (xst.map GFrame.enc) (mkRows (Tm.encs xfot) k).2).1), iC xrw], intV k] (intV (mkRows (xst.map GFrame.enc) (mkRows (Tm.encs xfot) k).2).2) := by
  simp only [GMachine.wf] at hw
  have hc3 := mkRows_cnt (Tm.encs xfot) k
  have hc5 := mkRows_cnt (xst.map GFrame.enc) (mkRows (Tm.encs xfot) k).2
  refine sat_of_code tbOk mixed Try.func39 rfl rfl rfl (by decide +kernel) (by decide +kernel) (Nat.le_of_ble_eq_true rfl) ?_
  simp -implicitDefEqProofs (disch := omega) only [go_sem, ↓reduceIte, reduceCtorEq, Nat.reduceEqDiff, Nat.reduceLT, Nat.reduceLeDiff, Nat.reduceAdd, Nat.reduceSub, Nat.reduceMul, IntWalk.i64_in, AV.one.injEq, AC.c.injEq, C.v.injEq, Value.int.injEq, Value.bool.injEq, beq_self_eq_true, bne_self_eq_false]
  refine CallK.bor (heldTerm_sat xfok xfon xfos xfot hw.1 k (by omega) (by omega)) rfl ?_
  simp -implicitDefEqProofs (disch := omega) only [go_sem, ↓reduceIte, reduceCtorEq, Nat.reduceEqDiff, Nat.reduceLT, Nat.reduceLeDiff, Nat.reduceAdd, Nat.reduceSub, Nat.reduceMul, IntWalk.i64_in, AV.one.injEq, AC.c.injEq, C.v.injEq, Value.int.injEq, Value.bool.injEq, beq_self_eq_true, bne_self_eq_false, Tm.args]
  refine ⟨fun h => by omega, fun _ => ?_⟩
  refine CallK.bor (heldFrameS_sat xst hw.2.2.1 (mkRows (Tm.encs xfot) k).2 (by omega) (by omega)) rfl ?_
  simp -implicitDefEqProofs (disch := omega) only [go_sem, ↓reduceIte, reduceCtorEq, Nat.reduceEqDiff, Nat.reduceLT, Nat.reduceLeDiff, Nat.reduceAdd, Nat.reduceSub, Nat.reduceMul, IntWalk.i64_in, AV.one.injEq, AC.c.injEq, C.v.injEq, Value.int.injEq, Value.bool.injEq, beq_self_eq_true, bne_self_eq_false, Tm.args]
  omega

def loadG (t : Tm) : GMachine := ⟨t, 0, [], 0⟩
theorem specLoadMachine_sat (t : Tm) (h : t.size < 1048577) : Sat Try.prog 33 [tmV t] (aggV (loadG t).enc) := by
  have hc := l3Copy_sat t h
  obtain ⟨k, n, s, ts⟩ := t
  refine sat_of_code tbOk mixed Try.func33 rfl rfl rfl (by decide +kernel) (by decide +kernel) (Nat.le_of_ble_eq_true rfl) ?_
  simp -implicitDefEqProofs (disch := omega) only [go_sem, ↓reduceIte, reduceCtorEq, Nat.reduceEqDiff, Nat.reduceLT, Nat.reduceLeDiff, Nat.reduceAdd, Nat.reduceSub, Nat.reduceMul, IntWalk.i64_in, AV.one.injEq, AC.c.injEq, C.v.injEq, Value.int.injEq, Value.bool.injEq, beq_self_eq_true, bne_self_eq_false, Tm.enc]
  refine CallK.mk hc ?_
  simp -implicitDefEqProofs (disch := omega) only [go_sem, ↓reduceIte, reduceCtorEq, Nat.reduceEqDiff, Nat.reduceLT, Nat.reduceLeDiff, Nat.reduceAdd, Nat.reduceSub, Nat.reduceMul, IntWalk.i64_in, AV.one.injEq, AC.c.injEq, C.v.injEq, Value.int.injEq, Value.bool.injEq, beq_self_eq_true, bne_self_eq_false, Tm.enc, loadG, GMachine.enc, encI, encL, List.map_nil, List.cons_append, List.nil_append, List.append_nil]
  rfl
theorem implLoadMachineF_sat (t : Tm) (h : t.size < 1048577) : SatF Try.prog 35 [tmV t] (aggV (loadG t).enc) := by
  have hc := copyTermF_sat t (by omega)
  obtain ⟨k, n, s, ts⟩ := t
  refine satF_of_code [_] rfl (fun _ h => by cases h) tbOk mixed Try.func35 rfl rfl rfl (by decide +kernel) (by decide +kernel) (Nat.le_of_ble_eq_true rfl) ?_
  simp -implicitDefEqProofs (disch := omega) only [go_sem, ↓reduceIte, reduceCtorEq, Nat.reduceEqDiff, Nat.reduceLT, Nat.reduceLeDiff, Nat.reduceAdd, Nat.reduceSub, Nat.reduceMul, IntWalk.i64_in, AV.one.injEq, AC.c.injEq, C.v.injEq, Value.int.injEq, Value.bool.injEq, beq_self_eq_true, bne_self_eq_false, Tm.enc]
  refine CallK.own hc rfl ?_
  simp -implicitDefEqProofs (disch := omega) only [go_sem, ↓reduceIte, reduceCtorEq, Nat.reduceEqDiff, Nat.reduceLT, Nat.reduceLeDiff, Nat.reduceAdd, Nat.reduceSub, Nat.reduceMul, IntWalk.i64_in, AV.one.injEq, AC.c.injEq, C.v.injEq, Value.int.injEq, Value.bool.injEq, beq_self_eq_true, bne_self_eq_false, Tm.enc, loadG, GMachine.enc, encI, encL, List.map_nil, List.cons_append, List.nil_append, List.append_nil]

theorem lawLoadMachine_sat (x : Tm) (hw_x : Tm.wf x) : Sat Try.prog 8 [tmV x] (boolV true) := by
  refine sat_of_code tbOk mixed Try.func8 rfl rfl rfl (by decide +kernel) (by decide +kernel) (Nat.le_of_ble_eq_true rfl) ?_
  simp -implicitDefEqProofs (disch := omega) only [go_sem, ↓reduceIte, reduceCtorEq, Nat.reduceEqDiff, Nat.reduceLT, Nat.reduceLeDiff, Nat.reduceAdd, Nat.reduceSub, Nat.reduceMul, IntWalk.i64_in, AV.one.injEq, AC.c.injEq, C.v.injEq, Value.int.injEq, Value.bool.injEq, beq_self_eq_true, bne_self_eq_false]
  refine CallK.mk (szTerm_sat x hw_x 1048576 (by grind [szR]) (by grind [szR])) ?_
  simp -implicitDefEqProofs (disch := omega) only [go_sem, ↓reduceIte, reduceCtorEq, Nat.reduceEqDiff, Nat.reduceLT, Nat.reduceLeDiff, Nat.reduceAdd, Nat.reduceSub, Nat.reduceMul, IntWalk.i64_in, AV.one.injEq, AC.c.injEq, C.v.injEq, Value.int.injEq, Value.bool.injEq, beq_self_eq_true, bne_self_eq_false]
  intro hz_x
  have hs_x : x.size < 1048577 := by grind [szR]
  obtain ⟨R0, hRe⟩ : ∃ R, R = loadG x := ⟨_, rfl⟩
  have hRw0 : R0.wf := by
    rw [hRe]
    exact ⟨hw_x, wfI_of 0 (by omega) (by omega), ⟨Nat.zero_le _, fun _ h => by cases h⟩, wfI_of 0 (by omega) (by omega)⟩
  have hRs0 : R0.size ≤ 1500000 := by
    rw [hRe]
    show x.size + szI 0 + szL GFrame.size [] + szI 0 ≤ _
    simp only [szI, szL]; omega
  have hsp := specLoadMachine_sat x hs_x
  have him := implLoadMachineF_sat x hs_x
  rw [← hRe] at hsp him
  refine CallK.mk (toTerm_sat x hs_x) ?_
  simp -implicitDefEqProofs (disch := omega) only [go_sem, ↓reduceIte, reduceCtorEq, Nat.reduceEqDiff, Nat.reduceLT, Nat.reduceLeDiff, Nat.reduceAdd, Nat.reduceSub, Nat.reduceMul, IntWalk.i64_in, AV.one.injEq, AC.c.injEq, C.v.injEq, Value.int.injEq, Value.bool.injEq, beq_self_eq_true, bne_self_eq_false, and_self]
  refine CallK.mk (hsp) ?_
  simp -implicitDefEqProofs (disch := omega) only [go_sem, ↓reduceIte, reduceCtorEq, Nat.reduceEqDiff, Nat.reduceLT, Nat.reduceLeDiff, Nat.reduceAdd, Nat.reduceSub, Nat.reduceMul, IntWalk.i64_in, AV.one.injEq, AC.c.injEq, C.v.injEq, Value.int.injEq, Value.bool.injEq, beq_self_eq_true, bne_self_eq_false, and_self]
  have toX_x := toTerm_sat x hs_x
  have toF_x := toTermF_sat x hs_x
  have eqX_x := eqTerm_sat x hw_x x
  have reX_x := Tm.eqb_refl x
  have hq_x : cntTop x.enc ≤ 64 * x.size + 64 := by
    have h1 := cntTop_le x.enc
    have h2 := cntCells_le x.enc (Tm.nar x)
    rw [Tm.csz] at h2
    have h3 := enc_len x
    omega
  have implF := him
  have eqR_0 := eqMachine_sat R0 hRw0 R0
  have reR_0 := GMachine.eqb_refl R0
  have hqR_0 : cntTop R0.enc ≤ 64 * R0.size + 64 := by
    have h1 := cntTop_le R0.enc
    have h2 := cntCells_le R0.enc (GMachine.nar R0)
    rw [GMachine.csz] at h2
    have h3 := GMachine.enc_len R0
    omega
  obtain ⟨xk, xn, xs, xt⟩ := x
  simp only [GMachine.enc, Tm.enc, encB, encI, encL, encS, List.cons_append, List.nil_append, List.append_nil, Tm.args, cntTop] at hq_x
  obtain ⟨⟨R0fok, R0fon, R0fos, R0fot⟩, R0nx, R0st, R0rw⟩ := R0
  simp only [GMachine.enc, Tm.enc, encB, encI, encL, encS, List.cons_append, List.nil_append, List.append_nil, Tm.args, cntTop] at hqR_0
  have hc_x_x := mkRows_cnt (Tm.encs xt) 1
  have hcR_0_R0fo := mkRows_cnt (Tm.encs R0fot) 1
  have hcR_0_R0st := mkRows_cnt (R0st.map GFrame.enc) (mkRows (Tm.encs R0fot) 1).2
  refine CallK.own toF_x rfl ?_
  simp -implicitDefEqProofs (disch := omega) only [go_sem, ↓reduceIte, reduceCtorEq, Nat.reduceEqDiff, Nat.reduceLT, Nat.reduceLeDiff, Nat.reduceAdd, Nat.reduceSub, Nat.reduceMul, IntWalk.i64_in, AV.one.injEq, AC.c.injEq, C.v.injEq, Value.int.injEq, Value.bool.injEq, beq_self_eq_true, bne_self_eq_false, GMachine.enc, Tm.enc, encB, encI, encL, encS, List.cons_append, List.nil_append, List.append_nil, Tm.args]
  refine CallK.own implF rfl ?_
  simp -implicitDefEqProofs (disch := omega) only [go_sem, ↓reduceIte, reduceCtorEq, Nat.reduceEqDiff, Nat.reduceLT, Nat.reduceLeDiff, Nat.reduceAdd, Nat.reduceSub, Nat.reduceMul, IntWalk.i64_in, AV.one.injEq, AC.c.injEq, C.v.injEq, Value.int.injEq, Value.bool.injEq, beq_self_eq_true, bne_self_eq_false, GMachine.enc, Tm.enc, encB, encI, encL, encS, List.cons_append, List.nil_append, List.append_nil, Tm.args]
  refine CallK.bor eqR_0 rfl ?_
  simp -implicitDefEqProofs (disch := omega) only [go_sem, ↓reduceIte, reduceCtorEq, Nat.reduceEqDiff, Nat.reduceLT, Nat.reduceLeDiff, Nat.reduceAdd, Nat.reduceSub, Nat.reduceMul, IntWalk.i64_in, AV.one.injEq, AC.c.injEq, C.v.injEq, Value.int.injEq, Value.bool.injEq, beq_self_eq_true, bne_self_eq_false, GMachine.enc, Tm.enc, encB, encI, encL, encS, List.cons_append, List.nil_append, List.append_nil, Tm.args, reR_0]
  refine CallK.mk toX_x ?_
  simp -implicitDefEqProofs (disch := omega) only [go_sem, ↓reduceIte, reduceCtorEq, Nat.reduceEqDiff, Nat.reduceLT, Nat.reduceLeDiff, Nat.reduceAdd, Nat.reduceSub, Nat.reduceMul, IntWalk.i64_in, AV.one.injEq, AC.c.injEq, C.v.injEq, Value.int.injEq, Value.bool.injEq, beq_self_eq_true, bne_self_eq_false, GMachine.enc, Tm.enc, encB, encI, encL, encS, List.cons_append, List.nil_append, List.append_nil, Tm.args]
  refine CallK.bor eqX_x rfl ?_
  simp -implicitDefEqProofs (disch := omega) only [go_sem, ↓reduceIte, reduceCtorEq, Nat.reduceEqDiff, Nat.reduceLT, Nat.reduceLeDiff, Nat.reduceAdd, Nat.reduceSub, Nat.reduceMul, IntWalk.i64_in, AV.one.injEq, AC.c.injEq, C.v.injEq, Value.int.injEq, Value.bool.injEq, beq_self_eq_true, bne_self_eq_false, GMachine.enc, Tm.enc, encB, encI, encL, encS, List.cons_append, List.nil_append, List.append_nil, Tm.args, reX_x]
  refine CallK.mut (markTerm_sat xk xn xs xt hw_x 1 (by omega) (by omega)) ?_
  simp -implicitDefEqProofs (disch := omega) only [go_sem, ↓reduceIte, reduceCtorEq, Nat.reduceEqDiff, Nat.reduceLT, Nat.reduceLeDiff, Nat.reduceAdd, Nat.reduceSub, Nat.reduceMul, IntWalk.i64_in, AV.one.injEq, AC.c.injEq, C.v.injEq, Value.int.injEq, Value.bool.injEq, beq_self_eq_true, bne_self_eq_false, GMachine.enc, Tm.enc, encB, encI, encL, encS, List.cons_append, List.nil_append, List.append_nil, Tm.args]
  refine ⟨fun _ => ?_, fun h => by omega⟩
  refine CallK.bor eqR_0 rfl ?_
  simp -implicitDefEqProofs (disch := omega) only [go_sem, ↓reduceIte, reduceCtorEq, Nat.reduceEqDiff, Nat.reduceLT, Nat.reduceLeDiff, Nat.reduceAdd, Nat.reduceSub, Nat.reduceMul, IntWalk.i64_in, AV.one.injEq, AC.c.injEq, C.v.injEq, Value.int.injEq, Value.bool.injEq, beq_self_eq_true, bne_self_eq_false, GMachine.enc, Tm.enc, encB, encI, encL, encS, List.cons_append, List.nil_append, List.append_nil, Tm.args, reR_0]
  refine CallK.mut (markMachine_sat R0fok R0fon R0fos R0fot R0nx R0st R0rw hRw0 1 (by omega) (by omega)) ?_
  simp -implicitDefEqProofs (disch := omega) only [go_sem, ↓reduceIte, reduceCtorEq, Nat.reduceEqDiff, Nat.reduceLT, Nat.reduceLeDiff, Nat.reduceAdd, Nat.reduceSub, Nat.reduceMul, IntWalk.i64_in, AV.one.injEq, AC.c.injEq, C.v.injEq, Value.int.injEq, Value.bool.injEq, beq_self_eq_true, bne_self_eq_false, GMachine.enc, Tm.enc, encB, encI, encL, encS, List.cons_append, List.nil_append, List.append_nil, Tm.args]
  refine CallK.bor (heldMachine_sat R0fok R0fon R0fos R0fot R0nx R0st R0rw hRw0 1 (by omega) (by omega)) rfl ?_
  simp -implicitDefEqProofs (disch := omega) only [go_sem, ↓reduceIte, reduceCtorEq, Nat.reduceEqDiff, Nat.reduceLT, Nat.reduceLeDiff, Nat.reduceAdd, Nat.reduceSub, Nat.reduceMul, IntWalk.i64_in, AV.one.injEq, AC.c.injEq, C.v.injEq, Value.int.injEq, Value.bool.injEq, beq_self_eq_true, bne_self_eq_false, GMachine.enc, Tm.enc, encB, encI, encL, encS, List.cons_append, List.nil_append, List.append_nil, Tm.args]
  refine ⟨fun h => by omega, fun _ => ?_⟩
  refine CallK.mk toX_x ?_
  simp -implicitDefEqProofs (disch := omega) only [go_sem, ↓reduceIte, reduceCtorEq, Nat.reduceEqDiff, Nat.reduceLT, Nat.reduceLeDiff, Nat.reduceAdd, Nat.reduceSub, Nat.reduceMul, IntWalk.i64_in, AV.one.injEq, AC.c.injEq, C.v.injEq, Value.int.injEq, Value.bool.injEq, beq_self_eq_true, bne_self_eq_false, GMachine.enc, Tm.enc, encB, encI, encL, encS, List.cons_append, List.nil_append, List.append_nil, Tm.args]
  refine CallK.mk implF.sat ?_
  simp -implicitDefEqProofs (disch := omega) only [go_sem, ↓reduceIte, reduceCtorEq, Nat.reduceEqDiff, Nat.reduceLT, Nat.reduceLeDiff, Nat.reduceAdd, Nat.reduceSub, Nat.reduceMul, IntWalk.i64_in, AV.one.injEq, AC.c.injEq, C.v.injEq, Value.int.injEq, Value.bool.injEq, beq_self_eq_true, bne_self_eq_false, GMachine.enc, Tm.enc, encB, encI, encL, encS, List.cons_append, List.nil_append, List.append_nil, Tm.args]
  refine CallK.bor eqR_0 rfl ?_
  simp -implicitDefEqProofs (disch := omega) only [go_sem, ↓reduceIte, reduceCtorEq, Nat.reduceEqDiff, Nat.reduceLT, Nat.reduceLeDiff, Nat.reduceAdd, Nat.reduceSub, Nat.reduceMul, IntWalk.i64_in, AV.one.injEq, AC.c.injEq, C.v.injEq, Value.int.injEq, Value.bool.injEq, beq_self_eq_true, bne_self_eq_false, GMachine.enc, Tm.enc, encB, encI, encL, encS, List.cons_append, List.nil_append, List.append_nil, Tm.args, reR_0]
  refine CallK.bor (heldMachine_sat R0fok R0fon R0fos R0fot R0nx R0st R0rw hRw0 1 (by omega) (by omega)) rfl ?_
  simp -implicitDefEqProofs (disch := omega) only [go_sem, ↓reduceIte, reduceCtorEq, Nat.reduceEqDiff, Nat.reduceLT, Nat.reduceLeDiff, Nat.reduceAdd, Nat.reduceSub, Nat.reduceMul, IntWalk.i64_in, AV.one.injEq, AC.c.injEq, C.v.injEq, Value.int.injEq, Value.bool.injEq, beq_self_eq_true, bne_self_eq_false, GMachine.enc, Tm.enc, encB, encI, encL, encS, List.cons_append, List.nil_append, List.append_nil, Tm.args]
  first | (intro h; omega) | exact ⟨fun h => by omega, fun _ => trivial⟩
end Go.Ai
