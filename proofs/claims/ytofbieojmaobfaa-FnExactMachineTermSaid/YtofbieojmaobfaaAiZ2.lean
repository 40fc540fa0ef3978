/- Machines: marks. Written by mk28.py. -/
import Derived.Test.YtofbieojmaobfaaAiZ1
import Derived.Test.YtofbieojmaobfaaAiM3
namespace Go.Ai
set_option linter.unusedVariables false
set_option linter.unusedSimpArgs false
open Go.Proofs Go.RowKit
set_option maxRecDepth 100000

theorem GFrame.csz (x : GFrame) : cszCells x.enc = x.size := by simp only [GFrame.enc, GFrame.size, cszCells_append, Nat.add_assoc, Tm.csz, cszE_I]
theorem GFrame.nar (x : GFrame) : narCells x.enc := (narCells_append _ _ (Tm.nar x.t) (narE_I x.nx))

theorem toFrameF_sat (x : GFrame) (hs : x.size < 1048577) : SatF Try.prog 55 [aggV x.enc] (aggV x.enc) := by
  obtain ⟨⟨xtk, xtn, xts, xtt⟩, xnx⟩ := x
  simp only [GFrame.size, szI, szS] at hs
  refine satF_of_code [_] rfl (fun _ h => by cases h) tbOk mixed Try.func55 rfl rfl rfl (by decide +kernel) (by decide +kernel) (Nat.le_of_ble_eq_true rfl) ?_
  simp -implicitDefEqProofs (disch := omega) only [go_sem, ↓reduceIte, reduceCtorEq, Nat.reduceEqDiff, Nat.reduceLT, Nat.reduceLeDiff, Nat.reduceAdd, Nat.reduceSub, Nat.reduceMul, GFrame.enc, Tm.enc, encB, encI, encL, encS, List.cons_append, List.nil_append, List.append_nil]
  refine CallK.own (toTermF_sat (.mk xtk xtn xts xtt) (by omega)) rfl ?_
  simp -implicitDefEqProofs (disch := omega) only [go_sem, ↓reduceIte, reduceCtorEq, Nat.reduceEqDiff, Nat.reduceLT, Nat.reduceLeDiff, Nat.reduceAdd, Nat.reduceSub, Nat.reduceMul, GFrame.enc, Tm.enc, encB, encI, encL, encS, List.cons_append, List.nil_append, List.append_nil]

theorem toFrameSF_sat (xs : List GFrame) (hs : szL GFrame.size xs < 1048577) : SatF Try.prog 28 [slV (xs.map GFrame.enc)] (slV (xs.map GFrame.enc)) := by
  have hl := len_szL GFrame.size xs
  obtain ⟨rows, hrows⟩ : ∃ rows, rows = xs.map GFrame.enc := ⟨_, rfl⟩
  have lr : rows.length = xs.length := by rw [hrows]; simp
  rw [← hrows]
  refine satF_of_code [slV rows] rfl (fun _ h => by cases h) tbOk mixed Try.func28 rfl rfl rfl (by decide +kernel) (by decide +kernel) (Nat.le_of_ble_eq_true rfl) ?_
  simp -implicitDefEqProofs (disch := omega) only [go_sem, ↓reduceIte, reduceCtorEq, Nat.reduceEqDiff, Nat.reduceLT, Nat.reduceLeDiff, Nat.reduceAdd, Nat.reduceSub, Nat.reduceMul, lr]
  refine ⟨⟨by omega, by omega⟩, fun _ => ?_⟩
  obtain ⟨Z, hZ⟩ : ∃ Z, Z = List.replicate xs.length zFrame := ⟨_, rfl⟩
  obtain ⟨Fr, hFr⟩ : ∃ Fr, Fr = rows.map fun q => q.map dC := ⟨_, rfl⟩
  have lZ : Z.length = xs.length := by rw [hZ]; simp
  have lF : Fr.length = Z.length := by rw [hFr, lZ]; simp [lr]
  have iF : ∀ lb r, r ∈ Fr → ∀ a, a ∈ r → inC lb a := fun lb => by rw [hFr]; exact drows_in lb
  have iZ : ∀ lb r, r ∈ Z → ∀ a, a ∈ r → inC lb a := fun lb => by rw [hZ]; exact rep_in (by simp [zFrame, inC])
  rw [← hZ]
  refine loopA_rule (ι := Nat) (fun i => mk 23 [(0, slV rows), (3, .one (.own 7 xs.length)), (4, intV i)] [(7, .arr 70 5 (turnR Fr Z i) false)]) (fun i => i ≤ xs.length) (fun i => xs.length - i) 0 (Nat.zero_le _) ?_ tbOk mixed (by decide +kernel) ?_
  · exact le_mk (by simp [go_sem]) (by simp only [leB, lookB_cons, if_true, inB, turnR_zero, true_and, and_true]; exact iZ _)
  · intro i hi
    have hlen := turnR_len (i := i) lF (by omega)
    rcases Nat.lt_or_ge i xs.length with hlt | hge
    · have hi' : i < Z.length := by omega
      have hg : rows.getD i [] = GFrame.enc xs[i] := by rw [hrows]; exact map_getD hlt
      have eZ : Z[i] = zFrame := by simp [hZ]
      have eF : Fr[i]'(by omega) = (GFrame.enc xs[i]).map dC := by simp [hFr, hrows]
      have hm := szL_mem GFrame.size xs _ (List.getElem_mem hlt)
      generalize xs[i] = x at hg eF hm
      have hto := toFrameF_sat x (by omega)
      obtain ⟨⟨xtk, xtn, xts, xtt⟩, xnx⟩ := x
      have hfin := turnS_turnR lF hi'
      rw [eF] at hfin
      have sl := fun r => turnS_len lF hi' r
      have sg := fun r => turnS_get lF hi' r
      rw [turnR_eq lF hi' eZ]
      simp -implicitDefEqProofs (disch := omega) only [go_sem, ↓reduceIte, reduceCtorEq, Nat.reduceEqDiff, Nat.reduceLT, Nat.reduceLeDiff, Nat.reduceAdd, Nat.reduceSub, Nat.reduceMul, hg, hlt, lr, lZ, sl, sg, turnS_set, GFrame.enc, Tm.enc, encB, encI, encL, encS, List.cons_append, List.nil_append, List.append_nil, List.forall_mem_cons, List.not_mem_nil]
      refine CallK.own hto rfl ?_
      simp -implicitDefEqProofs (disch := omega) only [go_sem, ↓reduceIte, reduceCtorEq, Nat.reduceEqDiff, Nat.reduceLT, Nat.reduceLeDiff, Nat.reduceAdd, Nat.reduceSub, Nat.reduceMul, hg, hlt, lr, lZ, sl, sg, turnS_set, GFrame.enc, Tm.enc, encB, encI, encL, encS, List.cons_append, List.nil_append, List.append_nil, List.forall_mem_cons, List.not_mem_nil]
      refine ⟨i + 1, hlt, by omega, ((wk_moveS (l := 7) (c := 3) lF hi' rfl rfl rfl rfl).trans (le_mk (by simp [go_sem]) ?_))⟩
      simp only [leB, lookB_cons, if_true, inB, true_and, and_true]
      exact ⟨by rw [← hfin] <;> rfl, turnR_in (iF _) (iZ _)⟩
    · have : i = xs.length := by omega
      subst this
      simp -implicitDefEqProofs (disch := omega) only [go_sem, ↓reduceIte, reduceCtorEq, Nat.reduceEqDiff, Nat.reduceLT, Nat.reduceLeDiff, Nat.reduceAdd, Nat.reduceSub, Nat.reduceMul, hlen, lZ, lr, Nat.lt_irrefl]
      rw [turnR_end lF lZ.symm, hFr]
      exact ⟨drows_isO, drows_toC⟩

theorem markFrameS_nil (k : Int) : Sat Try.prog 39 [slV [], intV k] (intV k) := by
  refine sat_of_code tbOk mixed Try.func39 rfl rfl rfl (by decide +kernel) (by decide +kernel) (Nat.le_of_ble_eq_true rfl) ?_
  simp -implicitDefEqProofs (disch := omega) only [go_sem, ↓reduceIte, reduceCtorEq, Nat.reduceEqDiff, Nat.reduceLT, Nat.reduceLeDiff, Nat.reduceAdd, Nat.reduceSub, Nat.reduceMul]
  refine loopA_rule (ι := Unit) (fun _ => mk 53 [(0, slV []), (1, intV k), (5, intV 0)] []) (fun _ => True) (fun _ => 0) () trivial ?_ tbOk mixed (by decide +kernel) ?_
  · exact le_mk (by simp [go_sem]) (by simp [go_sem])
  · intro _ _
    simp -implicitDefEqProofs (disch := omega) only [go_sem, ↓reduceIte, reduceCtorEq, Nat.reduceEqDiff, Nat.reduceLT, Nat.reduceLeDiff, Nat.reduceAdd, Nat.reduceSub, Nat.reduceMul]
    intro h; omega
theorem markFrameS_sat (xs : List GFrame) (hw : wfL GFrame.wf xs) (k : Int) (h0 : 0 ≤ k) (h1 : (mkRows (xs.map GFrame.enc) k).2 ≤ 100000000) : SatM Try.prog 39 [.one (.m (.sl (xs.map GFrame.enc))), intV k] [.one (.m (.sl (mkRows (xs.map GFrame.enc) k).1)), intV k] (intV (mkRows (xs.map GFrame.enc) k).2) := by
  have hl := hw.1
  cases hx : xs with
  | nil => simpa [mkRows] using satM_nil (rest := [intV k]) rfl rfl (markFrameS_nil k)
  | cons x0 xs0 =>
    rw [← hx]
    simp only [maxLen] at hl
    obtain ⟨rows, hrows⟩ : ∃ rows, rows = xs.map GFrame.enc := ⟨_, rfl⟩
    have lr : rows.length = xs.length := by rw [hrows]; simp
    rw [← hrows] at h1 ⊢
    refine satM_slice 9001 5 tbOk mixed Try.func39 rfl rfl rfl (by decide +kernel) (by decide +kernel) (Nat.le_of_ble_eq_true rfl) rfl rfl (by rw [hrows, hx]; simp) (by rw [hrows]; simp [GFrame.enc_len]) (fun e => ?_)
    simp -implicitDefEqProofs (disch := omega) only [go_sem, ↓reduceIte, reduceCtorEq, Nat.reduceEqDiff, Nat.reduceLT, Nat.reduceLeDiff, Nat.reduceAdd, Nat.reduceSub, Nat.reduceMul]
    obtain ⟨G, hG⟩ : ∃ G, G = rows.map fun q => q.map mC := ⟨_, rfl⟩
    obtain ⟨Fr, hFr⟩ : ∃ Fr, Fr = (mkRows rows k).1.map fun q => q.map mC := ⟨_, rfl⟩
    have lG : G.length = rows.length := by rw [hG]; simp
    have lF : Fr.length = G.length := by rw [hFr, lG]; simp [mkRows_len]
    have iF : ∀ lb r, r ∈ Fr → ∀ a, a ∈ r → inC lb a := fun lb => by rw [hFr]; exact mrows_in lb
    have iG : ∀ lb r, r ∈ G → ∀ a, a ∈ r → inC lb a := fun lb => by rw [hG]; exact mrows_in lb
    have nF : noD Fr = true := by rw [hFr]; exact mrows_noD
    have nG : noD G = true := by rw [hG]; exact mrows_noD
    rw [← hG]
    refine loopW_rule (ι := Nat) (fun i => mk 53 [(0, .one (.own 9001 rows.length)), (1, intV (kAt rows k i)), (5, intV i)] [(9001, .arr e 5 (turnR Fr G i) false)] [.one (.own 9001 rows.length)]) (fun i => i ≤ rows.length) (fun i => rows.length - i) 0 (Nat.zero_le _) ?_ tbOk mixed (by decide +kernel) ?_
    · exact le_mk (by simp [go_sem, kAt_zero]) (by simp only [leB, lookB_cons, if_true, inB, turnR_zero, true_and, and_true]; exact iG _)
    · intro i hi
      have hlen := turnR_len (i := i) lF (by omega)
      rcases Nat.lt_or_ge i rows.length with hlt | hge
      · have hi' : i < G.length := by omega
        obtain ⟨hm, eM, eK⟩ := mkRows_at rows k i hlt
        have hb1 := kAt_cnt rows k i
        have hb2 := cntRows_get rows i hlt
        have hb3 := mkRows_cnt rows k
        have hb4 := mkCells_cnt rows[i] (kAt rows k i)
        have ex : rows[i] = GFrame.enc (xs[i]'(by omega)) := by simp [hrows]
        have hw' := hw.2 _ (List.getElem_mem (show i < xs.length by omega))
        generalize xs[i]'(by omega) = x at ex hw'
        obtain ⟨⟨xtk, xtn, xts, xtt⟩, xnx⟩ := x
        simp only [GFrame.wf] at hw'
        rw [ex] at eM eK hb2 hb4
        simp only [GFrame.enc, Tm.enc, encB, encI, encL, encS, List.cons_append, List.nil_append, List.append_nil, mkCells, mkC] at eM eK hb2 hb4
        generalize hK : kAt rows k i = K at eM eK hb1 hb4
        have hKn : 0 ≤ K := by omega
        have hc3 := mkRows_cnt (Tm.encs xtt) (((K + 1) + 1) + 1)
        have eG : G[i] = [iC xtk, iC xtn, sC xts, .m (.sl (Tm.encs xtt)), iC xnx] := by simp [hG, ex, GFrame.enc, Tm.enc, encB, encI, encL, encS, List.cons_append, List.nil_append, List.append_nil, mC]
        have eF : Fr[i]'(by omega) = [iC K, iC (K + 1), sC (mtext ((K + 1) + 1)), .m (.sl (mkRows (Tm.encs xtt) (((K + 1) + 1) + 1)).1), iC (mkRows (Tm.encs xtt) (((K + 1) + 1) + 1)).2] := by simp [hFr, eM, mC]
        have hfin := turnS_turnR lF hi'
        rw [eF] at hfin
        have sl := fun r => turnS_len lF hi' r
        have sg := fun r => turnS_get lF hi' r
        rw [turnR_eq lF hi' eG]
        refine ⟨_, (wk_takeS (l := 9001) (T := 9103) (c := 3) lF hi' rfl rfl rfl (by exact turnS_noD nF nG rfl)), ?_⟩
        simp -implicitDefEqProofs (disch := omega) only [go_sem, ↓reduceIte, reduceCtorEq, Nat.reduceEqDiff, Nat.reduceLT, Nat.reduceLeDiff, Nat.reduceAdd, Nat.reduceSub, Nat.reduceMul, sl, sg, turnS_set, lG, hlt, List.forall_mem_cons, List.not_mem_nil, Tm.args]
        refine CallK.bor (markText_sat ((K + 1) + 1) (by omega)) rfl ?_
        simp -implicitDefEqProofs (disch := omega) only [go_sem, ↓reduceIte, reduceCtorEq, Nat.reduceEqDiff, Nat.reduceLT, Nat.reduceLeDiff, Nat.reduceAdd, Nat.reduceSub, Nat.reduceMul, sl, sg, turnS_set, lG, hlt, List.forall_mem_cons, List.not_mem_nil, Tm.args]
        refine CallK.mut (markTermS_tm (.mk xtk xtn xts xtt) hw'.1 (((K + 1) + 1) + 1) (by omega) (by simp only [Tm.args]; omega)) ?_
        simp -implicitDefEqProofs (disch := omega) only [go_sem, ↓reduceIte, reduceCtorEq, Nat.reduceEqDiff, Nat.reduceLT, Nat.reduceLeDiff, Nat.reduceAdd, Nat.reduceSub, Nat.reduceMul, sl, sg, turnS_set, lG, hlt, List.forall_mem_cons, List.not_mem_nil, Tm.args]
        refine ⟨i + 1, hlt, by omega, ((wk_giveS (l := 9001) (T := 9103) (c := 3) lF hi' rfl rfl rfl).trans (le_mk (by simp [go_sem, eK]) ?_))⟩
        simp only [leB, lookB_cons, if_true, inB, true_and, and_true]
        exact ⟨by rw [← hfin] <;> rfl, turnR_in (iF _) (iG _)⟩
      · have : i = rows.length := by omega
        subst this
        refine ⟨_, Wk.refl _, ?_⟩
        simp -implicitDefEqProofs (disch := omega) only [go_sem, ↓reduceIte, reduceCtorEq, Nat.reduceEqDiff, Nat.reduceLT, Nat.reduceLeDiff, Nat.reduceAdd, Nat.reduceSub, Nat.reduceMul, hlen, lG, Nat.lt_irrefl, kAt_all]
        exact turnedRow_mk rfl (by rw [turnR_end lF lG.symm, hFr]) (by rw [mkRows_len]) rfl

theorem GMachine.csz (x : GMachine) : cszCells x.enc = x.size := by simp only [GMachine.enc, GMachine.size, cszCells_append, Nat.add_assoc, Tm.csz, cszE_I, cszL_of GFrame.csz]
theorem GMachine.nar (x : GMachine) : narCells x.enc := (narCells_append _ _ (Tm.nar x.fo) (narCells_append _ _ (narE_I x.nx) (narCells_append _ _ (narL_of (fun y => ⟨by rw [GFrame.enc_len]; omega, GFrame.nar y⟩) x.st) (narE_I x.rw))))

theorem toMachineF_sat (x : GMachine) (hs : x.size < 1048577) : SatF Try.prog 8 [aggV x.enc] (aggV x.enc) := by
  obtain ⟨⟨xfok, xfon, xfos, xfot⟩, xnx, xst, xrw⟩ := x
  simp only [GMachine.size, szI, szS] at hs
  refine satF_of_code [_] rfl (fun _ h => by cases h) tbOk mixed Try.func8 rfl rfl rfl (by decide +kernel) (by decide +kernel) (Nat.le_of_ble_eq_true rfl) ?_
  simp -implicitDefEqProofs (disch := omega) only [go_sem, ↓reduceIte, reduceCtorEq, Nat.reduceEqDiff, Nat.reduceLT, Nat.reduceLeDiff, Nat.reduceAdd, Nat.reduceSub, Nat.reduceMul, GMachine.enc, Tm.enc, encB, encI, encL, encS, List.cons_append, List.nil_append, List.append_nil]
  refine CallK.own (toTermF_sat (.mk xfok xfon xfos xfot) (by omega)) rfl ?_
  simp -implicitDefEqProofs (disch := omega) only [go_sem, ↓reduceIte, reduceCtorEq, Nat.reduceEqDiff, Nat.reduceLT, Nat.reduceLeDiff, Nat.reduceAdd, Nat.reduceSub, Nat.reduceMul, GMachine.enc, Tm.enc, encB, encI, encL, encS, List.cons_append, List.nil_append, List.append_nil]
  refine CallK.own (toFrameSF_sat xst (by omega)) rfl ?_
  simp -implicitDefEqProofs (disch := omega) only [go_sem, ↓reduceIte, reduceCtorEq, Nat.reduceEqDiff, Nat.reduceLT, Nat.reduceLeDiff, Nat.reduceAdd, Nat.reduceSub, Nat.reduceMul, GMachine.enc, Tm.enc, encB, encI, encL, encS, List.cons_append, List.nil_append, List.append_nil]

theorem markMachine_sat (xfok : Int) (xfon : Int) (xfos : ByteArray) (xfot : List Tm) (xnx : Int) (xst : List GFrame) (xrw : Int) (hw : (⟨⟨xfok, xfon, xfos, xfot⟩, xnx, xst, xrw⟩ : GMachine).wf) (k : Int) (h0 : 0 ≤ k) (h1 : (mkRows (xst.map GFrame.enc) (mkRows (Tm.encs xfot) k).2).2 ≤ 100000000) : SatM Try.prog 14 [.agg [iC xfok, iC xfon, sC xfos, .m (.sl (Tm.encs xfot)), iC xnx, .m (.sl (xst.map GFrame.enc)), iC xrw], intV k] [.agg [iC xfok, iC xfon, sC xfos, .m (.sl (mkRows (Tm.encs xfot) k).1), iC xnx, .m (.sl (mkRows (xst.map GFrame.enc) (mkRows (Tm.encs xfot) k).2).1), iC xrw], intV k] (intV (mkRows (xst.map GFrame.enc) (mkRows (Tm.encs xfot) k).2).2) := by
  simp only [GMachine.wf] at hw
  have hc3 := mkRows_cnt (Tm.encs xfot) k
  have hc5 := mkRows_cnt (xst.map GFrame.enc) (mkRows (Tm.encs xfot) k).2
  refine satM_of_code 9000 tbOk mixed Try.func14 rfl rfl rfl (by decide +kernel) (by decide +kernel) (Nat.le_of_ble_eq_true rfl) rfl rfl rfl ?_
  simp -implicitDefEqProofs (disch := omega) only [go_sem, ↓reduceIte, reduceCtorEq, Nat.reduceEqDiff, Nat.reduceLT, Nat.reduceLeDiff, Nat.reduceAdd, Nat.reduceSub, Nat.reduceMul]
  refine CallK.mut (markTerm_sat xfok xfon xfos xfot hw.1 k (by omega) (by omega)) ?_
  simp -implicitDefEqProofs (disch := omega) only [go_sem, ↓reduceIte, reduceCtorEq, Nat.reduceEqDiff, Nat.reduceLT, Nat.reduceLeDiff, Nat.reduceAdd, Nat.reduceSub, Nat.reduceMul, Tm.args]
  refine CallK.mut (markFrameS_sat xst hw.2.2.1 (mkRows (Tm.encs xfot) k).2 (by omega) (by omega)) ?_
  simp -implicitDefEqProofs (disch := omega) only [go_sem, ↓reduceIte, reduceCtorEq, Nat.reduceEqDiff, Nat.reduceLT, Nat.reduceLeDiff, Nat.reduceAdd, Nat.reduceSub, Nat.reduceMul, Tm.args]

end Go.Ai
