/- Decision trees: marks. Written by mk33.py. -/
import Derived.Test.YtkcfegkfbijedaaDoorAiTR1
import Derived.Test.YtkcfegkfbijedaaDoorAiN1
namespace Go.Ai
set_option linter.unusedVariables false
set_option linter.unusedSimpArgs false
open Go.Proofs Go.RowKit
set_option maxRecDepth 100000

theorem GTreeNode.csz (x : GTreeNode) : cszCells x.enc = x.size := by simp only [GTreeNode.enc, GTreeNode.size, cszCells_append, Nat.add_assoc, cszE_I, cszL_of cszE_I, cszL_of cszE_S]
theorem GTreeNode.nar (x : GTreeNode) : narCells x.enc := (narCells_append _ _ (narL_of (fun y => ⟨by simp [encI], narE_I y⟩) x.ps) (narCells_append _ _ (narL_of (fun y => ⟨by simp [encS], narE_S y⟩) x.ke) (narCells_append _ _ (narL_of (fun y => ⟨by simp [encI], narE_I y⟩) x.nx) (narCells_append _ _ (narE_I x.ot) (narL_of (fun y => ⟨by simp [encI], narE_I y⟩) x.ru)))))

theorem toTreeNodeF_sat (x : GTreeNode) (hs : x.size < 1048577) : SatF Tryd.prog 52 [aggV x.enc] (aggV x.enc) := by
  obtain ⟨xps, xke, xnx, xot, xru⟩ := x
  simp only [GTreeNode.size, szI, szS] at hs
  refine satF_of_code [_] rfl (fun _ h => by cases h) tbOk mixed Tryd.func52 rfl rfl rfl (by decide +kernel) (by decide +kernel) (Nat.le_of_ble_eq_true rfl) ?_
  simp -implicitDefEqProofs (disch := omega) only [go_sem, GTreeNode.enc, Tm.enc, encB, encI, encL, encS, List.cons_append, List.nil_append, List.append_nil]
  refine CallK.own (toIntSF_sat xps (by omega)) rfl ?_
  simp -implicitDefEqProofs (disch := omega) only [go_sem, GTreeNode.enc, Tm.enc, encB, encI, encL, encS, List.cons_append, List.nil_append, List.append_nil]
  refine CallK.own (toStringSF_sat xke (by omega)) rfl ?_
  simp -implicitDefEqProofs (disch := omega) only [go_sem, GTreeNode.enc, Tm.enc, encB, encI, encL, encS, List.cons_append, List.nil_append, List.append_nil]
  refine CallK.own (toIntSF_sat xnx (by omega)) rfl ?_
  simp -implicitDefEqProofs (disch := omega) only [go_sem, GTreeNode.enc, Tm.enc, encB, encI, encL, encS, List.cons_append, List.nil_append, List.append_nil]
  refine CallK.own (toIntSF_sat xru (by omega)) rfl ?_
  simp -implicitDefEqProofs (disch := omega) only [go_sem, GTreeNode.enc, Tm.enc, encB, encI, encL, encS, List.cons_append, List.nil_append, List.append_nil]

theorem toTreeNodeSF_sat (xs : List GTreeNode) (hs : szL GTreeNode.size xs < 1048577) : SatF Tryd.prog 37 [slV (xs.map GTreeNode.enc)] (slV (xs.map GTreeNode.enc)) := by
  have hl := len_szL GTreeNode.size xs
  obtain ⟨rows, hrows⟩ : ∃ rows, rows = xs.map GTreeNode.enc := ⟨_, rfl⟩
  have lr : rows.length = xs.length := by rw [hrows]; simp
  rw [← hrows]
  refine satF_of_code [slV rows] rfl (fun _ h => by cases h) tbOk mixed Tryd.func37 rfl rfl rfl (by decide +kernel) (by decide +kernel) (Nat.le_of_ble_eq_true rfl) ?_
  simp -implicitDefEqProofs (disch := omega) only [go_sem, lr]
  refine ⟨⟨by omega, by omega⟩, fun _ => ?_⟩
  obtain ⟨Z, hZ⟩ : ∃ Z, Z = List.replicate xs.length zTreeNode := ⟨_, rfl⟩
  obtain ⟨Fr, hFr⟩ : ∃ Fr, Fr = rows.map fun q => q.map dC := ⟨_, rfl⟩
  have lZ : Z.length = xs.length := by rw [hZ]; simp
  have lF : Fr.length = Z.length := by rw [hFr, lZ]; simp [lr]
  have iF : ∀ lb r, r ∈ Fr → ∀ a, a ∈ r → inC lb a := fun lb => by rw [hFr]; exact drows_in lb
  have iZ : ∀ lb r, r ∈ Z → ∀ a, a ∈ r → inC lb a := fun lb => by rw [hZ]; exact rep_in (by simp [zTreeNode, inC])
  rw [← hZ]
  refine loopA_rule (ι := Nat) (fun i => mk 23 [(0, slV rows), (3, .one (.own 7 xs.length)), (4, intV i)] [(7, .arr 71 5 (turnR Fr Z i) false)]) (fun i => i ≤ xs.length) (fun i => xs.length - i) 0 (Nat.zero_le _) ?_ tbOk mixed (by decide +kernel) ?_
  · exact le_mk (by simp [go_sem]) (by simp only [leB, lookB_cons, if_true, inB, turnR_zero, true_and, and_true]; exact iZ _)
  · intro i hi
    have hlen := turnR_len (i := i) lF (by omega)
    rcases Nat.lt_or_ge i xs.length with hlt | hge
    · have hi' : i < Z.length := by omega
      have hg : rows.getD i [] = GTreeNode.enc xs[i] := by rw [hrows]; exact map_getD hlt
      have eZ : Z[i] = zTreeNode := by simp [hZ]
      have eF : Fr[i]'(by omega) = (GTreeNode.enc xs[i]).map dC := by simp [hFr, hrows]
      have hm := szL_mem GTreeNode.size xs _ (List.getElem_mem hlt)
      generalize xs[i] = x at hg eF hm
      have hto := toTreeNodeF_sat x (by omega)
      obtain ⟨xps, xke, xnx, xot, xru⟩ := x
      have hfin := turnS_turnR lF hi'
      rw [eF] at hfin
      have sl := fun r => turnS_len lF hi' r
      have sg := fun r => turnS_get lF hi' r
      rw [turnR_eq lF hi' eZ]
      simp -implicitDefEqProofs (disch := omega) only [go_sem, hg, hlt, lr, lZ, sl, sg, turnS_set, GTreeNode.enc, Tm.enc, encB, encI, encL, encS, List.cons_append, List.nil_append, List.append_nil, List.forall_mem_cons, List.not_mem_nil]
      refine CallK.own hto rfl ?_
      simp -implicitDefEqProofs (disch := omega) only [go_sem, hg, hlt, lr, lZ, sl, sg, turnS_set, GTreeNode.enc, Tm.enc, encB, encI, encL, encS, List.cons_append, List.nil_append, List.append_nil, List.forall_mem_cons, List.not_mem_nil]
      refine ⟨i + 1, hlt, by omega, ((wk_moveS (l := 7) (c := 0) lF hi' rfl rfl rfl rfl).trans ((wk_moveS (l := 7) (c := 1) lF hi' rfl rfl rfl rfl).trans ((wk_moveS (l := 7) (c := 2) lF hi' rfl rfl rfl rfl).trans ((wk_moveS (l := 7) (c := 4) lF hi' rfl rfl rfl rfl).trans (le_mk (by simp [go_sem]) ?_)))))⟩
      simp only [leB, lookB_cons, if_true, inB, true_and, and_true]
      exact ⟨by rw [← hfin] <;> rfl, turnR_in (iF _) (iZ _)⟩
    · have : i = xs.length := by omega
      subst this
      simp -implicitDefEqProofs (disch := omega) only [go_sem, hlen, lZ, lr, Nat.lt_irrefl]
      rw [turnR_end lF lZ.symm, hFr]
      exact ⟨drows_isO, drows_toC⟩

theorem markTreeNodeS_nil (k : Int) : Sat Tryd.prog 41 [slV [], intV k] (intV k) := by
  refine sat_of_code tbOk mixed Tryd.func41 rfl rfl rfl (by decide +kernel) (by decide +kernel) (Nat.le_of_ble_eq_true rfl) ?_
  simp -implicitDefEqProofs (disch := omega) only [go_sem]
  refine loopA_rule (ι := Unit) (fun _ => mk 48 [(0, slV []), (1, intV k), (5, intV 0)] []) (fun _ => True) (fun _ => 0) () trivial ?_ tbOk mixed (by decide +kernel) ?_
  · exact le_mk (by simp [go_sem]) (by simp [go_sem])
  · intro _ _
    simp -implicitDefEqProofs (disch := omega) only [go_sem]
    intro h; omega
theorem markTreeNodeS_sat (xs : List GTreeNode) (hw : wfL GTreeNode.wf xs) (k : Int) (h0 : 0 ≤ k) (h1 : (mkRows (xs.map GTreeNode.enc) k).2 ≤ 100000000) : SatM Tryd.prog 41 [.one (.m (.sl (xs.map GTreeNode.enc))), intV k] [.one (.m (.sl (mkRows (xs.map GTreeNode.enc) k).1)), intV k] (intV (mkRows (xs.map GTreeNode.enc) k).2) := by
  have hl := hw.1
  cases hx : xs with
  | nil => simpa [mkRows] using satM_nil (rest := [intV k]) rfl rfl (markTreeNodeS_nil k)
  | cons x0 xs0 =>
    rw [← hx]
    simp only [maxLen] at hl
    obtain ⟨rows, hrows⟩ : ∃ rows, rows = xs.map GTreeNode.enc := ⟨_, rfl⟩
    have lr : rows.length = xs.length := by rw [hrows]; simp
    rw [← hrows] at h1 ⊢
    refine satM_slice 9001 5 tbOk mixed Tryd.func41 rfl rfl rfl (by decide +kernel) (by decide +kernel) (Nat.le_of_ble_eq_true rfl) rfl rfl (by rw [hrows, hx]; simp) (by rw [hrows]; simp [GTreeNode.enc_len]) (fun e => ?_)
    simp -implicitDefEqProofs (disch := omega) only [go_sem]
    obtain ⟨G, hG⟩ : ∃ G, G = rows.map fun q => q.map mC := ⟨_, rfl⟩
    obtain ⟨Fr, hFr⟩ : ∃ Fr, Fr = (mkRows rows k).1.map fun q => q.map mC := ⟨_, rfl⟩
    have lG : G.length = rows.length := by rw [hG]; simp
    have lF : Fr.length = G.length := by rw [hFr, lG]; simp [mkRows_len]
    have iF : ∀ lb r, r ∈ Fr → ∀ a, a ∈ r → inC lb a := fun lb => by rw [hFr]; exact mrows_in lb
    have iG : ∀ lb r, r ∈ G → ∀ a, a ∈ r → inC lb a := fun lb => by rw [hG]; exact mrows_in lb
    have nF : noD Fr = true := by rw [hFr]; exact mrows_noD
    have nG : noD G = true := by rw [hG]; exact mrows_noD
    rw [← hG]
    refine loopW_rule (ι := Nat) (fun i => mk 48 [(0, .one (.own 9001 rows.length)), (1, intV (kAt rows k i)), (5, intV i)] [(9001, .arr e 5 (turnR Fr G i) false)] [.one (.own 9001 rows.length)]) (fun i => i ≤ rows.length) (fun i => rows.length - i) 0 (Nat.zero_le _) ?_ tbOk mixed (by decide +kernel) ?_
    · exact le_mk (by simp [go_sem, kAt_zero]) (by simp only [leB, lookB_cons, if_true, inB, turnR_zero, true_and, and_true]; exact iG _)
    · intro i hi
      have hlen := turnR_len (i := i) lF (by omega)
      rcases Nat.lt_or_ge i rows.length with hlt | hge
      · have hi' : i < G.length := by omega
        obtain ⟨hm, eM, eK⟩ := mkRows_at rows k i hlt
        have hb1 := kAt_cnt rows k i
        have hb2 := cntRows_get rows i hlt
        have hb3 := mkRows_cnt rows k
        have hb4 := mkCells_cnt rows[i] (kAt rows k i)
        have ex : rows[i] = GTreeNode.enc (xs[i]'(by omega)) := by simp [hrows]
        have hw' := hw.2 _ (List.getElem_mem (show i < xs.length by omega))
        generalize xs[i]'(by omega) = x at ex hw'
        obtain ⟨xps, xke, xnx, xot, xru⟩ := x
        simp only [GTreeNode.wf] at hw'
        rw [ex] at eM eK hb2 hb4
        simp only [GTreeNode.enc, Tm.enc, encB, encI, encL, encS, List.cons_append, List.nil_append, List.append_nil, mkCells, mkC] at eM eK hb2 hb4
        generalize hK : kAt rows k i = K at eM eK hb1 hb4
        have hKn : 0 ≤ K := by omega
        have hc0 := mkRows_cnt (xps.map encI) K
        have hc1 := mkRows_cnt (xke.map encS) (mkRows (xps.map encI) K).2
        have hc2 := mkRows_cnt (xnx.map encI) (mkRows (xke.map encS) (mkRows (xps.map encI) K).2).2
        have hc4 := mkRows_cnt (xru.map encI) ((mkRows (xnx.map encI) (mkRows (xke.map encS) (mkRows (xps.map encI) K).2).2).2 + 1)
        have eG : G[i] = [.m (.sl (xps.map encI)), .m (.sl (xke.map encS)), .m (.sl (xnx.map encI)), iC xot, .m (.sl (xru.map encI))] := by simp [hG, ex, GTreeNode.enc, Tm.enc, encB, encI, encL, encS, List.cons_append, List.nil_append, List.append_nil, mC]
        have eF : Fr[i]'(by omega) = [.m (.sl (mkRows (xps.map encI) K).1), .m (.sl (mkRows (xke.map encS) (mkRows (xps.map encI) K).2).1), .m (.sl (mkRows (xnx.map encI) (mkRows (xke.map encS) (mkRows (xps.map encI) K).2).2).1), iC (mkRows (xnx.map encI) (mkRows (xke.map encS) (mkRows (xps.map encI) K).2).2).2, .m (.sl (mkRows (xru.map encI) ((mkRows (xnx.map encI) (mkRows (xke.map encS) (mkRows (xps.map encI) K).2).2).2 + 1)).1)] := by simp [hFr, eM, mC]
        have hfin := turnS_turnR lF hi'
        rw [eF] at hfin
        have sl := fun r => turnS_len lF hi' r
        have sg := fun r => turnS_get lF hi' r
        rw [turnR_eq lF hi' eG]
        refine ⟨_, ((wk_takeS (l := 9001) (T := 9100) (c := 0) lF hi' rfl rfl rfl (by exact turnS_noD nF nG rfl)).trans ((wk_takeS (l := 9001) (T := 9101) (c := 1) lF hi' rfl rfl rfl (by exact turnS_noD nF nG rfl)).trans ((wk_takeS (l := 9001) (T := 9102) (c := 2) lF hi' rfl rfl rfl (by exact turnS_noD nF nG rfl)).trans (wk_takeS (l := 9001) (T := 9104) (c := 4) lF hi' rfl rfl rfl (by exact turnS_noD nF nG rfl))))), ?_⟩
        simp -implicitDefEqProofs (disch := omega) only [go_sem, sl, sg, turnS_set, lG, hlt, List.forall_mem_cons, List.not_mem_nil, Tm.args]
        refine CallK.mut (markIntS_sat xps hw'.1 K (by omega) (by omega)) ?_
        simp -implicitDefEqProofs (disch := omega) only [go_sem, sl, sg, turnS_set, lG, hlt, List.forall_mem_cons, List.not_mem_nil, Tm.args]
        refine CallK.mut (markStringS_sat xke hw'.2.1 (mkRows (xps.map encI) K).2 (by omega) (by omega)) ?_
        simp -implicitDefEqProofs (disch := omega) only [go_sem, sl, sg, turnS_set, lG, hlt, List.forall_mem_cons, List.not_mem_nil, Tm.args]
        refine CallK.mut (markIntS_sat xnx hw'.2.2.1 (mkRows (xke.map encS) (mkRows (xps.map encI) K).2).2 (by omega) (by omega)) ?_
        simp -implicitDefEqProofs (disch := omega) only [go_sem, sl, sg, turnS_set, lG, hlt, List.forall_mem_cons, List.not_mem_nil, Tm.args]
        refine CallK.mut (markIntS_sat xru hw'.2.2.2.2 ((mkRows (xnx.map encI) (mkRows (xke.map encS) (mkRows (xps.map encI) K).2).2).2 + 1) (by omega) (by omega)) ?_
        simp -implicitDefEqProofs (disch := omega) only [go_sem, sl, sg, turnS_set, lG, hlt, List.forall_mem_cons, List.not_mem_nil, Tm.args]
        refine ⟨i + 1, hlt, by omega, ((wk_giveS (l := 9001) (T := 9100) (c := 0) lF hi' rfl rfl rfl).trans ((wk_giveS (l := 9001) (T := 9101) (c := 1) lF hi' rfl rfl rfl).trans ((wk_giveS (l := 9001) (T := 9102) (c := 2) lF hi' rfl rfl rfl).trans ((wk_giveS (l := 9001) (T := 9104) (c := 4) lF hi' rfl rfl rfl).trans (le_mk (by simp [go_sem, eK]) ?_)))))⟩
        simp only [leB, lookB_cons, if_true, inB, true_and, and_true]
        exact ⟨by rw [← hfin] <;> rfl, turnR_in (iF _) (iG _)⟩
      · have : i = rows.length := by omega
        subst this
        refine ⟨_, Wk.refl _, ?_⟩
        simp -implicitDefEqProofs (disch := omega) only [go_sem, hlen, lG, Nat.lt_irrefl, kAt_all]
        exact turnedRow_mk rfl (by rw [turnR_end lF lG.symm, hFr]) (by rw [mkRows_len]) rfl

theorem GTree.csz (x : GTree) : cszCells x.enc = x.size := by simp only [GTree.enc, GTree.size, cszCells_append, Nat.add_assoc, cszL_of GTreeNode.csz]
theorem GTree.nar (x : GTree) : narCells x.enc := (narL_of (fun y => ⟨by rw [GTreeNode.enc_len]; omega, GTreeNode.nar y⟩) x.no)

theorem toTreeF_sat (x : GTree) (hs : x.size < 1048577) : SatF Tryd.prog 15 [aggV x.enc] (aggV x.enc) := by
  obtain ⟨xno⟩ := x
  simp only [GTree.size, szI, szS] at hs
  refine satF_of_code [_] rfl (fun _ h => by cases h) tbOk mixed Tryd.func15 rfl rfl rfl (by decide +kernel) (by decide +kernel) (Nat.le_of_ble_eq_true rfl) ?_
  simp -implicitDefEqProofs (disch := omega) only [go_sem, GTree.enc, Tm.enc, encB, encI, encL, encS, List.cons_append, List.nil_append, List.append_nil]
  refine CallK.own (toTreeNodeSF_sat xno (by omega)) rfl ?_
  simp -implicitDefEqProofs (disch := omega) only [go_sem, GTree.enc, Tm.enc, encB, encI, encL, encS, List.cons_append, List.nil_append, List.append_nil]

theorem markTree_sat (xno : List GTreeNode) (hw : (⟨xno⟩ : GTree).wf) (k : Int) (h0 : 0 ≤ k) (h1 : (mkRows (xno.map GTreeNode.enc) k).2 ≤ 100000000) : SatM Tryd.prog 18 [.agg [.m (.sl (xno.map GTreeNode.enc))], intV k] [.agg [.m (.sl (mkRows (xno.map GTreeNode.enc) k).1)], intV k] (intV (mkRows (xno.map GTreeNode.enc) k).2) := by
  simp only [GTree.wf] at hw
  have hc0 := mkRows_cnt (xno.map GTreeNode.enc) k
  refine satM_of_code 9000 tbOk mixed Tryd.func18 rfl rfl rfl (by decide +kernel) (by decide +kernel) (Nat.le_of_ble_eq_true rfl) rfl rfl rfl ?_
  simp -implicitDefEqProofs (disch := omega) only [go_sem]
  refine CallK.mut (markTreeNodeS_sat xno hw k (by omega) (by omega)) ?_
  simp -implicitDefEqProofs (disch := omega) only [go_sem, Tm.args]

end Go.Ai
