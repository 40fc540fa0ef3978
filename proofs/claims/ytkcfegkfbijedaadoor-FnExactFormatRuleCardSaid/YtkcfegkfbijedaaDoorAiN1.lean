/- Definitions: marks, owned copies. Written by mk7.py. -/
import Derived.Test.YtkcfegkfbijedaaDoorAiD1
import Derived.Test.YtkcfegkfbijedaaDoorAiM3
namespace Go.Ai
set_option linter.unusedVariables false
set_option linter.unusedSimpArgs false
open Go.Proofs Go.RowKit
set_option maxRecDepth 100000

theorem toIntSF_sat (xs : List Int) (hs : szL szI xs < 1048577) : SatF Tryd.prog 9 [slV (xs.map encI)] (slV (xs.map encI)) := by
  have hl := len_szL szI xs
  obtain ⟨rows, hrows⟩ : ∃ rows, rows = xs.map encI := ⟨_, rfl⟩
  have lr : rows.length = xs.length := by rw [hrows]; simp
  rw [← hrows]
  refine satF_of_code [slV rows] rfl (fun _ h => by cases h) tbOk mixed Tryd.func9 rfl rfl rfl (by decide +kernel) (by decide +kernel) (Nat.le_of_ble_eq_true rfl) ?_
  simp -implicitDefEqProofs (disch := omega) only [go_sem, lr]
  refine ⟨⟨by omega, by omega⟩, fun _ => ?_⟩
  obtain ⟨Z, hZ⟩ : ∃ Z, Z = List.replicate xs.length zInt := ⟨_, rfl⟩
  obtain ⟨Fr, hFr⟩ : ∃ Fr, Fr = rows.map fun q => q.map dC := ⟨_, rfl⟩
  have lZ : Z.length = xs.length := by rw [hZ]; simp
  have lF : Fr.length = Z.length := by rw [hFr, lZ]; simp [lr]
  have iF : ∀ lb r, r ∈ Fr → ∀ a, a ∈ r → inC lb a := fun lb => by rw [hFr]; exact drows_in lb
  have iZ : ∀ lb r, r ∈ Z → ∀ a, a ∈ r → inC lb a := fun lb => by rw [hZ]; exact rep_in (by simp [zInt, inC])
  rw [← hZ]
  refine loopA_rule (ι := Nat) (fun i => mk 22 [(0, slV rows), (3, .one (.own 7 xs.length)), (4, intV i)] [(7, .arr 3 1 (turnR Fr Z i) false)]) (fun i => i ≤ xs.length) (fun i => xs.length - i) 0 (Nat.zero_le _) ?_ tbOk mixed (by decide +kernel) ?_
  · exact le_mk (by simp [go_sem]) (by simp only [leB, lookB_cons, if_true, inB, turnR_zero, true_and, and_true]; exact iZ _)
  · intro i hi
    have hlen := turnR_len (i := i) lF (by omega)
    rcases Nat.lt_or_ge i xs.length with hlt | hge
    · have hi' : i < Z.length := by omega
      have hg : rows.getD i [] = encI xs[i] := by rw [hrows]; exact map_getD hlt
      have eZ : Z[i] = zInt := by simp [hZ]
      have eF : Fr[i]'(by omega) = (encI xs[i]).map dC := by simp [hFr, hrows]
      have hm := szL_mem szI xs _ (List.getElem_mem hlt)
      generalize xs[i] = x at hg eF hm
      have hfin := turnS_turnR lF hi'
      rw [eF] at hfin
      have sl := fun r => turnS_len lF hi' r
      have sg := fun r => turnS_get lF hi' r
      rw [turnR_eq lF hi' eZ]
      simp -implicitDefEqProofs (disch := omega) only [go_sem, hg, hlt, lr, lZ, sl, sg, turnS_set, encI, List.forall_mem_cons, List.not_mem_nil]
      refine ⟨i + 1, hlt, by omega, (le_mk (by simp [go_sem]) ?_)⟩
      simp only [leB, lookB_cons, if_true, inB, true_and, and_true]
      exact ⟨by rw [← hfin] <;> rfl, turnR_in (iF _) (iZ _)⟩
    · have : i = xs.length := by omega
      subst this
      simp -implicitDefEqProofs (disch := omega) only [go_sem, hlen, lZ, lr, Nat.lt_irrefl]
      rw [turnR_end lF lZ.symm, hFr]
      exact ⟨drows_isO, drows_toC⟩

theorem markIntS_nil (k : Int) : Sat Tryd.prog 20 [slV [], intV k] (intV k) := by
  refine sat_of_code tbOk mixed Tryd.func20 rfl rfl rfl (by decide +kernel) (by decide +kernel) (Nat.le_of_ble_eq_true rfl) ?_
  simp -implicitDefEqProofs (disch := omega) only [go_sem]
  refine loopA_rule (ι := Unit) (fun _ => mk 19 [(0, slV []), (1, intV k), (5, intV 0)] []) (fun _ => True) (fun _ => 0) () trivial ?_ tbOk mixed (by decide +kernel) ?_
  · exact le_mk (by simp [go_sem]) (by simp [go_sem])
  · intro _ _
    simp -implicitDefEqProofs (disch := omega) only [go_sem]
    intro h; omega
theorem markIntS_sat (xs : List Int) (hw : wfL wfI xs) (k : Int) (h0 : 0 ≤ k) (h1 : (mkRows (xs.map encI) k).2 ≤ 100000000) : SatM Tryd.prog 20 [.one (.m (.sl (xs.map encI))), intV k] [.one (.m (.sl (mkRows (xs.map encI) k).1)), intV k] (intV (mkRows (xs.map encI) k).2) := by
  have hl := hw.1
  cases hx : xs with
  | nil => simpa [mkRows] using satM_nil (rest := [intV k]) rfl rfl (markIntS_nil k)
  | cons x0 xs0 =>
    rw [← hx]
    simp only [maxLen] at hl
    obtain ⟨rows, hrows⟩ : ∃ rows, rows = xs.map encI := ⟨_, rfl⟩
    have lr : rows.length = xs.length := by rw [hrows]; simp
    rw [← hrows] at h1 ⊢
    refine satM_slice 9001 1 tbOk mixed Tryd.func20 rfl rfl rfl (by decide +kernel) (by decide +kernel) (Nat.le_of_ble_eq_true rfl) rfl rfl (by rw [hrows, hx]; simp) (by rw [hrows]; simp [encI]) (fun e => ?_)
    simp -implicitDefEqProofs (disch := omega) only [go_sem]
    obtain ⟨G, hG⟩ : ∃ G, G = rows.map fun q => q.map mC := ⟨_, rfl⟩
    obtain ⟨Fr, hFr⟩ : ∃ Fr, Fr = (mkRows rows k).1.map fun q => q.map mC := ⟨_, rfl⟩
    have lG : G.length = rows.length := by rw [hG]; simp
    have lF : Fr.length = G.length := by rw [hFr, lG]; simp [mkRows_len]
    have iF : ∀ lb r, r ∈ Fr → ∀ a, a ∈ r → inC lb a := fun lb => by rw [hFr]; exact mrows_in lb
    have iG : ∀ lb r, r ∈ G → ∀ a, a ∈ r → inC lb a := fun lb => by rw [hG]; exact mrows_in lb
    have nF : noD Fr = true := by rw [hFr]; exact mrows_noD
    have nG : noD G = true := by rw [hG]; exact mrows_noD
    rw [← hG]
    refine loopW_rule (ι := Nat) (fun i => mk 19 [(0, .one (.own 9001 rows.length)), (1, intV (kAt rows k i)), (5, intV i)] [(9001, .arr e 1 (turnR Fr G i) false)] [.one (.own 9001 rows.length)]) (fun i => i ≤ rows.length) (fun i => rows.length - i) 0 (Nat.zero_le _) ?_ tbOk mixed (by decide +kernel) ?_
    · exact le_mk (by simp [go_sem, kAt_zero]) (by simp only [leB, lookB_cons, if_true, inB, turnR_zero, true_and, and_true]; exact iG _)
    · intro i hi
      have hlen := turnR_len (i := i) lF (by omega)
      rcases Nat.lt_or_ge i rows.length with hlt | hge
      · have hi' : i < G.length := by omega
        obtain ⟨hm, eM, eK⟩ := mkRows_at rows k i hlt
        have hb1 := kAt_cnt rows k i
        have hb2 := cntRows_get rows i hlt
        have hb3 := mkRows_cnt rows k
        have hb4 := mkCells_cnt rows[i] (kAt rows k i)
        have ex : rows[i] = encI (xs[i]'(by omega)) := by simp [hrows]
        have hw' := hw.2 _ (List.getElem_mem (show i < xs.length by omega))
        generalize xs[i]'(by omega) = x at ex hw'
        rw [ex] at eM eK hb2 hb4
        simp only [encI, mkCells, mkC] at eM eK hb2 hb4
        generalize hK : kAt rows k i = K at eM eK hb1 hb4
        have hKn : 0 ≤ K := by omega
        have eG : G[i] = [iC x] := by simp [hG, ex, encI, mC]
        have eF : Fr[i]'(by omega) = [iC K] := by simp [hFr, eM, mC]
        have hfin := turnS_turnR lF hi'
        rw [eF] at hfin
        have sl := fun r => turnS_len lF hi' r
        have sg := fun r => turnS_get lF hi' r
        rw [turnR_eq lF hi' eG]
        refine ⟨_, Wk.refl _, ?_⟩
        simp -implicitDefEqProofs (disch := omega) only [go_sem, sl, sg, turnS_set, lG, hlt, List.forall_mem_cons, List.not_mem_nil, Tm.args]
        refine ⟨i + 1, hlt, by omega, (le_mk (by simp [go_sem, eK]) ?_)⟩
        simp only [leB, lookB_cons, if_true, inB, true_and, and_true]
        exact ⟨by rw [← hfin] <;> rfl, turnR_in (iF _) (iG _)⟩
      · have : i = rows.length := by omega
        subst this
        refine ⟨_, Wk.refl _, ?_⟩
        simp -implicitDefEqProofs (disch := omega) only [go_sem, hlen, lG, Nat.lt_irrefl, kAt_all]
        exact turnedRow_mk rfl (by rw [turnR_end lF lG.symm, hFr]) (by rw [mkRows_len]) rfl

theorem toStringSF_sat (xs : List ByteArray) (hs : szL szS xs < 1048577) : SatF Tryd.prog 68 [slV (xs.map encS)] (slV (xs.map encS)) := by
  have hl := len_szL szS xs
  obtain ⟨rows, hrows⟩ : ∃ rows, rows = xs.map encS := ⟨_, rfl⟩
  have lr : rows.length = xs.length := by rw [hrows]; simp
  rw [← hrows]
  refine satF_of_code [slV rows] rfl (fun _ h => by cases h) tbOk mixed Tryd.func68 rfl rfl rfl (by decide +kernel) (by decide +kernel) (Nat.le_of_ble_eq_true rfl) ?_
  simp -implicitDefEqProofs (disch := omega) only [go_sem, lr]
  refine ⟨⟨by omega, by omega⟩, fun _ => ?_⟩
  obtain ⟨Z, hZ⟩ : ∃ Z, Z = List.replicate xs.length zString := ⟨_, rfl⟩
  obtain ⟨Fr, hFr⟩ : ∃ Fr, Fr = rows.map fun q => q.map dC := ⟨_, rfl⟩
  have lZ : Z.length = xs.length := by rw [hZ]; simp
  have lF : Fr.length = Z.length := by rw [hFr, lZ]; simp [lr]
  have iF : ∀ lb r, r ∈ Fr → ∀ a, a ∈ r → inC lb a := fun lb => by rw [hFr]; exact drows_in lb
  have iZ : ∀ lb r, r ∈ Z → ∀ a, a ∈ r → inC lb a := fun lb => by rw [hZ]; exact rep_in (by simp [zString, inC])
  rw [← hZ]
  refine loopA_rule (ι := Nat) (fun i => mk 22 [(0, slV rows), (3, .one (.own 7 xs.length)), (4, intV i)] [(7, .arr 9 1 (turnR Fr Z i) false)]) (fun i => i ≤ xs.length) (fun i => xs.length - i) 0 (Nat.zero_le _) ?_ tbOk mixed (by decide +kernel) ?_
  · exact le_mk (by simp [go_sem]) (by simp only [leB, lookB_cons, if_true, inB, turnR_zero, true_and, and_true]; exact iZ _)
  · intro i hi
    have hlen := turnR_len (i := i) lF (by omega)
    rcases Nat.lt_or_ge i xs.length with hlt | hge
    · have hi' : i < Z.length := by omega
      have hg : rows.getD i [] = encS xs[i] := by rw [hrows]; exact map_getD hlt
      have eZ : Z[i] = zString := by simp [hZ]
      have eF : Fr[i]'(by omega) = (encS xs[i]).map dC := by simp [hFr, hrows]
      have hm := szL_mem szS xs _ (List.getElem_mem hlt)
      generalize xs[i] = x at hg eF hm
      have hfin := turnS_turnR lF hi'
      rw [eF] at hfin
      have sl := fun r => turnS_len lF hi' r
      have sg := fun r => turnS_get lF hi' r
      rw [turnR_eq lF hi' eZ]
      simp -implicitDefEqProofs (disch := omega) only [go_sem, hg, hlt, lr, lZ, sl, sg, turnS_set, encS, List.forall_mem_cons, List.not_mem_nil]
      refine ⟨i + 1, hlt, by omega, (le_mk (by simp [go_sem]) ?_)⟩
      simp only [leB, lookB_cons, if_true, inB, true_and, and_true]
      exact ⟨by rw [← hfin] <;> rfl, turnR_in (iF _) (iZ _)⟩
    · have : i = xs.length := by omega
      subst this
      simp -implicitDefEqProofs (disch := omega) only [go_sem, hlen, lZ, lr, Nat.lt_irrefl]
      rw [turnR_end lF lZ.symm, hFr]
      exact ⟨drows_isO, drows_toC⟩

theorem markStringS_nil (k : Int) : Sat Tryd.prog 55 [slV [], intV k] (intV k) := by
  refine sat_of_code tbOk mixed Tryd.func55 rfl rfl rfl (by decide +kernel) (by decide +kernel) (Nat.le_of_ble_eq_true rfl) ?_
  simp -implicitDefEqProofs (disch := omega) only [go_sem]
  refine loopA_rule (ι := Unit) (fun _ => mk 20 [(0, slV []), (1, intV k), (5, intV 0)] []) (fun _ => True) (fun _ => 0) () trivial ?_ tbOk mixed (by decide +kernel) ?_
  · exact le_mk (by simp [go_sem]) (by simp [go_sem])
  · intro _ _
    simp -implicitDefEqProofs (disch := omega) only [go_sem]
    intro h; omega
theorem markStringS_sat (xs : List ByteArray) (hw : wfL wfS xs) (k : Int) (h0 : 0 ≤ k) (h1 : (mkRows (xs.map encS) k).2 ≤ 100000000) : SatM Tryd.prog 55 [.one (.m (.sl (xs.map encS))), intV k] [.one (.m (.sl (mkRows (xs.map encS) k).1)), intV k] (intV (mkRows (xs.map encS) k).2) := by
  have hl := hw.1
  cases hx : xs with
  | nil => simpa [mkRows] using satM_nil (rest := [intV k]) rfl rfl (markStringS_nil k)
  | cons x0 xs0 =>
    rw [← hx]
    simp only [maxLen] at hl
    obtain ⟨rows, hrows⟩ : ∃ rows, rows = xs.map encS := ⟨_, rfl⟩
    have lr : rows.length = xs.length := by rw [hrows]; simp
    rw [← hrows] at h1 ⊢
    refine satM_slice 9001 1 tbOk mixed Tryd.func55 rfl rfl rfl (by decide +kernel) (by decide +kernel) (Nat.le_of_ble_eq_true rfl) rfl rfl (by rw [hrows, hx]; simp) (by rw [hrows]; simp [encS]) (fun e => ?_)
    simp -implicitDefEqProofs (disch := omega) only [go_sem]
    obtain ⟨G, hG⟩ : ∃ G, G = rows.map fun q => q.map mC := ⟨_, rfl⟩
    obtain ⟨Fr, hFr⟩ : ∃ Fr, Fr = (mkRows rows k).1.map fun q => q.map mC := ⟨_, rfl⟩
    have lG : G.length = rows.length := by rw [hG]; simp
    have lF : Fr.length = G.length := by rw [hFr, lG]; simp [mkRows_len]
    have iF : ∀ lb r, r ∈ Fr → ∀ a, a ∈ r → inC lb a := fun lb => by rw [hFr]; exact mrows_in lb
    have iG : ∀ lb r, r ∈ G → ∀ a, a ∈ r → inC lb a := fun lb => by rw [hG]; exact mrows_in lb
    have nF : noD Fr = true := by rw [hFr]; exact mrows_noD
    have nG : noD G = true := by rw [hG]; exact mrows_noD
    rw [← hG]
    refine loopW_rule (ι := Nat) (fun i => mk 20 [(0, .one (.own 9001 rows.length)), (1, intV (kAt rows k i)), (5, intV i)] [(9001, .arr e 1 (turnR Fr G i) false)] [.one (.own 9001 rows.length)]) (fun i => i ≤ rows.length) (fun i => rows.length - i) 0 (Nat.zero_le _) ?_ tbOk mixed (by decide +kernel) ?_
    · exact le_mk (by simp [go_sem, kAt_zero]) (by simp only [leB, lookB_cons, if_true, inB, turnR_zero, true_and, and_true]; exact iG _)
    · intro i hi
      have hlen := turnR_len (i := i) lF (by omega)
      rcases Nat.lt_or_ge i rows.length with hlt | hge
      · have hi' : i < G.length := by omega
        obtain ⟨hm, eM, eK⟩ := mkRows_at rows k i hlt
        have hb1 := kAt_cnt rows k i
        have hb2 := cntRows_get rows i hlt
        have hb3 := mkRows_cnt rows k
        have hb4 := mkCells_cnt rows[i] (kAt rows k i)
        have ex : rows[i] = encS (xs[i]'(by omega)) := by simp [hrows]
        have hw' := hw.2 _ (List.getElem_mem (show i < xs.length by omega))
        generalize xs[i]'(by omega) = x at ex hw'
        rw [ex] at eM eK hb2 hb4
        simp only [encS, mkCells, mkC] at eM eK hb2 hb4
        generalize hK : kAt rows k i = K at eM eK hb1 hb4
        have hKn : 0 ≤ K := by omega
        have eG : G[i] = [sC x] := by simp [hG, ex, encS, mC]
        have eF : Fr[i]'(by omega) = [sC (mtext K)] := by simp [hFr, eM, mC]
        have hfin := turnS_turnR lF hi'
        rw [eF] at hfin
        have sl := fun r => turnS_len lF hi' r
        have sg := fun r => turnS_get lF hi' r
        rw [turnR_eq lF hi' eG]
        refine ⟨_, Wk.refl _, ?_⟩
        simp -implicitDefEqProofs (disch := omega) only [go_sem, sl, sg, turnS_set, lG, hlt, List.forall_mem_cons, List.not_mem_nil, Tm.args]
        refine CallK.bor (markText_sat K (by omega)) rfl ?_
        simp -implicitDefEqProofs (disch := omega) only [go_sem, sl, sg, turnS_set, lG, hlt, List.forall_mem_cons, List.not_mem_nil, Tm.args]
        refine ⟨i + 1, hlt, by omega, (le_mk (by simp [go_sem, eK]) ?_)⟩
        simp only [leB, lookB_cons, if_true, inB, true_and, and_true]
        exact ⟨by rw [← hfin] <;> rfl, turnR_in (iF _) (iG _)⟩
      · have : i = rows.length := by omega
        subst this
        refine ⟨_, Wk.refl _, ?_⟩
        simp -implicitDefEqProofs (disch := omega) only [go_sem, hlen, lG, Nat.lt_irrefl, kAt_all]
        exact turnedRow_mk rfl (by rw [turnR_end lF lG.symm, hFr]) (by rw [mkRows_len]) rfl

theorem heldIntS_sat (xs : List Int) (hw : wfL wfI xs) (k : Int) (h0 : 0 ≤ k) (h1 : (mkRows (xs.map encI) k).2 ≤ 100000000) : Sat Tryd.prog 21 [slV (mkRows (xs.map encI) k).1, intV k] (intV (mkRows (xs.map encI) k).2) := by
  have hl := hw.1
  simp only [maxLen] at hl
  obtain ⟨rows, hrows⟩ : ∃ rows, rows = xs.map encI := ⟨_, rfl⟩
  have lr : rows.length = xs.length := by rw [hrows]; simp
  rw [← hrows] at h1 ⊢
  have lM := mkRows_len rows k
  obtain ⟨M, hM⟩ : ∃ M, M = (mkRows rows k).1 := ⟨_, rfl⟩
  rw [← hM] at lM ⊢
  refine sat_of_code tbOk mixed Tryd.func21 rfl rfl rfl (by decide +kernel) (by decide +kernel) (Nat.le_of_ble_eq_true rfl) ?_
  simp -implicitDefEqProofs (disch := omega) only [go_sem]
  refine loopA_rule (ι := Nat) (fun i => mk 21 [(0, slV M), (1, intV (kAt rows k i)), (5, intV i)] []) (fun i => i ≤ rows.length) (fun i => rows.length - i) 0 (Nat.zero_le _) ?_ tbOk mixed (by decide +kernel) ?_
  · exact le_mk (by simp [go_sem, kAt_zero]) (by simp [go_sem])
  · intro i hi
    rcases Nat.lt_or_ge i rows.length with hlt | hge
    · obtain ⟨hm, eM, eK⟩ := mkRows_at rows k i hlt
      have hb1 := kAt_cnt rows k i
      have hb2 := cntRows_get rows i hlt
      have hb3 := mkRows_cnt rows k
      have hb4 := mkCells_cnt rows[i] (kAt rows k i)
      have ex : rows[i] = encI (xs[i]'(by omega)) := by simp [hrows]
      have hw' := hw.2 _ (List.getElem_mem (show i < xs.length by omega))
      generalize xs[i]'(by omega) = x at ex hw'
      rw [ex] at eM eK hb2 hb4
      simp only [encI, mkCells, mkC] at eM eK hb2 hb4
      generalize hK : kAt rows k i = K at eM eK hb1 hb4
      have hKn : 0 ≤ K := by omega
      have hg : M.getD i [] = [.v (.int .i64 K)] := by
        rw [hM, List.getD_eq_getElem?_getD, List.getElem?_eq_getElem hm, eM]; rfl
      have hlt2 : i < M.length := by omega
      simp -implicitDefEqProofs (disch := omega) only [go_sem, hg, hlt, lM, hlt2]
      exact ⟨i + 1, hlt, by omega, le_mk (by simp [go_sem, eK]) (by simp [go_sem])⟩
    · have : i = rows.length := by omega
      subst this
      simp -implicitDefEqProofs (disch := omega) only [go_sem, lM, Nat.lt_irrefl, kAt_all]

theorem GGuard.csz (x : GGuard) : cszCells x.enc = x.size := by simp only [GGuard.enc, GGuard.size, cszCells_append, Nat.add_assoc, Tm.csz, cszE_I]
theorem GGuard.nar (x : GGuard) : narCells x.enc := (narCells_append _ _ (narE_I x.kd) (narCells_append _ _ (Tm.nar x.le) (Tm.nar x.ri)))

theorem toGuardF_sat (x : GGuard) (hs : x.size < 1048577) : SatF Tryd.prog 61 [aggV x.enc] (aggV x.enc) := by
  obtain ⟨xkd, ⟨xlek, xlen, xles, xlet⟩, ⟨xrik, xrin, xris, xrit⟩⟩ := x
  simp only [GGuard.size, szI, szS] at hs
  refine satF_of_code [_] rfl (fun _ h => by cases h) tbOk mixed Tryd.func61 rfl rfl rfl (by decide +kernel) (by decide +kernel) (Nat.le_of_ble_eq_true rfl) ?_
  simp -implicitDefEqProofs (disch := omega) only [go_sem, GGuard.enc, Tm.enc, encB, encI, encL, encS, List.cons_append, List.nil_append, List.append_nil]
  refine CallK.own (toTermF_sat (.mk xlek xlen xles xlet) (by omega)) rfl ?_
  simp -implicitDefEqProofs (disch := omega) only [go_sem, GGuard.enc, Tm.enc, encB, encI, encL, encS, List.cons_append, List.nil_append, List.append_nil]
  refine CallK.own (toTermF_sat (.mk xrik xrin xris xrit) (by omega)) rfl ?_
  simp -implicitDefEqProofs (disch := omega) only [go_sem, GGuard.enc, Tm.enc, encB, encI, encL, encS, List.cons_append, List.nil_append, List.append_nil]

theorem toGuardSF_sat (xs : List GGuard) (hs : szL GGuard.size xs < 1048577) : SatF Tryd.prog 46 [slV (xs.map GGuard.enc)] (slV (xs.map GGuard.enc)) := by
  have hl := len_szL GGuard.size xs
  obtain ⟨rows, hrows⟩ : ∃ rows, rows = xs.map GGuard.enc := ⟨_, rfl⟩
  have lr : rows.length = xs.length := by rw [hrows]; simp
  rw [← hrows]
  refine satF_of_code [slV rows] rfl (fun _ h => by cases h) tbOk mixed Tryd.func46 rfl rfl rfl (by decide +kernel) (by decide +kernel) (Nat.le_of_ble_eq_true rfl) ?_
  simp -implicitDefEqProofs (disch := omega) only [go_sem, lr]
  refine ⟨⟨by omega, by omega⟩, fun _ => ?_⟩
  obtain ⟨Z, hZ⟩ : ∃ Z, Z = List.replicate xs.length zGuard := ⟨_, rfl⟩
  obtain ⟨Fr, hFr⟩ : ∃ Fr, Fr = rows.map fun q => q.map dC := ⟨_, rfl⟩
  have lZ : Z.length = xs.length := by rw [hZ]; simp
  have lF : Fr.length = Z.length := by rw [hFr, lZ]; simp [lr]
  have iF : ∀ lb r, r ∈ Fr → ∀ a, a ∈ r → inC lb a := fun lb => by rw [hFr]; exact drows_in lb
  have iZ : ∀ lb r, r ∈ Z → ∀ a, a ∈ r → inC lb a := fun lb => by rw [hZ]; exact rep_in (by simp [zGuard, inC])
  rw [← hZ]
  refine loopA_rule (ι := Nat) (fun i => mk 23 [(0, slV rows), (3, .one (.own 7 xs.length)), (4, intV i)] [(7, .arr 81 9 (turnR Fr Z i) false)]) (fun i => i ≤ xs.length) (fun i => xs.length - i) 0 (Nat.zero_le _) ?_ tbOk mixed (by decide +kernel) ?_
  · exact le_mk (by simp [go_sem]) (by simp only [leB, lookB_cons, if_true, inB, turnR_zero, true_and, and_true]; exact iZ _)
  · intro i hi
    have hlen := turnR_len (i := i) lF (by omega)
    rcases Nat.lt_or_ge i xs.length with hlt | hge
    · have hi' : i < Z.length := by omega
      have hg : rows.getD i [] = GGuard.enc xs[i] := by rw [hrows]; exact map_getD hlt
      have eZ : Z[i] = zGuard := by simp [hZ]
      have eF : Fr[i]'(by omega) = (GGuard.enc xs[i]).map dC := by simp [hFr, hrows]
      have hm := szL_mem GGuard.size xs _ (List.getElem_mem hlt)
      generalize xs[i] = x at hg eF hm
      have hto := toGuardF_sat x (by omega)
      obtain ⟨xkd, ⟨xlek, xlen, xles, xlet⟩, ⟨xrik, xrin, xris, xrit⟩⟩ := x
      have hfin := turnS_turnR lF hi'
      rw [eF] at hfin
      have sl := fun r => turnS_len lF hi' r
      have sg := fun r => turnS_get lF hi' r
      rw [turnR_eq lF hi' eZ]
      simp -implicitDefEqProofs (disch := omega) only [go_sem, hg, hlt, lr, lZ, sl, sg, turnS_set, GGuard.enc, Tm.enc, encB, encI, encL, encS, List.cons_append, List.nil_append, List.append_nil, List.forall_mem_cons, List.not_mem_nil]
      refine CallK.own hto rfl ?_
      simp -implicitDefEqProofs (disch := omega) only [go_sem, hg, hlt, lr, lZ, sl, sg, turnS_set, GGuard.enc, Tm.enc, encB, encI, encL, encS, List.cons_append, List.nil_append, List.append_nil, List.forall_mem_cons, List.not_mem_nil]
      refine ⟨i + 1, hlt, by omega, ((wk_moveS (l := 7) (c := 4) lF hi' rfl rfl rfl rfl).trans ((wk_moveS (l := 7) (c := 8) lF hi' rfl rfl rfl rfl).trans (le_mk (by simp [go_sem]) ?_)))⟩
      simp only [leB, lookB_cons, if_true, inB, true_and, and_true]
      exact ⟨by rw [← hfin] <;> rfl, turnR_in (iF _) (iZ _)⟩
    · have : i = xs.length := by omega
      subst this
      simp -implicitDefEqProofs (disch := omega) only [go_sem, hlen, lZ, lr, Nat.lt_irrefl]
      rw [turnR_end lF lZ.symm, hFr]
      exact ⟨drows_isO, drows_toC⟩

theorem GRule.csz (x : GRule) : cszCells x.enc = x.size := by simp only [GRule.enc, GRule.size, cszCells_append, Nat.add_assoc, Tm.csz, cszE_S, cszL_of GGuard.csz]
theorem GRule.nar (x : GRule) : narCells x.enc := (narCells_append _ _ (narE_S x.na) (narCells_append _ _ (Tm.nar x.le) (narCells_append _ _ (Tm.nar x.ri) (narL_of (fun y => ⟨by rw [GGuard.enc_len]; omega, GGuard.nar y⟩) x.gu))))

theorem toRuleF_sat (x : GRule) (hs : x.size < 1048577) : SatF Tryd.prog 24 [aggV x.enc] (aggV x.enc) := by
  obtain ⟨xna, ⟨xlek, xlen, xles, xlet⟩, ⟨xrik, xrin, xris, xrit⟩, xgu⟩ := x
  simp only [GRule.size, szI, szS] at hs
  refine satF_of_code [_] rfl (fun _ h => by cases h) tbOk mixed Tryd.func24 rfl rfl rfl (by decide +kernel) (by decide +kernel) (Nat.le_of_ble_eq_true rfl) ?_
  simp -implicitDefEqProofs (disch := omega) only [go_sem, GRule.enc, Tm.enc, encB, encI, encL, encS, List.cons_append, List.nil_append, List.append_nil]
  refine CallK.own (toTermF_sat (.mk xlek xlen xles xlet) (by omega)) rfl ?_
  simp -implicitDefEqProofs (disch := omega) only [go_sem, GRule.enc, Tm.enc, encB, encI, encL, encS, List.cons_append, List.nil_append, List.append_nil]
  refine CallK.own (toTermF_sat (.mk xrik xrin xris xrit) (by omega)) rfl ?_
  simp -implicitDefEqProofs (disch := omega) only [go_sem, GRule.enc, Tm.enc, encB, encI, encL, encS, List.cons_append, List.nil_append, List.append_nil]
  refine CallK.own (toGuardSF_sat xgu (by omega)) rfl ?_
  simp -implicitDefEqProofs (disch := omega) only [go_sem, GRule.enc, Tm.enc, encB, encI, encL, encS, List.cons_append, List.nil_append, List.append_nil]

theorem GOp.csz (x : GOp) : cszCells x.enc = x.size := by simp only [GOp.enc, GOp.size, cszCells_append, Nat.add_assoc, cszE_S, cszL_of cszE_S]
theorem GOp.nar (x : GOp) : narCells x.enc := (narCells_append _ _ (narE_S x.na) (narCells_append _ _ (narL_of (fun y => ⟨by simp [encS], narE_S y⟩) x.ar) (narE_S x.re)))

theorem GStrict.csz (x : GStrict) : cszCells x.enc = x.size := by simp only [GStrict.enc, GStrict.size, cszCells_append, Nat.add_assoc, cszE_I, cszE_S]
theorem GStrict.nar (x : GStrict) : narCells x.enc := (narCells_append _ _ (narE_S x.op) (narE_I x.ar))

theorem GSignature.csz (x : GSignature) : cszCells x.enc = x.size := by simp only [GSignature.enc, GSignature.size, cszCells_append, Nat.add_assoc, cszL_of GOp.csz, cszL_of cszE_S]
theorem GSignature.nar (x : GSignature) : narCells x.enc := (narCells_append _ _ (narL_of (fun y => ⟨by simp [encS], narE_S y⟩) x.so) (narL_of (fun y => ⟨by rw [GOp.enc_len]; omega, GOp.nar y⟩) x.op))

theorem GDefinition.csz (x : GDefinition) : cszCells x.enc = x.size := by simp only [GDefinition.enc, GDefinition.size, cszCells_append, Nat.add_assoc, GSignature.csz, cszL_of GRule.csz, cszL_of GStrict.csz]
theorem GDefinition.nar (x : GDefinition) : narCells x.enc := (narCells_append _ _ (GSignature.nar x.si) (narCells_append _ _ (narL_of (fun y => ⟨by rw [GRule.enc_len]; omega, GRule.nar y⟩) x.ru) (narL_of (fun y => ⟨by rw [GStrict.enc_len]; omega, GStrict.nar y⟩) x.st)))

end Go.Ai
